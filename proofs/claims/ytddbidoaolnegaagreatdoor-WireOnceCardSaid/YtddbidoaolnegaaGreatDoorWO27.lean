/-
PART OF A CLAIM: RO. No statement of the seat is proved here; no condition. -/
import Derived.Test.YtddbidoaolnegaaGreatDoorWO26
set_option linter.all false
/- A term of the file's, read: the walk. No statement of the seat is proved here; no condition. -/
namespace Go.Proofs.YtddbidoaolnegaaGreatDoor
open Go Go.RowKit
open Nat renaming reduceLT → zA, reduceEqDiff → zB, reduceBEq → zC, reduceAdd → zD, reduceMul → zE, reduceSub → zF, reduceLeDiff → zG, mul_one → zH, zero_add → zI, add_zero → zJ
open Int renaming toNat_natCast → zK, reduceAdd → zL, reduceLE → zM, reduceLT → zN, natCast_nonneg → zO
open Go.Proofs.YtddbidoaolnegaaGreatDoor renaming evI_plain → ya, evI_guard → yb, evT_rd → yc, evT_rdg → yd, evT_act → ye, evT_actg → yf, evI_done → yg, evT_two → yh, evT_nil → yi, W.seqG → yj, W.block → yk, W.regionI → yl, W.cond → ym, W.skip → yn, W.ret → yo, W.exit → yp, gdD_split → yq, newT_intro → yr, newB_intro → ys, W.draw → yt, St.set_del → yu, St.give_take → yv, AGo.go → yw, IGo.go → yx, TGo.go → yy, Goes.go → yz
attribute [local go_sem] zK zP zQ zH zI zJ zO
attribute [local irreducible] W evI evT evL evOp evBin gdD Sem newT newB fillD bldOf
set_option maxRecDepth 10000
set_option maxHeartbeats 4000000

def z5o : List D := [.int .u8 0, .int .i64 0, .str [], .sl .nil 0 [], .sl .nil 0 []]




section
variable {bs : List UInt8} {a n m : Nat} {b s : Int} {p q : Nat} {c1 c2 c3 : D} {st : St} {k : D → St → Prop}

theorem sem36 {N0 : List (List UInt8)} {L0 : List Lv} {T0 : List Tm} {o1 o2 o3 : Option Nat} (t : Tm) {iN : Nat} {iLs iTs ns : List Nat} {rest : List UInt8} (hns : ns = fldN t iN ++ iLs ++ iTs) (hd : bs.drop a = UInt8.ofNat t.k :: (nums ns ++ rest)) (hE : EntN N0 L0 T0 t iN iLs iTs) (hb : ∀ n ∈ ns, n < 18446744073709551616)
    (hB : nodeB t = true) (hsz : t.size ≤ 4096) (hdp : t.deep ≤ 256) (hl : bs.length < 1000000000) (t1 : Tab o1 (N0.map .str) st) (t2 : Tab o2 (L0.map Lv.d) st) (t3 : Tab o3 (T0.map szD) st) (hN0 : N0.length < 1000000000) (hL0 : L0.length < 1000000000) (hT0 : T0.length < 1000000)
    (e1 : c1 = tabD o1 1 (N0.map .str)) (e2 : c2 = tabD o2 5 (L0.map Lv.d)) (e3 : c3 = tabD o3 7 (T0.map szD))
    (hp : st.mem p = some (.cells [.ptr q 0, c1, c2, c3])) (hq : st.mem q = some (.cells (rdC bs a 0 s)))
    (hk : ∀ j st', st'.mem p = some (.cells [.ptr q 0, c1, c2, tabD (some j) 7 ((T0 ++ [t]).map szD)]) → st'.mem q = some (.cells (rdC bs (a + 1 + (nums ns).length : Nat) 0 s)) → Stp (fun x => x = p ∨ x = q) o3 j st st' → k (.tup []) st') : Sem P 36 [.ptr p 0] st k := by
  have hpq := rd_ne hp hq
  have nf := nodeF hB
  have k8 := nf.k8
  have k1 := nf.k1
  have hal : a < bs.length := by
    have h1 : (bs.drop a).length = (UInt8.ofNat t.k :: (nums ns ++ rest)).length := by rw [hd]
    simp only [List.length_drop, List.length_cons] at h1; omega
  have hd1 : bs.drop (a + 1) = nums ns ++ rest := by rw [← List.drop_drop, hd]; rfl
  have hat := nums_at hl hd1 hb
  have hz0 : (UInt8.ofNat t.k).toNat = t.k := by rw [UInt8.toNat_ofNat']; omega
  have hz : (((UInt8.ofNat t.k).toNat : Nat) : Int) = t.k := by rw [hz0]
  have hlen : ns.length = (fldN t iN).length + t.ls.length + t.ts.length := by rw [hns, List.length_append, List.length_append, hE.ll, hE.tl]
  have hgF : ∀ i, i < (fldN t iN).length → ns.getD i 0 = (fldN t iN).getD i 0 := fun i hi => by
    rw [hns, List.append_assoc, getD_appl _ _ _ hi]
  have hgL : ∀ i, i < t.ls.length → ns.getD ((fldN t iN).length + i) 0 = iLs.getD i 0 := fun i hi => by
    rw [hns, List.append_assoc, getD_appr, getD_appl _ _ _ (by rw [hE.ll]; exact hi)]
  have hgT : ∀ i, i < t.ts.length → ns.getD ((fldN t iN).length + t.ls.length + i) 0 = iTs.getD i 0 := fun i hi => by
    rw [hns, ← hE.ll, ← List.length_append, getD_appr]
  have nb : True := trivial
  refine Sem.wk ?_
  refine Sem.of_body Tryz.call36 Tryz.func36 rfl Tryz.ntmps36 (by simp) ?_
  repeat' first | refine yj fun N hN => ?_ | refine yl [1, 3, 4, 6, 80] ?_ | (refine ya rfl rfl fun N hN => ?_; simp only [go_sem, ↓reduceIte, zA, zB, zC, zD, zE, zF, zG, zL, zM, zN, reduceCtorEq, hp, hpq, hz, nb, Tryz.results36]) | (refine yg rfl ?_; try simp only [go_sem]) | ((first | refine yx hN _ _ ?_ | refine yz hN _ _ ?_); clear hN N) | (refine sem41 (q := q) (bs := bs) (a := a) (b := 0) (s := s) (by simp only [go_sem, ↓reduceIte, zA, zB, zC, zD, zE, zF, zG, zL, zM, zN, reduceCtorEq, hq, hpq, nb]) ?_; try simp only [go_sem, ↓reduceIte, zA, zB, zC, zD, zE, zF, zG, zL, zM, zN, reduceCtorEq, hp, hpq, hz, nb]) | (refine sem75 (q := q) (bs := bs) (a := a) (s := s) (c1 := c1) (c2 := c2) (c3 := c3) (UInt8.ofNat t.k) (nums ns ++ rest) 8 (by omega) (by omega) hl (by omega) (by simp only [go_sem, ↓reduceIte, zA, zB, zC, zD, zE, zF, zG, zL, zM, zN, reduceCtorEq, hp, hpq, nb]) (by simp only [go_sem, ↓reduceIte, zA, zB, zC, zD, zE, zF, zG, zL, zM, zN, reduceCtorEq, hq, hpq, nb]) hd ?_; try simp only [go_sem, ↓reduceIte, zA, zB, zC, zD, zE, zF, zG, zL, zM, zN, reduceCtorEq, hp, hpq, hz, nb]) | ((refine ys fun r hr => ?_; (have hr1 := hr; try simp only [St.set_none_iff, St.mem_give, St.mem_take] at hr1); (first | have nbq := mem_ne hp hr1 | have nbq := mem_ne hp hr1.2 | have nbq := mem_ne hp hr1.2.2 | have nbq := mem_ne hp hr1.2.2.2 | have nbq := mem_ne hp hr1.2.2.2.2); have nb := And.intro nb nbq; (first | have nbq := mem_ne hq hr1 | have nbq := mem_ne hq hr1.2 | have nbq := mem_ne hq hr1.2.2 | have nbq := mem_ne hq hr1.2.2.2 | have nbq := mem_ne hq hr1.2.2.2.2); have nb := And.intro nb nbq; have nb := And.intro nb hr1); try simp only [go_sem, ↓reduceIte, zA, zB, zC, zD, zE, zF, zG, zL, zM, zN, reduceCtorEq, hp, hpq, hz, nb]) | fail
  rename_i r1 _ _ _ _ _ _ _ r3 _ _ _ _ _ _ _ _ _ _
  refine W.gen (fun fr st' => M36 bs st p q c1 c2 c3 s r1 r3 r (a + 1) t.k 0 [] none none [] [] 1 0 st' ∧ fr 1 = .ptr r1 0 ∧ fr 3 = .ptr r3 0 ∧ fr 4 = .ptr r 0 ∧ fr 2 = .int .i64 a ∧ fr 5 = .fn 76 [] [.ptr r 0, .ptr r1 0] ∧ fr 21 = .int .u8 t.k)
    ⟨⟨by simp only [go_sem, ↓reduceIte, zA, zB, zC, zD, zE, zF, zG, zL, zM, zN, reduceCtorEq, nb], by simp only [go_sem, ↓reduceIte, zA, zB, zC, zD, zE, zF, zG, zL, zM, zN, reduceCtorEq, nb], by simp only [go_sem, ↓reduceIte, zA, zB, zC, zD, zE, zF, zG, zL, zM, zN, reduceCtorEq, nb, tabD, List.map_nil]; rfl, by simp only [go_sem, ↓reduceIte, zA, zB, zC, zD, zE, zF, zG, zL, zM, zN, reduceCtorEq, hp, hpq, nb], by simp only [go_sem, ↓reduceIte, zA, zB, zC, zD, zE, zF, zG, zL, zM, zN, reduceCtorEq, hq, hpq, nb], ?_, fun i hi => ⟨hi, by simp, by simp⟩, .mkN _, .mkN _, by simp⟩, by simp only [go_sem, ↓reduceIte, zA, zB, zC, zD, zE, zF, zG, zL, zM, zN, reduceCtorEq], by simp only [go_sem, ↓reduceIte, zA, zB, zC, zD, zE, zF, zG, zL, zM, zN, reduceCtorEq], by simp only [go_sem, ↓reduceIte, zA, zB, zC, zD, zE, zF, zG, zL, zM, zN, reduceCtorEq], by simp only [go_sem, ↓reduceIte, zA, zB, zC, zD, zE, zF, zG, zL, zM, zN, reduceCtorEq], by simp only [go_sem, ↓reduceIte, zA, zB, zC, zD, zE, zF, zG, zL, zM, zN, reduceCtorEq], by simp only [go_sem, ↓reduceIte, zA, zB, zC, zD, zE, zF, zG, zL, zM, zN, reduceCtorEq]⟩ ?_
  · intro x hxp hxq o ho
    refine ⟨by intro e; rw [e] at ho; simp only [nb, reduceCtorEq] at ho, by intro e; rw [e] at ho; simp only [nb, reduceCtorEq] at ho, by intro e; rw [e] at ho; simp only [nb, reduceCtorEq] at ho, ?_⟩
    simp only [go_sem, ↓reduceIte, zA, zB, zC, zD, zE, zF, zG, zL, zM, zN, reduceCtorEq, hxp, hxq]
    repeat' (split; · (rename_i e; rw [e] at ho; simp only [nb, reduceCtorEq] at ho))
    exact ho
  rename_i N hN
  have key : ∀ fr st' oL A, M36 bs st p q c1 c2 c3 s r1 r3 r A t.k t.n t.s oL none t.ls [] 1 0 st' → A = a + 1 + (nums (ns.take ((fldN t iN).length + t.ls.length))).length → fr 1 = .ptr r1 0 → fr 3 = .ptr r3 0 → fr 4 = .ptr r 0 → fr 2 = .int .i64 a → N fr st' := by
    intro fr st' oL A hM hA f1 f3 f4 f2
    refine Goes.go hN _ _ ?_
    clear hN N
    have m1 := hM.m1
    have m4 := hM.m4
    have m3 := hM.m3
    have mp := hM.mp
    have mq := hM.mq
    have hne := hM.pne
    have hkd := nf.kids
    have hkn := nf.kidn
    clear hr nb
    repeat' first | refine yj fun N hN => ?_ | refine yk ?_ | refine yl [1, 3, 4, 6, 80] ?_ | ((first | refine ya rfl rfl fun N hN => ?_ | refine yc rfl rfl fun N hN => ?_ | refine ye rfl rfl fun N hN => ?_ | (refine yw hN _ _ ?_; clear hN N) | refine ym ?_); simp only [go_sem, ↓reduceIte, zA, zB, zC, zD, zE, zF, zG, zL, zM, zN, reduceCtorEq, f1, f3, f4, f2, m1, m4, m3, mp, mq, hne, hkd, Tryz.results36]) | ((first | refine yg rfl ?_ | refine yn ?_ | refine yi ?_); try simp only [go_sem]) | ((first | refine yx hN _ _ ?_ | refine yz hN _ _ ?_ | refine yy hN _ ?_); clear hN N) | refine yt (id := 17) mixed [1, 3, 4, 6, 80] (.rd 1 (.rd 2 (.rd 3 (.rd 4 (.rd 6 (.act 0 [6, 4, 3, 2, 1] (.act 5 [6] (.nil)))))))) (by kernel_rfl) ?_ | (refine sem70 mp mq ?_; try simp only [go_sem, ↓reduceIte, zA, zB, zC, zD, zE, zF, zG, zL, zM, zN, reduceCtorEq, f1, f3, f4, f2, m1, m4, m3, mp, mq, hne, hkd]) | (refine sem79 ?_; try simp only [go_sem, ↓reduceIte, zA, zB, zC, zD, zE, zF, zG, zL, zM, zN, reduceCtorEq, f1, f3, f4, f2, m1, m4, m3, mp, mq, hne, hkd]) | (refine And.intro ?_ ?_; · omega) | fail
    refine W.loopN (fun m' fr' st2 => ∃ (i : Nat) (oT : Option Nat) (A' : Nat), i + m' = t.ts.length ∧ fr' 72 = .int .i64 i ∧ fr' 71 = .int .i64 t.ts.length ∧ fr' 1 = .ptr r1 0 ∧ fr' 3 = .ptr r3 0 ∧ fr' 4 = .ptr r 0 ∧ fr' 2 = .int .i64 a ∧
      M36 bs st p q c1 c2 c3 s r1 r3 r A' t.k t.n t.s oL oT t.ls (t.ts.take i) (1 + Tm.sizes (t.ts.take i)) (Tm.deeps (t.ts.take i)) st2 ∧ A' = a + 1 + (nums (ns.take ((fldN t iN).length + t.ls.length + i))).length) ?_ t.ts.length _ _
      ⟨0, none, A, by omega, by simp only [go_sem, ↓reduceIte, zA, zB, zC, zD, zE, zF, zG, zL, zM, zN, reduceCtorEq]; rfl, by simp only [go_sem, ↓reduceIte, zA, zB, zC, zD, zE, zF, zG, zL, zM, zN, reduceCtorEq], by simp only [go_sem, ↓reduceIte, zA, zB, zC, zD, zE, zF, zG, zL, zM, zN, reduceCtorEq, f1], by simp only [go_sem, ↓reduceIte, zA, zB, zC, zD, zE, zF, zG, zL, zM, zN, reduceCtorEq, f3], by simp only [go_sem, ↓reduceIte, zA, zB, zC, zD, zE, zF, zG, zL, zM, zN, reduceCtorEq, f4], by simp only [go_sem, ↓reduceIte, zA, zB, zC, zD, zE, zF, zG, zL, zM, zN, reduceCtorEq, f2], hM, hA⟩
    clear f1 f3 f4 f2 m1 m4 m3 mp mq hne hkd hM
    rintro m' N' ih fr' st2 ⟨i, oT, A', hi, f72, f71, f1, f3, f4, f2, hM, hA'⟩
    have m1 := hM.m1
    have m4 := hM.m4
    have m3 := hM.m3
    have mp := hM.mp
    have mq := hM.mq
    have hne := hM.pne
    have nb : True := trivial
    rcases Nat.lt_or_ge i t.ts.length with hlt | hge
    · have i4 : (i : Int) < t.ts.length := by omega
      obtain ⟨g1, g2⟩ := hE.t i hlt
      obtain ⟨hn1, hn2⟩ := hat ((fldN t iN).length + t.ls.length + i) (by omega)
      rw [hgT i hlt, ← hA'] at hn1 hn2
      obtain ⟨x, hx⟩ : ∃ x, t.ts.getD i Tm.z = x := ⟨_, rfl⟩
      rw [hx] at g2
      obtain ⟨ow3, hc3⟩ := t3.cons (z := 7) (fun e => by simp only [List.map_eq_nil_iff] at e; rw [e] at g1; simp at g1)
      have mp1 : st2.mem p = some (.cells [.ptr q 0, c1, c2, .sl ow3 7 (T0.map szD)]) := by rw [← hc3, ← e3]; exact mp
      have hgx : (T0.map szD).getD (iTs.getD i 0) .any = .agg [.int .u8 x.k, .int .i64 x.n, .str x.s, .sl .frozen 5 (x.ls.map Lv.d), .sl .frozen 5 (x.ts.map Tm.d), .int .i64 x.size, .int .i64 x.deep] := by
        rw [getD_map _ _ _ g1, g2]; rfl
      obtain ⟨S, hS⟩ : ∃ S, 1 + Tm.sizes (t.ts.take i) = S := ⟨_, rfl⟩
      obtain ⟨Dp, hDp⟩ : ∃ S, Tm.deeps (t.ts.take i) = S := ⟨_, rfl⟩
      have hbnd : S + x.size ≤ 4096 := by
        have h1 := sizes_app (t.ts.take (i + 1)) (t.ts.drop (i + 1))
        rw [List.take_append_drop, take_getD _ Tm.z hlt, sizes_app, hx, Tm.sizes, Tm.sizes] at h1
        rw [Tm.size_eq] at hsz; omega
      have hS2 : (S : Int) + (x.size : Int) = ((S + x.size : Nat) : Int) := by omega
      have hmx : max (Dp : Int) (x.deep : Int) = ((max Dp x.deep : Nat) : Int) := by omega
      rw [hS, hDp] at m3 hM
      have hn3 : a + 1 + (nums (ns.take ((fldN t iN).length + t.ls.length + (i + 1)))).length = A' + (num (iTs.getD i 0)).length := hn2
      cases oT with
      | none =>
        have hti := hM.tt.n rfl
        have h0 : tabD none 5 ((t.ts.take i).map Tm.d) = .sl .nil 0 [] := rfl
        rw [h0] at m3
        repeat' first | refine yj fun N hN => ?_ | refine yk ?_ | refine yl [] ?_ | ((first | refine ya rfl rfl fun N hN => ?_ | refine ym ?_); simp only [go_sem, ↓reduceIte, zA, zB, zC, zD, zE, zF, zG, zL, zM, zN, reduceCtorEq, f72, f71, f1, f3, f4, f2, m1, m4, m3, mp1, mq, hne, i4, Tryz.results36]) | ((first | refine yg rfl ?_ | refine yn ?_); try simp only [go_sem]) | ((first | refine yx hN _ _ ?_ | refine yz hN _ _ ?_); clear hN N) | fail
        repeat' first | refine yj fun N hN => ?_ | ((first | refine yc rfl rfl fun N hN => ?_ | refine ye rfl rfl fun N hN => ?_ | (refine yw hN _ _ ?_; clear hN N)); simp only [go_sem, ↓reduceIte, zA, zB, zC, zD, zE, zF, zG, zL, zM, zN, reduceCtorEq, f72, f71, f1, f3, f4, f2, m1, m4, m3, mp1, hne, nb, Tryz.results36]) | (refine yi ?_; try simp only [go_sem]) | ((first | refine yz hN _ _ ?_ | refine yy hN _ ?_); clear hN N) | refine yt (id := 19) mixed [1, 3, 4, 6, 80] (.rd 0 (.rd 1 (.rd 2 (.rd 3 (.rd 4 (.two 5 6 [] [4, 3, 2, 1, 0] (.act 6 [] (.act 7 [] (.nil))) (.act 5 [] (.act 7 [] (.nil))))))))) (by kernel_rfl) ?_ | refine yt (id := 20) mixed [1, 3, 4, 6, 80] (.act 0 [] (.two 1 2 [] [] (.act 2 [] (.act 3 [] (.nil))) (.act 1 [] (.act 3 [] (.nil))))) (by kernel_rfl) ?_ | refine yh ?_ ?_ | (refine sem80 (q := q) (bs := bs) (s := s) (c1 := c1) (c2 := c2) (c3 := .sl ow3 7 (T0.map szD)) hn1 hl (by simp only [go_sem, ↓reduceIte, zA, zB, zC, zD, zE, zF, zG, zL, zM, zN, reduceCtorEq, mp1, hne, nb]) (by simp only [go_sem, ↓reduceIte, zA, zB, zC, zD, zE, zF, zG, zL, zM, zN, reduceCtorEq, mq, hne, nb]) _ (by rw [List.length_map]; omega) (by rw [List.length_map]; exact g1) hgx ?_; try simp only [go_sem, ↓reduceIte, zA, zB, zC, zD, zE, zF, zG, zL, zM, zN, reduceCtorEq, f72, f71, f1, f3, f4, f2, m1, m4, m3, mp1, hne, nb]) | ((refine ys fun r hr => ?_; (have hr1 := hr; try simp only [St.set_none_iff, St.mem_give, St.mem_take] at hr1); (first | have nbq := mem_ne mp hr1 | have nbq := mem_ne mp hr1.2 | have nbq := mem_ne mp hr1.2.2 | have nbq := mem_ne mp hr1.2.2.2 | have nbq := mem_ne mp hr1.2.2.2.2); have nb := And.intro nb nbq; (first | have nbq := mem_ne mq hr1 | have nbq := mem_ne mq hr1.2 | have nbq := mem_ne mq hr1.2.2 | have nbq := mem_ne mq hr1.2.2.2 | have nbq := mem_ne mq hr1.2.2.2.2); have nb := And.intro nb nbq; (first | have nbq := mem_ne m1 hr1 | have nbq := mem_ne m1 hr1.2 | have nbq := mem_ne m1 hr1.2.2 | have nbq := mem_ne m1 hr1.2.2.2 | have nbq := mem_ne m1 hr1.2.2.2.2); have nb := And.intro nb nbq; (first | have nbq := mem_ne m3 hr1 | have nbq := mem_ne m3 hr1.2 | have nbq := mem_ne m3 hr1.2.2 | have nbq := mem_ne m3 hr1.2.2.2 | have nbq := mem_ne m3 hr1.2.2.2.2); have nb := And.intro nb nbq; (first | have nbq := mem_ne m4 hr1 | have nbq := mem_ne m4 hr1.2 | have nbq := mem_ne m4 hr1.2.2 | have nbq := mem_ne m4 hr1.2.2.2 | have nbq := mem_ne m4 hr1.2.2.2.2); have nb := And.intro nb nbq; have nb := And.intro nb hr1); try simp only [go_sem, ↓reduceIte, zA, zB, zC, zD, zE, zF, zG, zL, zM, zN, reduceCtorEq, f72, f71, f1, f3, f4, f2, m1, m4, m3, mp1, hne, nb]) | fail
        all_goals (refine ym ?_; simp only [go_sem, ↓reduceIte, zA, zB, zC, zD, zE, zF, zG, zL, zM, zN, reduceCtorEq])
        · skip
          repeat' first | refine yj fun N hN => ?_ | refine yl [1, 3, 4, 6, 80] ?_ | ((first | refine ya rfl rfl fun N hN => ?_ | refine yc rfl rfl fun N hN => ?_ | refine ye rfl rfl fun N hN => ?_ | (refine yw hN _ _ ?_; clear hN N)); simp only [go_sem, ↓reduceIte, zA, zB, zC, zD, zE, zF, zG, zL, zM, zN, reduceCtorEq, f72, f71, f1, f3, f4, f2, m1, m4, m3, mp, hne, hS2, hmx, nb, Tryz.results36]) | ((first | refine yg rfl ?_ | refine yi ?_); try simp only [go_sem]) | ((first | refine yx hN _ _ ?_ | refine yz hN _ _ ?_ | refine yy hN _ ?_); clear hN N) | refine yt (id := 23) mixed [1, 3, 4, 6, 80] (.rd 0 (.rd 1 (.rd 2 (.rd 3 (.rd 4 (.act 5 [4, 3, 2, 1, 0] (.act 6 [4, 3, 2, 1, 0] (.act 7 [4, 3, 2, 1, 0] (.act 8 [0] (.act 9 [] (.act 10 [] (.act 11 [] (.nil))))))))))))) (by kernel_rfl) ?_ | ((refine yr fun j hj => ?_; (try have hj0 := St.tok_of_give hj)); try simp only [go_sem, ↓reduceIte, zA, zB, zC, zD, zE, zF, zG, zL, zM, zN, reduceCtorEq, f72, f71, f1, f3, f4, f2, m1, m4, m3, mp, hne, hS2, hmx, nb]) | (refine And.intro ?_ ?_; · omega) | clear hN N | fail
          refine ih.back (m' - 1) (by omega) _ _ ⟨i + 1, some j, _, by omega, by simp only [go_sem, ↓reduceIte, zA, zB, zC, zD, zE, zF, zG, zL, zM, zN, reduceCtorEq]; rfl, by simp only [go_sem, ↓reduceIte, zA, zB, zC, zD, zE, zF, zG, zL, zM, zN, reduceCtorEq, f71], by simp only [go_sem, ↓reduceIte, zA, zB, zC, zD, zE, zF, zG, zL, zM, zN, reduceCtorEq, f1], by simp only [go_sem, ↓reduceIte, zA, zB, zC, zD, zE, zF, zG, zL, zM, zN, reduceCtorEq, f3], by simp only [go_sem, ↓reduceIte, zA, zB, zC, zD, zE, zF, zG, zL, zM, zN, reduceCtorEq, f4], by simp only [go_sem, ↓reduceIte, zA, zB, zC, zD, zE, zF, zG, zL, zM, zN, reduceCtorEq, f2], ?_, rfl⟩
          rw [take_getD _ Tm.z hlt, sizes_app, deeps_app, Tm.sizes, Tm.sizes, Tm.deeps, Tm.deeps, hx, hn3, show 1 + (Tm.sizes (List.take i t.ts) + (x.size + 0)) = S + x.size by rw [← hS, Nat.add_zero, Nat.add_assoc], show max (Tm.deeps (List.take i t.ts)) (max x.deep 0) = max Dp x.deep by rw [hDp, Nat.max_zero]]
          refine hM.kid (e := x.d) rfl ?_ ?_ (fun y y1 y2 o ho => ?_) (by simp [St.tok_give, St.tok_set]) (fun i' h0 hi' => ?_)
          · rw [hti];simp only [go_sem, ↓reduceIte, zA, zB, zC, zD, zE, zF, zG, zL, zM, zN, reduceCtorEq]<;> rfl
          · simp only [go_sem, ↓reduceIte, zA, zB, zC, zD, zE, zF, zG, zL, zM, zN, reduceCtorEq, hne, nb]
          · simp only [go_sem, ↓reduceIte, zA, zB, zC, zD, zE, zF, zG, zL, zM, zN, reduceCtorEq, y1, y2]
            repeat' (split; · (rename_i e; rw [e] at ho; simp only [nb, reduceCtorEq] at ho))
            exact ho
          · have hj' : st2.tok j = false := hj
            have n1 : i' ≠ j := fun e => by rw [e, hj'] at hi'; cases hi'
            have n0 : True := trivial
            refine ⟨?_, n1⟩
            simp [St.tok_set, St.tok_give, St.tok_take, n1, n0, hi']
        · skip
          refine W.late3 (id := 21) (id2 := 22) (c := 8) (tS := 31) (tE := 33) (tM := 33) (s0 := 82) (s3 := 85) (s4 := 87) (s5 := 88) (s6 := 89) (s7 := 90) (s8 := 93) (s10 := 91) (s11 := 92) (f := 4) (z := 5) (q := 4) (bs := 80) mixed [] (.rd 0 (.rd 1 (.rd 2 (.rd 3 (.rd 4 (.rd 5 (.rd 6 (.act 7 [6, 5, 4, 3, 2, 1, 0] (.nil))))))))) (by kernel_rfl) (by kernel_rfl) rfl
            ⟨_, rfl, rfl, rfl, rfl⟩ ⟨_, rfl, rfl, rfl, rfl⟩ ⟨_, rfl, rfl, rfl, rfl⟩ rfl ⟨_, rfl, rfl, rfl, rfl⟩ ⟨_, rfl, rfl, rfl, rfl⟩ ⟨by kernel_rfl, by kernel_rfl, by kernel_rfl, by kernel_rfl⟩ (by decide) (by decide) (by kernel_rfl) ⟨_, _, rfl, rfl, rfl, rfl, rfl, rfl, rfl⟩ (by kernel_rfl)
            (fun i hi => by rcases (show i = 0 ∨ i = 1 ∨ i = 2 ∨ i = 3 ∨ i = 4 by omega) with rfl | rfl | rfl | rfl | rfl <;> kernel_rfl) (fun i hi => by rcases (show i = 0 ∨ i = 1 ∨ i = 2 ∨ i = 3 by omega) with rfl | rfl | rfl | rfl <;> kernel_rfl) ?_
          repeat' first | ((first | refine yc rfl rfl fun N hN => ?_ | refine ye rfl rfl fun N hN => ?_ | (refine yw hN _ _ ?_; clear hN N)); simp only [go_sem, ↓reduceIte, zA, zB, zC, zD, zE, zF, zG, zL, zM, zN, reduceCtorEq, f72, f71, f1, f3, f4, f2, m1, m4, m3, mp, hne, hS2, hmx, nb, Tryz.results36]) | (refine yi ?_; try simp only [go_sem]) | (refine yy hN _ ?_; clear hN N) | fail
          refine ⟨r3, 0, 0, .nil, [], [.int .u8 x.k, .int .i64 x.n, .str x.s, .sl .frozen 5 (x.ls.map Lv.d), .sl .frozen 5 (x.ts.map Tm.d)], [.int .u8 t.k, .int .i64 t.n, .str t.s, tabD oL 5 (t.ls.map Lv.d), .sl .nil 0 [], .int .i64 S, .int .i64 Dp], .agg z5o, ⟨?_, ?_, ?_, ?_, ⟨.frozen, 5, ?_⟩, ⟨rfl, rfl⟩, trivial, by simp, ⟨by simp only [go_sem, ↓reduceIte, zA, zB, zC, zD, zE, zF, zG, zL, zM, zN, reduceCtorEq, m3, hne, nb], by simp⟩, fun j hj => ?_⟩⟩
          · simp only [go_sem, ↓reduceIte, zA, zB, zC, zD, zE, zF, zG, zL, zM, zN, reduceCtorEq]
          · simp only [go_sem, ↓reduceIte, zA, zB, zC, zD, zE, zF, zG, zL, zM, zN, reduceCtorEq]
          · simp only [go_sem, ↓reduceIte, zA, zB, zC, zD, zE, zF, zG, zL, zM, zN, reduceCtorEq] <;> rfl
          · simp only [go_sem, ↓reduceIte, zA, zB, zC, zD, zE, zF, zG, zL, zM, zN, reduceCtorEq] <;> simp
          · simp only [go_sem, ↓reduceIte, zA, zB, zC, zD, zE, zF, zG, zL, zM, zN, reduceCtorEq] <;> rfl
          have hsp : ∀ e, splice [.int .u8 t.k, .int .i64 t.n, .str t.s, tabD oL 5 (t.ls.map Lv.d), .sl .nil 0 [], .int .i64 S, .int .i64 Dp] (0 + 4) [.sl (.tok j) 5 ([] ++ [e])] = [.int .u8 t.k, .int .i64 t.n, .str t.s, tabD oL 5 (t.ls.map Lv.d), .sl (.tok j) 5 ([] ++ [e]), .int .i64 S, .int .i64 Dp] := fun _ => rfl
          simp only [ownSt, hsp]
          refine Goes.go hN _ _ ?_
          clear hN N
          repeat' first | refine yj fun N hN => ?_ | refine yl [1, 3, 4, 6, 80] ?_ | (refine ya rfl rfl fun N hN => ?_; simp only [go_sem, ↓reduceIte, zA, zB, zC, zD, zE, zF, zG, zL, zM, zN, reduceCtorEq, f72, f71, f1, f3, f4, f2, m1, m4, m3, mp, hne, hS2, hmx, nb, Tryz.results36]) | (refine yg rfl ?_; try simp only [go_sem]) | ((first | refine yx hN _ _ ?_ | refine yz hN _ _ ?_); clear hN N) | (refine And.intro ?_ ?_; · omega) | clear hN N | fail
          refine ih.back (m' - 1) (by omega) _ _ ⟨i + 1, some j, _, by omega, by simp only [go_sem, ↓reduceIte, zA, zB, zC, zD, zE, zF, zG, zL, zM, zN, reduceCtorEq]; rfl, by simp only [go_sem, ↓reduceIte, zA, zB, zC, zD, zE, zF, zG, zL, zM, zN, reduceCtorEq, f71], by simp only [go_sem, ↓reduceIte, zA, zB, zC, zD, zE, zF, zG, zL, zM, zN, reduceCtorEq, f1], by simp only [go_sem, ↓reduceIte, zA, zB, zC, zD, zE, zF, zG, zL, zM, zN, reduceCtorEq, f3], by simp only [go_sem, ↓reduceIte, zA, zB, zC, zD, zE, zF, zG, zL, zM, zN, reduceCtorEq, f4], by simp only [go_sem, ↓reduceIte, zA, zB, zC, zD, zE, zF, zG, zL, zM, zN, reduceCtorEq, f2], ?_, rfl⟩
          rw [take_getD _ Tm.z hlt, sizes_app, deeps_app, Tm.sizes, Tm.sizes, Tm.deeps, Tm.deeps, hx, hn3, show 1 + (Tm.sizes (List.take i t.ts) + (x.size + 0)) = S + x.size by rw [← hS, Nat.add_zero, Nat.add_assoc], show max (Tm.deeps (List.take i t.ts)) (max x.deep 0) = max Dp x.deep by rw [hDp, Nat.max_zero]]
          refine hM.kid (e := x.d) rfl ?_ ?_ (fun y y1 y2 o ho => ?_) (by simp [St.tok_give, St.tok_set]) (fun i' h0 hi' => ?_)
          · rw [hti];simp only [go_sem, ↓reduceIte, zA, zB, zC, zD, zE, zF, zG, zL, zM, zN, reduceCtorEq]<;> rfl
          · simp only [go_sem, ↓reduceIte, zA, zB, zC, zD, zE, zF, zG, zL, zM, zN, reduceCtorEq, hne, nb]
          · simp only [go_sem, ↓reduceIte, zA, zB, zC, zD, zE, zF, zG, zL, zM, zN, reduceCtorEq, y1, y2]
            repeat' (split; · (rename_i e; rw [e] at ho; simp only [nb, reduceCtorEq] at ho))
            exact ho
          · have hj' : st2.tok j = false := hj
            have n1 : i' ≠ j := fun e => by rw [e, hj'] at hi'; cases hi'
            have n0 : True := trivial
            refine ⟨?_, n1⟩
            simp [St.tok_set, St.tok_give, St.tok_take, n1, n0, hi']
        · skip
          repeat' first | refine yj fun N hN => ?_ | refine yl [1, 3, 4, 6, 80] ?_ | ((first | refine ya rfl rfl fun N hN => ?_ | refine yc rfl rfl fun N hN => ?_ | refine ye rfl rfl fun N hN => ?_ | (refine yw hN _ _ ?_; clear hN N)); simp only [go_sem, ↓reduceIte, zA, zB, zC, zD, zE, zF, zG, zL, zM, zN, reduceCtorEq, f72, f71, f1, f3, f4, f2, m1, m4, m3, mp, hne, hS2, hmx, nb, Tryz.results36]) | ((first | refine yg rfl ?_ | refine yi ?_); try simp only [go_sem]) | ((first | refine yx hN _ _ ?_ | refine yz hN _ _ ?_ | refine yy hN _ ?_); clear hN N) | refine yt (id := 23) mixed [1, 3, 4, 6, 80] (.rd 0 (.rd 1 (.rd 2 (.rd 3 (.rd 4 (.act 5 [4, 3, 2, 1, 0] (.act 6 [4, 3, 2, 1, 0] (.act 7 [4, 3, 2, 1, 0] (.act 8 [0] (.act 9 [] (.act 10 [] (.act 11 [] (.nil))))))))))))) (by kernel_rfl) ?_ | ((refine yr fun j hj => ?_; (try have hj0 := St.tok_of_give hj)); try simp only [go_sem, ↓reduceIte, zA, zB, zC, zD, zE, zF, zG, zL, zM, zN, reduceCtorEq, f72, f71, f1, f3, f4, f2, m1, m4, m3, mp, hne, hS2, hmx, nb]) | (refine And.intro ?_ ?_; · omega) | clear hN N | fail
          refine ih.back (m' - 1) (by omega) _ _ ⟨i + 1, some j, _, by omega, by simp only [go_sem, ↓reduceIte, zA, zB, zC, zD, zE, zF, zG, zL, zM, zN, reduceCtorEq]; rfl, by simp only [go_sem, ↓reduceIte, zA, zB, zC, zD, zE, zF, zG, zL, zM, zN, reduceCtorEq, f71], by simp only [go_sem, ↓reduceIte, zA, zB, zC, zD, zE, zF, zG, zL, zM, zN, reduceCtorEq, f1], by simp only [go_sem, ↓reduceIte, zA, zB, zC, zD, zE, zF, zG, zL, zM, zN, reduceCtorEq, f3], by simp only [go_sem, ↓reduceIte, zA, zB, zC, zD, zE, zF, zG, zL, zM, zN, reduceCtorEq, f4], by simp only [go_sem, ↓reduceIte, zA, zB, zC, zD, zE, zF, zG, zL, zM, zN, reduceCtorEq, f2], ?_, rfl⟩
          rw [take_getD _ Tm.z hlt, sizes_app, deeps_app, Tm.sizes, Tm.sizes, Tm.deeps, Tm.deeps, hx, hn3, show 1 + (Tm.sizes (List.take i t.ts) + (x.size + 0)) = S + x.size by rw [← hS, Nat.add_zero, Nat.add_assoc], show max (Tm.deeps (List.take i t.ts)) (max x.deep 0) = max Dp x.deep by rw [hDp, Nat.max_zero]]
          refine hM.kid (e := x.d) rfl ?_ ?_ (fun y y1 y2 o ho => ?_) (by simp [St.tok_give, St.tok_set]) (fun i' h0 hi' => ?_)
          · rw [hti];simp only [go_sem, ↓reduceIte, zA, zB, zC, zD, zE, zF, zG, zL, zM, zN, reduceCtorEq]<;> rfl
          · simp only [go_sem, ↓reduceIte, zA, zB, zC, zD, zE, zF, zG, zL, zM, zN, reduceCtorEq, hne, nb]
          · simp only [go_sem, ↓reduceIte, zA, zB, zC, zD, zE, zF, zG, zL, zM, zN, reduceCtorEq, y1, y2]
            repeat' (split; · (rename_i e; rw [e] at ho; simp only [nb, reduceCtorEq] at ho))
            exact ho
          · have hj' : st2.tok j = false := hj
            have n1 : i' ≠ j := fun e => by rw [e, hj'] at hi'; cases hi'
            have n0 : True := trivial
            refine ⟨?_, n1⟩
            simp [St.tok_set, St.tok_give, St.tok_take, n1, n0, hi']
        · skip
          refine W.late3 (id := 21) (id2 := 22) (c := 8) (tS := 31) (tE := 33) (tM := 33) (s0 := 82) (s3 := 85) (s4 := 87) (s5 := 88) (s6 := 89) (s7 := 90) (s8 := 93) (s10 := 91) (s11 := 92) (f := 4) (z := 5) (q := 4) (bs := 80) mixed [] (.rd 0 (.rd 1 (.rd 2 (.rd 3 (.rd 4 (.rd 5 (.rd 6 (.act 7 [6, 5, 4, 3, 2, 1, 0] (.nil))))))))) (by kernel_rfl) (by kernel_rfl) rfl
            ⟨_, rfl, rfl, rfl, rfl⟩ ⟨_, rfl, rfl, rfl, rfl⟩ ⟨_, rfl, rfl, rfl, rfl⟩ rfl ⟨_, rfl, rfl, rfl, rfl⟩ ⟨_, rfl, rfl, rfl, rfl⟩ ⟨by kernel_rfl, by kernel_rfl, by kernel_rfl, by kernel_rfl⟩ (by decide) (by decide) (by kernel_rfl) ⟨_, _, rfl, rfl, rfl, rfl, rfl, rfl, rfl⟩ (by kernel_rfl)
            (fun i hi => by rcases (show i = 0 ∨ i = 1 ∨ i = 2 ∨ i = 3 ∨ i = 4 by omega) with rfl | rfl | rfl | rfl | rfl <;> kernel_rfl) (fun i hi => by rcases (show i = 0 ∨ i = 1 ∨ i = 2 ∨ i = 3 by omega) with rfl | rfl | rfl | rfl <;> kernel_rfl) ?_
          repeat' first | ((first | refine yc rfl rfl fun N hN => ?_ | refine ye rfl rfl fun N hN => ?_ | (refine yw hN _ _ ?_; clear hN N)); simp only [go_sem, ↓reduceIte, zA, zB, zC, zD, zE, zF, zG, zL, zM, zN, reduceCtorEq, f72, f71, f1, f3, f4, f2, m1, m4, m3, mp, hne, hS2, hmx, nb, Tryz.results36]) | (refine yi ?_; try simp only [go_sem]) | (refine yy hN _ ?_; clear hN N) | fail
          refine ⟨r3, 0, 0, .nil, [], [.int .u8 x.k, .int .i64 x.n, .str x.s, .sl .frozen 5 (x.ls.map Lv.d), .sl .frozen 5 (x.ts.map Tm.d)], [.int .u8 t.k, .int .i64 t.n, .str t.s, tabD oL 5 (t.ls.map Lv.d), .sl .nil 0 [], .int .i64 S, .int .i64 Dp], .agg z5o, ⟨?_, ?_, ?_, ?_, ⟨.frozen, 5, ?_⟩, ⟨rfl, rfl⟩, trivial, by simp, ⟨by simp only [go_sem, ↓reduceIte, zA, zB, zC, zD, zE, zF, zG, zL, zM, zN, reduceCtorEq, m3, hne, nb], by simp⟩, fun j hj => ?_⟩⟩
          · simp only [go_sem, ↓reduceIte, zA, zB, zC, zD, zE, zF, zG, zL, zM, zN, reduceCtorEq]
          · simp only [go_sem, ↓reduceIte, zA, zB, zC, zD, zE, zF, zG, zL, zM, zN, reduceCtorEq]
          · simp only [go_sem, ↓reduceIte, zA, zB, zC, zD, zE, zF, zG, zL, zM, zN, reduceCtorEq] <;> rfl
          · simp only [go_sem, ↓reduceIte, zA, zB, zC, zD, zE, zF, zG, zL, zM, zN, reduceCtorEq] <;> simp
          · simp only [go_sem, ↓reduceIte, zA, zB, zC, zD, zE, zF, zG, zL, zM, zN, reduceCtorEq] <;> rfl
          have hsp : ∀ e, splice [.int .u8 t.k, .int .i64 t.n, .str t.s, tabD oL 5 (t.ls.map Lv.d), .sl .nil 0 [], .int .i64 S, .int .i64 Dp] (0 + 4) [.sl (.tok j) 5 ([] ++ [e])] = [.int .u8 t.k, .int .i64 t.n, .str t.s, tabD oL 5 (t.ls.map Lv.d), .sl (.tok j) 5 ([] ++ [e]), .int .i64 S, .int .i64 Dp] := fun _ => rfl
          simp only [ownSt, hsp]
          refine Goes.go hN _ _ ?_
          clear hN N
          repeat' first | refine yj fun N hN => ?_ | refine yl [1, 3, 4, 6, 80] ?_ | (refine ya rfl rfl fun N hN => ?_; simp only [go_sem, ↓reduceIte, zA, zB, zC, zD, zE, zF, zG, zL, zM, zN, reduceCtorEq, f72, f71, f1, f3, f4, f2, m1, m4, m3, mp, hne, hS2, hmx, nb, Tryz.results36]) | (refine yg rfl ?_; try simp only [go_sem]) | ((first | refine yx hN _ _ ?_ | refine yz hN _ _ ?_); clear hN N) | (refine And.intro ?_ ?_; · omega) | clear hN N | fail
          refine ih.back (m' - 1) (by omega) _ _ ⟨i + 1, some j, _, by omega, by simp only [go_sem, ↓reduceIte, zA, zB, zC, zD, zE, zF, zG, zL, zM, zN, reduceCtorEq]; rfl, by simp only [go_sem, ↓reduceIte, zA, zB, zC, zD, zE, zF, zG, zL, zM, zN, reduceCtorEq, f71], by simp only [go_sem, ↓reduceIte, zA, zB, zC, zD, zE, zF, zG, zL, zM, zN, reduceCtorEq, f1], by simp only [go_sem, ↓reduceIte, zA, zB, zC, zD, zE, zF, zG, zL, zM, zN, reduceCtorEq, f3], by simp only [go_sem, ↓reduceIte, zA, zB, zC, zD, zE, zF, zG, zL, zM, zN, reduceCtorEq, f4], by simp only [go_sem, ↓reduceIte, zA, zB, zC, zD, zE, zF, zG, zL, zM, zN, reduceCtorEq, f2], ?_, rfl⟩
          rw [take_getD _ Tm.z hlt, sizes_app, deeps_app, Tm.sizes, Tm.sizes, Tm.deeps, Tm.deeps, hx, hn3, show 1 + (Tm.sizes (List.take i t.ts) + (x.size + 0)) = S + x.size by rw [← hS, Nat.add_zero, Nat.add_assoc], show max (Tm.deeps (List.take i t.ts)) (max x.deep 0) = max Dp x.deep by rw [hDp, Nat.max_zero]]
          refine hM.kid (e := x.d) rfl ?_ ?_ (fun y y1 y2 o ho => ?_) (by simp [St.tok_give, St.tok_set]) (fun i' h0 hi' => ?_)
          · rw [hti];simp only [go_sem, ↓reduceIte, zA, zB, zC, zD, zE, zF, zG, zL, zM, zN, reduceCtorEq]<;> rfl
          · simp only [go_sem, ↓reduceIte, zA, zB, zC, zD, zE, zF, zG, zL, zM, zN, reduceCtorEq, hne, nb]
          · simp only [go_sem, ↓reduceIte, zA, zB, zC, zD, zE, zF, zG, zL, zM, zN, reduceCtorEq, y1, y2]
            repeat' (split; · (rename_i e; rw [e] at ho; simp only [nb, reduceCtorEq] at ho))
            exact ho
          · have hj' : st2.tok j = false := hj
            have n1 : i' ≠ j := fun e => by rw [e, hj'] at hi'; cases hi'
            have n0 : True := trivial
            refine ⟨?_, n1⟩
            simp [St.tok_set, St.tok_give, St.tok_take, n1, n0, hi']
      | some j0 =>
        have htok := hM.tt.t j0 rfl
        have htl : (t.ts.take i).length ≤ 3 := by rw [List.length_take]; omega
        have h0 : tabD (some j0) 5 ((t.ts.take i).map Tm.d) = .sl (.tok j0) 5 ((t.ts.take i).map Tm.d) := rfl
        rw [h0] at m3
        repeat' first | refine yj fun N hN => ?_ | refine yk ?_ | refine yl [] ?_ | ((first | refine ya rfl rfl fun N hN => ?_ | refine ym ?_); simp only [go_sem, ↓reduceIte, zA, zB, zC, zD, zE, zF, zG, zL, zM, zN, reduceCtorEq, f72, f71, f1, f3, f4, f2, m1, m4, m3, mp1, mq, hne, i4, Tryz.results36]) | ((first | refine yg rfl ?_ | refine yn ?_); try simp only [go_sem]) | ((first | refine yx hN _ _ ?_ | refine yz hN _ _ ?_); clear hN N) | fail
        repeat' first | refine yj fun N hN => ?_ | ((first | refine yc rfl rfl fun N hN => ?_ | refine ye rfl rfl fun N hN => ?_ | (refine yw hN _ _ ?_; clear hN N)); simp only [go_sem, ↓reduceIte, zA, zB, zC, zD, zE, zF, zG, zL, zM, zN, reduceCtorEq, f72, f71, f1, f3, f4, f2, m1, m4, m3, mp1, hne, nb, Tryz.results36]) | (refine yi ?_; try simp only [go_sem]) | ((first | refine yz hN _ _ ?_ | refine yy hN _ ?_); clear hN N) | refine yt (id := 19) mixed [1, 3, 4, 6, 80] (.rd 0 (.rd 1 (.rd 2 (.rd 3 (.rd 4 (.two 5 6 [] [4, 3, 2, 1, 0] (.act 6 [] (.act 7 [] (.nil))) (.act 5 [] (.act 7 [] (.nil))))))))) (by kernel_rfl) ?_ | refine yt (id := 20) mixed [1, 3, 4, 6, 80] (.act 0 [] (.two 1 2 [] [] (.act 2 [] (.act 3 [] (.nil))) (.act 1 [] (.act 3 [] (.nil))))) (by kernel_rfl) ?_ | refine yh ?_ ?_ | (refine sem80 (q := q) (bs := bs) (s := s) (c1 := c1) (c2 := c2) (c3 := .sl ow3 7 (T0.map szD)) hn1 hl (by simp only [go_sem, ↓reduceIte, zA, zB, zC, zD, zE, zF, zG, zL, zM, zN, reduceCtorEq, mp1, hne, nb]) (by simp only [go_sem, ↓reduceIte, zA, zB, zC, zD, zE, zF, zG, zL, zM, zN, reduceCtorEq, mq, hne, nb]) _ (by rw [List.length_map]; omega) (by rw [List.length_map]; exact g1) hgx ?_; try simp only [go_sem, ↓reduceIte, zA, zB, zC, zD, zE, zF, zG, zL, zM, zN, reduceCtorEq, f72, f71, f1, f3, f4, f2, m1, m4, m3, mp1, hne, nb]) | ((refine ys fun r hr => ?_; (have hr1 := hr; try simp only [St.set_none_iff, St.mem_give, St.mem_take] at hr1); (first | have nbq := mem_ne mp hr1 | have nbq := mem_ne mp hr1.2 | have nbq := mem_ne mp hr1.2.2 | have nbq := mem_ne mp hr1.2.2.2 | have nbq := mem_ne mp hr1.2.2.2.2); have nb := And.intro nb nbq; (first | have nbq := mem_ne mq hr1 | have nbq := mem_ne mq hr1.2 | have nbq := mem_ne mq hr1.2.2 | have nbq := mem_ne mq hr1.2.2.2 | have nbq := mem_ne mq hr1.2.2.2.2); have nb := And.intro nb nbq; (first | have nbq := mem_ne m1 hr1 | have nbq := mem_ne m1 hr1.2 | have nbq := mem_ne m1 hr1.2.2 | have nbq := mem_ne m1 hr1.2.2.2 | have nbq := mem_ne m1 hr1.2.2.2.2); have nb := And.intro nb nbq; (first | have nbq := mem_ne m3 hr1 | have nbq := mem_ne m3 hr1.2 | have nbq := mem_ne m3 hr1.2.2 | have nbq := mem_ne m3 hr1.2.2.2 | have nbq := mem_ne m3 hr1.2.2.2.2); have nb := And.intro nb nbq; (first | have nbq := mem_ne m4 hr1 | have nbq := mem_ne m4 hr1.2 | have nbq := mem_ne m4 hr1.2.2 | have nbq := mem_ne m4 hr1.2.2.2 | have nbq := mem_ne m4 hr1.2.2.2.2); have nb := And.intro nb nbq; have nb := And.intro nb hr1); try simp only [go_sem, ↓reduceIte, zA, zB, zC, zD, zE, zF, zG, zL, zM, zN, reduceCtorEq, f72, f71, f1, f3, f4, f2, m1, m4, m3, mp1, hne, nb]) | fail
        all_goals (refine ym ?_; simp only [go_sem, ↓reduceIte, zA, zB, zC, zD, zE, zF, zG, zL, zM, zN, reduceCtorEq])
        · skip
          repeat' first | refine yj fun N hN => ?_ | refine yl [1, 3, 4, 6, 80] ?_ | ((first | refine ya rfl rfl fun N hN => ?_ | refine yc rfl rfl fun N hN => ?_ | refine ye rfl rfl fun N hN => ?_ | (refine yw hN _ _ ?_; clear hN N)); simp only [go_sem, ↓reduceIte, zA, zB, zC, zD, zE, zF, zG, zL, zM, zN, reduceCtorEq, f72, f71, f1, f3, f4, f2, m1, m4, m3, mp, hne, hS2, hmx, htok, nb, Tryz.results36]) | ((first | refine yg rfl ?_ | refine yi ?_); try simp only [go_sem]) | ((first | refine yx hN _ _ ?_ | refine yz hN _ _ ?_ | refine yy hN _ ?_); clear hN N) | refine yt (id := 23) mixed [1, 3, 4, 6, 80] (.rd 0 (.rd 1 (.rd 2 (.rd 3 (.rd 4 (.act 5 [4, 3, 2, 1, 0] (.act 6 [4, 3, 2, 1, 0] (.act 7 [4, 3, 2, 1, 0] (.act 8 [0] (.act 9 [] (.act 10 [] (.act 11 [] (.nil))))))))))))) (by kernel_rfl) ?_ | ((refine yr fun j hj => ?_; (try have hj0 := St.tok_of_give hj)); try simp only [go_sem, ↓reduceIte, zA, zB, zC, zD, zE, zF, zG, zL, zM, zN, reduceCtorEq, f72, f71, f1, f3, f4, f2, m1, m4, m3, mp, hne, hS2, hmx, htok, nb]) | (refine And.intro ?_ ?_; · omega) | clear hN N | fail
          refine ih.back (m' - 1) (by omega) _ _ ⟨i + 1, some j, _, by omega, by simp only [go_sem, ↓reduceIte, zA, zB, zC, zD, zE, zF, zG, zL, zM, zN, reduceCtorEq]; rfl, by simp only [go_sem, ↓reduceIte, zA, zB, zC, zD, zE, zF, zG, zL, zM, zN, reduceCtorEq, f71], by simp only [go_sem, ↓reduceIte, zA, zB, zC, zD, zE, zF, zG, zL, zM, zN, reduceCtorEq, f1], by simp only [go_sem, ↓reduceIte, zA, zB, zC, zD, zE, zF, zG, zL, zM, zN, reduceCtorEq, f3], by simp only [go_sem, ↓reduceIte, zA, zB, zC, zD, zE, zF, zG, zL, zM, zN, reduceCtorEq, f4], by simp only [go_sem, ↓reduceIte, zA, zB, zC, zD, zE, zF, zG, zL, zM, zN, reduceCtorEq, f2], ?_, rfl⟩
          rw [take_getD _ Tm.z hlt, sizes_app, deeps_app, Tm.sizes, Tm.sizes, Tm.deeps, Tm.deeps, hx, hn3, show 1 + (Tm.sizes (List.take i t.ts) + (x.size + 0)) = S + x.size by rw [← hS, Nat.add_zero, Nat.add_assoc], show max (Tm.deeps (List.take i t.ts)) (max x.deep 0) = max Dp x.deep by rw [hDp, Nat.max_zero]]
          refine hM.kid (e := x.d) rfl ?_ ?_ (fun y y1 y2 o ho => ?_) (by simp [St.tok_give, St.tok_set]) (fun i' h0 hi' => ?_)
          · simp only [go_sem, ↓reduceIte, zA, zB, zC, zD, zE, zF, zG, zL, zM, zN, reduceCtorEq]
          · simp only [go_sem, ↓reduceIte, zA, zB, zC, zD, zE, zF, zG, zL, zM, zN, reduceCtorEq, hne, nb]
          · simp only [go_sem, ↓reduceIte, zA, zB, zC, zD, zE, zF, zG, zL, zM, zN, reduceCtorEq, y1, y2]
            repeat' (split; · (rename_i e; rw [e] at ho; simp only [nb, reduceCtorEq] at ho))
            exact ho
          · have hj' : st2.tok j = false := hj
            have n1 : i' ≠ j := fun e => by rw [e, hj'] at hi'; cases hi'
            have n0 : i' ≠ j0 := fun e => h0 (by rw [e])
            refine ⟨?_, n1⟩
            simp [St.tok_set, St.tok_give, St.tok_take, n1, n0, hi']
        · skip
          refine W.late3 (id := 21) (id2 := 22) (c := 8) (tS := 31) (tE := 33) (tM := 33) (s0 := 82) (s3 := 85) (s4 := 87) (s5 := 88) (s6 := 89) (s7 := 90) (s8 := 93) (s10 := 91) (s11 := 92) (f := 4) (z := 5) (q := 4) (bs := 80) mixed [] (.rd 0 (.rd 1 (.rd 2 (.rd 3 (.rd 4 (.rd 5 (.rd 6 (.act 7 [6, 5, 4, 3, 2, 1, 0] (.nil))))))))) (by kernel_rfl) (by kernel_rfl) rfl
            ⟨_, rfl, rfl, rfl, rfl⟩ ⟨_, rfl, rfl, rfl, rfl⟩ ⟨_, rfl, rfl, rfl, rfl⟩ rfl ⟨_, rfl, rfl, rfl, rfl⟩ ⟨_, rfl, rfl, rfl, rfl⟩ ⟨by kernel_rfl, by kernel_rfl, by kernel_rfl, by kernel_rfl⟩ (by decide) (by decide) (by kernel_rfl) ⟨_, _, rfl, rfl, rfl, rfl, rfl, rfl, rfl⟩ (by kernel_rfl)
            (fun i hi => by rcases (show i = 0 ∨ i = 1 ∨ i = 2 ∨ i = 3 ∨ i = 4 by omega) with rfl | rfl | rfl | rfl | rfl <;> kernel_rfl) (fun i hi => by rcases (show i = 0 ∨ i = 1 ∨ i = 2 ∨ i = 3 by omega) with rfl | rfl | rfl | rfl <;> kernel_rfl) ?_
          repeat' first | ((first | refine yc rfl rfl fun N hN => ?_ | refine ye rfl rfl fun N hN => ?_ | (refine yw hN _ _ ?_; clear hN N)); simp only [go_sem, ↓reduceIte, zA, zB, zC, zD, zE, zF, zG, zL, zM, zN, reduceCtorEq, f72, f71, f1, f3, f4, f2, m1, m4, m3, mp, hne, hS2, hmx, nb, Tryz.results36]) | (refine yi ?_; try simp only [go_sem]) | (refine yy hN _ ?_; clear hN N) | fail
          refine ⟨r3, 0, 5, (.tok j0), ((t.ts.take i).map Tm.d), [.int .u8 x.k, .int .i64 x.n, .str x.s, .sl .frozen 5 (x.ls.map Lv.d), .sl .frozen 5 (x.ts.map Tm.d)], [.int .u8 t.k, .int .i64 t.n, .str t.s, tabD oL 5 (t.ls.map Lv.d), .sl (.tok j0) 5 ((t.ts.take i).map Tm.d), .int .i64 S, .int .i64 Dp], .agg z5o, ⟨?_, ?_, ?_, ?_, ⟨.frozen, 5, ?_⟩, ⟨rfl, rfl⟩, ⟨rfl, htok⟩, by rw [List.length_map, List.length_take]; omega, ⟨by simp only [go_sem, ↓reduceIte, zA, zB, zC, zD, zE, zF, zG, zL, zM, zN, reduceCtorEq, m3, hne, nb], by simp⟩, fun j hj => ?_⟩⟩
          · simp only [go_sem, ↓reduceIte, zA, zB, zC, zD, zE, zF, zG, zL, zM, zN, reduceCtorEq]
          · simp only [go_sem, ↓reduceIte, zA, zB, zC, zD, zE, zF, zG, zL, zM, zN, reduceCtorEq]
          · simp only [go_sem, ↓reduceIte, zA, zB, zC, zD, zE, zF, zG, zL, zM, zN, reduceCtorEq] <;> rfl
          · simp only [go_sem, ↓reduceIte, zA, zB, zC, zD, zE, zF, zG, zL, zM, zN, reduceCtorEq] <;> simp
          · simp only [go_sem, ↓reduceIte, zA, zB, zC, zD, zE, zF, zG, zL, zM, zN, reduceCtorEq] <;> rfl
          have hsp : ∀ e, splice [.int .u8 t.k, .int .i64 t.n, .str t.s, tabD oL 5 (t.ls.map Lv.d), .sl (.tok j0) 5 ((t.ts.take i).map Tm.d), .int .i64 S, .int .i64 Dp] (0 + 4) [.sl (.tok j) 5 (((t.ts.take i).map Tm.d) ++ [e])] = [.int .u8 t.k, .int .i64 t.n, .str t.s, tabD oL 5 (t.ls.map Lv.d), .sl (.tok j) 5 (((t.ts.take i).map Tm.d) ++ [e]), .int .i64 S, .int .i64 Dp] := fun _ => rfl
          simp only [ownSt, hsp]
          refine Goes.go hN _ _ ?_
          clear hN N
          repeat' first | refine yj fun N hN => ?_ | refine yl [1, 3, 4, 6, 80] ?_ | (refine ya rfl rfl fun N hN => ?_; simp only [go_sem, ↓reduceIte, zA, zB, zC, zD, zE, zF, zG, zL, zM, zN, reduceCtorEq, f72, f71, f1, f3, f4, f2, m1, m4, m3, mp, hne, hS2, hmx, nb, Tryz.results36]) | (refine yg rfl ?_; try simp only [go_sem]) | ((first | refine yx hN _ _ ?_ | refine yz hN _ _ ?_); clear hN N) | (refine And.intro ?_ ?_; · omega) | clear hN N | fail
          refine ih.back (m' - 1) (by omega) _ _ ⟨i + 1, some j, _, by omega, by simp only [go_sem, ↓reduceIte, zA, zB, zC, zD, zE, zF, zG, zL, zM, zN, reduceCtorEq]; rfl, by simp only [go_sem, ↓reduceIte, zA, zB, zC, zD, zE, zF, zG, zL, zM, zN, reduceCtorEq, f71], by simp only [go_sem, ↓reduceIte, zA, zB, zC, zD, zE, zF, zG, zL, zM, zN, reduceCtorEq, f1], by simp only [go_sem, ↓reduceIte, zA, zB, zC, zD, zE, zF, zG, zL, zM, zN, reduceCtorEq, f3], by simp only [go_sem, ↓reduceIte, zA, zB, zC, zD, zE, zF, zG, zL, zM, zN, reduceCtorEq, f4], by simp only [go_sem, ↓reduceIte, zA, zB, zC, zD, zE, zF, zG, zL, zM, zN, reduceCtorEq, f2], ?_, rfl⟩
          rw [take_getD _ Tm.z hlt, sizes_app, deeps_app, Tm.sizes, Tm.sizes, Tm.deeps, Tm.deeps, hx, hn3, show 1 + (Tm.sizes (List.take i t.ts) + (x.size + 0)) = S + x.size by rw [← hS, Nat.add_zero, Nat.add_assoc], show max (Tm.deeps (List.take i t.ts)) (max x.deep 0) = max Dp x.deep by rw [hDp, Nat.max_zero]]
          refine hM.kid (e := x.d) rfl ?_ ?_ (fun y y1 y2 o ho => ?_) (by simp [St.tok_give, St.tok_set]) (fun i' h0 hi' => ?_)
          · simp only [go_sem, ↓reduceIte, zA, zB, zC, zD, zE, zF, zG, zL, zM, zN, reduceCtorEq]
          · simp only [go_sem, ↓reduceIte, zA, zB, zC, zD, zE, zF, zG, zL, zM, zN, reduceCtorEq, hne, nb]
          · simp only [go_sem, ↓reduceIte, zA, zB, zC, zD, zE, zF, zG, zL, zM, zN, reduceCtorEq, y1, y2]
            repeat' (split; · (rename_i e; rw [e] at ho; simp only [nb, reduceCtorEq] at ho))
            exact ho
          · have hj' : st2.tok j = false := hj
            have n1 : i' ≠ j := fun e => by rw [e, hj'] at hi'; cases hi'
            have n0 : i' ≠ j0 := fun e => h0 (by rw [e])
            refine ⟨?_, n1⟩
            simp [St.tok_set, St.tok_give, St.tok_take, n1, n0, hi']
        · skip
          repeat' first | refine yj fun N hN => ?_ | refine yl [1, 3, 4, 6, 80] ?_ | ((first | refine ya rfl rfl fun N hN => ?_ | refine yc rfl rfl fun N hN => ?_ | refine ye rfl rfl fun N hN => ?_ | (refine yw hN _ _ ?_; clear hN N)); simp only [go_sem, ↓reduceIte, zA, zB, zC, zD, zE, zF, zG, zL, zM, zN, reduceCtorEq, f72, f71, f1, f3, f4, f2, m1, m4, m3, mp, hne, hS2, hmx, htok, nb, Tryz.results36]) | ((first | refine yg rfl ?_ | refine yi ?_); try simp only [go_sem]) | ((first | refine yx hN _ _ ?_ | refine yz hN _ _ ?_ | refine yy hN _ ?_); clear hN N) | refine yt (id := 23) mixed [1, 3, 4, 6, 80] (.rd 0 (.rd 1 (.rd 2 (.rd 3 (.rd 4 (.act 5 [4, 3, 2, 1, 0] (.act 6 [4, 3, 2, 1, 0] (.act 7 [4, 3, 2, 1, 0] (.act 8 [0] (.act 9 [] (.act 10 [] (.act 11 [] (.nil))))))))))))) (by kernel_rfl) ?_ | ((refine yr fun j hj => ?_; (try have hj0 := St.tok_of_give hj)); try simp only [go_sem, ↓reduceIte, zA, zB, zC, zD, zE, zF, zG, zL, zM, zN, reduceCtorEq, f72, f71, f1, f3, f4, f2, m1, m4, m3, mp, hne, hS2, hmx, htok, nb]) | (refine And.intro ?_ ?_; · omega) | clear hN N | fail
          refine ih.back (m' - 1) (by omega) _ _ ⟨i + 1, some j, _, by omega, by simp only [go_sem, ↓reduceIte, zA, zB, zC, zD, zE, zF, zG, zL, zM, zN, reduceCtorEq]; rfl, by simp only [go_sem, ↓reduceIte, zA, zB, zC, zD, zE, zF, zG, zL, zM, zN, reduceCtorEq, f71], by simp only [go_sem, ↓reduceIte, zA, zB, zC, zD, zE, zF, zG, zL, zM, zN, reduceCtorEq, f1], by simp only [go_sem, ↓reduceIte, zA, zB, zC, zD, zE, zF, zG, zL, zM, zN, reduceCtorEq, f3], by simp only [go_sem, ↓reduceIte, zA, zB, zC, zD, zE, zF, zG, zL, zM, zN, reduceCtorEq, f4], by simp only [go_sem, ↓reduceIte, zA, zB, zC, zD, zE, zF, zG, zL, zM, zN, reduceCtorEq, f2], ?_, rfl⟩
          rw [take_getD _ Tm.z hlt, sizes_app, deeps_app, Tm.sizes, Tm.sizes, Tm.deeps, Tm.deeps, hx, hn3, show 1 + (Tm.sizes (List.take i t.ts) + (x.size + 0)) = S + x.size by rw [← hS, Nat.add_zero, Nat.add_assoc], show max (Tm.deeps (List.take i t.ts)) (max x.deep 0) = max Dp x.deep by rw [hDp, Nat.max_zero]]
          refine hM.kid (e := x.d) rfl ?_ ?_ (fun y y1 y2 o ho => ?_) (by simp [St.tok_give, St.tok_set]) (fun i' h0 hi' => ?_)
          · simp only [go_sem, ↓reduceIte, zA, zB, zC, zD, zE, zF, zG, zL, zM, zN, reduceCtorEq]
          · simp only [go_sem, ↓reduceIte, zA, zB, zC, zD, zE, zF, zG, zL, zM, zN, reduceCtorEq, hne, nb]
          · simp only [go_sem, ↓reduceIte, zA, zB, zC, zD, zE, zF, zG, zL, zM, zN, reduceCtorEq, y1, y2]
            repeat' (split; · (rename_i e; rw [e] at ho; simp only [nb, reduceCtorEq] at ho))
            exact ho
          · have hj' : st2.tok j = false := hj
            have n1 : i' ≠ j := fun e => by rw [e, hj'] at hi'; cases hi'
            have n0 : i' ≠ j0 := fun e => h0 (by rw [e])
            refine ⟨?_, n1⟩
            simp [St.tok_set, St.tok_give, St.tok_take, n1, n0, hi']
        · skip
          refine W.late3 (id := 21) (id2 := 22) (c := 8) (tS := 31) (tE := 33) (tM := 33) (s0 := 82) (s3 := 85) (s4 := 87) (s5 := 88) (s6 := 89) (s7 := 90) (s8 := 93) (s10 := 91) (s11 := 92) (f := 4) (z := 5) (q := 4) (bs := 80) mixed [] (.rd 0 (.rd 1 (.rd 2 (.rd 3 (.rd 4 (.rd 5 (.rd 6 (.act 7 [6, 5, 4, 3, 2, 1, 0] (.nil))))))))) (by kernel_rfl) (by kernel_rfl) rfl
            ⟨_, rfl, rfl, rfl, rfl⟩ ⟨_, rfl, rfl, rfl, rfl⟩ ⟨_, rfl, rfl, rfl, rfl⟩ rfl ⟨_, rfl, rfl, rfl, rfl⟩ ⟨_, rfl, rfl, rfl, rfl⟩ ⟨by kernel_rfl, by kernel_rfl, by kernel_rfl, by kernel_rfl⟩ (by decide) (by decide) (by kernel_rfl) ⟨_, _, rfl, rfl, rfl, rfl, rfl, rfl, rfl⟩ (by kernel_rfl)
            (fun i hi => by rcases (show i = 0 ∨ i = 1 ∨ i = 2 ∨ i = 3 ∨ i = 4 by omega) with rfl | rfl | rfl | rfl | rfl <;> kernel_rfl) (fun i hi => by rcases (show i = 0 ∨ i = 1 ∨ i = 2 ∨ i = 3 by omega) with rfl | rfl | rfl | rfl <;> kernel_rfl) ?_
          repeat' first | ((first | refine yc rfl rfl fun N hN => ?_ | refine ye rfl rfl fun N hN => ?_ | (refine yw hN _ _ ?_; clear hN N)); simp only [go_sem, ↓reduceIte, zA, zB, zC, zD, zE, zF, zG, zL, zM, zN, reduceCtorEq, f72, f71, f1, f3, f4, f2, m1, m4, m3, mp, hne, hS2, hmx, nb, Tryz.results36]) | (refine yi ?_; try simp only [go_sem]) | (refine yy hN _ ?_; clear hN N) | fail
          refine ⟨r3, 0, 5, (.tok j0), ((t.ts.take i).map Tm.d), [.int .u8 x.k, .int .i64 x.n, .str x.s, .sl .frozen 5 (x.ls.map Lv.d), .sl .frozen 5 (x.ts.map Tm.d)], [.int .u8 t.k, .int .i64 t.n, .str t.s, tabD oL 5 (t.ls.map Lv.d), .sl (.tok j0) 5 ((t.ts.take i).map Tm.d), .int .i64 S, .int .i64 Dp], .agg z5o, ⟨?_, ?_, ?_, ?_, ⟨.frozen, 5, ?_⟩, ⟨rfl, rfl⟩, ⟨rfl, htok⟩, by rw [List.length_map, List.length_take]; omega, ⟨by simp only [go_sem, ↓reduceIte, zA, zB, zC, zD, zE, zF, zG, zL, zM, zN, reduceCtorEq, m3, hne, nb], by simp⟩, fun j hj => ?_⟩⟩
          · simp only [go_sem, ↓reduceIte, zA, zB, zC, zD, zE, zF, zG, zL, zM, zN, reduceCtorEq]
          · simp only [go_sem, ↓reduceIte, zA, zB, zC, zD, zE, zF, zG, zL, zM, zN, reduceCtorEq]
          · simp only [go_sem, ↓reduceIte, zA, zB, zC, zD, zE, zF, zG, zL, zM, zN, reduceCtorEq] <;> rfl
          · simp only [go_sem, ↓reduceIte, zA, zB, zC, zD, zE, zF, zG, zL, zM, zN, reduceCtorEq] <;> simp
          · simp only [go_sem, ↓reduceIte, zA, zB, zC, zD, zE, zF, zG, zL, zM, zN, reduceCtorEq] <;> rfl
          have hsp : ∀ e, splice [.int .u8 t.k, .int .i64 t.n, .str t.s, tabD oL 5 (t.ls.map Lv.d), .sl (.tok j0) 5 ((t.ts.take i).map Tm.d), .int .i64 S, .int .i64 Dp] (0 + 4) [.sl (.tok j) 5 (((t.ts.take i).map Tm.d) ++ [e])] = [.int .u8 t.k, .int .i64 t.n, .str t.s, tabD oL 5 (t.ls.map Lv.d), .sl (.tok j) 5 (((t.ts.take i).map Tm.d) ++ [e]), .int .i64 S, .int .i64 Dp] := fun _ => rfl
          simp only [ownSt, hsp]
          refine Goes.go hN _ _ ?_
          clear hN N
          repeat' first | refine yj fun N hN => ?_ | refine yl [1, 3, 4, 6, 80] ?_ | (refine ya rfl rfl fun N hN => ?_; simp only [go_sem, ↓reduceIte, zA, zB, zC, zD, zE, zF, zG, zL, zM, zN, reduceCtorEq, f72, f71, f1, f3, f4, f2, m1, m4, m3, mp, hne, hS2, hmx, nb, Tryz.results36]) | (refine yg rfl ?_; try simp only [go_sem]) | ((first | refine yx hN _ _ ?_ | refine yz hN _ _ ?_); clear hN N) | (refine And.intro ?_ ?_; · omega) | clear hN N | fail
          refine ih.back (m' - 1) (by omega) _ _ ⟨i + 1, some j, _, by omega, by simp only [go_sem, ↓reduceIte, zA, zB, zC, zD, zE, zF, zG, zL, zM, zN, reduceCtorEq]; rfl, by simp only [go_sem, ↓reduceIte, zA, zB, zC, zD, zE, zF, zG, zL, zM, zN, reduceCtorEq, f71], by simp only [go_sem, ↓reduceIte, zA, zB, zC, zD, zE, zF, zG, zL, zM, zN, reduceCtorEq, f1], by simp only [go_sem, ↓reduceIte, zA, zB, zC, zD, zE, zF, zG, zL, zM, zN, reduceCtorEq, f3], by simp only [go_sem, ↓reduceIte, zA, zB, zC, zD, zE, zF, zG, zL, zM, zN, reduceCtorEq, f4], by simp only [go_sem, ↓reduceIte, zA, zB, zC, zD, zE, zF, zG, zL, zM, zN, reduceCtorEq, f2], ?_, rfl⟩
          rw [take_getD _ Tm.z hlt, sizes_app, deeps_app, Tm.sizes, Tm.sizes, Tm.deeps, Tm.deeps, hx, hn3, show 1 + (Tm.sizes (List.take i t.ts) + (x.size + 0)) = S + x.size by rw [← hS, Nat.add_zero, Nat.add_assoc], show max (Tm.deeps (List.take i t.ts)) (max x.deep 0) = max Dp x.deep by rw [hDp, Nat.max_zero]]
          refine hM.kid (e := x.d) rfl ?_ ?_ (fun y y1 y2 o ho => ?_) (by simp [St.tok_give, St.tok_set]) (fun i' h0 hi' => ?_)
          · simp only [go_sem, ↓reduceIte, zA, zB, zC, zD, zE, zF, zG, zL, zM, zN, reduceCtorEq]
          · simp only [go_sem, ↓reduceIte, zA, zB, zC, zD, zE, zF, zG, zL, zM, zN, reduceCtorEq, hne, nb]
          · simp only [go_sem, ↓reduceIte, zA, zB, zC, zD, zE, zF, zG, zL, zM, zN, reduceCtorEq, y1, y2]
            repeat' (split; · (rename_i e; rw [e] at ho; simp only [nb, reduceCtorEq] at ho))
            exact ho
          · have hj' : st2.tok j = false := hj
            have n1 : i' ≠ j := fun e => by rw [e, hj'] at hi'; cases hi'
            have n0 : i' ≠ j0 := fun e => h0 (by rw [e])
            refine ⟨?_, n1⟩
            simp [St.tok_set, St.tok_give, St.tok_take, n1, n0, hi']
    · have i4 : ¬ (i : Int) < t.ts.length := by omega
      rw [List.take_of_length_le hge, ← Tm.size_eq] at m3 hM
      have hA2 : A' = a + 1 + (nums ns).length := by rw [hA', List.take_of_length_le (by omega)]
      rw [hA2] at mq
      clear ih
      have hd2 : ((Tm.deeps t.ts : Nat) : Int) + 1 = (t.deep : Nat) := by have := Tm.deep_eq t; omega
      have s1 : ¬ (4096 : Int) < t.size := by omega
      have s2 : ¬ (256 : Int) < t.deep := by omega
      cases o3 with
      | none =>
        have hT0 := t3.n rfl
        have e4 : c3 = .sl .nil 0 [] := e3
        rw [e4] at mp
        repeat' first | refine yj fun N hN => ?_ | refine yl [1, 3, 4, 6, 80] ?_ | ((first | refine ya rfl rfl fun N hN => ?_ | refine yb rfl rfl rfl rfl fun N hN => ?_ | refine yc rfl rfl fun N hN => ?_ | refine ye rfl rfl fun N hN => ?_ | (refine yw hN _ _ ?_; clear hN N) | refine ym ?_ | refine yp ?_); simp only [go_sem, ↓reduceIte, zA, zB, zC, zD, zE, zF, zG, zL, zM, zN, reduceCtorEq, f72, f71, f1, f3, f4, f2, m1, m4, m3, mp, mq, hne, i4, hd2, s1, s2, Tryz.results36]) | ((first | refine yg rfl ?_ | refine yn ?_ | refine yi ?_); try simp only [go_sem]) | ((first | refine yx hN _ _ ?_ | refine yz hN _ _ ?_ | refine yy hN _ ?_); clear hN N) | refine yt (id := 30) mixed [1, 3, 4, 6, 80] (.rd 0 (.rd 1 (.rd 2 (.rd 3 (.rd 4 (.act 5 [4, 3, 2, 1, 0] (.act 6 [4, 3, 2, 1, 0] (.act 7 [0] (.act 8 [] (.act 9 [] (.act 10 [] (.nil)))))))))))) (by kernel_rfl) ?_ | ((refine yr fun j hj => ?_; (try have hj0 := St.tok_of_give hj)); try simp only [go_sem, ↓reduceIte, zA, zB, zC, zD, zE, zF, zG, zL, zM, zN, reduceCtorEq, f72, f71, f1, f3, f4, f2, m1, m4, m3, mp, mq, hne, i4, hd2, s1, s2]) | (refine And.intro ?_ ?_; · omega) | clear hN N | fail
        refine ⟨_, _, CoeT.refl _, Wk.set (r := p) (cs := [.ptr q 0, c1, c2, .sl (.tok j) 7 (T0.map szD ++ [.agg [.int .u8 t.k, .int .i64 t.n, .str t.s, tabD oL 5 (t.ls.map Lv.d), tabD oT 5 (t.ts.map Tm.d), .int .i64 t.size, .int .i64 t.deep]])]) (cs' := [.ptr q 0, c1, c2, tabD (some j) 7 ((T0 ++ [t]).map szD)]) (by rw [hT0]; simp only [go_sem, ↓reduceIte, zA, zB, zC, zD, zE, zF, zG, zL, zM, zN, reduceCtorEq] <;> rfl) (.s (.s (.s (.c ?_ .n)))), hk j _ (by simp only [go_sem, ↓reduceIte, zA, zB, zC, zD, zE, zF, zG, zL, zM, zN, reduceCtorEq]) (by simp only [go_sem, ↓reduceIte, zA, zB, zC, zD, zE, zF, zG, zL, zM, zN, reduceCtorEq, mq, hne]) ⟨fun x hx ob ho => ?_, by simp only [go_sem, ↓reduceIte, zA, zB, zC, zD, zE, zF, zG, zL, zM, zN, reduceCtorEq], fun i' h0 hi' => ?_⟩⟩
        · rw [List.map_append]
          exact Coe.sl ((Coes.refl _).app (.c (Coe.agg (.s (.s (.s (.c (Coe.tab hM.tl.n) (.c (Coe.tab hM.tt.n) (Coes.refl _))))))) .n))
        · simp only [not_or] at hx
          obtain ⟨y1, y2, y3, y4⟩ := hM.fr x hx.1 hx.2 ob ho
          simp only [go_sem, ↓reduceIte, zA, zB, zC, zD, zE, zF, zG, zL, zM, zN, reduceCtorEq, hx, y2]
          exact y4
        · have hi2 := (hM.tk i' hi').1
          have hj' : st2.tok j = false := hj
          have n1 : i' ≠ j := fun e => by rw [e, hj'] at hi2; cases hi2
          have n0 : True := trivial
          refine ⟨?_, n1⟩
          simp only [go_sem, ↓reduceIte, zA, zB, zC, zD, zE, zF, zG, zL, zM, zN, reduceCtorEq, n1, n0, hi2]
      | some j3 =>
        have htok := (hM.tk j3 (t3.t j3 rfl)).1
        have e4 : c3 = .sl (.tok j3) 7 (T0.map szD) := e3
        rw [e4] at mp
        repeat' first | refine yj fun N hN => ?_ | refine yl [1, 3, 4, 6, 80] ?_ | ((first | refine ya rfl rfl fun N hN => ?_ | refine yb rfl rfl rfl rfl fun N hN => ?_ | refine yc rfl rfl fun N hN => ?_ | refine ye rfl rfl fun N hN => ?_ | (refine yw hN _ _ ?_; clear hN N) | refine ym ?_ | refine yp ?_); simp only [go_sem, ↓reduceIte, zA, zB, zC, zD, zE, zF, zG, zL, zM, zN, reduceCtorEq, f72, f71, f1, f3, f4, f2, m1, m4, m3, mp, mq, hne, i4, hd2, s1, s2, htok, Tryz.results36]) | ((first | refine yg rfl ?_ | refine yn ?_ | refine yi ?_); try simp only [go_sem]) | ((first | refine yx hN _ _ ?_ | refine yz hN _ _ ?_ | refine yy hN _ ?_); clear hN N) | refine yt (id := 30) mixed [1, 3, 4, 6, 80] (.rd 0 (.rd 1 (.rd 2 (.rd 3 (.rd 4 (.act 5 [4, 3, 2, 1, 0] (.act 6 [4, 3, 2, 1, 0] (.act 7 [0] (.act 8 [] (.act 9 [] (.act 10 [] (.nil)))))))))))) (by kernel_rfl) ?_ | ((refine yr fun j hj => ?_; (try have hj0 := St.tok_of_give hj)); try simp only [go_sem, ↓reduceIte, zA, zB, zC, zD, zE, zF, zG, zL, zM, zN, reduceCtorEq, f72, f71, f1, f3, f4, f2, m1, m4, m3, mp, mq, hne, i4, hd2, s1, s2, htok]) | (refine And.intro ?_ ?_; · omega) | clear hN N | fail
        refine ⟨_, _, CoeT.refl _, Wk.set (r := p) (cs := [.ptr q 0, c1, c2, .sl (.tok j) 7 (T0.map szD ++ [.agg [.int .u8 t.k, .int .i64 t.n, .str t.s, tabD oL 5 (t.ls.map Lv.d), tabD oT 5 (t.ts.map Tm.d), .int .i64 t.size, .int .i64 t.deep]])]) (cs' := [.ptr q 0, c1, c2, tabD (some j) 7 ((T0 ++ [t]).map szD)]) (by simp only [go_sem, ↓reduceIte, zA, zB, zC, zD, zE, zF, zG, zL, zM, zN, reduceCtorEq]) (.s (.s (.s (.c ?_ .n)))), hk j _ (by simp only [go_sem, ↓reduceIte, zA, zB, zC, zD, zE, zF, zG, zL, zM, zN, reduceCtorEq]) (by simp only [go_sem, ↓reduceIte, zA, zB, zC, zD, zE, zF, zG, zL, zM, zN, reduceCtorEq, mq, hne]) ⟨fun x hx ob ho => ?_, by simp only [go_sem, ↓reduceIte, zA, zB, zC, zD, zE, zF, zG, zL, zM, zN, reduceCtorEq], fun i' h0 hi' => ?_⟩⟩
        · rw [List.map_append]
          exact Coe.sl ((Coes.refl _).app (.c (Coe.agg (.s (.s (.s (.c (Coe.tab hM.tl.n) (.c (Coe.tab hM.tt.n) (Coes.refl _))))))) .n))
        · simp only [not_or] at hx
          obtain ⟨y1, y2, y3, y4⟩ := hM.fr x hx.1 hx.2 ob ho
          simp only [go_sem, ↓reduceIte, zA, zB, zC, zD, zE, zF, zG, zL, zM, zN, reduceCtorEq, hx, y2]
          exact y4
        · have hi2 := (hM.tk i' hi').1
          have hj' : st2.tok j = false := hj
          have n1 : i' ≠ j := fun e => by rw [e, hj'] at hi2; cases hi2
          have n0 : i' ≠ j3 := fun e => h0 (by rw [e])
          refine ⟨?_, n1⟩
          simp only [go_sem, ↓reduceIte, zA, zB, zC, zD, zE, zF, zG, zL, zM, zN, reduceCtorEq, n1, n0, hi2]
  clear hN
  rintro fr st1 ⟨hM, f1, f3, f4, f2, f5, f21⟩
  have m1 := hM.m1
  have m4 := hM.m4
  have m3 := hM.m3
  have mp := hM.mp
  have mq := hM.mq
  have hne := hM.pne
  clear hr nb
  -- a level of the term's, at its place
  have lev : ∀ (st2 : St) (i A : Nat) (oL : Option Nat) (k2 : D → St → Prop) (nn : Int) (ss : List UInt8), i < t.ls.length → M36 bs st p q c1 c2 c3 s r1 r3 r A t.k nn ss oL none (t.ls.take i) [] 1 0 st2 → A = a + 1 + (nums (ns.take ((fldN t iN).length + i))).length →
      (∀ st3 oL', M36 bs st p q c1 c2 c3 s r1 r3 r (a + 1 + (nums (ns.take ((fldN t iN).length + (i + 1)))).length) t.k nn ss oL' none (t.ls.take (i + 1)) [] 1 0 st3 → k2 (.tup []) st3) → Sem P 76 [.ptr r 0, .ptr r1 0] st2 k2 := by
    intro st2 i A oL k2 nn ss hi hM2 hA hk2
    obtain ⟨g1, g2⟩ := hE.l i hi
    obtain ⟨hn1, hn2⟩ := hat ((fldN t iN).length + i) (by omega)
    rw [hgL i hi, ← hA] at hn1
    rw [hgL i hi, ← hA] at hn2
    obtain ⟨ow2, hc2⟩ := t2.cons (z := 5) (fun e => by simp only [List.map_eq_nil_iff] at e; rw [e] at g1; simp at g1)
    have mp2 : st2.mem p = some (.cells [.ptr q 0, c1, .sl ow2 5 (L0.map Lv.d), c3]) := by rw [← hc2, ← e2]; exact hM2.mp
    refine sem76 (l := t.ls.getD i Lv.z) hn1 hl hM2.m4 hM2.m1 hM2.m3 hM2.tl (by rw [List.length_map, List.length_take]; have := nf.l1; have := nf.l3; have := nf.l0; by_cases h1 : t.k = 1 <;> by_cases h3 : t.k = 3 <;> simp_all <;> omega) mp2 hM2.mq (by rw [List.length_map]; exact hL0) (by rw [List.length_map]; exact g1) (by rw [getD_map _ _ _ g1, g2]) (fun j st3 g3 gq gs => ?_)
    have := hM2.lev g3 gq gs
    rw [← take_getD _ _ hi, ← hn2] at this
    exact hk2 _ _ this
  rcases (show t.k = 1 ∨ t.k = 2 ∨ t.k = 3 ∨ t.k = 8 ∨ (t.k ≠ 1 ∧ t.k ≠ 2 ∧ t.k ≠ 3 ∧ t.k ≠ 8) by omega) with e | e | e | e | e
  · have q1 : ((t.k : Int) = 1) = True := eq_true (by omega)
    have hF : fldN t iN = [] := by simp [fldN, e]
    have hl1 := nf.l1 e
    rw [hF] at lev key
    repeat' first | refine yj fun N hN => ?_ | refine yk ?_ | refine yl [1, 3, 4, 6, 80] ?_ | ((first | refine ya rfl rfl fun N hN => ?_ | refine ym ?_); simp only [go_sem, ↓reduceIte, zA, zB, zC, zD, zE, zF, zG, zL, zM, zN, reduceCtorEq, f5, f21, q1, Tryz.results36]) | (refine yg rfl ?_; try simp only [go_sem]) | ((first | refine yx hN _ _ ?_ | refine yz hN _ _ ?_); clear hN N) | (refine lev _ 0 (a + 1) none _ 0 [] (by omega) hM (by simp [nums]) (fun st3 oL' hM3 => ?_); try simp only [go_sem, ↓reduceIte, zA, zB, zC, zD, zE, zF, zG, zL, zM, zN, reduceCtorEq, f5, f21, q1]) | fail
    refine key _ _ oL' _ (by rw [nf.n0 (by omega) (by omega), nf.s0 (by omega) (by omega), show t.ls = t.ls.take (0 + 1) by rw [List.take_of_length_le (by omega)]]; exact hM3) (by rw [hl1]) ?_ ?_ ?_ ?_
    all_goals simp only [go_sem, ↓reduceIte, zA, zB, zC, zD, zE, zF, zG, zL, zM, zN, reduceCtorEq, f1, f3, f4, f2]
  · have q1 : ((t.k : Int) = 1) = False := eq_false (by omega)
    have q2 : ((t.k : Int) = 2) = True := eq_true (by omega)
    have hF : fldN t iN = [t.n.toNat] := by simp [fldN, e]
    have hn2 := nf.n2 e
    have hl0 := nf.l0 (by omega) (by omega)
    rw [hF] at key hgF hlen
    obtain ⟨hn1, hn3⟩ := hat 0 (by rw [hlen]; simp; omega)
    rw [hgF 0 (by simp)] at hn1 hn3
    simp only [List.take_zero, nums, List.flatMap_nil, List.length_nil, Nat.add_zero, List.getD_cons_zero] at hn1
    have hnn : ((t.n.toNat : Nat) : Int) = t.n := by omega
    repeat' first | refine yj fun N hN => ?_ | refine yk ?_ | refine yl [1, 3, 4, 6, 80] ?_ | ((first | refine ya rfl rfl fun N hN => ?_ | refine yc rfl rfl fun N hN => ?_ | refine ye rfl rfl fun N hN => ?_ | (refine yw hN _ _ ?_; clear hN N) | refine ym ?_); simp only [go_sem, ↓reduceIte, zA, zB, zC, zD, zE, zF, zG, zL, zM, zN, reduceCtorEq, f1, f3, f4, f2, f5, f21, q1, q2, m1, m4, m3, hne, hnn, Tryz.results36]) | ((first | refine yg rfl ?_ | refine yi ?_); try simp only [go_sem]) | ((first | refine yx hN _ _ ?_ | refine yz hN _ _ ?_ | refine yy hN _ ?_); clear hN N) | refine yt (id := 9) mixed [1, 3, 4, 6, 80] (.rd 0 (.act 1 [0] (.act 2 [0] (.act 3 [] (.act 4 [] (.act 5 [] (.nil))))))) (by kernel_rfl) ?_ | (refine sem69 hn1 1048576 (by omega) (by omega) hl mp mq ?_; try simp only [go_sem, ↓reduceIte, zA, zB, zC, zD, zE, zF, zG, zL, zM, zN, reduceCtorEq, f1, f3, f4, f2, f5, f21, q1, q2, m1, m4, m3, hne, hnn]) | fail
    refine key _ _ none (a + 1 + (num t.n.toNat).length) (by
      rw [nf.s0 (by omega) (by omega), hl0]
      refine hM.put ?_ ?_ (fun x x1 x2 => ?_) rfl
      · simp only [go_sem, ↓reduceIte, zA, zB, zC, zD, zE, zF, zG, zL, zM, zN, reduceCtorEq]
      · simp only [go_sem, ↓reduceIte, zA, zB, zC, zD, zE, zF, zG, zL, zM, zN, reduceCtorEq, hne]
      · simp only [go_sem, ↓reduceIte, zA, zB, zC, zD, zE, zF, zG, zL, zM, zN, reduceCtorEq, x1, x2]) (by rw [hl0]; simpa [nums] using hn3.symm) ?_ ?_ ?_ ?_
    all_goals simp only [go_sem, ↓reduceIte, zA, zB, zC, zD, zE, zF, zG, zL, zM, zN, reduceCtorEq, f1, f3, f4, f2]
  · have q1 : ((t.k : Int) = 1) = False := eq_false (by omega)
    have q2 : ((t.k : Int) = 2) = False := eq_false (by omega)
    have q3 : ((t.k : Int) = 3) = True := eq_true (by omega)
    have hF : fldN t iN = [iN, t.ls.length] := by simp [fldN, e]
    have hl3 := nf.l3 e
    obtain ⟨hi1, hi2⟩ := hE.name (.inl e)
    obtain ⟨ow1, hc1⟩ := t1.cons (z := 1) (fun e => by simp only [List.map_eq_nil_iff] at e; rw [e] at hi1; simp at hi1)
    rw [hF] at key hgF hlen lev
    obtain ⟨hn1, hn3⟩ := hat 0 (by rw [hlen]; simp; omega)
    obtain ⟨hm1, hm3⟩ := hat 1 (by rw [hlen]; simp; omega)
    rw [hgF 0 (by simp)] at hn1 hn3
    rw [hgF 1 (by simp), hn3] at hm1 hm3
    simp only [List.take_zero, nums, List.flatMap_nil, List.length_nil, Nat.add_zero, List.getD_cons_zero, List.getD_cons_succ] at hn1 hn3 hm1 hm3
    have mp1 : st1.mem p = some (.cells [.ptr q 0, .sl ow1 1 (N0.map .str), c2, c3]) := by rw [← hc1, ← e1]; exact hM.mp
    repeat' first | refine yj fun N hN => ?_ | refine yk ?_ | refine yl [1, 3, 4, 6, 80] ?_ | ((first | refine ya rfl rfl fun N hN => ?_ | refine yc rfl rfl fun N hN => ?_ | refine ye rfl rfl fun N hN => ?_ | (refine yw hN _ _ ?_; clear hN N) | refine ym ?_); simp only [go_sem, ↓reduceIte, zA, zB, zC, zD, zE, zF, zG, zL, zM, zN, reduceCtorEq, f1, f3, f4, f2, f5, f21, q1, q2, q3, m1, m4, m3, mp1, hne, Tryz.results36]) | ((first | refine yg rfl ?_ | refine yi ?_); try simp only [go_sem]) | ((first | refine yx hN _ _ ?_ | refine yz hN _ _ ?_ | refine yy hN _ ?_); clear hN N) | refine yt (id := 11) mixed [1, 3, 4, 6, 80] (.rd 0 (.rd 1 (.act 2 [1, 0] (.act 3 [1, 0] (.act 4 [1, 0] (.act 5 [1, 0] (.act 6 [0] (.act 7 [] (.act 8 [] (.act 9 [] (.nil))))))))))) (by kernel_rfl) ?_ | (refine sem78 hn1 hl mp1 mq ow1 (by rw [List.length_map]; exact hN0) (by rw [List.length_map]; exact hi1) (by rw [getD_map _ _ [] hi1, hi2]) ?_; try simp only [go_sem, ↓reduceIte, zA, zB, zC, zD, zE, zF, zG, zL, zM, zN, reduceCtorEq, f1, f3, f4, f2, f5, f21, q1, q2, q3, m1, m4, m3, mp1, hne]) | fail
    refine sem32 hm1 4 (by omega) (by omega) hl (c1 := c1) (c2 := c2) (c3 := c3) (q := q) (s := s) (by simp only [go_sem, ↓reduceIte, zA, zB, zC, zD, zE, zF, zG, zL, zM, zN, reduceCtorEq, mp, hne]) (by simp only [go_sem, ↓reduceIte, zA, zB, zC, zD, zE, zF, zG, zL, zM, zN, reduceCtorEq, hne]) 76 [] [.ptr r 0, .ptr r1 0] rfl rfl (fun i st' => ∃ oL, M36 bs st p q c1 c2 c3 s r1 r3 r (a + 1 + (nums (ns.take (2 + i))).length) t.k 0 t.s oL none (t.ls.take i) [] 1 0 st')
      ⟨none, hM.put (by simp only [go_sem, ↓reduceIte, zA, zB, zC, zD, zE, zF, zG, zL, zM, zN, reduceCtorEq, hne]) (by simp only [go_sem, ↓reduceIte, zA, zB, zC, zD, zE, zF, zG, zL, zM, zN, reduceCtorEq]; rw [← hm3]; rfl) (fun x x1 x2 => by simp only [go_sem, ↓reduceIte, zA, zB, zC, zD, zE, zF, zG, zL, zM, zN, reduceCtorEq, x1, x2]) rfl⟩ (fun i st2 hi ⟨oL, hM2⟩ => ⟨⟨_, s, c1, c2, c3, hM2.mp, hM2.mq⟩, lev st2 i _ oL _ 0 t.s hi hM2 rfl fun st3 oL' hM3 => ⟨oL', hM3⟩⟩) (fun st2 ⟨oL, hM2⟩ => ?_)
    rw [List.take_of_length_le (Nat.le_refl _)] at hM2
    repeat' first | (refine yg rfl ?_; try simp only [go_sem]) | (refine yx hN _ _ ?_; clear hN N) | fail
    refine key _ _ oL _ (by rw [nf.n0 (by omega) (by omega)]; exact hM2) rfl ?_ ?_ ?_ ?_
    all_goals simp only [go_sem, ↓reduceIte, zA, zB, zC, zD, zE, zF, zG, zL, zM, zN, reduceCtorEq, f1, f3, f4, f2]
  · have q1 : ((t.k : Int) = 1) = False := eq_false (by omega)
    have q2 : ((t.k : Int) = 2) = False := eq_false (by omega)
    have q3 : ((t.k : Int) = 3) = False := eq_false (by omega)
    have q8 : ((t.k : Int) = 8) = True := eq_true (by omega)
    have hF : fldN t iN = [iN, t.n.toNat] := by simp [fldN, e]
    have hn8 := nf.n8 e
    have hl0 := nf.l0 (by omega) (by omega)
    obtain ⟨hi1, hi2⟩ := hE.name (.inr e)
    obtain ⟨ow1, hc1⟩ := t1.cons (z := 1) (fun e => by simp only [List.map_eq_nil_iff] at e; rw [e] at hi1; simp at hi1)
    rw [hF] at key hgF hlen
    obtain ⟨hn1, hn3⟩ := hat 0 (by rw [hlen]; simp; omega)
    obtain ⟨hm1, hm3⟩ := hat 1 (by rw [hlen]; simp; omega)
    rw [hgF 0 (by simp)] at hn1 hn3
    rw [hgF 1 (by simp), hn3] at hm1 hm3
    simp only [List.take_zero, nums, List.flatMap_nil, List.length_nil, Nat.add_zero, List.getD_cons_zero, List.getD_cons_succ] at hn1 hn3 hm1 hm3
    have hnn : ((t.n.toNat : Nat) : Int) = t.n := by omega
    have mp1 : st1.mem p = some (.cells [.ptr q 0, .sl ow1 1 (N0.map .str), c2, c3]) := by rw [← hc1, ← e1]; exact hM.mp
    repeat' first | refine yj fun N hN => ?_ | refine yk ?_ | refine yl [1, 3, 4, 6, 80] ?_ | ((first | refine ya rfl rfl fun N hN => ?_ | refine yc rfl rfl fun N hN => ?_ | refine ye rfl rfl fun N hN => ?_ | (refine yw hN _ _ ?_; clear hN N) | refine ym ?_); simp only [go_sem, ↓reduceIte, zA, zB, zC, zD, zE, zF, zG, zL, zM, zN, reduceCtorEq, f1, f3, f4, f2, f5, f21, q1, q2, q3, q8, m1, m4, m3, mp1, hne, hnn, Tryz.results36]) | ((first | refine yg rfl ?_ | refine yi ?_); try simp only [go_sem]) | ((first | refine yx hN _ _ ?_ | refine yz hN _ _ ?_ | refine yy hN _ ?_); clear hN N) | refine yt (id := 14) mixed [1, 3, 4, 6, 80] (.rd 0 (.rd 1 (.act 2 [1, 0] (.act 3 [1, 0] (.act 4 [1, 0] (.act 5 [1, 0] (.act 6 [0] (.act 7 [] (.act 8 [] (.act 9 [] (.nil))))))))))) (by kernel_rfl) ?_ | refine yt (id := 15) mixed [1, 3, 4, 6, 80] (.rd 0 (.act 1 [0] (.act 2 [0] (.act 3 [] (.act 4 [] (.act 5 [] (.nil))))))) (by kernel_rfl) ?_ | (refine sem78 hn1 hl mp1 mq ow1 (by rw [List.length_map]; exact hN0) (by rw [List.length_map]; exact hi1) (by rw [getD_map _ _ [] hi1, hi2]) ?_; try simp only [go_sem, ↓reduceIte, zA, zB, zC, zD, zE, zF, zG, zL, zM, zN, reduceCtorEq, f1, f3, f4, f2, f5, f21, q1, q2, q3, q8, m1, m4, m3, mp1, hne, hnn]) | (refine sem69 hm1 11 (by omega) (by omega) hl (c1 := c1) (c2 := c2) (c3 := c3) (q := q) (s := s) (by simp only [go_sem, ↓reduceIte, zA, zB, zC, zD, zE, zF, zG, zL, zM, zN, reduceCtorEq, mp, hne]) (by simp only [go_sem, ↓reduceIte, zA, zB, zC, zD, zE, zF, zG, zL, zM, zN, reduceCtorEq, hne]) ?_; try simp only [go_sem, ↓reduceIte, zA, zB, zC, zD, zE, zF, zG, zL, zM, zN, reduceCtorEq, f1, f3, f4, f2, f5, f21, q1, q2, q3, q8, m1, m4, m3, mp1, hne, hnn]) | fail
    refine key _ _ none (a + 1 + (num iN).length + (num t.n.toNat).length) (by
      rw [hl0]
      refine hM.put ?_ ?_ (fun x x1 x2 => ?_) rfl
      · simp only [go_sem, ↓reduceIte, zA, zB, zC, zD, zE, zF, zG, zL, zM, zN, reduceCtorEq]
      · simp only [go_sem, ↓reduceIte, zA, zB, zC, zD, zE, zF, zG, zL, zM, zN, reduceCtorEq, hne]
      · simp only [go_sem, ↓reduceIte, zA, zB, zC, zD, zE, zF, zG, zL, zM, zN, reduceCtorEq, x1, x2]) (by rw [hl0]; simpa [nums] using hm3.symm) ?_ ?_ ?_ ?_
    all_goals simp only [go_sem, ↓reduceIte, zA, zB, zC, zD, zE, zF, zG, zL, zM, zN, reduceCtorEq, f1, f3, f4, f2]
  · have q1 : ((t.k : Int) = 1) = False := eq_false (by omega)
    have q2 : ((t.k : Int) = 2) = False := eq_false (by omega)
    have q3 : ((t.k : Int) = 3) = False := eq_false (by omega)
    have q8 : ((t.k : Int) = 8) = False := eq_false (by omega)
    have hF : fldN t iN = [] := by simp [fldN, e]
    have hl0 := nf.l0 (by omega) (by omega)
    rw [hF] at key
    repeat' first | refine yj fun N hN => ?_ | refine yk ?_ | refine yl [1, 3, 4, 6, 80] ?_ | ((first | refine ya rfl rfl fun N hN => ?_ | refine ym ?_); simp only [go_sem, ↓reduceIte, zA, zB, zC, zD, zE, zF, zG, zL, zM, zN, reduceCtorEq, f5, f21, q1, q2, q3, q8, Tryz.results36]) | ((first | refine yg rfl ?_ | refine yn ?_); try simp only [go_sem]) | ((first | refine yx hN _ _ ?_ | refine yz hN _ _ ?_); clear hN N) | fail
    refine key _ _ none _ (by rw [nf.n0 (by omega) (by omega), nf.s0 (by omega) (by omega), hl0]; exact hM) (by rw [hl0]; simp [nums]) ?_ ?_ ?_ ?_
    all_goals simp only [go_sem, ↓reduceIte, zA, zB, zC, zD, zE, zF, zG, zL, zM, zN, reduceCtorEq, f1, f3, f4, f2]
end
end Go.Proofs.YtddbidoaolnegaaGreatDoor
