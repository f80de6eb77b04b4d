/-
PART OF A CLAIM: PP, PQ, PR. No statement of the seat is proved here; no condition. -/
import Derived.Test.YtddbidoaolnegaaGreatDoorWE24
set_option linter.all false
/- The reference: declarations into its tables: the walk. No statement of the seat is proved here; no condition. -/
namespace Go.Proofs.YtddbidoaolnegaaGreatDoor
open Go Go.RowKit
open Nat renaming reduceLT → zA, reduceEqDiff → zB, reduceBEq → zC, reduceAdd → zD, reduceMul → zE, reduceSub → zF, reduceLeDiff → zG, mul_one → zH, zero_add → zI, add_zero → zJ
open Int renaming toNat_natCast → zK, reduceAdd → zL, reduceLE → zM, reduceLT → zN, natCast_nonneg → zO
open Go.Proofs.YtddbidoaolnegaaGreatDoor renaming evI_plain → ya, evI_guard → yb, evT_rd → yc, evT_rdg → yd, evT_act → ye, evT_actg → yf, evI_done → yg, evT_two → yh, evT_nil → yi, W.seqG → yj, W.block → yk, W.regionI → yl, W.cond → ym, W.skip → yn, W.ret → yo, W.exit → yp, gdD_split → yq, newT_intro → yr, newB_intro → ys, W.draw → yt, St.set_del → yu, St.give_take → yv, AGo.go → yw, IGo.go → yx, TGo.go → yy, Goes.go → yz
attribute [local go_sem] zK zP zQ zH zI zJ zO
attribute [local irreducible] W evI evT evL evOp evBin gdD Sem newT newB fillD bldOf
set_option maxRecDepth 10000
set_option maxHeartbeats 4000000

def RX (r : Nat) (e : En) (n : Nat) (st : St) : Prop := ∃ c, RS r e c st ∧ ROk e ∧ ESz e n
theorem RX.le {r : Nat} {e : En} {n m : Nat} {st : St} (h : RX r e n st) (hn : n ≤ m) : RX r e m st := by
  obtain ⟨c, h1, h2, h3⟩ := h
  exact ⟨c, h1, h2, h3.le hn⟩

theorem ESz.num {e : En} {n m : Nat} (h4 : ESz e n) (hm : m < 18446744073709551616) : ESz (e.num m) (n + 1) := by
  have hl := num_len64 hm
  have hd := h4.d
  refine ⟨by have := h4.nm; exact ⟨by show e.names.length ≤ _; omega, by show (nmB e.names).length ≤ _; omega⟩, by have := h4.l; exact ⟨by show e.levels.length ≤ _; omega, by show (lvBs e.levels).length ≤ _; omega⟩, by have := h4.t; exact ⟨by show e.terms.length ≤ _; omega, by show e.tb.length ≤ _; omega⟩, ?_⟩
  show (e.db ++ YtddbidoaolnegaaGreatDoor.num m).length ≤ _
  rw [List.length_append]; omega
theorem ESz.name {e : En} {n : Nat} (h4 : ESz e n) {s : List UInt8} (hs : nameB s = true) : ESz (e.name s) (n + 1) := by
  have hl := nmB_len (l := e.names) hs
  have a1 := h4.nm
  have a2 := h4.l
  have a3 := h4.t
  have a4 := h4.d
  exact ⟨⟨by show (addU e.names s).length ≤ _; omega, by show (nmB (addU e.names s)).length ≤ _; omega⟩, ⟨by show e.levels.length ≤ _; omega, by show (lvBs e.levels).length ≤ _; omega⟩, ⟨by show e.terms.length ≤ _; omega, by show e.tb.length ≤ _; omega⟩, by show e.db.length ≤ _; omega⟩

theorem semR55 {m : Nat} (hm : m < 18446744073709551616) {r : Nat} {e : En} {n : Nat} {st : St} {k : D → St → Prop} (h : RX r e n st) (hn : n ≤ 20000) (hk : ∀ st', RX r (e.num m) (n + 1) st' → k (.tup []) st') : Sem P 55 [.ptr r 0, .int .u64 m] st k := by
  obtain ⟨c, h1, h2, h4⟩ := h
  have hd := h4.d
  exact sem55 m hm r e c st h1 (by omega) k fun c' st' uS _ => hk st' ⟨c', uS, ⟨h2.names, h2.terms⟩, h4.num hm⟩

theorem semR56 {s : List UInt8} (hs : nameB s = true) {r : Nat} {e : En} {n : Nat} {st : St} {k : D → St → Prop} (h : RX r e n st) (hn : n ≤ 20000) (hk : ∀ st', RX r (e.name s) (n + 1) st' → pos e.names s ≤ 20000 → k (.int .u64 (pos e.names s)) st') : Sem P 56 [.ptr r 0, .str s] st k := by
  obtain ⟨c, h1, h2, h4⟩ := h
  have a1 := h4.nm
  exact sem56 s (nm_len hs) r e c st h1 (fun x hx => nm_len (h2.names x hx)) (by omega) k fun c' st' uS _ => hk st' ⟨c', uS, h2.name hs, h4.name hs⟩ (by have := pos_le e.names s; omega)

theorem semR57 {t : Tm} (hw : t.wf) (ht : termB t = true) {r : Nat} {e : En} {n : Nat} {st : St} {k : D → St → Prop} (h : RX r e n st) (hn : n + t.size ≤ 20000) (hk : ∀ st', RX r (termE t e) (n + t.size) st' → pos (termE t e).terms t ≤ 20000 → k (.int .u64 (pos (termE t e).terms t)) st') :
    Sem P 57 [.ptr r 0, t.d] st k := by
  obtain ⟨c, h1, h2, h4⟩ := h
  obtain ⟨ho, hs⟩ := termB_ok ht
  obtain ⟨oA, _, _⟩ := okT3_all ho
  have hz := ESz.term t h4 hn oA
  refine sem57 t hw oA r e c st n h1 h2 h4 hn k fun c' st' uS _ => hk st' ⟨c', uS, ROk.term t h2 oA hw, hz⟩ ?_
  have := pos_le (termE t e).terms t
  have := hz.t
  omega

theorem kind_upR {r : Nat} {e : En} {c : Nat → Option Nat} {st : St} (hS : RS r e c st) {b : UInt8} {j : Nat} {s : St} (hj : st.tok j = false)
    (hs : ∀ i, c 4 ≠ some i → st.tok i = true → s.tok i = true) (hj2 : s.tok j = true) :
    RS r { e with db := e.db ++ [b] } (upR c 4 j) (s.set r (.cells [oD (c 0) 1 (e.names.map .str), oD (c 1) 5 (e.levels.map Lv.d), oD (c 2) 5 (e.terms.map Tm.d), oD (c 3) 1 (byD e.tb), .sl (.tok j) 1 (byD (e.db ++ [b]))])) :=
  (hS.up (i := 4) (j := j) (e' := { e with db := e.db ++ [b] }) (by rw [St.mem_set, if_pos rfl]; rfl) (fun x hx => by rcases x with _ | _ | _ | _ | _ | x <;> first | rfl | exact absurd rfl hx) hj (by rw [St.tok_set]; exact hj2)
    (fun i hi ht => by rw [St.tok_set]; exact hs i hi ht) (by omega)).1

theorem sem20 (d : De) (hw : d.Wf) (hd : declB d = true) (rb : Nat) (e : En) (n : Nat) (st : St) (hX : RX rb e n st) (hn : n + d.cost ≤ 20000) (k : D → St → Prop)
    (hk : ∀ st', RX rb (declE e d) (n + d.cost) st' → k (.tup []) st') : Sem P 20 [.ptr rb 0, d.d] st k := by
  simp only [declB, Bool.and_eq_true, decide_eq_true_eq] at hd
  obtain ⟨⟨p0, p4⟩, hd⟩ := hd
  have hk256 := hw.kind
  have hpw := wrap_u64i p0 (by omega)
  rw [De.cost] at hn hk
  refine Sem.of_body Tryz.call20 Tryz.func20 rfl Tryz.ntmps20 (by simp) ?_
  repeat' first | refine yj fun N hN => ?_ | refine yl [] ?_ | (refine ya rfl rfl fun N hN => ?_; simp only [go_sem, ↓reduceIte, zA, zB, zC, zD, zE, zF, zG, zL, zM, zN, reduceCtorEq, Tryz.results20]) | (refine yg rfl ?_; try simp only [go_sem]) | ((first | refine yx hN _ _ ?_ | refine yz hN _ _ ?_); clear hN N) | fail
  have key : ∀ (fr : Fr) (st' : St), RX rb { e with db := e.db ++ [UInt8.ofNat d.kind] } (n + 1) st' → fr 0 = .ptr rb 0 → fr 3 = .eptr d.d 0 → N fr st' := by
    intro fr st' hX f0 f3
    refine Goes.go hN _ _ ?_
    clear hN N
    by_cases k4 : d.kind = 4
    · have ei : (d.kind : Int) = 4 := by omega
      simp only [k4, Nat.reduceEqDiff, reduceIte, or_self, Bool.and_eq_true, decide_eq_true_eq] at hd
      obtain ⟨⟨⟨⟨⟨⟨⟨h1, h2⟩, h3⟩, h4⟩, h5⟩, h6⟩, h7⟩, h8⟩ := hd
      have hfw := wrap_u64i h4 (by omega)
      have hiw := wrap_u64 (n := d.inds.length) (by omega)
      rw [declE, if_pos k4] at hk
      repeat' first | refine yj fun N hN => ?_ | refine yk ?_ | refine yl [] ?_ | ((first | refine ya rfl rfl fun N hN => ?_ | refine ym ?_); simp only [go_sem, ↓reduceIte, zA, zB, zC, zD, zE, zF, zG, zL, zM, zN, reduceCtorEq, f0, f3, hpw, ei, hfw, hiw, Tryz.results20]) | ((first | refine yg rfl ?_ | refine yn ?_); try simp only [go_sem]) | ((first | refine yx hN _ _ ?_ | refine yz hN _ _ ?_); clear hN N) | (refine semR55 (by omega) hX (by omega) (fun st' hX => ?_); try simp only [go_sem, ↓reduceIte, zA, zB, zC, zD, zE, zF, zG, zL, zM, zN, reduceCtorEq, f0, f3, hpw, ei, hfw, hiw]) | fail
      refine W.loopN (fun m fr st' => ∃ i : Nat, RX rb ((d.inds.take i).foldl indE (((e.kind d).num d.fixed.toNat).num d.inds.length)) (n + 4 + ((d.inds.take i).map In.cost).sum) st' ∧ i + m = d.inds.length ∧
        fr 4 = .int .i64 i ∧ fr 3 = .eptr d.d 0 ∧ fr 0 = .ptr rb 0) ?_ d.inds.length _ _
        ⟨0, hX.le (by simp), by simp, by simp only [go_sem, ↓reduceIte, zA, zB, zC, zD, zE, zF, zG, zL, zM, zN, reduceCtorEq]; rfl, by simp only [go_sem, ↓reduceIte, zA, zB, zC, zD, zE, zF, zG, zL, zM, zN, reduceCtorEq, f3], by simp only [go_sem, ↓reduceIte, zA, zB, zC, zD, zE, zF, zG, zL, zM, zN, reduceCtorEq, f0]⟩
      clear hX f0 f3
      rintro m N' ih fr st' ⟨i, hX, hi, f4, f3, f0⟩
      rcases Nat.lt_or_ge i d.inds.length with hlt | hge
      · have hg : (d.inds.map In.d).getD i .any = (d.inds.getD i In.z).d := getD_map _ _ _ hlt
        have i4 : (i : Int) < d.inds.length := by omega
        have hmx := getD_mem d.inds In.z hlt
        have hcost := map_sum_take In.cost d.inds In.z hlt
        have hfold := foldl_take indE (((e.kind d).num d.fixed.toNat).num d.inds.length) d.inds In.z hlt
        have hxw := hw.inds _ hmx
        have hxb : indB (d.inds.getD i In.z) = true := by rw [List.all_eq_true] at h8; exact h8 _ hmx
        rw [In.cost] at hcost
        generalize d.inds.getD i In.z = x at *
        generalize hB : (d.inds.take i).foldl indE (((e.kind d).num d.fixed.toNat).num d.inds.length) = eB at *
        simp only [indB, Bool.and_eq_true, decide_eq_true_eq] at hxb
        obtain ⟨⟨⟨x1, x2⟩, x3⟩, x4⟩ := hxb
        have hcw := wrap_u64 (n := x.cs.length) (by omega)
        repeat' first | rw [yu hr] | refine yj fun N hN => ?_ | refine yk ?_ | refine yl [] ?_ | ((first | refine ya rfl rfl fun N hN => ?_ | refine ym ?_); simp only [go_sem, ↓reduceIte, zA, zB, zC, zD, zE, zF, zG, zL, zM, zN, reduceCtorEq, f4, f3, f0, hg, hlt, i4, hcw, Tryz.results20]) | ((first | refine yg rfl ?_ | refine yn ?_); try simp only [go_sem]) | ((first | refine yx hN _ _ ?_ | refine yz hN _ _ ?_); clear hN N) | (refine semR56 x1 hX (by omega) (fun st' hX hp => ?_); try simp only [go_sem, ↓reduceIte, zA, zB, zC, zD, zE, zF, zG, zL, zM, zN, reduceCtorEq, f4, f3, f0, hg, hlt, i4, hcw]) | (refine semR57 hxw.ty x2 hX (by omega) (fun st' hX hp => ?_); try simp only [go_sem, ↓reduceIte, zA, zB, zC, zD, zE, zF, zG, zL, zM, zN, reduceCtorEq, f4, f3, f0, hg, hlt, i4, hcw]) | (refine semR55 (by omega) hX (by omega) (fun st' hX => ?_); try simp only [go_sem, ↓reduceIte, zA, zB, zC, zD, zE, zF, zG, zL, zM, zN, reduceCtorEq, f4, f3, f0, hg, hlt, i4, hcw]) | ((refine ys fun r hr => ?_; (try have hrn := (St.set_none hr).1); (try have hrn2 := Ne.symm (St.set_none hr).1)); try simp only [go_sem, ↓reduceIte, zA, zB, zC, zD, zE, zF, zG, zL, zM, zN, reduceCtorEq, f4, f3, f0, hg, hlt, i4, hcw]) | fail
        refine W.loopN (fun m fr st' => ∃ j : Nat, RX rb ((x.cs.take j).foldl ctorE (((eB.nm x.name).tm x.ty).num x.cs.length)) (n + 4 + ((d.inds.take i).map In.cost).sum + 4 + x.ty.size + ((x.cs.take j).map Cc.cost).sum) st' ∧ j + m = x.cs.length ∧
          fr 6 = .int .i64 j ∧ fr 5 = .eptr x.d 0 ∧ fr 4 = .int .i64 i ∧ fr 3 = .eptr d.d 0 ∧ fr 0 = .ptr rb 0) ?_ x.cs.length _ _
          ⟨0, hX.le (by simp <;> omega), by simp, by simp only [go_sem, ↓reduceIte, zA, zB, zC, zD, zE, zF, zG, zL, zM, zN, reduceCtorEq]; rfl, by simp only [go_sem, ↓reduceIte, zA, zB, zC, zD, zE, zF, zG, zL, zM, zN, reduceCtorEq], by simp only [go_sem, ↓reduceIte, zA, zB, zC, zD, zE, zF, zG, zL, zM, zN, reduceCtorEq, f4], by simp only [go_sem, ↓reduceIte, zA, zB, zC, zD, zE, zF, zG, zL, zM, zN, reduceCtorEq, f3], by simp only [go_sem, ↓reduceIte, zA, zB, zC, zD, zE, zF, zG, zL, zM, zN, reduceCtorEq, f0]⟩
        clear hX f0 f3 f4
        rintro m2 N2 ih2 fr2 st2 ⟨j, hX, hj, f6, f5, f4, f3, f0⟩
        rcases Nat.lt_or_ge j x.cs.length with jlt | jge
        · have jg : (x.cs.map Cc.d).getD j .any = (x.cs.getD j Cc.z).d := getD_map _ _ _ jlt
          have j4 : (j : Int) < x.cs.length := by omega
          have jmx := getD_mem x.cs Cc.z jlt
          have jcost := map_sum_take Cc.cost x.cs Cc.z jlt
          have jfold := foldl_take ctorE (((eB.nm x.name).tm x.ty).num x.cs.length) x.cs Cc.z jlt
          have jxw := hxw.cs _ jmx
          have jxb : ctorB (x.cs.getD j Cc.z) = true := by rw [List.all_eq_true] at x4; exact x4 _ jmx
          rw [Cc.cost] at jcost
          generalize x.cs.getD j Cc.z = y at *
          simp only [ctorB, Bool.and_eq_true] at jxb
          repeat' first | refine yj fun N hN => ?_ | refine yk ?_ | refine yl [] ?_ | ((first | refine ya rfl rfl fun N hN => ?_ | refine ym ?_); simp only [go_sem, ↓reduceIte, zA, zB, zC, zD, zE, zF, zG, zL, zM, zN, reduceCtorEq, f6, f5, f4, f3, f0, jg, jlt, j4, Tryz.results20]) | ((first | refine yg rfl ?_ | refine yn ?_); try simp only [go_sem]) | ((first | refine yx hN _ _ ?_ | refine yz hN _ _ ?_); clear hN N) | (refine semR56 jxb.1 hX (by omega) (fun st' hX hp => ?_); try simp only [go_sem, ↓reduceIte, zA, zB, zC, zD, zE, zF, zG, zL, zM, zN, reduceCtorEq, f6, f5, f4, f3, f0, jg, jlt, j4]) | (refine semR57 jxw.ty jxb.2 hX (by omega) (fun st' hX hp => ?_); try simp only [go_sem, ↓reduceIte, zA, zB, zC, zD, zE, zF, zG, zL, zM, zN, reduceCtorEq, f6, f5, f4, f3, f0, jg, jlt, j4]) | (refine semR55 (by omega) hX (by omega) (fun st' hX => ?_); try simp only [go_sem, ↓reduceIte, zA, zB, zC, zD, zE, zF, zG, zL, zM, zN, reduceCtorEq, f6, f5, f4, f3, f0, jg, jlt, j4]) | (refine And.intro ?_ ?_; · omega) | clear hN N | fail
          refine ih2.back (m2 - 1) (by omega) _ _ ⟨j + 1, by rw [jfold]; exact hX.le (by omega), by omega, ?_, ?_, ?_, ?_, ?_⟩
          · simp only [go_sem, ↓reduceIte, zA, zB, zC, zD, zE, zF, zG, zL, zM, zN, reduceCtorEq]; rfl
          · simp only [go_sem, ↓reduceIte, zA, zB, zC, zD, zE, zF, zG, zL, zM, zN, reduceCtorEq, f5]
          · simp only [go_sem, ↓reduceIte, zA, zB, zC, zD, zE, zF, zG, zL, zM, zN, reduceCtorEq, f4]
          · simp only [go_sem, ↓reduceIte, zA, zB, zC, zD, zE, zF, zG, zL, zM, zN, reduceCtorEq, f3]
          · simp only [go_sem, ↓reduceIte, zA, zB, zC, zD, zE, zF, zG, zL, zM, zN, reduceCtorEq, f0]
        · have j4 : ¬ (j : Int) < x.cs.length := by omega
          rw [List.take_of_length_le jge] at hX
          repeat' first | refine yj fun N hN => ?_ | refine yl [] ?_ | ((first | refine ya rfl rfl fun N hN => ?_ | refine ym ?_ | refine yp ?_); simp only [go_sem, ↓reduceIte, zA, zB, zC, zD, zE, zF, zG, zL, zM, zN, reduceCtorEq, f6, f5, f4, f3, f0, j4, Tryz.results20]) | (refine yg rfl ?_; try simp only [go_sem]) | ((first | refine yx hN _ _ ?_ | refine yz hN _ _ ?_); clear hN N) | (refine And.intro ?_ ?_; · omega) | clear hN N | fail
          refine ih.back (m - 1) (by omega) _ _ ⟨i + 1, by rw [hfold]; exact hX.le (by omega), by omega, ?_, ?_, ?_⟩
          · simp only [go_sem, ↓reduceIte, zA, zB, zC, zD, zE, zF, zG, zL, zM, zN, reduceCtorEq]; rfl
          · simp only [go_sem, ↓reduceIte, zA, zB, zC, zD, zE, zF, zG, zL, zM, zN, reduceCtorEq, f3]
          · simp only [go_sem, ↓reduceIte, zA, zB, zC, zD, zE, zF, zG, zL, zM, zN, reduceCtorEq, f0]
      · have i4 : ¬ (i : Int) < d.inds.length := by omega
        rw [List.take_of_length_le hge] at hX
        repeat' first | refine yj fun N hN => ?_ | refine yl [] ?_ | ((first | refine ya rfl rfl fun N hN => ?_ | refine ym ?_ | refine yp ?_); simp only [go_sem, ↓reduceIte, zA, zB, zC, zD, zE, zF, zG, zL, zM, zN, reduceCtorEq, f4, f3, f0, i4, Tryz.results20]) | (refine yg rfl ?_; try simp only [go_sem]) | ((first | refine yx hN _ _ ?_ | refine yz hN _ _ ?_); clear hN N) | clear hN N | fail
        exact hk _ (hX.le (by omega))
    · have ei : ¬ (d.kind : Int) = 4 := by omega
      rw [declE, if_neg k4] at hk
      simp only [k4, if_false] at hd
      by_cases k1 : d.kind = 1
      · have e1 : (d.kind : Int) = 1 := by omega
        rw [if_pos k1] at hk
        simp only [k1, Nat.reduceEqDiff, reduceIte, Bool.and_eq_true, decide_eq_true_eq] at hd
        obtain ⟨⟨⟨⟨d1, d2⟩, d3⟩, d4⟩, d5⟩ := hd
        repeat' first | refine yj fun N hN => ?_ | refine yl [] ?_ | ((first | refine ya rfl rfl fun N hN => ?_ | refine ym ?_ | refine yo ?_); simp only [go_sem, ↓reduceIte, zA, zB, zC, zD, zE, zF, zG, zL, zM, zN, reduceCtorEq, f0, f3, hpw, e1, Tryz.results20]) | ((first | refine yg rfl ?_ | refine yn ?_); try simp only [go_sem]) | ((first | refine yx hN _ _ ?_ | refine yz hN _ _ ?_); clear hN N) | (refine semR56 d1 hX (by omega) (fun st' hX hp => ?_); try simp only [go_sem, ↓reduceIte, zA, zB, zC, zD, zE, zF, zG, zL, zM, zN, reduceCtorEq, f0, f3, hpw, e1]) | (refine semR57 hw.ty d2 hX (by omega) (fun st' hX hp => ?_); try simp only [go_sem, ↓reduceIte, zA, zB, zC, zD, zE, zF, zG, zL, zM, zN, reduceCtorEq, f0, f3, hpw, e1]) | (refine semR55 (by omega) hX (by omega) (fun st' hX => ?_); try simp only [go_sem, ↓reduceIte, zA, zB, zC, zD, zE, zF, zG, zL, zM, zN, reduceCtorEq, f0, f3, hpw, e1]) | ((apply And.intro <;> intro h) <;> (try simp only [zS, zT, zU, zV, Bool.not_true, Bool.not_false] at h) <;> (first | (exfalso; omega) | simp only [go_sem, ↓reduceIte, zA, zB, zC, zD, zE, zF, zG, zL, zM, zN, reduceCtorEq, f0, f3, hpw, e1, h] | skip)) | clear hN N | fail
        exact hk _ (hX.le (by omega))
      · have e1 : ¬ (d.kind : Int) = 1 := by omega
        rw [if_neg k1] at hk
        have k23 : d.kind = 2 ∨ d.kind = 3 := by
          simp only [k1, reduceIte] at hd
          split at hd
          · assumption
          · cases hd
        simp only [k1, k23, reduceIte, Bool.and_eq_true, decide_eq_true_eq] at hd
        obtain ⟨⟨⟨⟨d1, d2⟩, d3⟩, d4⟩, d5⟩ := hd
        repeat' first | refine yj fun N hN => ?_ | refine yl [] ?_ | ((first | refine ya rfl rfl fun N hN => ?_ | refine ym ?_ | refine yo ?_); simp only [go_sem, ↓reduceIte, zA, zB, zC, zD, zE, zF, zG, zL, zM, zN, reduceCtorEq, f0, f3, hpw, e1, ei, Tryz.results20]) | (refine yg rfl ?_; try simp only [go_sem]) | ((first | refine yx hN _ _ ?_ | refine yz hN _ _ ?_); clear hN N) | (refine semR56 d1 hX (by omega) (fun st' hX hp => ?_); try simp only [go_sem, ↓reduceIte, zA, zB, zC, zD, zE, zF, zG, zL, zM, zN, reduceCtorEq, f0, f3, hpw, e1, ei]) | (refine semR57 hw.ty d2 hX (by omega) (fun st' hX hp => ?_); try simp only [go_sem, ↓reduceIte, zA, zB, zC, zD, zE, zF, zG, zL, zM, zN, reduceCtorEq, f0, f3, hpw, e1, ei]) | (refine semR57 hw.val d3 hX (by omega) (fun st' hX hp => ?_); try simp only [go_sem, ↓reduceIte, zA, zB, zC, zD, zE, zF, zG, zL, zM, zN, reduceCtorEq, f0, f3, hpw, e1, ei]) | (refine semR55 (by omega) hX (by omega) (fun st' hX => ?_); try simp only [go_sem, ↓reduceIte, zA, zB, zC, zD, zE, zF, zG, zL, zM, zN, reduceCtorEq, f0, f3, hpw, e1, ei]) | clear hN N | fail
        exact hk _ (hX.le (by omega))
  clear hN
  obtain ⟨c, h1, h2, h4⟩ := hX
  have hw0 := h1.w
  rw [rCells] at hw0
  have hu8 := u8_k d.kind hk256
  have hdl := h4.d
  have hne : [D.int .u8 (d.kind : Int)] ≠ [] := by simp
  have hz' : ESz { e with db := e.db ++ [UInt8.ofNat d.kind] } (n + 1) := ⟨by have := h4.nm; exact ⟨by show e.names.length ≤ _; omega, by show (nmB e.names).length ≤ _; omega⟩, by have := h4.l; exact ⟨by show e.levels.length ≤ _; omega, by show (lvBs e.levels).length ≤ _; omega⟩, by have := h4.t; exact ⟨by show e.terms.length ≤ _; omega, by show e.tb.length ≤ _; omega⟩, by show (e.db ++ _).length ≤ _; rw [List.length_append]; simp; omega⟩
  have hb1 : byD (e.db ++ [UInt8.ofNat d.kind]) = byD e.db ++ [D.int .u8 (d.kind : Int)] := by rw [byD_append, ← hu8]
  cases hdj : c 4 with
  | none =>
    have hd0 : byD e.db = [] := h1.z 4 hdj
    have hd0' : e.db = [] := by simpa [byD] using hd0
    rw [hdj, show oD none 1 (byD e.db) = .sl .nil 0 [] from rfl] at hw0
    repeat' first | ((first | refine yc rfl rfl fun N hN => ?_ | refine ye rfl rfl fun N hN => ?_ | (refine yw hN _ _ ?_; clear hN N)); simp only [go_sem, ↓reduceIte, zA, zB, zC, zD, zE, zF, zG, zL, zM, zN, reduceCtorEq, hw0, hne, Tryz.results20]) | (refine yi ?_; try simp only [go_sem]) | (refine yy hN _ ?_; clear hN N) | refine yt (id := 1) mixed [] (.rd 0 (.rd 1 (.rd 2 (.rd 3 (.rd 4 (.act 5 [4, 3, 2, 1, 0] (.act 6 [4, 3, 2, 1, 0] (.act 7 [4, 3, 2, 1, 0] (.act 8 [0] (.act 9 [] (.act 10 [] (.act 11 [] (.nil))))))))))))) (by kernel_rfl) ?_ | ((refine yr fun j hj => ?_; (try have hj0 := St.tok_of_give hj)); try simp only [go_sem, ↓reduceIte, zA, zB, zC, zD, zE, zF, zG, zL, zM, zN, reduceCtorEq, hw0, hne]) | fail
    have ku := kind_upR h1 (b := UInt8.ofNat d.kind) (j := j) (s := st.give j) hj (fun i _ ht => by simp [St.tok_give, ht]) (by simp [St.tok_give])
    have e0 : [D.int .u8 (d.kind : Int)] = byD (e.db ++ [UInt8.ofNat d.kind]) := by rw [hd0']; simpa using hu8
    rw [e0]
    refine key _ _ ⟨_, ku, ⟨h2.names, h2.terms⟩, hz'⟩ ?_ ?_
    · simp only [go_sem, ↓reduceIte, zA, zB, zC, zD, zE, zF, zG, zL, zM, zN, reduceCtorEq]
    · simp only [go_sem, ↓reduceIte, zA, zB, zC, zD, zE, zF, zG, zL, zM, zN, reduceCtorEq]
  | some j0 =>
    have hj0 := h1.t 4 j0 (by omega) hdj
    rw [hdj, show oD (some j0) 1 (byD e.db) = .sl (.tok j0) 1 (byD e.db) from rfl] at hw0
    repeat' first | ((first | refine yc rfl rfl fun N hN => ?_ | refine ye rfl rfl fun N hN => ?_ | (refine yw hN _ _ ?_; clear hN N)); simp only [go_sem, ↓reduceIte, zA, zB, zC, zD, zE, zF, zG, zL, zM, zN, reduceCtorEq, hw0, hne, hj0, Tryz.results20]) | (refine yi ?_; try simp only [go_sem]) | (refine yy hN _ ?_; clear hN N) | refine yt (id := 1) mixed [] (.rd 0 (.rd 1 (.rd 2 (.rd 3 (.rd 4 (.act 5 [4, 3, 2, 1, 0] (.act 6 [4, 3, 2, 1, 0] (.act 7 [4, 3, 2, 1, 0] (.act 8 [0] (.act 9 [] (.act 10 [] (.act 11 [] (.nil))))))))))))) (by kernel_rfl) ?_ | ((refine yr fun j hj => ?_; (try have hj0 := St.tok_of_give hj)); try simp only [go_sem, ↓reduceIte, zA, zB, zC, zD, zE, zF, zG, zL, zM, zN, reduceCtorEq, hw0, hne, hj0]) | (refine And.intro ?_ ?_; · omega) | fail
    have ku := kind_upR h1 (b := UInt8.ofNat d.kind) (j := j) (s := (st.take j0).give j) hj (fun i hi ht => by
      have : i ≠ j0 := fun e => hi (by rw [hdj, e])
      simp [St.tok_give, St.tok_take, ht, this]) (by simp [St.tok_give])
    rw [← hb1]
    refine key _ _ ⟨_, ku, ⟨h2.names, h2.terms⟩, hz'⟩ ?_ ?_
    · simp only [go_sem, ↓reduceIte, zA, zB, zC, zD, zE, zF, zG, zL, zM, zN, reduceCtorEq]
    · simp only [go_sem, ↓reduceIte, zA, zB, zC, zD, zE, zF, zG, zL, zM, zN, reduceCtorEq]
end Go.Proofs.YtddbidoaolnegaaGreatDoor
/- Levels in the tables are as they may be: plain laws. No statement of the seat is proved here; no condition. -/
namespace Go.Proofs.YtddbidoaolnegaaGreatDoor
open Go Go.RowKit
open Nat renaming reduceLT → zA, reduceEqDiff → zB, reduceBEq → zC, reduceAdd → zD, reduceMul → zE, reduceSub → zF, reduceLeDiff → zG, mul_one → zH, zero_add → zI, add_zero → zJ
open Int renaming toNat_natCast → zK, reduceAdd → zL, reduceLE → zM, reduceLT → zN, natCast_nonneg → zO
open Go.Proofs.YtddbidoaolnegaaGreatDoor renaming evI_plain → ya, evI_guard → yb, evT_rd → yc, evT_rdg → yd, evT_act → ye, evT_actg → yf, evI_done → yg, evT_two → yh, evT_nil → yi, W.seqG → yj, W.block → yk, W.regionI → yl, W.cond → ym, W.skip → yn, W.ret → yo, W.exit → yp, gdD_split → yq, newT_intro → yr, newB_intro → ys, W.draw → yt, St.set_del → yu, St.give_take → yv, AGo.go → yw, IGo.go → yx, TGo.go → yy, Goes.go → yz
attribute [local go_sem] zK zP zQ zH zI zJ zO
attribute [local irreducible] W evI evT evL evOp evBin gdD Sem newT newB fillD bldOf
set_option maxRecDepth 10000
set_option maxHeartbeats 4000000

def LOk (e : En) : Prop := ∀ l ∈ e.levels, lvB l = true
theorem LOk.lvs : ∀ {ls : List Lv} {e : En}, LOk e → (∀ l ∈ ls, lvB l = true) → LOk (e.lvs ls)
  | [], _, h, _ => h
  | a :: ls, e, h, hl => LOk.lvs (e := e.level a) (fun x hx => by
      have hx : x ∈ addU e.levels a := hx
      by_cases hm : a ∈ e.levels
      · rw [addU_mem hm] at hx; exact h x hx
      · rw [addU_new hm] at hx
        rcases List.mem_append.1 hx with hx | hx
        · exact h x hx
        · simp only [List.mem_singleton] at hx; rw [hx]; exact hl a (by simp)) (fun x hx => hl x (by simp [hx]))
theorem LOk.put {e : En} (h : LOk e) {t : Tm} (hn : nodeB t = true) : LOk (e.putT t) := by
  have h1 : LOk (e.nodeN t) := by unfold En.nodeN; split <;> exact h
  have hlv : ∀ l ∈ t.ls, lvB l = true := by have := (NodeB.of hn).lv; rwa [List.all_eq_true] at this
  exact h1.lvs hlv
mutual
theorem LOk.term : ∀ (t : Tm) {e : En}, LOk e → t.all nodeB = true → LOk (termE t e)
  | .mk k n s ls ts, e, h, hA => by
    by_cases hm : Tm.mk k n s ls ts ∈ e.terms
    · rw [termE_old hm]; exact h
    · rw [termE_new hm]
      exact (LOk.kids ts h (fun x hx => all_kid hA hx)).put (all_node hA)
theorem LOk.kids : ∀ (ts : List Tm) {e : En}, LOk e → (∀ x ∈ ts, x.all nodeB = true) → LOk (kidsE ts e)
  | [], _, h, _ => by rw [kidsE]; exact h
  | t :: ts, _, h, hA => by
    rw [kidsE]
    exact LOk.kids ts (LOk.term t h (hA t (by simp))) (fun x hx => hA x (by simp [hx]))
end
theorem LOk.tm {e : En} (h : LOk e) {t : Tm} (ht : termB t = true) : LOk (e.tm t) := LOk.term t h (okT3_all (termB_ok ht).1).1
theorem LOk.nm {e : En} (h : LOk e) (s : List UInt8) : LOk (e.nm s) := h
theorem LOk.num {e : En} (h : LOk e) (n : Nat) : LOk (e.num n) := h
theorem LOk.ctor {e : En} (h : LOk e) {c : Cc} (hc : ctorB c = true) : LOk (ctorE e c) := by
  simp only [ctorB, Bool.and_eq_true] at hc
  exact (h.nm c.name).tm hc.2
theorem LOk.ctors : ∀ {cs : List Cc} {e : En}, LOk e → cs.all ctorB = true → LOk (cs.foldl ctorE e)
  | [], _, h, _ => h
  | c :: cs, e, h, hc => by
    simp only [List.all_cons, Bool.and_eq_true] at hc
    exact LOk.ctors (e := ctorE e c) (h.ctor hc.1) hc.2
theorem LOk.ind {e : En} (h : LOk e) {x : In} (hx : indB x = true) : LOk (indE e x) := by
  simp only [indB, Bool.and_eq_true] at hx
  exact LOk.ctors (((h.nm x.name).tm hx.1.1.2).num _) hx.2
theorem LOk.inds : ∀ {cs : List In} {e : En}, LOk e → cs.all indB = true → LOk (cs.foldl indE e)
  | [], _, h, _ => h
  | c :: cs, e, h, hc => by
    simp only [List.all_cons, Bool.and_eq_true] at hc
    exact LOk.inds (e := indE e c) (h.ind hc.1) hc.2
theorem LOk.decl {e : En} (h : LOk e) {d : De} (hd : declB d = true) : LOk (declE e d) := by
  simp only [declB, Bool.and_eq_true] at hd
  obtain ⟨_, hd⟩ := hd
  have hk : LOk (e.kind d) := h
  unfold declE
  by_cases k4 : d.kind = 4
  · rw [if_pos k4]
    simp only [k4, Nat.reduceEqDiff, reduceIte, or_self, Bool.and_eq_true] at hd
    exact LOk.inds ((hk.num _).num _) hd.2
  · rw [if_neg k4]
    by_cases k1 : d.kind = 1
    · rw [if_pos k1]
      simp only [k1, reduceIte, Bool.and_eq_true] at hd
      exact (hk.nm _).tm hd.1.1.1.2
    · rw [if_neg k1]
      simp only [k1, k4, reduceIte] at hd
      split at hd
      · simp only [Bool.and_eq_true] at hd
        exact ((hk.nm _).tm hd.1.1.1.2).tm hd.1.1.2
      · cases hd
theorem LOk.decls : ∀ {l : List De} {e : En}, LOk e → l.all declB = true → LOk (l.foldl declE e)
  | [], _, h, _ => h
  | c :: cs, e, h, hc => by
    simp only [List.all_cons, Bool.and_eq_true] at hc
    exact LOk.decls (e := declE e c) (h.decl hc.1) hc.2
theorem RX.init {st : St} {r : Nat} : RX r En.z 0 (st.set r (.cells [.sl .nil 0 [], .sl .nil 0 [], .sl .nil 0 [], .sl .nil 0 [], .sl .nil 0 []])) :=
  ⟨fun _ => none, ⟨by rw [St.mem_set, if_pos rfl]; rfl, fun i _ => by rcases i with _ | _ | _ | _ | _ | i <;> rfl, fun _ _ _ h => (by cases h), fun _ _ _ _ _ h => (by cases h)⟩, ⟨by simp [En.z], by simp [En.z]⟩, ⟨by simp [En.z, nmB], by simp [En.z, lvBs], by simp [En.z], by simp [En.z]⟩⟩
end Go.Proofs.YtddbidoaolnegaaGreatDoor
/- Encode, by the reference: the walk. No statement of the seat is proved here; no condition. -/
namespace Go.Proofs.YtddbidoaolnegaaGreatDoor
open Go Go.RowKit
open Nat renaming reduceLT → zA, reduceEqDiff → zB, reduceBEq → zC, reduceAdd → zD, reduceMul → zE, reduceSub → zF, reduceLeDiff → zG, mul_one → zH, zero_add → zI, add_zero → zJ
open Int renaming toNat_natCast → zK, reduceAdd → zL, reduceLE → zM, reduceLT → zN, natCast_nonneg → zO
open Go.Proofs.YtddbidoaolnegaaGreatDoor renaming evI_plain → ya, evI_guard → yb, evT_rd → yc, evT_rdg → yd, evT_act → ye, evT_actg → yf, evI_done → yg, evT_two → yh, evT_nil → yi, W.seqG → yj, W.block → yk, W.regionI → yl, W.cond → ym, W.skip → yn, W.ret → yo, W.exit → yp, gdD_split → yq, newT_intro → yr, newB_intro → ys, W.draw → yt, St.set_del → yu, St.give_take → yv, AGo.go → yw, IGo.go → yx, TGo.go → yy, Goes.go → yz
attribute [local go_sem] zK zP zQ zH zI zJ zO
attribute [local irreducible] W evI evT evL evOp evBin gdD Sem newT newB fillD bldOf
set_option maxRecDepth 10000
set_option maxHeartbeats 4000000

theorem oD_sl2 {o : Option Nat} {z : Nat} {xs : List D} (h : o = none → xs = []) : ∃ ow z', oD o z xs = .sl ow z' xs ∧ (xs = [] ∨ z' = z) := by
  cases o with
  | none => exact ⟨.nil, 0, by rw [h rfl]; rfl, .inl (h rfl)⟩
  | some j => exact ⟨.tok j, z, rfl, .inr rfl⟩

theorem nmB_take (l : List (List UInt8)) (i : Nat) : (nmB (l.take i)).length ≤ (nmB l).length := by
  conv => rhs; rw [← List.take_append_drop i l]
  simp only [nmB, List.flatMap_append, List.length_append]; omega
theorem lvBs_take (l : List Lv) (i : Nat) : (lvBs (l.take i)).length ≤ (lvBs l).length := by
  conv => rhs; rw [← List.take_append_drop i l]
  simp only [lvBs, List.flatMap_append, List.length_append]; omega

theorem sem8 (ow : Own) (l : List De) (hw : ∀ d ∈ l, d.Wf) (hlen : l.length < 140737488355328) (hcost : l.length ≤ 256 → l.all declB = true → (l.map De.cost).sum ≤ 15000) (st : St) (k : D → St → Prop)
    (h4 : 256 < l.length → ∀ st', k (.tup [.sl .nil 0 [], .int .i64 4]) st') (h1 : l.length ≤ 256 → l.all declB = false → ∀ st', k (.tup [.sl .nil 0 [], .int .i64 1]) st')
    (hB : l.length ≤ 256 → l.all declB = true → encBig l → ∀ st', k (.tup [.sl .nil 0 [], .int .i64 4]) st')
    (hk : l.length ≤ 256 → l.all declB = true → ¬ encBig l → ∀ ow st', k (.tup [.sl ow 1 (byD (encBy l)), .int .i64 0]) st') : Sem P 8 [.sl ow 15 (l.map De.d)] st k := by
  by_cases c1 : 256 < l.length
  · have e1 : (256 : Int) < l.length := by omega
    refine Sem.of_body Tryz.call8 Tryz.func8 rfl Tryz.ntmps8 (by simp) ?_
    repeat' first | refine yj fun N hN => ?_ | refine yl [] ?_ | ((first | refine ya rfl rfl fun N hN => ?_ | refine ym ?_ | refine yo ?_); simp only [go_sem, ↓reduceIte, zA, zB, zC, zD, zE, zF, zG, zL, zM, zN, reduceCtorEq, e1, Tryz.results8]) | (refine yg rfl ?_; try simp only [go_sem]) | ((first | refine yx hN _ _ ?_ | refine yz hN _ _ ?_); clear hN N) | clear hN N | fail
    all_goals exact h4 c1 _
  have e1 : ¬ (256 : Int) < l.length := by omega
  have hl256 : l.length ≤ 256 := by omega
  refine Sem.of_body Tryz.call8 Tryz.func8 rfl Tryz.ntmps8 (by simp) ?_
  repeat' first | refine yj fun N hN => ?_ | refine yk ?_ | refine yl [15] ?_ | ((first | refine ya rfl rfl fun N hN => ?_ | refine ym ?_); simp only [go_sem, ↓reduceIte, zA, zB, zC, zD, zE, zF, zG, zL, zM, zN, reduceCtorEq, e1, Tryz.results8]) | ((first | refine yg rfl ?_ | refine yn ?_); try simp only [go_sem]) | ((first | refine yx hN _ _ ?_ | refine yz hN _ _ ?_); clear hN N) | ((refine ys fun r hr => ?_; (try have hrn := (St.set_none hr).1); (try have hrn2 := Ne.symm (St.set_none hr).1)); try simp only [go_sem, ↓reduceIte, zA, zB, zC, zD, zE, zF, zG, zL, zM, zN, reduceCtorEq, e1]) | fail
  have hX0 := RX.init (st := st) (r := r)
  generalize (st.set r (.cells [.sl .nil 0 [], .sl .nil 0 [], .sl .nil 0 [], .sl .nil 0 [], .sl .nil 0 []])) = s0 at *
  refine W.loopN (fun m fr st' => s0 = st' ∧ ∃ i : Nat, i + m = l.length ∧ (∀ j, j < i → declB (l.getD j De.z) = true) ∧ fr 5 = .int .i64 i ∧ fr 4 = .ptr r 0 ∧ fr 0 = .sl ow 15 (l.map De.d)) ?_ l.length _ _ ⟨rfl, 0, by simp, by simp, by simp only [go_sem, ↓reduceIte, zA, zB, zC, zD, zE, zF, zG, zL, zM, zN, reduceCtorEq]; rfl, by simp only [go_sem, ↓reduceIte, zA, zB, zC, zD, zE, zF, zG, zL, zM, zN, reduceCtorEq], by simp only [go_sem, ↓reduceIte, zA, zB, zC, zD, zE, zF, zG, zL, zM, zN, reduceCtorEq]⟩
  rintro m N' ih fr _ ⟨rfl, i, hi, hal, f5, f4, f0⟩
  rcases Nat.lt_or_ge i l.length with hlt | hge
  · have hg : (l.map De.d).getD i .any = (l.getD i De.z).d := getD_map _ _ _ hlt
    have i4 : (i : Int) < l.length := by omega
    have hmx := getD_mem l De.z hlt
    cases hb : declB (l.getD i De.z) with
    | true =>
      repeat' first | refine yj fun N hN => ?_ | refine yk ?_ | refine yl [] ?_ | ((first | refine ya rfl rfl fun N hN => ?_ | refine ym ?_); simp only [go_sem, ↓reduceIte, zA, zB, zC, zD, zE, zF, zG, zL, zM, zN, reduceCtorEq, f5, f4, f0, hg, hlt, i4, hb, Tryz.results8]) | ((first | refine yg rfl ?_ | refine yn ?_); try simp only [go_sem]) | ((first | refine yx hN _ _ ?_ | refine yz hN _ _ ?_); clear hN N) | (refine sem10 _ (hw _ hmx) _ _ ?_; try simp only [go_sem, ↓reduceIte, zA, zB, zC, zD, zE, zF, zG, zL, zM, zN, reduceCtorEq, f5, f4, f0, hg, hlt, i4, hb]) | (refine And.intro ?_ ?_; · omega) | clear hN N | fail
      refine ih.back (m - 1) (by omega) _ _ ⟨rfl, i + 1, by omega, lt_succ_all hal hb, ?_, ?_, ?_⟩
      · simp only [go_sem, ↓reduceIte, zA, zB, zC, zD, zE, zF, zG, zL, zM, zN, reduceCtorEq]; rfl
      · simp only [go_sem, ↓reduceIte, zA, zB, zC, zD, zE, zF, zG, zL, zM, zN, reduceCtorEq, f4]
      · simp only [go_sem, ↓reduceIte, zA, zB, zC, zD, zE, zF, zG, zL, zM, zN, reduceCtorEq, f0]
    | false =>
      have hbad := all_badG De.z hlt hb
      repeat' first | refine yj fun N hN => ?_ | refine yk ?_ | refine yl [] ?_ | ((first | refine ya rfl rfl fun N hN => ?_ | refine ym ?_ | refine yo ?_); simp only [go_sem, ↓reduceIte, zA, zB, zC, zD, zE, zF, zG, zL, zM, zN, reduceCtorEq, f5, f4, f0, hg, hlt, i4, hb, Tryz.results8]) | ((first | refine yg rfl ?_ | refine yn ?_); try simp only [go_sem]) | ((first | refine yx hN _ _ ?_ | refine yz hN _ _ ?_); clear hN N) | (refine sem10 _ (hw _ hmx) _ _ ?_; try simp only [go_sem, ↓reduceIte, zA, zB, zC, zD, zE, zF, zG, zL, zM, zN, reduceCtorEq, f5, f4, f0, hg, hlt, i4, hb]) | clear hN N | fail
      all_goals exact h1 hl256 hbad _
  · have i4 : ¬ (i : Int) < l.length := by omega
    have hall := all_goodG De.z (q := declB) (fun j hj => hal j (by omega))
    have hc := hcost hl256 hall
    replace hB := hB hl256 hall
    replace hk := hk hl256 hall
    clear hcost h1 h4 hal
    repeat' first | refine yj fun N hN => ?_ | refine yk ?_ | refine yl [] ?_ | ((first | refine ya rfl rfl fun N hN => ?_ | refine ym ?_ | refine yp ?_); simp only [go_sem, ↓reduceIte, zA, zB, zC, zD, zE, zF, zG, zL, zM, zN, reduceCtorEq, f5, f4, f0, i4, Tryz.results8]) | (refine yg rfl ?_; try simp only [go_sem]) | ((first | refine yx hN _ _ ?_ | refine yz hN _ _ ?_); clear hN N) | clear hN N | fail
    refine W.loopN (fun m fr st' => ∃ i : Nat, RX r ((l.take i).foldl declE En.z) ((l.take i).map De.cost).sum st' ∧ i + m = l.length ∧ fr 6 = .int .i64 i ∧ fr 4 = .ptr r 0 ∧ fr 0 = .sl ow 15 (l.map De.d)) ?_ l.length _ _
      ⟨0, hX0, by simp, by simp only [go_sem, ↓reduceIte, zA, zB, zC, zD, zE, zF, zG, zL, zM, zN, reduceCtorEq]; rfl, by simp only [go_sem, ↓reduceIte, zA, zB, zC, zD, zE, zF, zG, zL, zM, zN, reduceCtorEq, f4], by simp only [go_sem, ↓reduceIte, zA, zB, zC, zD, zE, zF, zG, zL, zM, zN, reduceCtorEq, f0]⟩
    clear f5 f4 f0 i4 hi hge ih hX0
    rintro m N' ih fr st' ⟨i, hX, hi, f6, f4, f0⟩
    rcases Nat.lt_or_ge i l.length with hlt | hge
    · have hg : (l.map De.d).getD i .any = (l.getD i De.z).d := getD_map _ _ _ hlt
      have i4 : (i : Int) < l.length := by omega
      have hmx := getD_mem l De.z hlt
      have hcs := map_sum_take De.cost l De.z hlt
      have hfold := foldl_take declE En.z l De.z hlt
      have hdb : declB (l.getD i De.z) = true := by rw [List.all_eq_true] at hall; exact hall _ hmx
      repeat' first | refine yj fun N hN => ?_ | refine yk ?_ | refine yl [] ?_ | ((first | refine ya rfl rfl fun N hN => ?_ | refine ym ?_); simp only [go_sem, ↓reduceIte, zA, zB, zC, zD, zE, zF, zG, zL, zM, zN, reduceCtorEq, f6, f4, f0, hg, hlt, i4, Tryz.results8]) | ((first | refine yg rfl ?_ | refine yn ?_); try simp only [go_sem]) | ((first | refine yx hN _ _ ?_ | refine yz hN _ _ ?_); clear hN N) | (refine sem20 _ (hw _ hmx) hdb _ _ _ _ hX (by omega) _ (fun st' hX => ?_); try simp only [go_sem, ↓reduceIte, zA, zB, zC, zD, zE, zF, zG, zL, zM, zN, reduceCtorEq, f6, f4, f0, hg, hlt, i4]) | (refine And.intro ?_ ?_; · omega) | clear hN N | fail
      refine ih.back (m - 1) (by omega) _ _ ⟨i + 1, by rw [hfold, hcs.1]; exact hX, by omega, ?_, ?_, ?_⟩
      · simp only [go_sem, ↓reduceIte, zA, zB, zC, zD, zE, zF, zG, zL, zM, zN, reduceCtorEq]; rfl
      · simp only [go_sem, ↓reduceIte, zA, zB, zC, zD, zE, zF, zG, zL, zM, zN, reduceCtorEq, f4]
      · simp only [go_sem, ↓reduceIte, zA, zB, zC, zD, zE, zF, zG, zL, zM, zN, reduceCtorEq, f0]
    · have i4 : ¬ (i : Int) < l.length := by omega
      rw [List.take_of_length_le hge] at hX
      have hL : LOk (l.foldl declE En.z) := LOk.decls (fun _ h => by simp [En.z] at h) hall
      obtain ⟨c, hS, hE, hz⟩ := hX
      have hw0 := hS.w
      rw [rCells] at hw0
      have zn := hz.nm
      have zl := hz.l
      have zt := hz.t
      have zd := hz.d
      generalize hEE : List.foldl declE En.z l = e at *
      have hE2 : encE l = e := hEE
      have wn := wrap_u64 (n := e.names.length) (by omega)
      have wl := wrap_u64 (n := e.levels.length) (by omega)
      have wt := wrap_u64 (n := e.terms.length) (by omega)
      have ww := wrap_u64 (n := l.length) (by omega)
      have nn := num_len64 (n := e.names.length) (by omega)
      have nl := num_len64 (n := e.levels.length) (by omega)
      have nt := num_len64 (n := e.terms.length) (by omega)
      have nw := num_len64 (n := l.length) (by omega)
      have hap : ∀ a b : List UInt8, byD a ++ byD b = byD (a ++ b) := fun a b => (byD_append a b).symm
      have hd4 : [D.int .u8 66, D.int .u8 84, D.int .u8 78, D.int .u8 49] = byD [66, 84, 78, 49] := rfl
      obtain ⟨o0, z0, q0, y0⟩ := oD_sl2 (z := 1) (xs := e.names.map .str) (hS.z 0)
      obtain ⟨o1, z1, q1, y1⟩ := oD_sl2 (z := 5) (xs := e.levels.map Lv.d) (hS.z 1)
      obtain ⟨o2, z2, q2, _⟩ := oD_sl2 (z := 5) (xs := e.terms.map Tm.d) (hS.z 2)
      obtain ⟨o3, z3, q3, _⟩ := oD_sl2 (z := 1) (xs := byD e.tb) (hS.z 3)
      obtain ⟨o4, z4, q4, _⟩ := oD_sl2 (z := 1) (xs := byD e.db) (hS.z 4)
      rw [q0, q1, q2, q3, q4] at hw0
      rw [encBig, encBy, hE2] at hB hk
      clear hS q0 q1 q2 q3 q4
      obtain ⟨H, hH⟩ : ∃ H : List UInt8, H = [66, 84, 78, 49] ++ num e.names.length := ⟨_, rfl⟩
      have hHl : H.length ≤ 14 := by rw [hH]; simp only [List.length_append, List.length_cons, List.length_nil]; omega
      repeat' first | refine yj fun N hN => ?_ | refine yk ?_ | refine yl [40] ?_ | ((first | refine ya rfl rfl fun N hN => ?_ | refine ym ?_ | refine yp ?_); simp only [go_sem, ↓reduceIte, zA, zB, zC, zD, zE, zF, zG, zL, zM, zN, reduceCtorEq, f6, f4, f0, i4, hw0, wn, hd4, Tryz.results8]) | (refine yg rfl ?_; try simp only [go_sem]) | ((first | refine yx hN _ _ ?_ | refine yz hN _ _ ?_); clear hN N) | (refine sem21 _ _ _ _ _ _ (by simp) (by omega) fun j hj => ?_; try simp only [go_sem, ↓reduceIte, zA, zB, zC, zD, zE, zF, zG, zL, zM, zN, reduceCtorEq, f6, f4, f0, i4, hw0, wn, hd4]) | ((refine yr fun j hj => ?_; (try have hj0 := St.tok_of_give hj)); try simp only [go_sem, ↓reduceIte, zA, zB, zC, zD, zE, zF, zG, zL, zM, zN, reduceCtorEq, f6, f4, f0, i4, hw0, wn, hd4]) | clear hN N | fail
      refine W.loopN (fun m fr s => s.mem r = some (.cells [.sl o0 z0 (e.names.map .str), .sl o1 z1 (e.levels.map Lv.d), .sl o2 z2 (e.terms.map Tm.d), .sl o3 z3 (byD e.tb), .sl o4 z4 (byD e.db)]) ∧ ∃ (i : Nat) (ow2 : Own) (z2 : Nat), i + m = e.names.length ∧ fr 8 = .int .i64 i ∧
        fr 7 = .sl ow2 z2 (byD (H ++ nmB (e.names.take i))) ∧ fr 4 = .ptr r 0 ∧ fr 0 = .sl ow 15 (l.map De.d)) ?_ e.names.length _ _
        ⟨by simp only [St.mem_give]; exact hw0, 0, .tok j, 1, by simp, by simp only [go_sem, ↓reduceIte, zA, zB, zC, zD, zE, zF, zG, zL, zM, zN, reduceCtorEq]; rfl, by simp only [go_sem, ↓reduceIte, zA, zB, zC, zD, zE, zF, zG, zL, zM, zN, reduceCtorEq]; simp [nmB, hH], by simp only [go_sem, ↓reduceIte, zA, zB, zC, zD, zE, zF, zG, zL, zM, zN, reduceCtorEq, f4], by simp only [go_sem, ↓reduceIte, zA, zB, zC, zD, zE, zF, zG, zL, zM, zN, reduceCtorEq, f0]⟩
      clear f6 f4 f0 i4 hi hge ih hw0
      rintro m N' ih fr s ⟨hw0, i, ow2, zz2, hi, f8, f7, f4, f0⟩
      rcases Nat.lt_or_ge i e.names.length with hlt | hge
      · have hg : (e.names.map D.str).getD i .any = .str (e.names.getD i []) := getD_map _ _ _ hlt
        have i4 : (i : Int) < e.names.length := by omega
        have hz1' : z0 = 1 := by
          rcases y0 with h | h
          · exact absurd h (map_ne hlt)
          · exact h
        have hmx := getD_mem e.names [] hlt
        have hnb := hE.names _ hmx
        have hnl := nameB_len hnb
        have htk := take_succ_getD e.names [] hlt
        have hbt := nmB_take e.names i
        have hbb : (H ++ nmB (e.names.take i)).length < 100000000 := by rw [List.length_append]; omega
        repeat' first | refine yj fun N hN => ?_ | refine yk ?_ | refine yl [] ?_ | ((first | refine ya rfl rfl fun N hN => ?_ | refine ym ?_); simp only [go_sem, ↓reduceIte, zA, zB, zC, zD, zE, zF, zG, zL, zM, zN, reduceCtorEq, f8, f7, f4, f0, hw0, hg, hlt, i4, hz1', Tryz.results8]) | ((first | refine yg rfl ?_ | refine yn ?_); try simp only [go_sem]) | ((first | refine yx hN _ _ ?_ | refine yz hN _ _ ?_); clear hN N) | (refine sem22 _ _ _ _ _ _ hbb (by omega) (fun h => by rw [hnb] at h; cases h) (fun j _ hj => ?_); try simp only [go_sem, ↓reduceIte, zA, zB, zC, zD, zE, zF, zG, zL, zM, zN, reduceCtorEq, f8, f7, f4, f0, hw0, hg, hlt, i4, hz1']) | (refine And.intro ?_ ?_; · omega) | clear hN N | fail
        refine ih.back (m - 1) (by omega) _ _ ⟨by rw [St.mem_give]; rw [hz1'] at hw0 ⊢; exact hw0, i + 1, .tok j, 1, by omega, ?_, ?_, ?_, ?_⟩
        · simp only [go_sem, ↓reduceIte, zA, zB, zC, zD, zE, zF, zG, zL, zM, zN, reduceCtorEq]; rfl
        · simp only [go_sem, ↓reduceIte, zA, zB, zC, zD, zE, zF, zG, zL, zM, zN, reduceCtorEq]
          rw [htk]
          simp [nmB, List.flatMap_append]
        · simp only [go_sem, ↓reduceIte, zA, zB, zC, zD, zE, zF, zG, zL, zM, zN, reduceCtorEq, f4]
        · simp only [go_sem, ↓reduceIte, zA, zB, zC, zD, zE, zF, zG, zL, zM, zN, reduceCtorEq, f0]
      · have i4 : ¬ (i : Int) < e.names.length := by omega
        rw [List.take_of_length_le hge] at f7
        repeat' first | refine yj fun N hN => ?_ | refine yk ?_ | refine yl [] ?_ | ((first | refine ya rfl rfl fun N hN => ?_ | refine ym ?_ | refine yp ?_); simp only [go_sem, ↓reduceIte, zA, zB, zC, zD, zE, zF, zG, zL, zM, zN, reduceCtorEq, f8, f7, f4, f0, hw0, i4, wl, Tryz.results8]) | (refine yg rfl ?_; try simp only [go_sem]) | ((first | refine yx hN _ _ ?_ | refine yz hN _ _ ?_); clear hN N) | (refine sem21 _ _ _ _ _ _ (by rw [List.length_append]; omega) (by omega) fun j hj => ?_; try simp only [go_sem, ↓reduceIte, zA, zB, zC, zD, zE, zF, zG, zL, zM, zN, reduceCtorEq, f8, f7, f4, f0, hw0, i4, wl]) | clear hN N | fail
        refine W.loopN (fun m fr s => s.mem r = some (.cells [.sl o0 z0 (e.names.map .str), .sl o1 z1 (e.levels.map Lv.d), .sl o2 z2 (e.terms.map Tm.d), .sl o3 z3 (byD e.tb), .sl o4 z4 (byD e.db)]) ∧ ∃ (i : Nat) (ow2 : Own) (z2 : Nat), i + m = e.levels.length ∧ fr 9 = .int .i64 i ∧
          fr 7 = .sl ow2 z2 (byD (H ++ nmB e.names ++ num e.levels.length ++ lvBs (e.levels.take i))) ∧ fr 4 = .ptr r 0 ∧ fr 0 = .sl ow 15 (l.map De.d)) ?_ e.levels.length _ _
          ⟨by simp only [St.mem_give]; exact hw0, 0, .tok j, 1, by simp, by simp only [go_sem, ↓reduceIte, zA, zB, zC, zD, zE, zF, zG, zL, zM, zN, reduceCtorEq]; rfl, by simp only [go_sem, ↓reduceIte, zA, zB, zC, zD, zE, zF, zG, zL, zM, zN, reduceCtorEq]; simp [lvBs], by simp only [go_sem, ↓reduceIte, zA, zB, zC, zD, zE, zF, zG, zL, zM, zN, reduceCtorEq, f4], by simp only [go_sem, ↓reduceIte, zA, zB, zC, zD, zE, zF, zG, zL, zM, zN, reduceCtorEq, f0]⟩
        clear f8 f7 f4 f0 i4 hi hge ih hw0
        rintro m N' ih fr s ⟨hw0, i, ow2, zz2, hi, f9, f7, f4, f0⟩
        have hnm : (nmB e.names).length ≤ 1000000 := by omega
        rcases Nat.lt_or_ge i e.levels.length with hlt | hge
        · have hz1' : z1 = 5 := by
            rcases y1 with h | h
            · exact absurd h (map_ne hlt)
            · exact h
          have hmx := getD_mem e.levels Lv.z hlt
          have htk := take_succ_getD e.levels Lv.z hlt
          have hbt := lvBs_take e.levels i
          have i4 : (i : Int) < e.levels.length := by omega
          obtain ⟨l1, l2, l3⟩ := wf_of_lvB (hL _ hmx)
          have hg : (e.levels.map Lv.d).getD i .any = .agg (.int .i64 (e.levels.getD i Lv.z).c :: (e.levels.getD i Lv.z).p.map (.int .i64)) := getD_map _ _ _ hlt
          generalize e.levels.getD i Lv.z = x at *
          have hn := x.n
          have hcw := wrap_u64i l1.1 (by omega)
          obtain ⟨B, hBB⟩ : ∃ B : List UInt8, B = H ++ nmB e.names ++ num e.levels.length ++ lvBs (e.levels.take i) := ⟨_, rfl⟩
          rw [← hBB] at f7
          have hBl : B.length ≤ 20000000 := by rw [hBB]; simp only [List.length_append]; omega
          have hlc := num_len64 (n := x.c.toNat) (by omega)
          repeat' first | refine yj fun N hN => ?_ | refine yk ?_ | refine yl [] ?_ | ((first | refine ya rfl rfl fun N hN => ?_ | refine ym ?_); simp only [go_sem, ↓reduceIte, zA, zB, zC, zD, zE, zF, zG, zL, zM, zN, reduceCtorEq, f9, f7, f4, f0, hw0, hg, hlt, i4, hz1', hcw, hn, Tryz.results8]) | ((first | refine yg rfl ?_ | refine yn ?_); try simp only [go_sem]) | ((first | refine yx hN _ _ ?_ | refine yz hN _ _ ?_); clear hN N) | (refine sem21 _ _ _ _ _ _ (by omega) (by omega) fun j hj => ?_; try simp only [go_sem, ↓reduceIte, zA, zB, zC, zD, zE, zF, zG, zL, zM, zN, reduceCtorEq, f9, f7, f4, f0, hw0, hg, hlt, i4, hz1', hcw, hn]) | fail
          refine W.loopN (fun m fr s => s.mem r = some (.cells [.sl o0 z0 (e.names.map .str), .sl o1 z1 (e.levels.map Lv.d), .sl o2 z2 (e.terms.map Tm.d), .sl o3 z3 (byD e.tb), .sl o4 z4 (byD e.db)]) ∧ ∃ (q : Nat) (ow2 : Own) (z2 : Nat), q + m = 4 ∧ fr 10 = .int .i64 q ∧ ((x.p.take q).flatMap fun n => num (n + 1).toNat).length ≤ 10 * q ∧
            fr 7 = .sl ow2 z2 (byD (B ++ num x.c.toNat ++ (x.p.take q).flatMap fun n => num (n + 1).toNat)) ∧ fr 9 = .int .i64 i ∧ fr 4 = .ptr r 0 ∧ fr 0 = .sl ow 15 (l.map De.d)) ?_ 4 _ _
            ⟨by simp only [St.mem_give]; rw [hz1']; rw [hz1'] at hw0; exact hw0, 0, .tok j, 1, by simp, by simp only [go_sem, ↓reduceIte, zA, zB, zC, zD, zE, zF, zG, zL, zM, zN, reduceCtorEq]; rfl, by simp, by simp only [go_sem, ↓reduceIte, zA, zB, zC, zD, zE, zF, zG, zL, zM, zN, reduceCtorEq]; simp, by simp only [go_sem, ↓reduceIte, zA, zB, zC, zD, zE, zF, zG, zL, zM, zN, reduceCtorEq, f9], by simp only [go_sem, ↓reduceIte, zA, zB, zC, zD, zE, zF, zG, zL, zM, zN, reduceCtorEq, f4], by simp only [go_sem, ↓reduceIte, zA, zB, zC, zD, zE, zF, zG, zL, zM, zN, reduceCtorEq, f0]⟩
          clear f9 f7 f4 f0 hw0
          rintro m2 N2 ih2 fr s2 ⟨hw0, q, ow3, zz3, hq, f10, hbl, f7, f9, f4, f0⟩
          rcases Nat.lt_or_ge q 4 with hlq | hgq
          · have hgg : (D.int .i64 x.c :: x.p.map (D.int .i64)).getD (1 + q) .any = .int .i64 (x.p.getD q 0) := by
              rw [Nat.add_comm, List.getD_cons_succ]; exact getD_map _ _ 0 (by omega)
            have hlen5 : 1 + q < 5 := by omega
            have q4 : (q : Int) < 4 := by omega
            have hpq := l2 q hlq
            have hwq := wrap_u64i (n := x.p.getD q 0 + 1) (by omega) (by omega)
            have hnq := num_len64 (n := (x.p.getD q 0 + 1).toNat) (by omega)
            have htq := take_succ_getD x.p 0 (i := q) (by omega)
            repeat' first | refine yj fun N hN => ?_ | refine yk ?_ | refine yl [] ?_ | ((first | refine ya rfl rfl fun N hN => ?_ | refine ym ?_); simp only [go_sem, ↓reduceIte, zA, zB, zC, zD, zE, zF, zG, zL, zM, zN, reduceCtorEq, f10, f9, f7, f4, f0, hw0, hg, hlt, i4, hz1', hn, hgg, hlq, hlen5, q4, hwq, Tryz.results8]) | ((first | refine yg rfl ?_ | refine yn ?_); try simp only [go_sem]) | ((first | refine yx hN _ _ ?_ | refine yz hN _ _ ?_); clear hN N) | (refine sem21 _ _ _ _ _ _ (by simp only [List.length_append]; omega) (by omega) fun j hj => ?_; try simp only [go_sem, ↓reduceIte, zA, zB, zC, zD, zE, zF, zG, zL, zM, zN, reduceCtorEq, f10, f9, f7, f4, f0, hw0, hg, hlt, i4, hz1', hn, hgg, hlq, hlen5, q4, hwq]) | (refine And.intro ?_ ?_; · omega) | clear hN N | fail
            refine ih2.back (m2 - 1) (by omega) _ _ ⟨by simp only [St.mem_give]; rw [hz1']; rw [hz1'] at hw0; exact hw0, q + 1, .tok j, 1, by omega, ?_, ?_, ?_, ?_, ?_, ?_⟩
            · simp only [go_sem, ↓reduceIte, zA, zB, zC, zD, zE, zF, zG, zL, zM, zN, reduceCtorEq]; rfl
            · rw [htq, List.flatMap_append, List.length_append]
              simp only [List.flatMap_cons, List.flatMap_nil, List.append_nil]
              omega
            · simp only [go_sem, ↓reduceIte, zA, zB, zC, zD, zE, zF, zG, zL, zM, zN, reduceCtorEq]
              rw [htq, List.flatMap_append, ← List.append_assoc]
              simp only [List.flatMap_cons, List.flatMap_nil, List.append_nil]
            · simp only [go_sem, ↓reduceIte, zA, zB, zC, zD, zE, zF, zG, zL, zM, zN, reduceCtorEq, f9]
            · simp only [go_sem, ↓reduceIte, zA, zB, zC, zD, zE, zF, zG, zL, zM, zN, reduceCtorEq, f4]
            · simp only [go_sem, ↓reduceIte, zA, zB, zC, zD, zE, zF, zG, zL, zM, zN, reduceCtorEq, f0]
          · have q4 : ¬ (q : Int) < 4 := by omega
            rw [List.take_of_length_le (by omega)] at f7
            repeat' first | refine yj fun N hN => ?_ | refine yl [] ?_ | ((first | refine ya rfl rfl fun N hN => ?_ | refine ym ?_ | refine yp ?_); simp only [go_sem, ↓reduceIte, zA, zB, zC, zD, zE, zF, zG, zL, zM, zN, reduceCtorEq, f10, f9, f7, f4, f0, q4, Tryz.results8]) | (refine yg rfl ?_; try simp only [go_sem]) | ((first | refine yx hN _ _ ?_ | refine yz hN _ _ ?_); clear hN N) | (refine And.intro ?_ ?_; · omega) | clear hN N | fail
            refine ih.back (m - 1) (by omega) _ _ ⟨hw0, i + 1, ow3, zz3, by omega, ?_, ?_, ?_, ?_⟩
            · simp only [go_sem, ↓reduceIte, zA, zB, zC, zD, zE, zF, zG, zL, zM, zN, reduceCtorEq]; rfl
            · simp only [go_sem, ↓reduceIte, zA, zB, zC, zD, zE, zF, zG, zL, zM, zN, reduceCtorEq, f7]
              rw [hBB, htk]
              simp [lvBs, lvNum, List.flatMap_append]
            · simp only [go_sem, ↓reduceIte, zA, zB, zC, zD, zE, zF, zG, zL, zM, zN, reduceCtorEq, f4]
            · simp only [go_sem, ↓reduceIte, zA, zB, zC, zD, zE, zF, zG, zL, zM, zN, reduceCtorEq, f0]
        · have i4 : ¬ (i : Int) < e.levels.length := by omega
          rw [List.take_of_length_le hge] at f7
          rw [← hH] at hB hk
          have hn1 : (lvBs e.levels).length ≤ 4000000 := by omega
          have hn2 : e.tb.length ≤ 2000000 := by omega
          have hn3 : e.db.length ≤ 1000000 := by omega
          repeat' first | refine yj fun N hN => ?_ | refine yl [] ?_ | ((first | refine ya rfl rfl fun N hN => ?_ | refine yb rfl rfl rfl rfl fun N hN => ?_ | refine yc rfl rfl fun N hN => ?_ | refine ye rfl rfl fun N hN => ?_ | (refine yw hN _ _ ?_; clear hN N) | refine ym ?_ | refine yo ?_ | refine yp ?_); simp only [go_sem, ↓reduceIte, zA, zB, zC, zD, zE, zF, zG, zL, zM, zN, reduceCtorEq, f9, f7, f4, f0, hw0, i4, wt, ww, hap, Tryz.results8]) | ((first | refine yg rfl ?_ | refine yn ?_ | refine yi ?_); try simp only [go_sem]) | ((first | refine yx hN _ _ ?_ | refine yz hN _ _ ?_ | refine yy hN _ ?_); clear hN N) | refine yt (id := 27) mixed [] (.rd 0 (.rd 1 (.rd 2 (.rd 3 (.rd 4 (.rd 5 (.rd 6 (.rd 8 (.rd 9 (.rd 10 (.rd 11 (.act 7 [11, 10, 9, 8] (.act 12 [] (.act 13 [] (.nil))))))))))))))) (by kernel_rfl) ?_ | refine yt (id := 28) mixed [] (.rd 0 (.rd 1 (.rd 2 (.rd 3 (.rd 5 (.rd 6 (.rd 7 (.rd 8 (.act 4 [8, 7, 6, 5] (.act 9 [] (.act 10 [] (.nil)))))))))))) (by kernel_rfl) ?_ | (refine sem21 _ _ _ _ _ _ (by simp only [List.length_append]; omega) (by omega) fun j hj => ?_; try simp only [go_sem, ↓reduceIte, zA, zB, zC, zD, zE, zF, zG, zL, zM, zN, reduceCtorEq, f9, f7, f4, f0, hw0, i4, wt, ww, hap]) | rw [yv hj] | ((first | refine yq (fun h => ?_) (fun h => ?_) | (apply And.intro <;> intro h)) <;> (try simp only [zS, zT, zU, zV, Bool.not_true, Bool.not_false] at h) <;> (first | (exfalso; omega) | simp only [go_sem, ↓reduceIte, zA, zB, zC, zD, zE, zF, zG, zL, zM, zN, reduceCtorEq, f9, f7, f4, f0, hw0, i4, wt, ww, hap, h] | skip)) | ((refine yr fun j hj => ?_; (try have hj0 := St.tok_of_give hj)); try simp only [go_sem, ↓reduceIte, zA, zB, zC, zD, zE, zF, zG, zL, zM, zN, reduceCtorEq, f9, f7, f4, f0, hw0, i4, wt, ww, hap]) | (refine And.intro ?_ ?_; · omega) | clear hN N | fail
          all_goals first
            | exact hB (.inl (by omega)) _
            | exact hB (.inr (.inl (by omega))) _
            | exact hB (.inr (.inr (.inl (by omega)))) _
            | (refine hB (.inr (.inr (.inr ?_))) _; simp only [List.length_append] at h ⊢; omega)
            | (refine hk ?_ _ _
               rintro (q | q | q | q)
               · omega
               · omega
               · omega
               · simp only [List.length_append] at h q; omega)
end Go.Proofs.YtddbidoaolnegaaGreatDoor
