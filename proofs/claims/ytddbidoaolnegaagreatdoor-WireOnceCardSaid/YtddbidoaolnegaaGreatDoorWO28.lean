/-
PART OF A CLAIM: RQ, RS, RU. No statement of the seat is proved here; no condition. -/
import Derived.Test.YtddbidoaolnegaaGreatDoorWO9
import Derived.Test.YtddbidoaolnegaaGreatDoorWO26
import Derived.Test.YtddbidoaolnegaaGreatDoorWO27
set_option linter.all false
/- Declarations of the file's, read: their types and constructors: the walks. No statement of the seat is proved here; no condition. -/
namespace Go.Proofs.YtddbidoaolnegaaGreatDoor
open Go Go.RowKit
open Nat renaming reduceLT → zA, reduceEqDiff → zB, reduceBEq → zC, reduceAdd → zD, reduceMul → zE, reduceSub → zF, reduceLeDiff → zG, mul_one → zH, zero_add → zI, add_zero → zJ
open Int renaming toNat_natCast → zK, reduceAdd → zL, reduceLE → zM, reduceLT → zN, natCast_nonneg → zO
open Go.Proofs.YtddbidoaolnegaaGreatDoor renaming evI_plain → ya, evI_guard → yb, evT_rd → yc, evT_rdg → yd, evT_act → ye, evT_actg → yf, evI_done → yg, evT_two → yh, evT_nil → yi, W.seqG → yj, W.block → yk, W.regionI → yl, W.cond → ym, W.skip → yn, W.ret → yo, W.exit → yp, gdD_split → yq, newT_intro → yr, newB_intro → ys, W.draw → yt, St.set_del → yu, St.give_take → yv, AGo.go → yw, IGo.go → yx, TGo.go → yy, Goes.go → yz
attribute [local go_sem] zK zP zQ zH zI zJ zO
attribute [local irreducible] W evI evT evL evOp evBin gdD Sem newT newB fillD bldOf
set_option maxRecDepth 10000
set_option maxHeartbeats 4000000

/-! What numbers tell of a declaration, by the tables of names and terms. -/
def RefN (N : List (List UInt8)) (i : Nat) (s : List UInt8) : Prop := i < N.length ∧ N.getD i [] = s
def RefT (T : List Tm) (i : Nat) (t : Tm) : Prop := i < T.length ∧ T.getD i Tm.z = t
def CtsN (N : List (List UInt8)) (T : List Tm) : List Cc → List Nat → Prop
  | [], ns => ns = []
  | c :: cs, ns => ∃ i j r, ns = i :: j :: r ∧ RefN N i c.name ∧ RefT T j c.ty ∧ CtsN N T cs r
def IndN (N : List (List UInt8)) (T : List Tm) (x : In) (ns : List Nat) : Prop := ∃ i j r, ns = i :: j :: x.cs.length :: r ∧ RefN N i x.name ∧ RefT T j x.ty ∧ CtsN N T x.cs r
def IndsN (N : List (List UInt8)) (T : List Tm) : List In → List Nat → Prop
  | [], ns => ns = []
  | x :: xs, ns => ∃ a b, ns = a ++ b ∧ IndN N T x a ∧ IndsN N T xs b
def DecN (N : List (List UInt8)) (T : List Tm) (d : De) (ns : List Nat) : Prop := ∃ r, ns = d.params.toNat :: r ∧
  (if d.kind = 4 then ∃ r2, r = d.fixed.toNat :: d.inds.length :: r2 ∧ IndsN N T d.inds r2 else ∃ i j, RefN N i d.name ∧ RefT T j d.ty ∧ (if d.kind = 1 then r = [i, j] else ∃ l, RefT T l d.val ∧ r = [i, j, l]))

theorem nums_app (a b : List Nat) : nums (a ++ b) = nums a ++ nums b := by simp [nums]
theorem num_at {bs rest : List UInt8} {a n : Nat} (h : bs.drop a = num n ++ rest) (hn : n < 18446744073709551616) (hl : bs.length < 1000000000) : NumAt bs a n (num n).length ∧ bs.drop (a + (num n).length) = rest :=
  ⟨.of_num h hn hl, drop_past h⟩

section
variable {bs : List UInt8} {a n m : Nat} {b s : Int} {p q : Nat} {c1 c2 c3 : D} {st : St} {k : D → St → Prop} {N0 : List (List UInt8)} {T0 : List Tm} {ow1 ow3 : Own}

theorem RefN.at {i : Nat} {x : List UInt8} (h : RefN N0 i x) : i < (N0.map D.str).length ∧ (N0.map D.str).getD i .any = .str x :=
  ⟨by rw [List.length_map]; exact h.1, by rw [getD_map _ _ [] h.1, h.2]⟩
theorem RefT.at {i : Nat} {x : Tm} (h : RefT T0 i x) : i < (T0.map szD).length ∧ (T0.map szD).getD i .any = .agg [.int .u8 x.k, .int .i64 x.n, .str x.s, .sl .frozen 5 (x.ls.map Lv.d), .sl .frozen 5 (x.ts.map Tm.d), .int .i64 x.size, .int .i64 x.deep] :=
  ⟨by rw [List.length_map]; exact h.1, by rw [getD_map _ _ Tm.z h.1, h.2]; rfl⟩

theorem sem105 {c : Cc} {iN iT : Nat} {rest : List UInt8} (hd : bs.drop a = num iN ++ (num iT ++ rest)) (hi : RefN N0 iN c.name) (hj : RefT T0 iT c.ty) (hl : bs.length < 1000000000) (hN0 : N0.length < 1000000000) (hT0 : T0.length < 1000000000) {r1 r2 : Nat} (h1 : st.mem r1 = some (.cells [.ptr p 0])) {x0 x1 x2 x3 x4 x5 : D} {o : Option Nat} {cs : List D}
    (h2 : st.mem r2 = some (.cells [x0, x1, x2, x3, x4, x5, tabD o 6 cs])) (ho : Tab o cs st) (hcs : cs.length < 1000) (hp : st.mem p = some (.cells [.ptr q 0, .sl ow1 1 (N0.map .str), c2, .sl ow3 7 (T0.map szD)])) (hq : st.mem q = some (.cells (rdC bs a 0 s)))
    (hk : ∀ jt st', st'.mem r2 = some (.cells [x0, x1, x2, x3, x4, x5, tabD (some jt) 6 (cs ++ [c.d])]) → st'.mem q = some (.cells (rdC bs (a + (num iN).length + (num iT).length : Nat) 0 s)) → Stp (fun x => x = r2 ∨ x = q) o jt st st' → k (.tup []) st') : Sem P 105 [.ptr r1 0, .ptr r2 0] st k := by
  have hpq := rd_ne hp hq
  have n1q : r1 ≠ q ∧ q ≠ r1 := by
    have : r1 ≠ q := fun e => by rw [e, hq] at h1; simp [rdC] at h1
    exact ⟨this, this.symm⟩
  have n1p : r1 ≠ p ∧ p ≠ r1 := by
    have : r1 ≠ p := fun e => by rw [e, hp] at h1; simp at h1
    exact ⟨this, this.symm⟩
  have n2q : r2 ≠ q ∧ q ≠ r2 := by
    have : r2 ≠ q := fun e => by rw [e, hq] at h2; simp [rdC] at h2
    exact ⟨this, this.symm⟩
  have n2p : r2 ≠ p ∧ p ≠ r2 := by
    have : r2 ≠ p := fun e => by rw [e, hp] at h2; simp at h2
    exact ⟨this, this.symm⟩
  have n12 : r1 ≠ r2 ∧ r2 ≠ r1 := by
    have : r1 ≠ r2 := fun e => by rw [e, h2] at h1; simp at h1
    exact ⟨this, this.symm⟩
  obtain ⟨hn1, hd1⟩ := num_at hd (by have := hi.1; omega) hl
  obtain ⟨hn2, hd2⟩ := num_at hd1 (by have := hj.1; omega) hl
  obtain ⟨g1, g2⟩ := hi.at
  obtain ⟨g3, g4⟩ := hj.at
  have nb : True := trivial
  cases o with
  | none =>
    obtain rfl := ho.n rfl
    simp only [tabD] at h2
    refine Sem.of_body Tryz.call105 Tryz.func105 rfl Tryz.ntmps105 (by simp) ?_
    repeat' first | refine yj fun N hN => ?_ | refine yl [2] ?_ | ((first | refine ya rfl rfl fun N hN => ?_ | refine yc rfl rfl fun N hN => ?_ | refine ye rfl rfl fun N hN => ?_ | (refine yw hN _ _ ?_; clear hN N)); simp only [go_sem, ↓reduceIte, zA, zB, zC, zD, zE, zF, zG, zL, zM, zN, reduceCtorEq, h1, h2, hp, hpq, n1q, n1p, n2q, n2p, n12, nb, Tryz.results105]) | ((first | refine yg rfl ?_ | refine yi ?_); try simp only [go_sem]) | ((first | refine yx hN _ _ ?_ | refine yz hN _ _ ?_ | refine yy hN _ ?_); clear hN N) | refine yt (id := 0) mixed [2] (.rd 0 (.rd 1 (.rd 2 (.rd 3 (.rd 4 (.two 5 7 [] [4, 3, 2, 1, 0] (.rd 6 (.act 7 [6] (.act 8 [] (.nil)))) (.act 5 [] (.act 6 [] (.act 8 [] (.nil)))))))))) (by kernel_rfl) ?_ | refine yt (id := 1) mixed [2] (.rd 0 (.act 1 [0] (.act 2 [0] (.act 3 [0] (.act 4 [0] (.act 5 [] (.act 6 [] (.act 7 [] (.act 8 [] (.nil)))))))))) (by kernel_rfl) ?_ | refine yh ?_ ?_ | (refine sem78 hn1 hl hp hq ow1 (by rw [List.length_map]; exact hN0) g1 g2 ?_; try simp only [go_sem, ↓reduceIte, zA, zB, zC, zD, zE, zF, zG, zL, zM, zN, reduceCtorEq, h1, h2, hp, hpq, n1q, n1p, n2q, n2p, n12, nb]) | (refine sem78 (c3 := .sl ow3 7 (T0.map szD)) (c2 := c2) (c1 := .sl ow1 1 (N0.map .str)) (q := q) (s := s) hn1 hl (by simp only [go_sem, ↓reduceIte, zA, zB, zC, zD, zE, zF, zG, zL, zM, zN, reduceCtorEq, hp, hpq, nb]) (by simp only [go_sem, ↓reduceIte, zA, zB, zC, zD, zE, zF, zG, zL, zM, zN, reduceCtorEq, hq, hpq, nb]) ow1 (by rw [List.length_map]; exact hN0) g1 g2 ?_; try simp only [go_sem, ↓reduceIte, zA, zB, zC, zD, zE, zF, zG, zL, zM, zN, reduceCtorEq, h1, h2, hp, hpq, n1q, n1p, n2q, n2p, n12, nb]) | (refine sem80 (c3 := .sl ow3 7 (T0.map szD)) (c2 := c2) (c1 := .sl ow1 1 (N0.map .str)) (q := q) (s := s) hn2 hl (by simp only [go_sem, ↓reduceIte, zA, zB, zC, zD, zE, zF, zG, zL, zM, zN, reduceCtorEq, hp, hpq, nb]) (by simp only [go_sem, ↓reduceIte, zA, zB, zC, zD, zE, zF, zG, zL, zM, zN, reduceCtorEq, hq, hpq, nb]) ow3 (by rw [List.length_map]; exact hT0) g3 g4 ?_; try simp only [go_sem, ↓reduceIte, zA, zB, zC, zD, zE, zF, zG, zL, zM, zN, reduceCtorEq, h1, h2, hp, hpq, n1q, n1p, n2q, n2p, n12, nb]) | ((first | (refine yr fun j hj => ?_; (try have hj0 := St.tok_of_give hj)) | (refine ys fun r hr => ?_; (have hr1 := hr; try simp only [St.set_none_iff, St.mem_give, St.mem_take] at hr1); (first | have nbq := mem_ne hp hr1 | have nbq := mem_ne hp hr1.2 | have nbq := mem_ne hp hr1.2.2 | have nbq := mem_ne hp hr1.2.2.2 | have nbq := mem_ne hp hr1.2.2.2.2); have nb := And.intro nb nbq; (first | have nbq := mem_ne hq hr1 | have nbq := mem_ne hq hr1.2 | have nbq := mem_ne hq hr1.2.2 | have nbq := mem_ne hq hr1.2.2.2 | have nbq := mem_ne hq hr1.2.2.2.2); have nb := And.intro nb nbq; (first | have nbq := mem_ne h1 hr1 | have nbq := mem_ne h1 hr1.2 | have nbq := mem_ne h1 hr1.2.2 | have nbq := mem_ne h1 hr1.2.2.2 | have nbq := mem_ne h1 hr1.2.2.2.2); have nb := And.intro nb nbq; (first | have nbq := mem_ne h2 hr1 | have nbq := mem_ne h2 hr1.2 | have nbq := mem_ne h2 hr1.2.2 | have nbq := mem_ne h2 hr1.2.2.2 | have nbq := mem_ne h2 hr1.2.2.2.2); have nb := And.intro nb nbq; have nb := And.intro nb hr1)); try simp only [go_sem, ↓reduceIte, zA, zB, zC, zD, zE, zF, zG, zL, zM, zN, reduceCtorEq, h1, h2, hp, hpq, n1q, n1p, n2q, n2p, n12, nb]) | fail
    all_goals simp only [go_sem, ↓reduceIte, zA, zB, zC, zD, zE, zF, zG, zL, zM, zN, reduceCtorEq, Tryz.results105]
    all_goals (
      refine hk j _ (by simp only [go_sem, ↓reduceIte, zA, zB, zC, zD, zE, zF, zG, zL, zM, zN, reduceCtorEq, tabD]; rfl) (by simp only [go_sem, ↓reduceIte, zA, zB, zC, zD, zE, zF, zG, zL, zM, zN, reduceCtorEq, n2q, nb]) (.mk0 (fun x hx ob ho => ?_) (fun i => rfl) hj)
      simp only [not_or] at hx
      simp only [go_sem, ↓reduceIte, zA, zB, zC, zD, zE, zF, zG, zL, zM, zN, reduceCtorEq, hx]
      repeat' (split; · (rename_i e; rw [e] at ho; simp only [nb, reduceCtorEq] at ho))
      exact ho)
  | some j0 =>
    have htok := ho.t j0 rfl
    simp only [tabD] at h2
    refine Sem.of_body Tryz.call105 Tryz.func105 rfl Tryz.ntmps105 (by simp) ?_
    repeat' first | refine yj fun N hN => ?_ | refine yl [2] ?_ | ((first | refine ya rfl rfl fun N hN => ?_ | refine yc rfl rfl fun N hN => ?_ | refine ye rfl rfl fun N hN => ?_ | (refine yw hN _ _ ?_; clear hN N)); simp only [go_sem, ↓reduceIte, zA, zB, zC, zD, zE, zF, zG, zL, zM, zN, reduceCtorEq, h1, h2, hp, hpq, n1q, n1p, n2q, n2p, n12, htok, nb, Tryz.results105]) | ((first | refine yg rfl ?_ | refine yi ?_); try simp only [go_sem]) | ((first | refine yx hN _ _ ?_ | refine yz hN _ _ ?_ | refine yy hN _ ?_); clear hN N) | refine yt (id := 0) mixed [2] (.rd 0 (.rd 1 (.rd 2 (.rd 3 (.rd 4 (.two 5 7 [] [4, 3, 2, 1, 0] (.rd 6 (.act 7 [6] (.act 8 [] (.nil)))) (.act 5 [] (.act 6 [] (.act 8 [] (.nil)))))))))) (by kernel_rfl) ?_ | refine yt (id := 1) mixed [2] (.rd 0 (.act 1 [0] (.act 2 [0] (.act 3 [0] (.act 4 [0] (.act 5 [] (.act 6 [] (.act 7 [] (.act 8 [] (.nil)))))))))) (by kernel_rfl) ?_ | refine yh ?_ ?_ | (refine sem78 hn1 hl hp hq ow1 (by rw [List.length_map]; exact hN0) g1 g2 ?_; try simp only [go_sem, ↓reduceIte, zA, zB, zC, zD, zE, zF, zG, zL, zM, zN, reduceCtorEq, h1, h2, hp, hpq, n1q, n1p, n2q, n2p, n12, htok, nb]) | (refine sem78 (c3 := .sl ow3 7 (T0.map szD)) (c2 := c2) (c1 := .sl ow1 1 (N0.map .str)) (q := q) (s := s) hn1 hl (by simp only [go_sem, ↓reduceIte, zA, zB, zC, zD, zE, zF, zG, zL, zM, zN, reduceCtorEq, hp, hpq, nb]) (by simp only [go_sem, ↓reduceIte, zA, zB, zC, zD, zE, zF, zG, zL, zM, zN, reduceCtorEq, hq, hpq, nb]) ow1 (by rw [List.length_map]; exact hN0) g1 g2 ?_; try simp only [go_sem, ↓reduceIte, zA, zB, zC, zD, zE, zF, zG, zL, zM, zN, reduceCtorEq, h1, h2, hp, hpq, n1q, n1p, n2q, n2p, n12, htok, nb]) | (refine sem80 (c3 := .sl ow3 7 (T0.map szD)) (c2 := c2) (c1 := .sl ow1 1 (N0.map .str)) (q := q) (s := s) hn2 hl (by simp only [go_sem, ↓reduceIte, zA, zB, zC, zD, zE, zF, zG, zL, zM, zN, reduceCtorEq, hp, hpq, nb]) (by simp only [go_sem, ↓reduceIte, zA, zB, zC, zD, zE, zF, zG, zL, zM, zN, reduceCtorEq, hq, hpq, nb]) ow3 (by rw [List.length_map]; exact hT0) g3 g4 ?_; try simp only [go_sem, ↓reduceIte, zA, zB, zC, zD, zE, zF, zG, zL, zM, zN, reduceCtorEq, h1, h2, hp, hpq, n1q, n1p, n2q, n2p, n12, htok, nb]) | ((first | (refine yr fun j hj => ?_; (try have hj0 := St.tok_of_give hj)) | (refine ys fun r hr => ?_; (have hr1 := hr; try simp only [St.set_none_iff, St.mem_give, St.mem_take] at hr1); (first | have nbq := mem_ne hp hr1 | have nbq := mem_ne hp hr1.2 | have nbq := mem_ne hp hr1.2.2 | have nbq := mem_ne hp hr1.2.2.2 | have nbq := mem_ne hp hr1.2.2.2.2); have nb := And.intro nb nbq; (first | have nbq := mem_ne hq hr1 | have nbq := mem_ne hq hr1.2 | have nbq := mem_ne hq hr1.2.2 | have nbq := mem_ne hq hr1.2.2.2 | have nbq := mem_ne hq hr1.2.2.2.2); have nb := And.intro nb nbq; (first | have nbq := mem_ne h1 hr1 | have nbq := mem_ne h1 hr1.2 | have nbq := mem_ne h1 hr1.2.2 | have nbq := mem_ne h1 hr1.2.2.2 | have nbq := mem_ne h1 hr1.2.2.2.2); have nb := And.intro nb nbq; (first | have nbq := mem_ne h2 hr1 | have nbq := mem_ne h2 hr1.2 | have nbq := mem_ne h2 hr1.2.2 | have nbq := mem_ne h2 hr1.2.2.2 | have nbq := mem_ne h2 hr1.2.2.2.2); have nb := And.intro nb nbq; have nb := And.intro nb hr1)); try simp only [go_sem, ↓reduceIte, zA, zB, zC, zD, zE, zF, zG, zL, zM, zN, reduceCtorEq, h1, h2, hp, hpq, n1q, n1p, n2q, n2p, n12, htok, nb]) | (refine And.intro ?_ ?_; · omega) | fail
    all_goals simp only [go_sem, ↓reduceIte, zA, zB, zC, zD, zE, zF, zG, zL, zM, zN, reduceCtorEq, Tryz.results105]
    all_goals (
      refine hk j _ (by simp only [go_sem, ↓reduceIte, zA, zB, zC, zD, zE, zF, zG, zL, zM, zN, reduceCtorEq, tabD]; rfl) (by simp only [go_sem, ↓reduceIte, zA, zB, zC, zD, zE, zF, zG, zL, zM, zN, reduceCtorEq, n2q, nb]) (.mk1 (fun x hx ob ho => ?_) (fun i => rfl) hj)
      simp only [not_or] at hx
      simp only [go_sem, ↓reduceIte, zA, zB, zC, zD, zE, zF, zG, zL, zM, zN, reduceCtorEq, hx]
      repeat' (split; · (rename_i e; rw [e] at ho; simp only [nb, reduceCtorEq] at ho))
      exact ho)
end
end Go.Proofs.YtddbidoaolnegaaGreatDoor
/- Declarations of the file's, read: the types of a block: the walks. No statement of the seat is proved here; no condition. -/
namespace Go.Proofs.YtddbidoaolnegaaGreatDoor
open Go Go.RowKit
open Nat renaming reduceLT → zA, reduceEqDiff → zB, reduceBEq → zC, reduceAdd → zD, reduceMul → zE, reduceSub → zF, reduceLeDiff → zG, mul_one → zH, zero_add → zI, add_zero → zJ
open Int renaming toNat_natCast → zK, reduceAdd → zL, reduceLE → zM, reduceLT → zN, natCast_nonneg → zO
open Go.Proofs.YtddbidoaolnegaaGreatDoor renaming evI_plain → ya, evI_guard → yb, evT_rd → yc, evT_rdg → yd, evT_act → ye, evT_actg → yf, evI_done → yg, evT_two → yh, evT_nil → yi, W.seqG → yj, W.block → yk, W.regionI → yl, W.cond → ym, W.skip → yn, W.ret → yo, W.exit → yp, gdD_split → yq, newT_intro → yr, newB_intro → ys, W.draw → yt, St.set_del → yu, St.give_take → yv, AGo.go → yw, IGo.go → yx, TGo.go → yy, Goes.go → yz
attribute [local go_sem] zK zP zQ zH zI zJ zO
attribute [local irreducible] W evI evT evL evOp evBin gdD Sem newT newB fillD bldOf
set_option maxRecDepth 10000
set_option maxHeartbeats 4000000

/-- A block whose last cell is a table, while it is read. -/
structure MB (bs : List UInt8) (st : St) (p q : Nat) (c1 c2 c3 : D) (s : Int) (r1 rb A : Nat) (pre : List D) (o : Option Nat) (z : Nat) (es : List D) (st' : St) : Prop where
  m1 : st'.mem r1 = some (.cells [.ptr p 0])
  mb : st'.mem rb = some (.cells (pre ++ [tabD o z es]))
  mp : st'.mem p = some (.cells [.ptr q 0, c1, c2, c3])
  mq : st'.mem q = some (.cells (rdC bs A 0 s))
  fr : ∀ y, y ≠ q → ∀ ob, st.mem y = some ob → y ≠ r1 ∧ y ≠ rb ∧ st'.mem y = some ob
  tk : ∀ t, st.tok t = true → st'.tok t = true ∧ o ≠ some t
  tb : Tab o es st'

theorem Wk.refl (a : St) : Wk a a := ⟨fun _ _ h => .inl h, fun _ h => h⟩
theorem nums_len (n : Nat) (ns : List Nat) : (nums (n :: ns)).length = (num n).length + (nums ns).length := by rw [nums_cons, List.length_append]
section
variable {bs : List UInt8} {a n m : Nat} {b s : Int} {p q : Nat} {c1 c2 c3 : D} {st st' : St} {k : D → St → Prop} {N0 : List (List UInt8)} {T0 : List Tm} {ow1 ow3 : Own}

theorem MB.pne {r1 rb A z : Nat} {pre es : List D} {o : Option Nat} (h : MB bs st p q c1 c2 c3 s r1 rb A pre o z es st') (hpre : pre.length ≠ 3) : (p ≠ q ∧ p ≠ r1 ∧ p ≠ rb ∧ q ≠ r1 ∧ q ≠ rb ∧ r1 ≠ rb) ∧ (q ≠ p ∧ r1 ≠ p ∧ rb ≠ p ∧ r1 ≠ q ∧ rb ≠ q ∧ rb ≠ r1) := by
  have h1 := h.m1
  have h2 := h.mb
  have hp := h.mp
  have hq := h.mq
  have a1 : p ≠ q := (rd_ne hp hq).1
  have a2 : p ≠ r1 := fun e => by rw [e, h1] at hp; simp at hp
  have a3 : p ≠ rb := fun e => by
    rw [e, h2] at hp
    have := congrArg (fun x : Option Ob => match x with | some (.cells cs) => cs.length | _ => 0) hp
    simp at this; omega
  have a4 : q ≠ r1 := fun e => by rw [e, h1] at hq; simp [rdC] at hq
  have a5 : q ≠ rb := fun e => by
    rw [e, h2] at hq
    have := congrArg (fun x : Option Ob => match x with | some (.cells cs) => cs.length | _ => 0) hq
    simp [rdC] at this; omega
  have a6 : r1 ≠ rb := fun e => by
    rw [e, h2] at h1
    cases pre with
    | nil => cases o <;> simp [tabD] at h1
    | cons x pre => simp at h1
  exact ⟨⟨a1, a2, a3, a4, a5, a6⟩, a1.symm, a2.symm, a3.symm, a4.symm, a5.symm, a6.symm⟩

theorem MB.step {r1 rb A A' z j : Nat} {pre es : List D} {e : D} {o : Option Nat} {st2 : St} (h : MB bs st p q c1 c2 c3 s r1 rb A pre o z es st') (hpre : pre.length ≠ 3) (hb : st2.mem rb = some (.cells (pre ++ [tabD (some j) z (es ++ [e])]))) (hq : st2.mem q = some (.cells (rdC bs A' 0 s)))
    (hs : Stp (fun x => x = rb ∨ x = q) o j st' st2) : MB bs st p q c1 c2 c3 s r1 rb A' pre (some j) z (es ++ [e]) st2 := by
  obtain ⟨⟨a1, a2, a3, a4, a5, a6⟩, _⟩ := h.pne hpre
  refine ⟨hs.mem _ (by simp [a6, Ne.symm a4]) _ h.m1, hb, hs.mem _ (by simp [a1, a3]) _ h.mp, hq, fun y y1 ob ho => ?_, fun t ht => ?_, .mkS hs.tj⟩
  · obtain ⟨x1, x2, x3⟩ := h.fr y y1 ob ho
    exact ⟨x1, x2, hs.mem y (by simp [x2, y1]) _ x3⟩
  · obtain ⟨x1, x2⟩ := h.tk t ht
    have := hs.tok t x2 x1
    exact ⟨this.1, fun e => this.2 (Option.some.inj e).symm⟩

theorem MB.put {r1 rb A A' z : Nat} {pre pre' es : List D} {o : Option Nat} {st2 : St} (h : MB bs st p q c1 c2 c3 s r1 rb A pre o z es st') (hpre : pre.length ≠ 3) (hb : st2.mem rb = some (.cells (pre' ++ [tabD o z es]))) (hq : st2.mem q = some (.cells (rdC bs A' 0 s)))
    (hm : ∀ x, x ≠ rb → x ≠ q → st2.mem x = st'.mem x) (ht : st2.tok = st'.tok) : MB bs st p q c1 c2 c3 s r1 rb A' pre' o z es st2 := by
  obtain ⟨⟨a1, a2, a3, a4, a5, a6⟩, _⟩ := h.pne hpre
  refine ⟨by rw [hm _ a6 a4.symm]; exact h.m1, hb, by rw [hm _ a3 a1]; exact h.mp, hq, fun y y1 ob ho => ?_, fun t ht2 => by rw [ht]; exact h.tk t ht2, h.tb.mono fun i hi => by rw [ht]; exact h.tb.t i hi⟩
  obtain ⟨x1, x2, x3⟩ := h.fr y y1 ob ho
  exact ⟨x1, x2, by rw [hm y x2 y1]; exact x3⟩

theorem CtsN.at {N : List (List UInt8)} {T : List Tm} {cs : List Cc} {i : Nat} {ns : List Nat} (hi : i < cs.length) (h : CtsN N T (cs.drop i) ns) : ∃ a b r, ns = a :: b :: r ∧ RefN N a (cs.getD i Cc.z).name ∧ RefT T b (cs.getD i Cc.z).ty ∧ CtsN N T (cs.drop (i + 1)) r := by
  rw [drop_getD cs Cc.z hi] at h
  exact h

theorem sem82 {x : In} {ns : List Nat} {rest : List UInt8} (hd : bs.drop a = nums ns ++ rest) (hI : IndN N0 T0 x ns) (hcs : x.cs.length ≤ 8) (hl : bs.length < 1000000000) (hN0 : N0.length < 1000000000) (hT0 : T0.length < 1000000000)
    (hp : st.mem p = some (.cells [.ptr q 0, .sl ow1 1 (N0.map .str), c2, .sl ow3 7 (T0.map szD)])) (hq : st.mem q = some (.cells (rdC bs a 0 s)))
    (hk : ∀ st', st'.mem q = some (.cells (rdC bs (a + (nums ns).length : Nat) 0 s)) → (∀ y, y ≠ q → ∀ ob, st.mem y = some ob → st'.mem y = some ob) → (∀ t, st.tok t = true → st'.tok t = true) → k x.d st') : Sem P 82 [.ptr p 0] st k := by
  have hpq := rd_ne hp hq
  obtain ⟨iN, iT, r0, rfl, hi, hj, hC⟩ := hI
  rw [nums_cons, nums_cons, nums_cons, List.append_assoc, List.append_assoc, List.append_assoc] at hd
  obtain ⟨hn1, hd1⟩ := num_at hd (by have := hi.1; omega) hl
  obtain ⟨hn2, hd2⟩ := num_at hd1 (by have := hj.1; omega) hl
  obtain ⟨hn3, hd3⟩ := num_at hd2 (by omega) hl
  obtain ⟨g1, g2⟩ := hi.at
  obtain ⟨g3, g4⟩ := hj.at
  have nb : True := trivial
  refine Sem.wk ?_
  refine Sem.of_body Tryz.call82 Tryz.func82 rfl Tryz.ntmps82 (by simp) ?_
  repeat' first | refine yj fun N hN => ?_ | refine yl [1, 2] ?_ | ((first | refine ya rfl rfl fun N hN => ?_ | refine yc rfl rfl fun N hN => ?_ | refine ye rfl rfl fun N hN => ?_ | (refine yw hN _ _ ?_; clear hN N)); simp only [go_sem, ↓reduceIte, zA, zB, zC, zD, zE, zF, zG, zL, zM, zN, reduceCtorEq, hp, hpq, nb, Tryz.results82]) | ((first | refine yg rfl ?_ | refine yi ?_); try simp only [go_sem]) | ((first | refine yx hN _ _ ?_ | refine yz hN _ _ ?_ | refine yy hN _ ?_); clear hN N) | refine yt (id := 1) mixed [1, 2] (.rd 0 (.act 1 [0] (.act 2 [0] (.act 3 [0] (.act 4 [0] (.act 5 [] (.act 6 [] (.act 7 [] (.nil))))))))) (by kernel_rfl) ?_ | refine yt (id := 2) mixed [1, 2] (.rd 0 (.act 1 [0] (.act 2 [0] (.act 3 [0] (.act 4 [0] (.act 5 [] (.act 6 [] (.act 7 [] (.act 8 [] (.nil)))))))))) (by kernel_rfl) ?_ | (refine sem78 (c3 := .sl ow3 7 (T0.map szD)) (c2 := c2) (c1 := .sl ow1 1 (N0.map .str)) (q := q) (s := s) hn1 hl (by simp only [go_sem, ↓reduceIte, zA, zB, zC, zD, zE, zF, zG, zL, zM, zN, reduceCtorEq, hp, hpq, nb]) (by simp only [go_sem, ↓reduceIte, zA, zB, zC, zD, zE, zF, zG, zL, zM, zN, reduceCtorEq, hq, hpq, nb]) ow1 (by rw [List.length_map]; exact hN0) g1 g2 ?_; try simp only [go_sem, ↓reduceIte, zA, zB, zC, zD, zE, zF, zG, zL, zM, zN, reduceCtorEq, hp, hpq, nb]) | (refine sem80 (c3 := .sl ow3 7 (T0.map szD)) (c2 := c2) (c1 := .sl ow1 1 (N0.map .str)) (q := q) (s := s) hn2 hl (by simp only [go_sem, ↓reduceIte, zA, zB, zC, zD, zE, zF, zG, zL, zM, zN, reduceCtorEq, hp, hpq, nb]) (by simp only [go_sem, ↓reduceIte, zA, zB, zC, zD, zE, zF, zG, zL, zM, zN, reduceCtorEq, hq, hpq, nb]) ow3 (by rw [List.length_map]; exact hT0) g3 g4 ?_; try simp only [go_sem, ↓reduceIte, zA, zB, zC, zD, zE, zF, zG, zL, zM, zN, reduceCtorEq, hp, hpq, nb]) | ((refine ys fun r hr => ?_; (have hr1 := hr; try simp only [St.set_none_iff, St.mem_give, St.mem_take] at hr1); (first | have nbq := mem_ne hp hr1 | have nbq := mem_ne hp hr1.2 | have nbq := mem_ne hp hr1.2.2 | have nbq := mem_ne hp hr1.2.2.2 | have nbq := mem_ne hp hr1.2.2.2.2); have nb := And.intro nb nbq; (first | have nbq := mem_ne hq hr1 | have nbq := mem_ne hq hr1.2 | have nbq := mem_ne hq hr1.2.2 | have nbq := mem_ne hq hr1.2.2.2 | have nbq := mem_ne hq hr1.2.2.2.2); have nb := And.intro nb nbq; have nb := And.intro nb hr1); try simp only [go_sem, ↓reduceIte, zA, zB, zC, zD, zE, zF, zG, zL, zM, zN, reduceCtorEq, hp, hpq, nb]) | fail
  rename_i r1 _ _ _ _ _ _ _ _ _ _ _ _
  refine sem32 hn3 8 (by omega) (by omega) hl (c1 := .sl ow1 1 (N0.map .str)) (c2 := c2) (c3 := .sl ow3 7 (T0.map szD)) (q := q) (s := s) (by simp only [go_sem, ↓reduceIte, zA, zB, zC, zD, zE, zF, zG, zL, zM, zN, reduceCtorEq, hp, hpq, nb]) (by simp only [go_sem, ↓reduceIte, zA, zB, zC, zD, zE, zF, zG, zL, zM, zN, reduceCtorEq, nb]) 105 [] [.ptr r1 0, .ptr r 0] rfl rfl
    (fun i st' => ∃ o A ns', bs.drop A = nums ns' ++ rest ∧ CtsN N0 T0 (x.cs.drop i) ns' ∧ A + (nums ns').length = a + (nums (iN :: iT :: x.cs.length :: r0)).length ∧
      MB bs st p q (.sl ow1 1 (N0.map .str)) c2 (.sl ow3 7 (T0.map szD)) s r1 r A [.str x.name, .int .u8 x.ty.k, .int .i64 x.ty.n, .str x.ty.s, .sl .frozen 5 (x.ty.ls.map Lv.d), .sl .frozen 5 (x.ty.ts.map Tm.d)] o 6 ((x.cs.take i).map Cc.d) st')
    ⟨none, _, r0, hd3, hC, by simp only [nums_len]; omega, ⟨by simp only [go_sem, ↓reduceIte, zA, zB, zC, zD, zE, zF, zG, zL, zM, zN, reduceCtorEq, nb], by simp only [go_sem, ↓reduceIte, zA, zB, zC, zD, zE, zF, zG, zL, zM, zN, reduceCtorEq, nb, tabD], by simp only [go_sem, ↓reduceIte, zA, zB, zC, zD, zE, zF, zG, zL, zM, zN, reduceCtorEq, hp, hpq, nb], by simp only [go_sem, ↓reduceIte, zA, zB, zC, zD, zE, zF, zG, zL, zM, zN, reduceCtorEq, nb], fun y y1 ob ho => ?_, fun t ht => ⟨ht, by simp⟩, .mkN _⟩⟩
    (fun i st2 hi2 ⟨o, A, ns', f1, f2, f3, hM⟩ => ⟨⟨_, s, _, _, _, hM.mp, hM.mq⟩, ?_⟩) (fun st2 ⟨o, A, ns', f1, f2, f3, hM⟩ => ?_)
  · refine ⟨by intro e; rw [e] at ho; simp only [nb, reduceCtorEq] at ho, by intro e; rw [e] at ho; simp only [nb, reduceCtorEq] at ho, ?_⟩
    simp only [go_sem, ↓reduceIte, zA, zB, zC, zD, zE, zF, zG, zL, zM, zN, reduceCtorEq, y1]
    repeat' (split; · (rename_i e; rw [e] at ho; simp only [nb, reduceCtorEq] at ho))
    exact ho
  · obtain ⟨aN, aT, r2, rfl, h1, h2, h3⟩ := CtsN.at hi2 f2
    rw [nums_cons, nums_cons, List.append_assoc, List.append_assoc] at f1
    refine sem105 (c := x.cs.getD i Cc.z) f1 h1 h2 hl hN0 hT0 hM.m1 hM.mb hM.tb (by rw [List.length_map, List.length_take]; omega) hM.mp hM.mq (fun jt st3 g1 g2 g3 => ?_)
    refine ⟨some jt, _, r2, drop_past (drop_past f1), h3, by simp only [nums_len] at f3 ⊢; omega, ?_⟩
    have := hM.step (by simp) g1 g2 g3
    rw [take_getD _ Cc.z hi2, List.map_append]
    exact this
  · rw [List.drop_length] at f2
    obtain rfl : ns' = [] := f2
    rw [List.take_of_length_le (Nat.le_refl _)] at hM
    have hA : A = a + (nums (iN :: iT :: x.cs.length :: r0)).length := by simpa [nums] using f3
    rw [hA] at hM
    have mb := hM.mb
    repeat' first | refine yj fun N hN => ?_ | refine yl [1, 2] ?_ | ((first | refine ya rfl rfl fun N hN => ?_ | refine yo ?_); simp only [go_sem, ↓reduceIte, zA, zB, zC, zD, zE, zF, zG, zL, zM, zN, reduceCtorEq, mb, Tryz.results82]) | (refine yg rfl ?_; try simp only [go_sem]) | ((first | refine yx hN _ _ ?_ | refine yz hN _ _ ?_); clear hN N) | fail
    have hne := hM.pne (by simp)
    refine ⟨x.d, _, CoeT.agg (.s (.s (.s (.s (.s (.s (.c (Coe.tab hM.tb.n) .n))))))), Wk.refl _, hk _ (by simp only [go_sem, ↓reduceIte, zA, zB, zC, zD, zE, zF, zG, zL, zM, zN, reduceCtorEq, hM.mq, hne]) (fun y y1 ob ho => ?_) (fun t ht => (hM.tk t ht).1)⟩
    obtain ⟨z1, z2, z3⟩ := hM.fr y y1 ob ho
    simp only [go_sem, ↓reduceIte, zA, zB, zC, zD, zE, zF, zG, zL, zM, zN, reduceCtorEq, z2]
    exact z3

theorem sem81 {x : In} {ns : List Nat} {rest : List UInt8} (hd : bs.drop a = nums ns ++ rest) (hI : IndN N0 T0 x ns) (hcs : x.cs.length ≤ 8) (hl : bs.length < 1000000000) (hN0 : N0.length < 1000000000) (hT0 : T0.length < 1000000000) {r1 rd : Nat} (h1 : st.mem r1 = some (.cells [.ptr p 0]))
    {y0 y1 y2 y3 y4 y5 y6 y7 y8 y9 y10 y11 y12 y13 : D} {o : Option Nat} {es : List D} (h2 : st.mem rd = some (.cells [y0, y1, y2, y3, y4, y5, y6, y7, y8, y9, y10, y11, y12, y13, tabD o 7 es])) (ho : Tab o es st) (hes : es.length < 1000)
    (hp : st.mem p = some (.cells [.ptr q 0, .sl ow1 1 (N0.map .str), c2, .sl ow3 7 (T0.map szD)])) (hq : st.mem q = some (.cells (rdC bs a 0 s)))
    (hk : ∀ jt st', st'.mem rd = some (.cells [y0, y1, y2, y3, y4, y5, y6, y7, y8, y9, y10, y11, y12, y13, tabD (some jt) 7 (es ++ [x.d])]) → st'.mem q = some (.cells (rdC bs (a + (nums ns).length : Nat) 0 s)) → Stp (fun x => x = rd ∨ x = q) o jt st st' → k (.tup []) st') : Sem P 81 [.ptr rd 0, .ptr r1 0] st k := by
  have n1q : r1 ≠ q ∧ q ≠ r1 := by
    have : r1 ≠ q := fun e => by rw [e, hq] at h1; simp [rdC] at h1
    exact ⟨this, this.symm⟩
  have n2q : rd ≠ q ∧ q ≠ rd := by
    have : rd ≠ q := fun e => by rw [e, hq] at h2; simp [rdC] at h2
    exact ⟨this, this.symm⟩
  cases o with
  | none =>
    obtain rfl := ho.n rfl
    simp only [tabD] at h2
    refine Sem.of_body Tryz.call81 Tryz.func81 rfl Tryz.ntmps81 (by simp) ?_
    repeat' first | ((first | refine yc rfl rfl fun N hN => ?_ | refine ye rfl rfl fun N hN => ?_ | (refine yw hN _ _ ?_; clear hN N)); simp only [go_sem, ↓reduceIte, zA, zB, zC, zD, zE, zF, zG, zL, zM, zN, reduceCtorEq, h1, h2, Tryz.results81]) | (refine yy hN _ ?_; clear hN N) | refine yt (id := 0) mixed [] (.rd 0 (.rd 1 (.act 2 [1, 0] (.act 3 [1, 0] (.act 4 [1, 0] (.act 5 [] (.act 6 [] (.act 7 [] (.nil))))))))) (by kernel_rfl) ?_ | fail
    refine sem82 hd hI hcs hl hN0 hT0 hp hq fun st' g1 g2 g3 => ?_
    have h2' := g2 rd n2q.1 _ h2
    repeat' first | ((first | refine ye rfl rfl fun N hN => ?_ | (refine yw hN _ _ ?_; clear hN N)); simp only [go_sem, ↓reduceIte, zA, zB, zC, zD, zE, zF, zG, zL, zM, zN, reduceCtorEq, h1, h2', Tryz.results81]) | (refine yi ?_; try simp only [go_sem]) | ((refine yr fun j hj => ?_; (try have hj0 := St.tok_of_give hj)); try simp only [go_sem, ↓reduceIte, zA, zB, zC, zD, zE, zF, zG, zL, zM, zN, reduceCtorEq, h1, h2']) | fail
    refine hk j _ (by simp only [go_sem, ↓reduceIte, zA, zB, zC, zD, zE, zF, zG, zL, zM, zN, reduceCtorEq, tabD]) (by simp only [go_sem, ↓reduceIte, zA, zB, zC, zD, zE, zF, zG, zL, zM, zN, reduceCtorEq, g1, n2q]) ⟨fun y hy ob hob => ?_, by simp only [go_sem, ↓reduceIte, zA, zB, zC, zD, zE, zF, zG, zL, zM, zN, reduceCtorEq], fun i h0 hi => ?_⟩
    · simp only [not_or] at hy
      simp only [go_sem, ↓reduceIte, zA, zB, zC, zD, zE, zF, zG, zL, zM, zN, reduceCtorEq, hy]
      exact g2 y hy.2 ob hob
    · have hi2 := g3 i hi
      have hj' : st'.tok j = false := hj
      have n1 : i ≠ j := fun e => by rw [e, hj'] at hi2; cases hi2
      have n0 : True := trivial
      refine ⟨?_, n1⟩
      simp only [go_sem, ↓reduceIte, zA, zB, zC, zD, zE, zF, zG, zL, zM, zN, reduceCtorEq, n1, n0, hi2]
  | some j0 =>
    have htok := ho.t j0 rfl
    simp only [tabD] at h2
    refine Sem.of_body Tryz.call81 Tryz.func81 rfl Tryz.ntmps81 (by simp) ?_
    repeat' first | ((first | refine yc rfl rfl fun N hN => ?_ | refine ye rfl rfl fun N hN => ?_ | (refine yw hN _ _ ?_; clear hN N)); simp only [go_sem, ↓reduceIte, zA, zB, zC, zD, zE, zF, zG, zL, zM, zN, reduceCtorEq, h1, h2, Tryz.results81]) | (refine yy hN _ ?_; clear hN N) | refine yt (id := 0) mixed [] (.rd 0 (.rd 1 (.act 2 [1, 0] (.act 3 [1, 0] (.act 4 [1, 0] (.act 5 [] (.act 6 [] (.act 7 [] (.nil))))))))) (by kernel_rfl) ?_ | fail
    refine sem82 hd hI hcs hl hN0 hT0 hp hq fun st' g1 g2 g3 => ?_
    have h2' := g2 rd n2q.1 _ h2
    have htok' := g3 j0 htok
    repeat' first | ((first | refine ye rfl rfl fun N hN => ?_ | (refine yw hN _ _ ?_; clear hN N)); simp only [go_sem, ↓reduceIte, zA, zB, zC, zD, zE, zF, zG, zL, zM, zN, reduceCtorEq, h1, h2', htok', Tryz.results81]) | (refine yi ?_; try simp only [go_sem]) | ((refine yr fun j hj => ?_; (try have hj0 := St.tok_of_give hj)); try simp only [go_sem, ↓reduceIte, zA, zB, zC, zD, zE, zF, zG, zL, zM, zN, reduceCtorEq, h1, h2', htok']) | (refine And.intro ?_ ?_; · omega) | fail
    refine hk j _ (by simp only [go_sem, ↓reduceIte, zA, zB, zC, zD, zE, zF, zG, zL, zM, zN, reduceCtorEq, tabD]) (by simp only [go_sem, ↓reduceIte, zA, zB, zC, zD, zE, zF, zG, zL, zM, zN, reduceCtorEq, g1, n2q]) ⟨fun y hy ob hob => ?_, by simp only [go_sem, ↓reduceIte, zA, zB, zC, zD, zE, zF, zG, zL, zM, zN, reduceCtorEq], fun i h0 hi => ?_⟩
    · simp only [not_or] at hy
      simp only [go_sem, ↓reduceIte, zA, zB, zC, zD, zE, zF, zG, zL, zM, zN, reduceCtorEq, hy]
      exact g2 y hy.2 ob hob
    · have hi2 := g3 i hi
      have hj' : st'.tok j = false := hj
      have n1 : i ≠ j := fun e => by rw [e, hj'] at hi2; cases hi2
      have n0 : i ≠ j0 := fun e => h0 (by rw [e])
      refine ⟨?_, n1⟩
      simp only [go_sem, ↓reduceIte, zA, zB, zC, zD, zE, zF, zG, zL, zM, zN, reduceCtorEq, n1, n0, hi2]
end
end Go.Proofs.YtddbidoaolnegaaGreatDoor
/- A declaration of the file's, read: the walk. No statement of the seat is proved here; no condition. -/
namespace Go.Proofs.YtddbidoaolnegaaGreatDoor
open Go Go.RowKit
open Nat renaming reduceLT → zA, reduceEqDiff → zB, reduceBEq → zC, reduceAdd → zD, reduceMul → zE, reduceSub → zF, reduceLeDiff → zG, mul_one → zH, zero_add → zI, add_zero → zJ
open Int renaming toNat_natCast → zK, reduceAdd → zL, reduceLE → zM, reduceLT → zN, natCast_nonneg → zO
open Go.Proofs.YtddbidoaolnegaaGreatDoor renaming evI_plain → ya, evI_guard → yb, evT_rd → yc, evT_rdg → yd, evT_act → ye, evT_actg → yf, evI_done → yg, evT_two → yh, evT_nil → yi, W.seqG → yj, W.block → yk, W.regionI → yl, W.cond → ym, W.skip → yn, W.ret → yo, W.exit → yp, gdD_split → yq, newT_intro → yr, newB_intro → ys, W.draw → yt, St.set_del → yu, St.give_take → yv, AGo.go → yw, IGo.go → yx, TGo.go → yy, Goes.go → yz
attribute [local go_sem] zK zP zQ zH zI zJ zO
attribute [local irreducible] W evI evT evL evOp evBin gdD Sem newT newB fillD bldOf
set_option maxRecDepth 10000
set_option maxHeartbeats 4000000

theorem none_z {t : Tm} (h : noneB t = true) : t = Tm.z := by
  simp only [noneB, Bool.and_eq_true, decide_eq_true_eq] at h
  obtain ⟨⟨⟨⟨h1, h2⟩, h3⟩, h4⟩, h5⟩ := h
  cases t
  simp only [Tm.k, Tm.n, Tm.s, Tm.ls, Tm.ts] at h1 h2 h3 h4 h5
  subst h1 h2 h3 h4 h5
  rfl
theorem z_coe (rest es : List D) (h : Coes rest es) : Coes (.int .u8 0 :: .int .i64 0 :: .str [] :: .sl .nil 0 [] :: .sl .nil 0 [] :: rest) (Tm.z.c ++ es) :=
  .s (.s (.s (.c (Coe.nil 0 5) (.c (Coe.nil 0 5) h))))
/-- What declB tells. -/
structure DeF (d : De) : Prop where
  p0 : 0 ≤ d.params
  p4 : d.params ≤ 4
  k : d.kind = 1 ∨ d.kind = 2 ∨ d.kind = 3 ∨ d.kind = 4
  n : d.kind ≠ 4 → d.fixed = 0 ∧ d.inds = []
  v : d.kind = 1 → d.val = Tm.z
  b : d.kind = 4 → d.name = [] ∧ d.ty = Tm.z ∧ d.val = Tm.z ∧ 0 ≤ d.fixed ∧ d.fixed ≤ 12 ∧ 1 ≤ d.inds.length ∧ d.inds.length ≤ 3 ∧ d.inds.all indB = true
theorem deF {d : De} (h : declB d = true) : DeF d := by
  simp only [declB, Bool.and_eq_true, decide_eq_true_eq] at h
  obtain ⟨⟨h1, h2⟩, h3⟩ := h
  split at h3
  · rename_i k1
    simp only [Bool.and_eq_true, decide_eq_true_eq] at h3
    exact ⟨h1, h2, .inl k1, fun _ => ⟨h3.1.2, h3.2⟩, fun _ => none_z h3.1.1.2, fun k4 => by omega⟩
  · rename_i k1
    split at h3
    · rename_i k2
      simp only [Bool.and_eq_true, decide_eq_true_eq] at h3
      exact ⟨h1, h2, by omega, fun _ => ⟨h3.1.2, h3.2⟩, fun e => absurd e k1, fun k4 => by omega⟩
    · rename_i k2
      split at h3
      · rename_i k4
        simp only [Bool.and_eq_true, decide_eq_true_eq] at h3
        obtain ⟨⟨⟨⟨⟨⟨⟨a1, a2⟩, a3⟩, a4⟩, a5⟩, a6⟩, a7⟩, a8⟩ := h3
        exact ⟨h1, h2, by omega, fun e => absurd k4 e, fun e => absurd e k1, fun _ => ⟨a1, none_z a2, none_z a3, a4, a5, a6, a7, a8⟩⟩
      · cases h3

section
variable {bs : List UInt8} {a n m : Nat} {b s : Int} {p q : Nat} {c1 c2 c3 : D} {st st' : St} {k : D → St → Prop} {N0 : List (List UInt8)} {T0 : List Tm} {ow1 ow3 : Own}

theorem IndsN.at {N : List (List UInt8)} {T : List Tm} {xs : List In} {i : Nat} {ns : List Nat} (hi : i < xs.length) (h : IndsN N T (xs.drop i) ns) : ∃ a b, ns = a ++ b ∧ IndN N T (xs.getD i In.z) a ∧ IndsN N T (xs.drop (i + 1)) b := by
  rw [drop_getD xs In.z hi] at h
  exact h

theorem sem38 {d : De} {ns : List Nat} {rest : List UInt8} (hd : bs.drop a = UInt8.ofNat d.kind :: (nums ns ++ rest)) (hD : DecN N0 T0 d ns) (hB : declB d = true) (hl : bs.length < 1000000000) (hN0 : N0.length < 1000000000) (hT0 : T0.length < 1000000000)
    (hp : st.mem p = some (.cells [.ptr q 0, .sl ow1 1 (N0.map .str), c2, .sl ow3 7 (T0.map szD)])) (hq : st.mem q = some (.cells (rdC bs a 0 s)))
    (hk : ∀ st', st'.mem q = some (.cells (rdC bs (a + 1 + (nums ns).length : Nat) 0 s)) → (∀ y, y ≠ q → ∀ ob, st.mem y = some ob → st'.mem y = some ob) → (∀ t, st.tok t = true → st'.tok t = true) → k d.d st') : Sem P 38 [.ptr p 0] st k := by
  have hpq := rd_ne hp hq
  have hF := deF hB
  have p0 := hF.p0
  have p4 := hF.p4
  have hkd := hF.k
  have hal : a < bs.length := by
    have h1 : (bs.drop a).length = (UInt8.ofNat d.kind :: (nums ns ++ rest)).length := by rw [hd]
    simp only [List.length_drop, List.length_cons] at h1; omega
  have hd0 : bs.drop (a + 1) = nums ns ++ rest := by rw [← List.drop_drop, hd]; rfl
  obtain ⟨r0, rfl, hD⟩ := hD
  rw [nums_cons, List.append_assoc] at hd0
  obtain ⟨hn1, hd1⟩ := num_at hd0 (by omega) hl
  have hz0 : (UInt8.ofNat d.kind).toNat = d.kind := by rw [UInt8.toNat_ofNat']; omega
  have hz : (((UInt8.ofNat d.kind).toNat : Nat) : Int) = d.kind := by rw [hz0]
  have hpp : ((d.params.toNat : Nat) : Int) = d.params := by omega
  have hz1 : 1 ≤ (UInt8.ofNat d.kind).toNat := by omega
  have hz4 : (UInt8.ofNat d.kind).toNat ≤ 4 := by omega
  have hpn : d.params.toNat ≤ 4 := by omega
  have h4b : (4 : Nat) < 1000000000 := by decide
  have hal' := Nat.le_of_lt hal
  have nb : True := trivial
  refine Sem.wk ?_
  refine Sem.of_body Tryz.call38 Tryz.func38 rfl Tryz.ntmps38 (by simp) ?_
  repeat' first | refine yj fun N hN => ?_ | refine yl [1, 2, 4] ?_ | (refine ya rfl rfl fun N hN => ?_; simp only [go_sem, ↓reduceIte, zA, zB, zC, zD, zE, zF, zG, zL, zM, zN, reduceCtorEq, hp, hpq, hz, hpp, nb, Tryz.results38]) | (refine yg rfl ?_; try simp only [go_sem]) | ((first | refine yx hN _ _ ?_ | refine yz hN _ _ ?_); clear hN N) | (refine sem41 (q := q) (bs := bs) (a := a) (b := 0) (s := s) (by simp only [go_sem, ↓reduceIte, zA, zB, zC, zD, zE, zF, zG, zL, zM, zN, reduceCtorEq, hq, hpq, nb]) ?_; try simp only [go_sem, ↓reduceIte, zA, zB, zC, zD, zE, zF, zG, zL, zM, zN, reduceCtorEq, hp, hpq, hz, hpp, nb]) | (refine sem75 (q := q) (bs := bs) (a := a) (s := s) (c1 := .sl ow1 1 (N0.map .str)) (c2 := c2) (c3 := .sl ow3 7 (T0.map szD)) (UInt8.ofNat d.kind) (nums (d.params.toNat :: r0) ++ rest) 4 hz1 hz4 hl hal' (by simp only [go_sem, ↓reduceIte, zA, zB, zC, zD, zE, zF, zG, zL, zM, zN, reduceCtorEq, hp, hpq, nb]) (by simp only [go_sem, ↓reduceIte, zA, zB, zC, zD, zE, zF, zG, zL, zM, zN, reduceCtorEq, hq, hpq, nb]) hd ?_; try simp only [go_sem, ↓reduceIte, zA, zB, zC, zD, zE, zF, zG, zL, zM, zN, reduceCtorEq, hp, hpq, hz, hpp, nb]) | (refine sem69 (q := q) (s := s) (c1 := .sl ow1 1 (N0.map .str)) (c2 := c2) (c3 := .sl ow3 7 (T0.map szD)) hn1 4 hpn h4b hl (by simp only [go_sem, ↓reduceIte, zA, zB, zC, zD, zE, zF, zG, zL, zM, zN, reduceCtorEq, hp, hpq, nb]) (by simp only [go_sem, ↓reduceIte, zA, zB, zC, zD, zE, zF, zG, zL, zM, zN, reduceCtorEq, nb]) ?_; try simp only [go_sem, ↓reduceIte, zA, zB, zC, zD, zE, zF, zG, zL, zM, zN, reduceCtorEq, hp, hpq, hz, hpp, nb]) | ((refine ys fun r hr => ?_; (have hr1 := hr; try simp only [St.set_none_iff, St.mem_give, St.mem_take] at hr1); (first | have nbq := mem_ne hp hr1 | have nbq := mem_ne hp hr1.2 | have nbq := mem_ne hp hr1.2.2 | have nbq := mem_ne hp hr1.2.2.2 | have nbq := mem_ne hp hr1.2.2.2.2); have nb := And.intro nb nbq; (first | have nbq := mem_ne hq hr1 | have nbq := mem_ne hq hr1.2 | have nbq := mem_ne hq hr1.2.2 | have nbq := mem_ne hq hr1.2.2.2 | have nbq := mem_ne hq hr1.2.2.2.2); have nb := And.intro nb nbq; have nb := And.intro nb hr1); try simp only [go_sem, ↓reduceIte, zA, zB, zC, zD, zE, zF, zG, zL, zM, zN, reduceCtorEq, hp, hpq, hz, hpp, nb]) | fail
  rename_i r1 _ _ _ _ _ _ _ r2 _ hr2 _ _ _ _ _ _ _ _
  have hr2n := hr2.2
  have r2ne : (p ≠ r2 ∧ r2 ≠ p) ∧ (q ≠ r2 ∧ r2 ≠ q) ∧ (r1 ≠ r2 ∧ r2 ≠ r1) ∧ (r ≠ r2 ∧ r2 ≠ r) := by
    refine ⟨?_, ?_, ?_, ?_⟩ <;> simp only [ne_eq, nb, not_false_eq_true, and_self]
  refine W.gen (fun fr st' => MB bs st p q (.sl ow1 1 (N0.map .str)) c2 (.sl ow3 7 (T0.map szD)) s r1 r (a + 1 + (num d.params.toNat).length) [.int .u8 d.kind, .int .i64 d.params, .str [], .int .u8 0, .int .i64 0, .str [], .sl .nil 0 [], .sl .nil 0 [], .int .u8 0, .int .i64 0, .str [], .sl .nil 0 [], .sl .nil 0 [], .int .i64 0] none 7 [] st' ∧
    st'.mem r2 = some (.cells [.int .u8 0, .int .i64 0, .str [], .int .u8 0, .int .i64 0, .str [], .sl .nil 0 [], .sl .nil 0 [], .int .u8 0, .int .i64 0, .str [], .sl .nil 0 [], .sl .nil 0 [], .int .i64 0, .sl .nil 0 []]) ∧ fr 1 = .ptr r1 0 ∧ fr 2 = .ptr r2 0 ∧ fr 4 = .ptr r 0 ∧ fr 3 = .int .i64 a ∧ fr 17 = .int .u8 d.kind)
    ⟨⟨by simp only [go_sem, ↓reduceIte, zA, zB, zC, zD, zE, zF, zG, zL, zM, zN, reduceCtorEq, nb], by simp only [go_sem, ↓reduceIte, zA, zB, zC, zD, zE, zF, zG, zL, zM, zN, reduceCtorEq, tabD], by simp only [go_sem, ↓reduceIte, zA, zB, zC, zD, zE, zF, zG, zL, zM, zN, reduceCtorEq, hp, hpq, nb], by simp only [go_sem, ↓reduceIte, zA, zB, zC, zD, zE, zF, zG, zL, zM, zN, reduceCtorEq, nb], fun y y1 ob ho => ?_, fun t ht => ⟨ht, by simp⟩, .mkN _⟩, by simp only [go_sem, ↓reduceIte, zA, zB, zC, zD, zE, zF, zG, zL, zM, zN, reduceCtorEq, nb], by simp only [go_sem, ↓reduceIte, zA, zB, zC, zD, zE, zF, zG, zL, zM, zN, reduceCtorEq], by simp only [go_sem, ↓reduceIte, zA, zB, zC, zD, zE, zF, zG, zL, zM, zN, reduceCtorEq], by simp only [go_sem, ↓reduceIte, zA, zB, zC, zD, zE, zF, zG, zL, zM, zN, reduceCtorEq], by simp only [go_sem, ↓reduceIte, zA, zB, zC, zD, zE, zF, zG, zL, zM, zN, reduceCtorEq], by simp only [go_sem, ↓reduceIte, zA, zB, zC, zD, zE, zF, zG, zL, zM, zN, reduceCtorEq]⟩ ?_
  · refine ⟨by intro e; rw [e] at ho; simp only [nb, reduceCtorEq] at ho, by intro e; rw [e] at ho; simp only [nb, reduceCtorEq] at ho, ?_⟩
    simp only [go_sem, ↓reduceIte, zA, zB, zC, zD, zE, zF, zG, zL, zM, zN, reduceCtorEq, y1]
    repeat' (split; · (rename_i e; rw [e] at ho; simp only [nb, reduceCtorEq] at ho))
    exact ho
  clear hr nb hr2
  have key : ∀ fr st' o es y0 y1 y2 y3 y4 y5 y6 y7 y8 y9 y10 y11 y12 y13, MB bs st p q (.sl ow1 1 (N0.map .str)) c2 (.sl ow3 7 (T0.map szD)) s r1 r (a + 1 + (nums (d.params.toNat :: r0)).length) [y0, y1, y2, y3, y4, y5, y6, y7, y8, y9, y10, y11, y12, y13] o 7 es st' →
      st'.mem r2 = some (.cells [.int .u8 0, .int .i64 0, .str [], .int .u8 0, .int .i64 0, .str [], .sl .nil 0 [], .sl .nil 0 [], .int .u8 0, .int .i64 0, .str [], .sl .nil 0 [], .sl .nil 0 [], .int .i64 0, .sl .nil 0 []]) → fr 2 = .ptr r2 0 → fr 4 = .ptr r 0 →
      CoeT (.agg [y0, y1, y2, y3, y4, y5, y6, y7, y8, y9, y10, y11, y12, y13, tabD o 7 es]) d.d → N fr st' := by
    intro fr st' o es y0 y1 y2 y3 y4 y5 y6 y7 y8 y9 y10 y11 y12 y13 hM m2 f2 f4 hco
    refine Goes.go hN _ _ ?_
    clear hN N
    have mb := hM.mb
    have hne := hM.pne (by simp)
    repeat' first | refine yj fun N hN => ?_ | refine yl [1, 2, 4] ?_ | ((first | refine ya rfl rfl fun N hN => ?_ | refine yo ?_); simp only [go_sem, ↓reduceIte, zA, zB, zC, zD, zE, zF, zG, zL, zM, zN, reduceCtorEq, f2, f4, mb, m2, r2ne, Tryz.results38]) | (refine yg rfl ?_; try simp only [go_sem]) | ((first | refine yx hN _ _ ?_ | refine yz hN _ _ ?_); clear hN N) | fail
    refine ⟨d.d, _, hco, Wk.refl _, hk _ (by simp only [go_sem, ↓reduceIte, zA, zB, zC, zD, zE, zF, zG, zL, zM, zN, reduceCtorEq, hM.mq, r2ne]) (fun y y1 ob ho => ?_) (fun t ht => (hM.tk t ht).1)⟩
    have y2 : y ≠ r2 := fun e => by rw [e, hr2n] at ho; cases ho
    simp only [go_sem, ↓reduceIte, zA, zB, zC, zD, zE, zF, zG, zL, zM, zN, reduceCtorEq, y2]
    exact (hM.fr y y1 ob ho).2.2
  clear hN
  rintro fr st1 ⟨hM, m2, f1, f2, f4, f3, f17⟩
  have m1 := hM.m1
  have mb := hM.mb
  have mp := hM.mp
  have mq := hM.mq
  have hne := hM.pne (by simp)
  have hb : True := trivial
  rcases Nat.decEq d.kind 4 with k4 | k4
  · have q4 : ((d.kind : Int) = 4) = False := eq_false (by omega)
    rw [if_neg k4] at hD
    obtain ⟨iN, iT, hi, hj, hD⟩ := hD
    obtain ⟨g1, g2⟩ := hi.at
    obtain ⟨g3, g4⟩ := hj.at
    obtain ⟨hfx, hid⟩ := hF.n k4
    rcases Nat.decEq d.kind 1 with k1 | k1
    · have q1 : ((d.kind : Int) = 1) = False := eq_false (by omega)
      rw [if_neg k1] at hD
      obtain ⟨iV, hv, rfl⟩ := hD
      obtain ⟨g5, g6⟩ := hv.at
      rw [nums_cons, nums_cons, nums_cons, List.append_assoc, List.append_assoc, List.append_assoc] at hd1
      obtain ⟨hn2, hd2⟩ := num_at hd1 (by have := hi.1; omega) hl
      obtain ⟨hn3, hd3⟩ := num_at hd2 (by have := hj.1; omega) hl
      obtain ⟨hn4, hd4⟩ := num_at hd3 (by have := hv.1; omega) hl
      have hE : a + 1 + (nums [d.params.toNat, iN, iT, iV]).length = a + 1 + (num d.params.toNat).length + (num iN).length + (num iT).length + (num iV).length := by simp [nums_len, nums, Nat.add_assoc]
      repeat' first | refine yj fun N hN => ?_ | refine yk ?_ | refine yl [1, 2, 4] ?_ | (refine ya rfl rfl fun N hN => ?_; simp only [go_sem, ↓reduceIte, zA, zB, zC, zD, zE, zF, zG, zL, zM, zN, reduceCtorEq, f1, f2, f4, f3, f17, m1, mb, mp, m2, r2ne, hne, q4, q1, Tryz.results38]) | (refine yg rfl ?_; try simp only [go_sem]) | ((first | refine yx hN _ _ ?_ | refine yz hN _ _ ?_); clear hN N) | fail
      refine ym ?_
      simp only [go_sem, ↓reduceIte, zA, zB, zC, zD, zE, zF, zG, zL, zM, zN, reduceCtorEq]
      repeat' first | refine yj fun N hN => ?_ | refine yl [1, 2, 4] ?_ | ((first | refine ya rfl rfl fun N hN => ?_ | refine yc rfl rfl fun N hN => ?_ | refine ye rfl rfl fun N hN => ?_ | (refine yw hN _ _ ?_; clear hN N)); simp only [go_sem, ↓reduceIte, zA, zB, zC, zD, zE, zF, zG, zL, zM, zN, reduceCtorEq, f1, f2, f4, f3, f17, m1, mb, mp, m2, r2ne, hne, q4, q1, Tryz.results38]) | ((first | refine yg rfl ?_ | refine yi ?_); try simp only [go_sem]) | ((first | refine yx hN _ _ ?_ | refine yz hN _ _ ?_ | refine yy hN _ ?_); clear hN N) | refine yt (id := 5) mixed [1, 2, 4] (.rd 0 (.act 1 [0] (.act 2 [0] (.act 3 [0] (.act 4 [0] (.act 5 [] (.act 6 [] (.act 7 [] (.nil))))))))) (by kernel_rfl) ?_ | refine yt (id := 6) mixed [1, 2, 4] (.rd 0 (.act 1 [0] (.act 2 [0] (.act 3 [0] (.act 4 [0] (.act 5 [] (.act 6 [] (.act 7 [] (.act 8 [] (.nil)))))))))) (by kernel_rfl) ?_ | (refine sem78 (c3 := .sl ow3 7 (T0.map szD)) (c2 := c2) (c1 := .sl ow1 1 (N0.map .str)) (q := q) (s := s) hn2 hl (by simp only [go_sem, ↓reduceIte, zA, zB, zC, zD, zE, zF, zG, zL, zM, zN, reduceCtorEq, mp, hne]) (by simp only [go_sem, ↓reduceIte, zA, zB, zC, zD, zE, zF, zG, zL, zM, zN, reduceCtorEq, mq, hne]) ow1 (by rw [List.length_map]; exact hN0) g1 g2 ?_; try simp only [go_sem, ↓reduceIte, zA, zB, zC, zD, zE, zF, zG, zL, zM, zN, reduceCtorEq, f1, f2, f4, f3, f17, m1, mb, mp, m2, r2ne, hne, q4, q1]) | (refine sem80 (c3 := .sl ow3 7 (T0.map szD)) (c2 := c2) (c1 := .sl ow1 1 (N0.map .str)) (q := q) (s := s) hn3 hl (by simp only [go_sem, ↓reduceIte, zA, zB, zC, zD, zE, zF, zG, zL, zM, zN, reduceCtorEq, mp, hne]) (by simp only [go_sem, ↓reduceIte, zA, zB, zC, zD, zE, zF, zG, zL, zM, zN, reduceCtorEq, hne]) ow3 (by rw [List.length_map]; exact hT0) g3 g4 ?_; try simp only [go_sem, ↓reduceIte, zA, zB, zC, zD, zE, zF, zG, zL, zM, zN, reduceCtorEq, f1, f2, f4, f3, f17, m1, mb, mp, m2, r2ne, hne, q4, q1]) | fail
      refine ym ?_
      simp only [go_sem, ↓reduceIte, zA, zB, zC, zD, zE, zF, zG, zL, zM, zN, reduceCtorEq]
      repeat' first | ((first | refine yc rfl rfl fun N hN => ?_ | refine ye rfl rfl fun N hN => ?_ | (refine yw hN _ _ ?_; clear hN N)); simp only [go_sem, ↓reduceIte, zA, zB, zC, zD, zE, zF, zG, zL, zM, zN, reduceCtorEq, f1, f2, f4, f3, f17, m1, mb, mp, m2, r2ne, hne, q4, q1, Tryz.results38]) | (refine yi ?_; try simp only [go_sem]) | (refine yy hN _ ?_; clear hN N) | refine yt (id := 8) mixed [1, 2, 4] (.rd 0 (.act 1 [0] (.act 2 [0] (.act 3 [0] (.act 4 [0] (.act 5 [] (.act 6 [] (.act 7 [] (.act 8 [] (.nil)))))))))) (by kernel_rfl) ?_ | (refine sem80 (c3 := .sl ow3 7 (T0.map szD)) (c2 := c2) (c1 := .sl ow1 1 (N0.map .str)) (q := q) (s := s) hn4 hl (by simp only [go_sem, ↓reduceIte, zA, zB, zC, zD, zE, zF, zG, zL, zM, zN, reduceCtorEq, mp, hne]) (by simp only [go_sem, ↓reduceIte, zA, zB, zC, zD, zE, zF, zG, zL, zM, zN, reduceCtorEq, hne]) ow3 (by rw [List.length_map]; exact hT0) g5 g6 ?_; try simp only [go_sem, ↓reduceIte, zA, zB, zC, zD, zE, zF, zG, zL, zM, zN, reduceCtorEq, f1, f2, f4, f3, f17, m1, mb, mp, m2, r2ne, hne, q4, q1]) | fail
      refine key _ _ none [] (.int .u8 d.kind) (.int .i64 d.params) (.str d.name) (.int .u8 d.ty.k) (.int .i64 d.ty.n) (.str d.ty.s) (.sl .frozen 5 (d.ty.ls.map Lv.d)) (.sl .frozen 5 (d.ty.ts.map Tm.d)) (.int .u8 d.val.k) (.int .i64 d.val.n) (.str d.val.s) (.sl .frozen 5 (d.val.ls.map Lv.d)) (.sl .frozen 5 (d.val.ts.map Tm.d)) (.int .i64 0)
        (hM.put (by simp) (by simp only [go_sem, ↓reduceIte, zA, zB, zC, zD, zE, zF, zG, zL, zM, zN, reduceCtorEq]) (by simp only [go_sem, ↓reduceIte, zA, zB, zC, zD, zE, zF, zG, zL, zM, zN, reduceCtorEq, hne]; rw [hE]) (fun x x1 x2 => by simp only [go_sem, ↓reduceIte, zA, zB, zC, zD, zE, zF, zG, zL, zM, zN, reduceCtorEq, x1, x2]) rfl) (by simp only [go_sem, ↓reduceIte, zA, zB, zC, zD, zE, zF, zG, zL, zM, zN, reduceCtorEq, m2, r2ne]) (by simp only [go_sem, ↓reduceIte, zA, zB, zC, zD, zE, zF, zG, zL, zM, zN, reduceCtorEq, f2]) (by simp only [go_sem, ↓reduceIte, zA, zB, zC, zD, zE, zF, zG, zL, zM, zN, reduceCtorEq, f4]) ?_
      unfold De.d
      rw [hfx, hid]
      exact CoeT.agg (.s (.s (.s (.s (.s (.s (.s (.s (.s (.s (.s (.s (.s (.s (.c (Coe.nil 0 7) .n)))))))))))))))
    · have q1 : ((d.kind : Int) = 1) = True := eq_true (by omega)
      rw [if_pos k1] at hD
      subst hD
      rw [nums_cons, nums_cons, List.append_assoc, List.append_assoc] at hd1
      obtain ⟨hn2, hd2⟩ := num_at hd1 (by have := hi.1; omega) hl
      obtain ⟨hn3, hd3⟩ := num_at hd2 (by have := hj.1; omega) hl
      have hE : a + 1 + (nums [d.params.toNat, iN, iT]).length = a + 1 + (num d.params.toNat).length + (num iN).length + (num iT).length := by simp [nums_len, nums, Nat.add_assoc]
      repeat' first | refine yj fun N hN => ?_ | refine yk ?_ | refine yl [1, 2, 4] ?_ | ((first | refine ya rfl rfl fun N hN => ?_ | refine yc rfl rfl fun N hN => ?_ | refine ye rfl rfl fun N hN => ?_ | (refine yw hN _ _ ?_; clear hN N) | refine ym ?_); simp only [go_sem, ↓reduceIte, zA, zB, zC, zD, zE, zF, zG, zL, zM, zN, reduceCtorEq, f1, f2, f4, f3, f17, m1, mb, mp, m2, r2ne, hne, q4, q1, Tryz.results38]) | ((first | refine yg rfl ?_ | refine yn ?_ | refine yi ?_); try simp only [go_sem]) | ((first | refine yx hN _ _ ?_ | refine yz hN _ _ ?_ | refine yy hN _ ?_); clear hN N) | refine yt (id := 5) mixed [1, 2, 4] (.rd 0 (.act 1 [0] (.act 2 [0] (.act 3 [0] (.act 4 [0] (.act 5 [] (.act 6 [] (.act 7 [] (.nil))))))))) (by kernel_rfl) ?_ | refine yt (id := 6) mixed [1, 2, 4] (.rd 0 (.act 1 [0] (.act 2 [0] (.act 3 [0] (.act 4 [0] (.act 5 [] (.act 6 [] (.act 7 [] (.act 8 [] (.nil)))))))))) (by kernel_rfl) ?_ | (refine sem78 (c3 := .sl ow3 7 (T0.map szD)) (c2 := c2) (c1 := .sl ow1 1 (N0.map .str)) (q := q) (s := s) hn2 hl (by simp only [go_sem, ↓reduceIte, zA, zB, zC, zD, zE, zF, zG, zL, zM, zN, reduceCtorEq, mp, hne]) (by simp only [go_sem, ↓reduceIte, zA, zB, zC, zD, zE, zF, zG, zL, zM, zN, reduceCtorEq, mq, hne]) ow1 (by rw [List.length_map]; exact hN0) g1 g2 ?_; try simp only [go_sem, ↓reduceIte, zA, zB, zC, zD, zE, zF, zG, zL, zM, zN, reduceCtorEq, f1, f2, f4, f3, f17, m1, mb, mp, m2, r2ne, hne, q4, q1]) | (refine sem80 (c3 := .sl ow3 7 (T0.map szD)) (c2 := c2) (c1 := .sl ow1 1 (N0.map .str)) (q := q) (s := s) hn3 hl (by simp only [go_sem, ↓reduceIte, zA, zB, zC, zD, zE, zF, zG, zL, zM, zN, reduceCtorEq, mp, hne]) (by simp only [go_sem, ↓reduceIte, zA, zB, zC, zD, zE, zF, zG, zL, zM, zN, reduceCtorEq, hne]) ow3 (by rw [List.length_map]; exact hT0) g3 g4 ?_; try simp only [go_sem, ↓reduceIte, zA, zB, zC, zD, zE, zF, zG, zL, zM, zN, reduceCtorEq, f1, f2, f4, f3, f17, m1, mb, mp, m2, r2ne, hne, q4, q1]) | fail
      refine key _ _ none [] (.int .u8 d.kind) (.int .i64 d.params) (.str d.name) (.int .u8 d.ty.k) (.int .i64 d.ty.n) (.str d.ty.s) (.sl .frozen 5 (d.ty.ls.map Lv.d)) (.sl .frozen 5 (d.ty.ts.map Tm.d)) (.int .u8 0) (.int .i64 0) (.str []) (.sl .nil 0 []) (.sl .nil 0 []) (.int .i64 0)
        (hM.put (by simp) (by simp only [go_sem, ↓reduceIte, zA, zB, zC, zD, zE, zF, zG, zL, zM, zN, reduceCtorEq]) (by simp only [go_sem, ↓reduceIte, zA, zB, zC, zD, zE, zF, zG, zL, zM, zN, reduceCtorEq, hne]; rw [hE]) (fun x x1 x2 => by simp only [go_sem, ↓reduceIte, zA, zB, zC, zD, zE, zF, zG, zL, zM, zN, reduceCtorEq, x1, x2]) rfl) (by simp only [go_sem, ↓reduceIte, zA, zB, zC, zD, zE, zF, zG, zL, zM, zN, reduceCtorEq, m2, r2ne]) (by simp only [go_sem, ↓reduceIte, zA, zB, zC, zD, zE, zF, zG, zL, zM, zN, reduceCtorEq, f2]) (by simp only [go_sem, ↓reduceIte, zA, zB, zC, zD, zE, zF, zG, zL, zM, zN, reduceCtorEq, f4]) ?_
      unfold De.d
      rw [hF.v k1, hfx, hid]
      exact CoeT.agg (.s (.s (.s (.s (.s (.s (.s (.s (z_coe _ _ (.s (.c (Coe.nil 0 7) .n)))))))))))
  · have q4 : ((d.kind : Int) = 4) = True := eq_true (by omega)
    rw [if_pos k4] at hD
    obtain ⟨r3, rfl, hD⟩ := hD
    obtain ⟨b1, b2, b3, b4, b5, b6, b7, b8⟩ := hF.b k4
    rw [nums_cons, nums_cons, List.append_assoc, List.append_assoc] at hd1
    obtain ⟨hn2, hd2⟩ := num_at hd1 (by omega) hl
    obtain ⟨hn3, hd3⟩ := num_at hd2 (by omega) hl
    have hff : ((d.fixed.toNat : Nat) : Int) = d.fixed := by omega
    have hfb : d.fixed.toNat ≤ 12 := by omega
    repeat' first | refine yj fun N hN => ?_ | refine yk ?_ | refine yl [1, 2, 4] ?_ | ((first | refine ya rfl rfl fun N hN => ?_ | refine ym ?_); simp only [go_sem, ↓reduceIte, zA, zB, zC, zD, zE, zF, zG, zL, zM, zN, reduceCtorEq, f1, f2, f4, f3, f17, m1, mb, mp, m2, r2ne, hne, q4, hff, Tryz.results38]) | (refine yg rfl ?_; try simp only [go_sem]) | ((first | refine yx hN _ _ ?_ | refine yz hN _ _ ?_); clear hN N) | (refine sem69 (q := q) (s := s) (c1 := .sl ow1 1 (N0.map .str)) (c2 := c2) (c3 := .sl ow3 7 (T0.map szD)) hn2 12 hfb (by decide) hl (by simp only [go_sem, ↓reduceIte, zA, zB, zC, zD, zE, zF, zG, zL, zM, zN, reduceCtorEq, mp, hne]) (by simp only [go_sem, ↓reduceIte, zA, zB, zC, zD, zE, zF, zG, zL, zM, zN, reduceCtorEq, mq, hne]) ?_; try simp only [go_sem, ↓reduceIte, zA, zB, zC, zD, zE, zF, zG, zL, zM, zN, reduceCtorEq, f1, f2, f4, f3, f17, m1, mb, mp, m2, r2ne, hne, q4, hff]) | fail
    refine sem32 hn3 3 b7 (by decide) hl (c1 := .sl ow1 1 (N0.map .str)) (c2 := c2) (c3 := .sl ow3 7 (T0.map szD)) (q := q) (s := s) (by simp only [go_sem, ↓reduceIte, zA, zB, zC, zD, zE, zF, zG, zL, zM, zN, reduceCtorEq, mp, hne]) (by simp only [go_sem, ↓reduceIte, zA, zB, zC, zD, zE, zF, zG, zL, zM, zN, reduceCtorEq, hne]) 81 [] [.ptr r 0, .ptr r1 0] rfl rfl
      (fun i st' => ∃ o A ns', bs.drop A = nums ns' ++ rest ∧ IndsN N0 T0 (d.inds.drop i) ns' ∧ A + (nums ns').length = a + 1 + (nums (d.params.toNat :: d.fixed.toNat :: d.inds.length :: r3)).length ∧
        MB bs st p q (.sl ow1 1 (N0.map .str)) c2 (.sl ow3 7 (T0.map szD)) s r1 r A [.int .u8 d.kind, .int .i64 d.params, .str [], .int .u8 0, .int .i64 0, .str [], .sl .nil 0 [], .sl .nil 0 [], .int .u8 0, .int .i64 0, .str [], .sl .nil 0 [], .sl .nil 0 [], .int .i64 d.fixed] o 7 ((d.inds.take i).map In.d) st' ∧
        st'.mem r2 = some (.cells [.int .u8 0, .int .i64 0, .str [], .int .u8 0, .int .i64 0, .str [], .sl .nil 0 [], .sl .nil 0 [], .int .u8 0, .int .i64 0, .str [], .sl .nil 0 [], .sl .nil 0 [], .int .i64 0, .sl .nil 0 []]))
      ⟨none, _, r3, hd3, hD, by simp only [nums_len]; omega, hM.put (by simp) (by simp only [go_sem, ↓reduceIte, zA, zB, zC, zD, zE, zF, zG, zL, zM, zN, reduceCtorEq, hne]) (by simp only [go_sem, ↓reduceIte, zA, zB, zC, zD, zE, zF, zG, zL, zM, zN, reduceCtorEq, hne]) (fun x x1 x2 => by simp only [go_sem, ↓reduceIte, zA, zB, zC, zD, zE, zF, zG, zL, zM, zN, reduceCtorEq, x1, x2]) rfl, by simp only [go_sem, ↓reduceIte, zA, zB, zC, zD, zE, zF, zG, zL, zM, zN, reduceCtorEq, m2, r2ne]⟩
      (fun i st2 hi2 ⟨o, A, ns', e1, e2, e3, hM2, m22⟩ => ⟨⟨_, s, _, _, _, hM2.mp, hM2.mq⟩, ?_⟩) (fun st2 ⟨o, A, ns', e1, e2, e3, hM2, m22⟩ => ?_)
    · obtain ⟨xa, xb, rfl, h1, h2⟩ := IndsN.at hi2 e2
      rw [nums_app, List.append_assoc] at e1
      have hib : indB (d.inds.getD i In.z) = true := List.all_eq_true.1 b8 _ (getD_mem d.inds In.z hi2)
      simp only [indB, Bool.and_eq_true, decide_eq_true_eq] at hib
      refine sem81 (x := d.inds.getD i In.z) e1 h1 hib.1.2 hl hN0 hT0 hM2.m1 hM2.mb hM2.tb (by rw [List.length_map, List.length_take]; omega) hM2.mp hM2.mq (fun jt st3 g1 g2 g3 => ?_)
      refine ⟨some jt, _, xb, drop_past e1, h2, by rw [nums_app, List.length_append] at e3; omega, ?_, g3.mem r2 (by simp [r2ne]) _ m22⟩
      have := hM2.step (by simp) g1 g2 g3
      rw [take_getD _ In.z hi2, List.map_append]
      exact this
    · rw [List.drop_length] at e2
      obtain rfl : ns' = [] := e2
      rw [List.take_of_length_le (Nat.le_refl _)] at hM2
      have hA : A = a + 1 + (nums (d.params.toNat :: d.fixed.toNat :: d.inds.length :: r3)).length := by simpa [nums] using e3
      rw [hA] at hM2
      obtain ⟨ow, how⟩ := hM2.tb.cons (z := 7) (fun e => by simp only [List.map_eq_nil_iff] at e; rw [e] at b6; simp at b6)
      have mb2 := hM2.mb
      rw [how] at mb2
      have hl0 : ¬ (d.inds.length : Int) = 0 := by omega
      repeat' first | refine yj fun N hN => ?_ | refine yl [1, 2, 4] ?_ | ((first | refine ya rfl rfl fun N hN => ?_ | refine ym ?_); simp only [go_sem, ↓reduceIte, zA, zB, zC, zD, zE, zF, zG, zL, zM, zN, reduceCtorEq, f1, f2, f4, f3, mb2, hl0, Tryz.results38]) | ((first | refine yg rfl ?_ | refine yn ?_); try simp only [go_sem]) | ((first | refine yx hN _ _ ?_ | refine yz hN _ _ ?_); clear hN N) | fail
      refine key _ _ o _ _ _ _ _ _ _ _ _ _ _ _ _ _ _ hM2 m22 (by simp only [go_sem, ↓reduceIte, zA, zB, zC, zD, zE, zF, zG, zL, zM, zN, reduceCtorEq, f2]) (by simp only [go_sem, ↓reduceIte, zA, zB, zC, zD, zE, zF, zG, zL, zM, zN, reduceCtorEq, f4]) ?_
      unfold De.d
      rw [b1, b2, b3]
      exact CoeT.agg (.s (.s (.s (z_coe _ _ (z_coe _ _ (.s (.c (Coe.tab hM2.tb.n) .n)))))))
end
end Go.Proofs.YtddbidoaolnegaaGreatDoor
