/-
PART OF A CLAIM: P9, R2, R3, R1. No statement of the seat is proved here; no condition. -/
import Derived.RangeFuncMany
import Derived.RangeFuncLeaves
import Derived.Shelf.Abstract
import Derived.WalkKit
import Derived.TacticsIn
import Derived.BigFrameIn
import Derived.RangeFuncFrom
import Derived.Test.YtddbidoaolnegaaGreatDoorWO5
import Derived.Test.YtddbidoaolnegaaGreatDoorWO8
import Derived.Test.YtddbidoaolnegaaGreatDoorWO9
set_option linter.all false
/- What no statement looks at: the walks. No statement of the seat is proved here; no condition. -/
namespace Go.Proofs.YtddbidoaolnegaaGreatDoor
open Go Go.RowKit
open Nat renaming reduceLT → zA, reduceEqDiff → zB, reduceBEq → zC, reduceAdd → zD, reduceMul → zE, reduceSub → zF, reduceLeDiff → zG, mul_one → zH, zero_add → zI, add_zero → zJ
open Int renaming toNat_natCast → zK, reduceAdd → zL, reduceLE → zM, reduceLT → zN, natCast_nonneg → zO
open Go.Proofs.YtddbidoaolnegaaGreatDoor renaming evI_plain → ya, evI_guard → yb, evT_rd → yc, evT_rdg → yd, evT_act → ye, evT_actg → yf, evI_done → yg, evT_two → yh, evT_nil → yi, W.seqG → yj, W.block → yk, W.regionI → yl, W.cond → ym, W.skip → yn, W.ret → yo, W.exit → yp, gdD_split → yq, newT_intro → yr, newB_intro → ys, W.draw → yt, St.set_del → yu, St.give_take → yv, AGo.go → yw, IGo.go → yx, TGo.go → yy, Goes.go → yz
attribute [local go_sem] zK zP zQ zH zI zJ zO
attribute [local irreducible] W evI evT evL evOp evBin gdD Sem newT newB fillD bldOf
set_option maxRecDepth 10000
set_option maxHeartbeats 1000000

theorem Tm.map_fine (ts : List Tm) : (∀ y ∈ ts.map Tm.d, y.fine = true ∧ y.cells.length = 5) ↔ True := by
  simp only [iff_true]; intro y hy; obtain ⟨c, _, rfl⟩ := List.mem_map.1 hy; exact ⟨Tm.d_fine c, Tm.d_len c⟩
theorem Lv.map_fine (ts : List Lv) : (∀ y ∈ ts.map Lv.d, y.fine = true ∧ y.cells.length = 5) ↔ True := by
  simp only [iff_true]; intro y hy; obtain ⟨c, _, rfl⟩ := List.mem_map.1 hy; exact ⟨Lv.d_fine c, Lv.d_len c⟩
attribute [go_sem] Tm.map_fine Lv.map_fine

theorem hugeB_size {t : Tm} (h : hugeB t = false) : t.size ≤ 131072 := by
  simp only [hugeB, Bool.not_eq_false', Bool.and_eq_true, decide_eq_true_eq] at h
  exact h.1.2

def vast5 (ts : List Tm) (most nodes : Int) : Bool := decide (most < (ts.length : Int)) || ts.any hugeB || decide (nodes < (Tm.sizes ts : Int))
theorem any_badG {α : Type} {p : List α} (z : α) {q : α → Bool} {i : Nat} (hi : i < p.length) (h : q (p.getD i z) = true) : p.any q = true := by
  rw [List.any_eq_true]
  exact ⟨p.getD i z, getD_mem p z hi, h⟩
theorem any_goodG {α : Type} {p : List α} (z : α) {q : α → Bool} (h : ∀ j, j < p.length → q (p.getD j z) = false) : p.any q = false := by
  rw [List.any_eq_false]
  intro c hc
  obtain ⟨j, hj, rfl⟩ := List.getElem_of_mem hc
  have := h j hj
  simpa [List.getD, hj] using this

theorem sem14 (ow : Own) (z : Nat) (ts : List Tm) (most nodes : Int) (st : St) (k : D → St → Prop) (hw : ∀ t ∈ ts, t.wf) (hz : ts = [] ∨ z = 5) (hm : most < 1000000) (hk : k (.bool (vast5 ts most nodes)) st) :
    Sem P 14 [.sl ow z (ts.map Tm.d), .int .i64 most, .int .i64 nodes] st k := by
  by_cases c1 : most < ts.length
  · rw [show vast5 ts most nodes = true by simp [vast5, c1]] at hk
    refine Sem.of_body Tryz.call14 Tryz.func14 rfl Tryz.ntmps14 (by simp) ?_
    repeat' first | refine yj fun N hN => ?_ | refine yl [] ?_ | ((first | refine ya rfl rfl fun N hN => ?_ | refine ym ?_ | refine yo ?_); simp only [go_sem, ↓reduceIte, zA, zB, zC, zD, zE, zF, zG, zL, zM, zN, reduceCtorEq, c1, Tryz.results14]) | (refine yg rfl ?_; try simp only [go_sem]) | ((first | refine yx hN _ _ ?_ | refine yz hN _ _ ?_); clear hN N) | clear hN N | fail
    all_goals exact hk
  rw [show vast5 ts most nodes = (ts.any hugeB || decide (nodes < (Tm.sizes ts : Int))) by simp [vast5, c1]] at hk
  refine Sem.of_body Tryz.call14 Tryz.func14 rfl Tryz.ntmps14 (by simp) ?_
  repeat' first | refine yj fun N hN => ?_ | refine yk ?_ | refine yl [] ?_ | ((first | refine ya rfl rfl fun N hN => ?_ | refine ym ?_); simp only [go_sem, ↓reduceIte, zA, zB, zC, zD, zE, zF, zG, zL, zM, zN, reduceCtorEq, c1, Tryz.results14]) | ((first | refine yg rfl ?_ | refine yn ?_); try simp only [go_sem]) | ((first | refine yx hN _ _ ?_ | refine yz hN _ _ ?_); clear hN N) | fail
  refine W.loopN (fun m fr st' => st = st' ∧ ∃ i n : Nat, i + m = ts.length ∧ (∀ j, j < i → hugeB (ts.getD j Tm.z) = false) ∧ n + Tm.sizes (ts.drop i) = Tm.sizes ts ∧ n ≤ 131072 * i ∧ fr 8 = .int .i64 i ∧ fr 7 = .int .i64 n ∧ fr 2 = .int .i64 nodes ∧ fr 0 = .sl ow z (ts.map Tm.d)) ?_ ts.length _ _ ⟨rfl, 0, 0, by simp, by simp, by simp, by simp, by simp only [go_sem, ↓reduceIte, zA, zB, zC, zD, zE, zF, zG, zL, zM, zN, reduceCtorEq]; rfl, by simp only [go_sem, ↓reduceIte, zA, zB, zC, zD, zE, zF, zG, zL, zM, zN, reduceCtorEq]; rfl, by simp only [go_sem, ↓reduceIte, zA, zB, zC, zD, zE, zF, zG, zL, zM, zN, reduceCtorEq], by simp only [go_sem, ↓reduceIte, zA, zB, zC, zD, zE, zF, zG, zL, zM, zN, reduceCtorEq]⟩
  rintro m N' ih fr _ ⟨rfl, i, n, hi, hal, he, hn, f8, f7, f2, f0⟩
  rcases Nat.lt_or_ge i ts.length with hlt | hge
  · have hz5 : z = 5 := by rcases hz with h | h; (rw [h] at hlt; simp at hlt); exact h
    subst hz5
    have hg : (ts.map Tm.d).getD i .any = (ts.getD i Tm.z).d := getD_map _ _ _ hlt
    have h4 : (i : Int) < ts.length := by omega
    have hmem := getD_mem ts Tm.z hlt
    have hwt := hw _ hmem
    rw [drop_getD _ Tm.z hlt, Tm.sizes] at he
    cases hh : hugeB (ts.getD i Tm.z) with
    | true =>
      rw [any_badG Tm.z hlt hh, Bool.true_or] at hk
      repeat' first | refine yj fun N hN => ?_ | refine yk ?_ | refine yl [] ?_ | ((first | refine ya rfl rfl fun N hN => ?_ | refine ym ?_ | refine yo ?_); simp only [go_sem, ↓reduceIte, zA, zB, zC, zD, zE, zF, zG, zL, zM, zN, reduceCtorEq, f8, f7, f2, f0, hg, hlt, h4, hh, Tryz.results14]) | ((first | refine yg rfl ?_ | refine yn ?_); try simp only [go_sem]) | ((first | refine yx hN _ _ ?_ | refine yz hN _ _ ?_); clear hN N) | (refine sem44 _ hwt _ _ ?_; try simp only [go_sem, ↓reduceIte, zA, zB, zC, zD, zE, zF, zG, zL, zM, zN, reduceCtorEq, f8, f7, f2, f0, hg, hlt, h4, hh]) | clear hN N | fail
      all_goals exact hk
    | false =>
      have hsz := hugeB_size hh
      repeat' first | refine yj fun N hN => ?_ | refine yk ?_ | refine yl [] ?_ | ((first | refine ya rfl rfl fun N hN => ?_ | refine ym ?_); simp only [go_sem, ↓reduceIte, zA, zB, zC, zD, zE, zF, zG, zL, zM, zN, reduceCtorEq, f8, f7, f2, f0, hg, hlt, h4, hh, Tryz.results14]) | ((first | refine yg rfl ?_ | refine yn ?_); try simp only [go_sem]) | ((first | refine yx hN _ _ ?_ | refine yz hN _ _ ?_); clear hN N) | (refine sem44 _ hwt _ _ ?_; try simp only [go_sem, ↓reduceIte, zA, zB, zC, zD, zE, zF, zG, zL, zM, zN, reduceCtorEq, f8, f7, f2, f0, hg, hlt, h4, hh]) | (refine sem45 _ hwt _ _ (by omega) ?_; try simp only [go_sem, ↓reduceIte, zA, zB, zC, zD, zE, zF, zG, zL, zM, zN, reduceCtorEq, f8, f7, f2, f0, hg, hlt, h4, hh]) | (refine And.intro ?_ ?_; · omega) | clear hN N | fail
      refine ih.back (m - 1) (by omega) _ _ ⟨rfl, i + 1, n + (ts.getD i Tm.z).size, by omega, lt_succ_all (p := fun j => hugeB (ts.getD j Tm.z) = false) hal hh, by omega, by omega, ?_, ?_, ?_, ?_⟩
      · simp only [go_sem, ↓reduceIte, zA, zB, zC, zD, zE, zF, zG, zL, zM, zN, reduceCtorEq]; rfl
      · simp only [go_sem, ↓reduceIte, zA, zB, zC, zD, zE, zF, zG, zL, zM, zN, reduceCtorEq]; rfl
      · simp only [go_sem, ↓reduceIte, zA, zB, zC, zD, zE, zF, zG, zL, zM, zN, reduceCtorEq, f2]
      · simp only [go_sem, ↓reduceIte, zA, zB, zC, zD, zE, zF, zG, zL, zM, zN, reduceCtorEq, f0]
  · have h4 : ¬ (i : Int) < ts.length := by omega
    rw [List.drop_of_length_le hge, Tm.sizes] at he
    rw [any_goodG Tm.z (fun j hj => hal j (by omega)), Bool.false_or, show Tm.sizes ts = n by omega] at hk
    repeat' first | refine yj fun N hN => ?_ | refine yl [] ?_ | ((first | refine ya rfl rfl fun N hN => ?_ | refine ym ?_ | refine yo ?_ | refine yp ?_); simp only [go_sem, ↓reduceIte, zA, zB, zC, zD, zE, zF, zG, zL, zM, zN, reduceCtorEq, f8, f7, f2, f0, h4, Tryz.results14]) | (refine yg rfl ?_; try simp only [go_sem]) | ((first | refine yx hN _ _ ?_ | refine yz hN _ _ ?_); clear hN N) | clear hN N | fail
    all_goals exact hk

/-! A declaration's terms. -/
def indTs (x : In) : List Tm := x.ty :: x.cs.map Cc.ty
def termsOf (d : De) : List Tm := d.ty :: d.val :: d.inds.flatMap indTs
theorem take_succ_getD {α : Type} (l : List α) (a : α) {i : Nat} (h : i < l.length) : l.take (i + 1) = l.take i ++ [l.getD i a] := by
  rw [List.take_add_one]; simp [List.getD, h]

theorem St.step {st st' : St} {q j : Nat} (hq : st.tok q = false) (h : (st.give q).le st') : (st.give j).le ((st'.take q).give j) := by
  refine ⟨fun r o hr => h.mem r o hr, fun i hi => ?_⟩
  rw [St.tok_give] at hi ⊢
  split
  · rfl
  · rename_i hne
    rw [if_neg hne] at hi
    rw [St.tok_take, if_neg (fun e => by rw [e, hq] at hi; cases hi)]
    exact h.tok i (by rw [St.tok_give]; split <;> trivial)
theorem St.tokF {st st' : St} {q j : Nat} (h : (st.give q).le st') (hj : st'.tok j = false) : st.tok j = false :=
  St.tok_false_of_le ((St.le_give (St.le.refl _) _).trans h) hj
theorem St.tokT {st st' : St} {q : Nat} (h : (st.give q).le st') : st'.tok q = true := h.tok q (by simp [St.tok_give])

theorem sem13 (x : De) (st : St) (k : D → St → Prop) (h1 : x.inds.length ≤ 10) (h2 : ∀ y ∈ x.inds, y.cs.length ≤ 20)
    (hk : ∀ j, st.tok j = false → k (.sl (.tok j) 5 ((termsOf x).map Tm.d)) (st.give j)) : Sem P 13 [x.d] st k := by
  refine Sem.drop ?_
  refine Sem.of_body Tryz.call13 Tryz.func13 rfl Tryz.ntmps13 (by simp) ?_
  repeat' first | refine yj fun N hN => ?_ | refine yk ?_ | refine yl [10] ?_ | (refine ya rfl rfl fun N hN => ?_; simp only [go_sem, ↓reduceIte, zA, zB, zC, zD, zE, zF, zG, zL, zM, zN, reduceCtorEq, Tryz.results13]) | (refine yg rfl ?_; try simp only [go_sem]) | ((first | refine yx hN _ _ ?_ | refine yz hN _ _ ?_); clear hN N) | ((refine yr fun j hj => ?_; (try have hj0 := St.tok_of_give hj)); try simp only [go_sem, ↓reduceIte, zA, zB, zC, zD, zE, zF, zG, zL, zM, zN, reduceCtorEq]) | fail
  refine W.loopN (fun m fr st' => ∃ i q : Nat, i + m = x.inds.length ∧ st.tok q = false ∧ (st.give q).le st' ∧ ((x.inds.take i).flatMap indTs).length ≤ 21 * i ∧ fr 4 = .int .i64 i ∧ fr 1 = .eptr x.d 0 ∧ fr 3 = .sl (.tok q) 5 ((x.ty :: x.val :: (x.inds.take i).flatMap indTs).map Tm.d)) ?_ x.inds.length _ _
    ⟨0, j, by simp, hj, St.le.refl _, by simp, by simp only [go_sem, ↓reduceIte, zA, zB, zC, zD, zE, zF, zG, zL, zM, zN, reduceCtorEq]; rfl, by simp only [go_sem, ↓reduceIte, zA, zB, zC, zD, zE, zF, zG, zL, zM, zN, reduceCtorEq], by simp only [go_sem, ↓reduceIte, zA, zB, zC, zD, zE, zF, zG, zL, zM, zN, reduceCtorEq]; rfl⟩
  rintro m N' ih fr st' ⟨i, q, hi, hq, hle, hbd, f4, f1, f3⟩
  rcases Nat.lt_or_ge i x.inds.length with hlt | hge
  · have hg : (x.inds.map In.d).getD i .any = (x.inds.getD i In.z).d := getD_map _ _ _ hlt
    have h4 : (i : Int) < x.inds.length := by omega
    have hm := getD_mem x.inds In.z hlt
    have hcs := h2 _ hm
    have htok := St.tokT hle
    have htk := take_succ_getD x.inds In.z hlt
    repeat' first | refine yj fun N hN => ?_ | refine yk ?_ | refine yl [10] ?_ | ((first | refine ya rfl rfl fun N hN => ?_ | refine ym ?_); simp only [go_sem, ↓reduceIte, zA, zB, zC, zD, zE, zF, zG, zL, zM, zN, reduceCtorEq, f4, f1, f3, hg, hlt, h4, htok, Tryz.results13]) | ((first | refine yg rfl ?_ | refine yn ?_); try simp only [go_sem]) | ((first | refine yx hN _ _ ?_ | refine yz hN _ _ ?_); clear hN N) | ((refine yr fun j hj => ?_; (try have hj0 := St.tok_of_give hj)); try simp only [go_sem, ↓reduceIte, zA, zB, zC, zD, zE, zF, zG, zL, zM, zN, reduceCtorEq, f4, f1, f3, hg, hlt, h4, htok]) | (refine And.intro ?_ ?_; · omega) | fail
    refine W.loopN (fun m fr st' => ∃ c q : Nat, c + m = (x.inds.getD i In.z).cs.length ∧ st.tok q = false ∧ (st.give q).le st' ∧ fr 4 = .int .i64 i ∧ fr 1 = .eptr x.d 0 ∧ fr 5 = .int .i64 c ∧ fr 3 = .sl (.tok q) 5 ((x.ty :: x.val :: ((x.inds.take i).flatMap indTs ++ (x.inds.getD i In.z).ty :: ((x.inds.getD i In.z).cs.take c).map Cc.ty)).map Tm.d)) ?_ (x.inds.getD i In.z).cs.length _ _
      ⟨0, j, by simp, St.tokF hle hj, St.step hq hle, by simp only [go_sem, ↓reduceIte, zA, zB, zC, zD, zE, zF, zG, zL, zM, zN, reduceCtorEq, f4], by simp only [go_sem, ↓reduceIte, zA, zB, zC, zD, zE, zF, zG, zL, zM, zN, reduceCtorEq, f1], by simp only [go_sem, ↓reduceIte, zA, zB, zC, zD, zE, zF, zG, zL, zM, zN, reduceCtorEq]; rfl, by simp only [go_sem, ↓reduceIte, zA, zB, zC, zD, zE, zF, zG, zL, zM, zN, reduceCtorEq]; simp⟩
    clear f4 f1 f3 htok hj hle hq
    rintro m2 N2 ih2 fr2 st2 ⟨c, q2, hc, hq, hle, f4, f1, f5, f3⟩
    rcases Nat.lt_or_ge c (x.inds.getD i In.z).cs.length with clt | cge
    · have cg : ((x.inds.getD i In.z).cs.map Cc.d).getD c .any = ((x.inds.getD i In.z).cs.getD c Cc.z).d := getD_map _ _ _ clt
      have c4 : (c : Int) < (x.inds.getD i In.z).cs.length := by omega
      have htok := St.tokT hle
      have ctk := take_succ_getD (x.inds.getD i In.z).cs Cc.z clt
      have ctl : ((x.inds.getD i In.z).cs.take c).length = c := by rw [List.length_take]; omega
      repeat' first | refine yj fun N hN => ?_ | refine yk ?_ | refine yl [10] ?_ | ((first | refine ya rfl rfl fun N hN => ?_ | refine ym ?_); simp only [go_sem, ↓reduceIte, zA, zB, zC, zD, zE, zF, zG, zL, zM, zN, reduceCtorEq, f4, f1, f3, f5, hg, hlt, h4, htok, cg, clt, c4, ctl, Tryz.results13]) | ((first | refine yg rfl ?_ | refine yn ?_); try simp only [go_sem]) | ((first | refine yx hN _ _ ?_ | refine yz hN _ _ ?_); clear hN N) | ((refine yr fun j hj => ?_; (try have hj0 := St.tok_of_give hj)); try simp only [go_sem, ↓reduceIte, zA, zB, zC, zD, zE, zF, zG, zL, zM, zN, reduceCtorEq, f4, f1, f3, f5, hg, hlt, h4, htok, cg, clt, c4, ctl]) | (refine And.intro ?_ ?_; · omega) | clear hN N | fail
      refine ih2.back (m2 - 1) (by omega) _ _ ⟨c + 1, j, by omega, St.tokF hle hj, St.step hq hle, ?_, ?_, ?_, ?_⟩
      · simp only [go_sem, ↓reduceIte, zA, zB, zC, zD, zE, zF, zG, zL, zM, zN, reduceCtorEq, f4]
      · simp only [go_sem, ↓reduceIte, zA, zB, zC, zD, zE, zF, zG, zL, zM, zN, reduceCtorEq, f1]
      · simp only [go_sem, ↓reduceIte, zA, zB, zC, zD, zE, zF, zG, zL, zM, zN, reduceCtorEq]; rfl
      · simp only [go_sem, ↓reduceIte, zA, zB, zC, zD, zE, zF, zG, zL, zM, zN, reduceCtorEq]; rw [ctk]; simp
    · have c4 : ¬ (c : Int) < (x.inds.getD i In.z).cs.length := by omega
      repeat' first | refine yj fun N hN => ?_ | refine yl [10] ?_ | ((first | refine ya rfl rfl fun N hN => ?_ | refine ym ?_ | refine yp ?_); simp only [go_sem, ↓reduceIte, zA, zB, zC, zD, zE, zF, zG, zL, zM, zN, reduceCtorEq, f4, f1, f3, f5, hg, hlt, h4, c4, Tryz.results13]) | (refine yg rfl ?_; try simp only [go_sem]) | ((first | refine yx hN _ _ ?_ | refine yz hN _ _ ?_); clear hN N) | (refine And.intro ?_ ?_; · omega) | clear hN N | fail
      refine ih.back (m - 1) (by omega) _ _ ⟨i + 1, q2, by omega, hq, hle, ?_, ?_, ?_, ?_⟩
      · rw [htk, List.flatMap_append]; simp only [List.length_append, List.flatMap_cons, List.flatMap_nil, indTs, List.length_cons, List.length_map, List.length_nil, List.append_nil]; omega
      · simp only [go_sem, ↓reduceIte, zA, zB, zC, zD, zE, zF, zG, zL, zM, zN, reduceCtorEq]; rfl
      · simp only [go_sem, ↓reduceIte, zA, zB, zC, zD, zE, zF, zG, zL, zM, zN, reduceCtorEq, f1]
      · simp only [go_sem, ↓reduceIte, zA, zB, zC, zD, zE, zF, zG, zL, zM, zN, reduceCtorEq, f3]; rw [htk, List.flatMap_append, List.take_of_length_le cge]; simp [indTs]
  · have h4 : ¬ (i : Int) < x.inds.length := by omega
    rw [List.take_of_length_le hge] at f3
    repeat' first | refine yj fun N hN => ?_ | refine yl [10] ?_ | ((first | refine ya rfl rfl fun N hN => ?_ | refine ym ?_ | refine yo ?_ | refine yp ?_); simp only [go_sem, ↓reduceIte, zA, zB, zC, zD, zE, zF, zG, zL, zM, zN, reduceCtorEq, f4, f1, f3, h4, Tryz.results13]) | (refine yg rfl ?_; try simp only [go_sem]) | ((first | refine yx hN _ _ ?_ | refine yz hN _ _ ?_); clear hN N) | clear hN N | fail
    all_goals exact ⟨_, hle, hk q hq⟩

def indBig (x : In) : Bool := decide (20 < x.cs.length)
def deBig (d : De) : Bool := decide (10 < d.inds.length) || d.inds.any indBig
def vastB (l : List De) (most nodes : Int) : Bool := decide (most < (l.length : Int)) || l.any deBig || vast5 (l.flatMap termsOf) 1000 nodes
theorem termsOf_len {d : De} (h : deBig d = false) : (termsOf d).length ≤ 212 := by
  simp only [deBig, Bool.or_eq_false_iff, decide_eq_false_iff_not, List.any_eq_false] at h
  obtain ⟨h1, h2⟩ := h
  have : ∀ l : List In, (∀ x ∈ l, ¬ indBig x = true) → (l.flatMap indTs).length ≤ 21 * l.length := by
    intro l
    induction l with
    | nil => simp
    | cons x l ih =>
      intro hl
      have hx := hl x (by simp)
      have := ih (fun y hy => hl y (by simp [hy]))
      simp only [indBig, decide_eq_true_eq] at hx
      rw [List.flatMap_cons, List.length_append, List.length_cons]
      simp only [indTs, List.length_cons, List.length_map]
      omega
  have := this d.inds h2
  simp only [termsOf, List.length_cons]; omega
theorem De.Wf.terms {d : De} (h : d.Wf) : ∀ t ∈ termsOf d, t.wf := by
  intro t ht
  simp only [termsOf, List.mem_cons, List.mem_flatMap, indTs, List.mem_map] at ht
  rcases ht with rfl | rfl | ⟨x, hx, rfl | ⟨c, hc, rfl⟩⟩
  · exact h.ty
  · exact h.val
  · exact (h.inds x hx).ty
  · exact ((h.inds x hx).cs c hc).ty

theorem sem5 (ow : Own) (l : List De) (most nodes : Int) (st : St) (k : D → St → Prop) (hw : ∀ d ∈ l, d.Wf) (hm : most < 1000) (hk : k (.bool (vastB l most nodes)) st) :
    Sem P 5 [.sl ow 15 (l.map De.d), .int .i64 most, .int .i64 nodes] st k := by
  by_cases c1 : most < l.length
  · rw [show vastB l most nodes = true by simp [vastB, c1]] at hk
    refine Sem.of_body Tryz.call5 Tryz.func5 rfl Tryz.ntmps5 (by simp) ?_
    repeat' first | refine yj fun N hN => ?_ | refine yl [] ?_ | ((first | refine ya rfl rfl fun N hN => ?_ | refine ym ?_ | refine yo ?_); simp only [go_sem, ↓reduceIte, zA, zB, zC, zD, zE, zF, zG, zL, zM, zN, reduceCtorEq, c1, Tryz.results5]) | (refine yg rfl ?_; try simp only [go_sem]) | ((first | refine yx hN _ _ ?_ | refine yz hN _ _ ?_); clear hN N) | clear hN N | fail
    all_goals exact hk
  rw [show vastB l most nodes = (l.any deBig || vast5 (l.flatMap termsOf) 1000 nodes) by simp [vastB, c1]] at hk
  refine Sem.drop ?_
  refine Sem.of_body Tryz.call5 Tryz.func5 rfl Tryz.ntmps5 (by simp) ?_
  repeat' first | refine yj fun N hN => ?_ | refine yk ?_ | refine yl [] ?_ | ((first | refine ya rfl rfl fun N hN => ?_ | refine ym ?_); simp only [go_sem, ↓reduceIte, zA, zB, zC, zD, zE, zF, zG, zL, zM, zN, reduceCtorEq, c1, Tryz.results5]) | ((first | refine yg rfl ?_ | refine yn ?_); try simp only [go_sem]) | ((first | refine yx hN _ _ ?_ | refine yz hN _ _ ?_); clear hN N) | fail
  refine W.loopN (fun m fr st' => ∃ i : Nat, i + m = l.length ∧ (∀ j, j < i → deBig (l.getD j De.z) = false) ∧ ((l.take i).flatMap termsOf).length ≤ 212 * i ∧ fr 8 = .int .i64 i ∧ fr 0 = .sl ow 15 (l.map De.d) ∧ fr 2 = .int .i64 nodes ∧
    ((i = 0 ∧ st = st' ∧ fr 7 = .sl .nil 0 []) ∨ ∃ q, 0 < i ∧ st.tok q = false ∧ (st.give q).le st' ∧ fr 7 = .sl (.tok q) 5 (((l.take i).flatMap termsOf).map Tm.d))) ?_ l.length _ _
    ⟨0, by simp, by simp, by simp, by simp only [go_sem, ↓reduceIte, zA, zB, zC, zD, zE, zF, zG, zL, zM, zN, reduceCtorEq]; rfl, by simp only [go_sem, ↓reduceIte, zA, zB, zC, zD, zE, zF, zG, zL, zM, zN, reduceCtorEq], by simp only [go_sem, ↓reduceIte, zA, zB, zC, zD, zE, zF, zG, zL, zM, zN, reduceCtorEq], .inl ⟨rfl, rfl, by simp only [go_sem, ↓reduceIte, zA, zB, zC, zD, zE, zF, zG, zL, zM, zN, reduceCtorEq]⟩⟩
  rintro m N' ih fr st' ⟨i, hi, hal, hbd, f8, f0, f2, hA⟩
  have hle0 : st.le st' := by
    rcases hA with ⟨_, rfl, _⟩ | ⟨q, _, _, h, _⟩
    · exact St.le.refl _
    · exact (St.le_give (St.le.refl _) _).trans h
  rcases Nat.lt_or_ge i l.length with hlt | hge
  · have hg : (l.map De.d).getD i .any = (l.getD i De.z).d := getD_map _ _ _ hlt
    have h4 : (i : Int) < l.length := by omega
    have hmem := getD_mem l De.z hlt
    have hbad : deBig (l.getD i De.z) = true → k (.bool true) st := fun hb => by rw [any_badG De.z hlt hb, Bool.true_or] at hk; exact hk
    by_cases c2 : (10 : Int) < (l.getD i De.z).inds.length
    · have := hbad (by simp only [deBig, Bool.or_eq_true, decide_eq_true_eq]; omega)
      repeat' first | refine yj fun N hN => ?_ | refine yk ?_ | refine yl [] ?_ | ((first | refine ya rfl rfl fun N hN => ?_ | refine ym ?_ | refine yo ?_); simp only [go_sem, ↓reduceIte, zA, zB, zC, zD, zE, zF, zG, zL, zM, zN, reduceCtorEq, f8, f0, f2, hg, hlt, h4, c2, Tryz.results5]) | ((first | refine yg rfl ?_ | refine yn ?_); try simp only [go_sem]) | ((first | refine yx hN _ _ ?_ | refine yz hN _ _ ?_); clear hN N) | clear hN N | fail
      all_goals exact ⟨_, hle0, this⟩
    have htk := take_succ_getD l De.z hlt
    repeat' first | refine yj fun N hN => ?_ | refine yk ?_ | refine yl [] ?_ | ((first | refine ya rfl rfl fun N hN => ?_ | refine ym ?_); simp only [go_sem, ↓reduceIte, zA, zB, zC, zD, zE, zF, zG, zL, zM, zN, reduceCtorEq, f8, f0, f2, hg, hlt, h4, c2, Tryz.results5]) | ((first | refine yg rfl ?_ | refine yn ?_); try simp only [go_sem]) | ((first | refine yx hN _ _ ?_ | refine yz hN _ _ ?_); clear hN N) | fail
    refine W.loopN (fun m fr st2 => ∃ c : Nat, st2 = st' ∧ c + m = (l.getD i De.z).inds.length ∧ (∀ j, j < c → indBig ((l.getD i De.z).inds.getD j In.z) = false) ∧ fr 8 = .int .i64 i ∧ fr 0 = .sl ow 15 (l.map De.d) ∧ fr 2 = .int .i64 nodes ∧ fr 9 = .int .i64 c ∧
      ((i = 0 ∧ st = st' ∧ fr 7 = .sl .nil 0 []) ∨ ∃ q, 0 < i ∧ st.tok q = false ∧ (st.give q).le st' ∧ fr 7 = .sl (.tok q) 5 (((l.take i).flatMap termsOf).map Tm.d))) ?_ (l.getD i De.z).inds.length _ _
      ⟨0, rfl, by simp, by simp, by simp only [go_sem, ↓reduceIte, zA, zB, zC, zD, zE, zF, zG, zL, zM, zN, reduceCtorEq, f8], by simp only [go_sem, ↓reduceIte, zA, zB, zC, zD, zE, zF, zG, zL, zM, zN, reduceCtorEq, f0], by simp only [go_sem, ↓reduceIte, zA, zB, zC, zD, zE, zF, zG, zL, zM, zN, reduceCtorEq, f2], by simp only [go_sem, ↓reduceIte, zA, zB, zC, zD, zE, zF, zG, zL, zM, zN, reduceCtorEq]; rfl, by simp only [go_sem, ↓reduceIte, zA, zB, zC, zD, zE, zF, zG, zL, zM, zN, reduceCtorEq]; exact hA⟩
    clear f8 f0 f2 hA
    rintro m2 N2 ih2 fr2 _ ⟨c, rfl, hc, hcal, f8, f0, f2, f9, hA⟩
    rcases Nat.lt_or_ge c (l.getD i De.z).inds.length with clt | cge
    · have cg : ((l.getD i De.z).inds.map In.d).getD c .any = ((l.getD i De.z).inds.getD c In.z).d := getD_map _ _ _ clt
      have c4 : (c : Int) < (l.getD i De.z).inds.length := by omega
      cases hb : indBig ((l.getD i De.z).inds.getD c In.z) with
      | true =>
        have := hbad (by simp only [deBig]; rw [any_badG In.z clt hb, Bool.or_true])
        have hb' : (20 : Int) < ((l.getD i De.z).inds.getD c In.z).cs.length := by simp only [indBig, decide_eq_true_eq] at hb; omega
        repeat' first | refine yj fun N hN => ?_ | refine yk ?_ | refine yl [] ?_ | ((first | refine ya rfl rfl fun N hN => ?_ | refine ym ?_ | refine yo ?_); simp only [go_sem, ↓reduceIte, zA, zB, zC, zD, zE, zF, zG, zL, zM, zN, reduceCtorEq, f8, f0, f2, f9, hg, hlt, h4, cg, clt, c4, hb', Tryz.results5]) | ((first | refine yg rfl ?_ | refine yn ?_); try simp only [go_sem]) | ((first | refine yx hN _ _ ?_ | refine yz hN _ _ ?_); clear hN N) | clear hN N | fail
        all_goals exact ⟨_, hle0, this⟩
      | false =>
        have hb' : ¬ (20 : Int) < ((l.getD i De.z).inds.getD c In.z).cs.length := by simp only [indBig, decide_eq_false_iff_not] at hb; omega
        repeat' first | refine yj fun N hN => ?_ | refine yk ?_ | refine yl [] ?_ | ((first | refine ya rfl rfl fun N hN => ?_ | refine ym ?_); simp only [go_sem, ↓reduceIte, zA, zB, zC, zD, zE, zF, zG, zL, zM, zN, reduceCtorEq, f8, f0, f2, f9, hg, hlt, h4, cg, clt, c4, hb', Tryz.results5]) | ((first | refine yg rfl ?_ | refine yn ?_); try simp only [go_sem]) | ((first | refine yx hN _ _ ?_ | refine yz hN _ _ ?_); clear hN N) | (refine And.intro ?_ ?_; · omega) | clear hN N | fail
        refine ih2.back (m2 - 1) (by omega) _ _ ⟨c + 1, rfl, by omega, lt_succ_all (p := fun j => indBig ((l.getD i De.z).inds.getD j In.z) = false) hcal hb, ?_, ?_, ?_, ?_, ?_⟩
        · simp only [go_sem, ↓reduceIte, zA, zB, zC, zD, zE, zF, zG, zL, zM, zN, reduceCtorEq, f8]
        · simp only [go_sem, ↓reduceIte, zA, zB, zC, zD, zE, zF, zG, zL, zM, zN, reduceCtorEq, f0]
        · simp only [go_sem, ↓reduceIte, zA, zB, zC, zD, zE, zF, zG, zL, zM, zN, reduceCtorEq, f2]
        · simp only [go_sem, ↓reduceIte, zA, zB, zC, zD, zE, zF, zG, zL, zM, zN, reduceCtorEq]; rfl
        · simp only [go_sem, ↓reduceIte, zA, zB, zC, zD, zE, zF, zG, zL, zM, zN, reduceCtorEq]; exact hA
    · have c4 : ¬ (c : Int) < (l.getD i De.z).inds.length := by omega
      have hb : deBig (l.getD i De.z) = false := by
        simp only [deBig, Bool.or_eq_false_iff, decide_eq_false_iff_not]
        exact ⟨by omega, any_goodG In.z (fun j hj => hcal j (by omega))⟩
      have hcs : ∀ y ∈ (l.getD i De.z).inds, y.cs.length ≤ 20 := fun y hy => by
        simp only [deBig, Bool.or_eq_false_iff, List.any_eq_false] at hb
        have := hb.2 y hy
        simp only [indBig, decide_eq_true_eq] at this
        omega
      have htl := termsOf_len hb
      have hne : (termsOf (l.getD i De.z)).map Tm.d ≠ [] := by simp [termsOf]
      rcases hA with ⟨hi0, hst, f7⟩ | ⟨q, hq0, hq, hle, f7⟩
      · subst hst
        repeat' first | refine yj fun N hN => ?_ | refine yl [] ?_ | ((first | refine ya rfl rfl fun N hN => ?_ | refine ym ?_ | refine yp ?_); simp only [go_sem, ↓reduceIte, zA, zB, zC, zD, zE, zF, zG, zL, zM, zN, reduceCtorEq, f8, f0, f2, f9, f7, hg, hlt, h4, c4, hne, Tryz.results5]) | (refine yg rfl ?_; try simp only [go_sem]) | ((first | refine yx hN _ _ ?_ | refine yz hN _ _ ?_); clear hN N) | (refine sem13 _ _ _ (by omega) hcs fun j hj => ?_; try simp only [go_sem, ↓reduceIte, zA, zB, zC, zD, zE, zF, zG, zL, zM, zN, reduceCtorEq, f8, f0, f2, f9, f7, hg, hlt, h4, c4, hne]) | ((refine yr fun j hj => ?_; (try have hj0 := St.tok_of_give hj)); try simp only [go_sem, ↓reduceIte, zA, zB, zC, zD, zE, zF, zG, zL, zM, zN, reduceCtorEq, f8, f0, f2, f9, f7, hg, hlt, h4, c4, hne]) | (refine And.intro ?_ ?_; · omega) | clear hN N | fail
        refine ih.back (m - 1) (by omega) _ _ ⟨i + 1, by omega, lt_succ_all (p := fun j => deBig (l.getD j De.z) = false) hal hb, ?_, ?_, ?_, ?_, .inr ⟨_, by omega, by assumption, ?_, ?_⟩⟩
        · rw [htk, List.flatMap_append]; simp only [List.length_append, List.flatMap_cons, List.flatMap_nil, List.append_nil]; omega
        · simp only [go_sem, ↓reduceIte, zA, zB, zC, zD, zE, zF, zG, zL, zM, zN, reduceCtorEq]; rfl
        · simp only [go_sem, ↓reduceIte, zA, zB, zC, zD, zE, zF, zG, zL, zM, zN, reduceCtorEq, f0]
        · simp only [go_sem, ↓reduceIte, zA, zB, zC, zD, zE, zF, zG, zL, zM, zN, reduceCtorEq, f2]
        · exact St.give_mono (St.le_give (St.le.refl _) _) _
        · simp only [go_sem, ↓reduceIte, zA, zB, zC, zD, zE, zF, zG, zL, zM, zN, reduceCtorEq]; rw [hi0, take_succ_getD l De.z (by omega)]; simp
      · have htok := St.tokT hle
        repeat' first | refine yj fun N hN => ?_ | refine yl [] ?_ | ((first | refine ya rfl rfl fun N hN => ?_ | refine ym ?_ | refine yp ?_); simp only [go_sem, ↓reduceIte, zA, zB, zC, zD, zE, zF, zG, zL, zM, zN, reduceCtorEq, f8, f0, f2, f9, f7, hg, hlt, h4, c4, hne, htok, Tryz.results5]) | (refine yg rfl ?_; try simp only [go_sem]) | ((first | refine yx hN _ _ ?_ | refine yz hN _ _ ?_); clear hN N) | (refine sem13 _ _ _ (by omega) hcs fun j hj => ?_; try simp only [go_sem, ↓reduceIte, zA, zB, zC, zD, zE, zF, zG, zL, zM, zN, reduceCtorEq, f8, f0, f2, f9, f7, hg, hlt, h4, c4, hne, htok]) | ((refine yr fun j hj => ?_; (try have hj0 := St.tok_of_give hj)); try simp only [go_sem, ↓reduceIte, zA, zB, zC, zD, zE, zF, zG, zL, zM, zN, reduceCtorEq, f8, f0, f2, f9, f7, hg, hlt, h4, c4, hne, htok]) | (refine And.intro ?_ ?_; · omega) | clear hN N | fail
        refine ih.back (m - 1) (by omega) _ _ ⟨i + 1, by omega, lt_succ_all (p := fun j => deBig (l.getD j De.z) = false) hal hb, ?_, ?_, ?_, ?_, .inr ⟨_, by omega, St.tokF hle hj0, St.step hq (hle.trans (St.le_give (St.le.refl _) _)), ?_⟩⟩
        · rw [htk, List.flatMap_append]; simp only [List.length_append, List.flatMap_cons, List.flatMap_nil, List.append_nil]; omega
        · simp only [go_sem, ↓reduceIte, zA, zB, zC, zD, zE, zF, zG, zL, zM, zN, reduceCtorEq]; rfl
        · simp only [go_sem, ↓reduceIte, zA, zB, zC, zD, zE, zF, zG, zL, zM, zN, reduceCtorEq, f0]
        · simp only [go_sem, ↓reduceIte, zA, zB, zC, zD, zE, zF, zG, zL, zM, zN, reduceCtorEq, f2]
        · simp only [go_sem, ↓reduceIte, zA, zB, zC, zD, zE, zF, zG, zL, zM, zN, reduceCtorEq]; rw [htk, List.flatMap_append]; simp
  · have h4 : ¬ (i : Int) < l.length := by omega
    rw [List.take_of_length_le hge] at hA hbd
    rw [any_goodG De.z (fun j hj => hal j (by omega)), Bool.false_or] at hk
    have hwt : ∀ t ∈ l.flatMap termsOf, t.wf := fun t ht => by
      obtain ⟨d, hd, h⟩ := List.mem_flatMap.1 ht
      exact (hw d hd).terms t h
    rcases hA with ⟨rfl, rfl, f7⟩ | ⟨q, hq0, hq, hle, f7⟩
    · have : l = [] := by cases l with | nil => rfl | cons a b => simp at hge
      subst this
      repeat' first | refine yj fun N hN => ?_ | refine yl [] ?_ | ((first | refine ya rfl rfl fun N hN => ?_ | refine ym ?_ | refine yo ?_ | refine yp ?_); simp only [go_sem, ↓reduceIte, zA, zB, zC, zD, zE, zF, zG, zL, zM, zN, reduceCtorEq, f8, f0, f2, f7, h4, Tryz.results5]) | (refine yg rfl ?_; try simp only [go_sem]) | ((first | refine yx hN _ _ ?_ | refine yz hN _ _ ?_); clear hN N) | (refine sem14 _ _ [] _ _ _ _ (by simp) (.inl rfl) (by omega) ?_; try simp only [go_sem, ↓reduceIte, zA, zB, zC, zD, zE, zF, zG, zL, zM, zN, reduceCtorEq, f8, f0, f2, f7, h4]) | ((apply And.intro <;> intro h) <;> (try simp only [zS, zT, zU, zV, Bool.not_true, Bool.not_false] at h) <;> (first | (exfalso; omega) | simp only [go_sem, ↓reduceIte, zA, zB, zC, zD, zE, zF, zG, zL, zM, zN, reduceCtorEq, f8, f0, f2, f7, h4, h] | skip)) | clear hN N | fail
      all_goals exact ⟨_, St.le.refl _, hk⟩
    · repeat' first | refine yj fun N hN => ?_ | refine yl [] ?_ | ((first | refine ya rfl rfl fun N hN => ?_ | refine ym ?_ | refine yo ?_ | refine yp ?_); simp only [go_sem, ↓reduceIte, zA, zB, zC, zD, zE, zF, zG, zL, zM, zN, reduceCtorEq, f8, f0, f2, f7, h4, Tryz.results5]) | (refine yg rfl ?_; try simp only [go_sem]) | ((first | refine yx hN _ _ ?_ | refine yz hN _ _ ?_); clear hN N) | (refine sem14 _ _ _ _ _ _ _ hwt (.inr rfl) (by omega) ?_; try simp only [go_sem, ↓reduceIte, zA, zB, zC, zD, zE, zF, zG, zL, zM, zN, reduceCtorEq, f8, f0, f2, f7, h4]) | clear hN N | fail
      all_goals exact ⟨_, hle0, hk⟩
end Go.Proofs.YtddbidoaolnegaaGreatDoor
/- The iterator over a level's numbers: its contract. No statement of the seat is proved here; no condition. -/
namespace Go.Proofs.YtddbidoaolnegaaGreatDoor
open Go Go.RowKit Go.Shelf



def encP (p : Int × Int) : Array Value := #[.int .i64 p.1, .int .i64 p.2]
def ge0 (n0 n1 n2 n3 : Int) : List (Int × Int) := [(0, n0), (1, n1), (2, n2), (3, n3)].filter fun p => decide (0 ≤ p.2)

def mesA (a : Act) : Nat := match a.tmps.getD 7 undef with
  | .int _ i => (5 - i).toNat
  | _ => 0
def pres (n0 n1 n2 n3 : Int) (i : Nat) : List (Int × Int) := ([(0, n0), (1, n1), (2, n2), (3, n3)].take i).filter fun p => decide (0 ≤ p.2)

theorem pres_lt (n0 n1 n2 n3 : Int) {i : Nat} (h : i < 4) : (pres n0 n1 n2 n3 i).length < 4 := by
  have h1 := List.length_filter_le (fun p : Int × Int => decide (0 ≤ p.2)) ([(0, n0), (1, n1), (2, n2), (3, n3)].take i)
  simp only [List.length_take, List.length_cons, List.length_nil] at h1
  unfold pres; omega
theorem pres_s0 (n0 n1 n2 n3 : Int) (h : 0 ≤ n0) : pres n0 n1 n2 n3 1 = pres n0 n1 n2 n3 0 ++ [(0, n0)] :=
  (List.filter_append (p := fun p : Int × Int => decide (0 ≤ p.2)) [] [(0, n0)]).trans (by simp [pres, h])
theorem pres_n0 (n0 n1 n2 n3 : Int) (h : ¬ 0 ≤ n0) : pres n0 n1 n2 n3 1 = pres n0 n1 n2 n3 0 :=
  (List.filter_append (p := fun p : Int × Int => decide (0 ≤ p.2)) [] [(0, n0)]).trans (by simp [pres, h])
theorem pres_s1 (n0 n1 n2 n3 : Int) (h : 0 ≤ n1) : pres n0 n1 n2 n3 2 = pres n0 n1 n2 n3 1 ++ [(1, n1)] :=
  (List.filter_append (p := fun p : Int × Int => decide (0 ≤ p.2)) [(0, n0)] [(1, n1)]).trans (by simp [pres, h])
theorem pres_n1 (n0 n1 n2 n3 : Int) (h : ¬ 0 ≤ n1) : pres n0 n1 n2 n3 2 = pres n0 n1 n2 n3 1 :=
  (List.filter_append (p := fun p : Int × Int => decide (0 ≤ p.2)) [(0, n0)] [(1, n1)]).trans (by simp [pres, h])
theorem pres_s2 (n0 n1 n2 n3 : Int) (h : 0 ≤ n2) : pres n0 n1 n2 n3 3 = pres n0 n1 n2 n3 2 ++ [(2, n2)] :=
  (List.filter_append (p := fun p : Int × Int => decide (0 ≤ p.2)) [(0, n0), (1, n1)] [(2, n2)]).trans (by simp [pres, h])
theorem pres_n2 (n0 n1 n2 n3 : Int) (h : ¬ 0 ≤ n2) : pres n0 n1 n2 n3 3 = pres n0 n1 n2 n3 2 :=
  (List.filter_append (p := fun p : Int × Int => decide (0 ≤ p.2)) [(0, n0), (1, n1)] [(2, n2)]).trans (by simp [pres, h])
theorem pres_s3 (n0 n1 n2 n3 : Int) (h : 0 ≤ n3) : pres n0 n1 n2 n3 4 = pres n0 n1 n2 n3 3 ++ [(3, n3)] :=
  (List.filter_append (p := fun p : Int × Int => decide (0 ≤ p.2)) [(0, n0), (1, n1), (2, n2)] [(3, n3)]).trans (by simp [pres, h])
theorem pres_n3 (n0 n1 n2 n3 : Int) (h : ¬ 0 ≤ n3) : pres n0 n1 n2 n3 4 = pres n0 n1 n2 n3 3 :=
  (List.filter_append (p := fun p : Int × Int => decide (0 ≤ p.2)) [(0, n0), (1, n1), (2, n2)] [(3, n3)]).trans (by simp [pres, h])
theorem ix76_0 (n0 n1 n2 n3 : Int) (w : World) : (Instr.index 76 (.agg #[.int .i64 n0, .int .i64 n1, .int .i64 n2, .int .i64 n3]) (.int .i64 0)).run Tryz.prog w = .ok (.int .i64 n0) w := by kernel_rfl
theorem ix76_1 (n0 n1 n2 n3 : Int) (w : World) : (Instr.index 76 (.agg #[.int .i64 n0, .int .i64 n1, .int .i64 n2, .int .i64 n3]) (.int .i64 1)).run Tryz.prog w = .ok (.int .i64 n1) w := by kernel_rfl
theorem ix76_2 (n0 n1 n2 n3 : Int) (w : World) : (Instr.index 76 (.agg #[.int .i64 n0, .int .i64 n1, .int .i64 n2, .int .i64 n3]) (.int .i64 2)).run Tryz.prog w = .ok (.int .i64 n2) w := by kernel_rfl
theorem ix76_3 (n0 n1 n2 n3 : Int) (w : World) : (Instr.index 76 (.agg #[.int .i64 n0, .int .i64 n1, .int .i64 n2, .int .i64 n3]) (.int .i64 3)).run Tryz.prog w = .ok (.int .i64 n3) w := by kernel_rfl
set_option maxRecDepth 100000 in
set_option maxHeartbeats 2000000 in
theorem params_stops (F : Fence) (n : Nat) (h5 : F.fn 121) (hro : F.round = none) (hn : 1 ≤ n) (w : World) (b : Nat) (c n0 n1 n2 n3 : Int)
    (w1 : w.cell? ⟨b, 1, none⟩ = some (.int .i64 n0)) (w2 : w.cell? ⟨b, 2, none⟩ = some (.int .i64 n1)) (w3 : w.cell? ⟨b, 3, none⟩ = some (.int .i64 n2)) (w4 : w.cell? ⟨b, 4, none⟩ = some (.int .i64 n3)) :
    SeqStopsA F n Tryz.prog 121 #[.pointer (some ⟨b, 0, none⟩)] encP (fun xs => xs = ge0 n0 n1 n2 n3) (fun _ => True) 4 w := fun l J Jx W hB _ _ hY h0 => by
  refine callsIn_of_wp Tryz.func121 rfl h5 ?_ hro
  simp only [Tryz.ntmps121, List.size_toArray, List.length_cons, List.length_nil, Nat.reduceAdd, Nat.reduceSub, Array.replicate_succ, Array.replicate_zero, List.push_toArray, List.append_toArray, List.nil_append, List.cons_append]
  have k1 := (hB.cell (p := ⟨b, 1, none⟩) (World.block_lt_of_cell? (a := ⟨b, 1, none⟩) _ w1)).trans w1
  have k2 := (hB.cell (p := ⟨b, 2, none⟩) (World.block_lt_of_cell? (a := ⟨b, 2, none⟩) _ w2)).trans w2
  have k3 := (hB.cell (p := ⟨b, 3, none⟩) (World.block_lt_of_cell? (a := ⟨b, 3, none⟩) _ w3)).trans w3
  have k4 := (hB.cell (p := ⟨b, 4, none⟩) (World.block_lt_of_cell? (a := ⟨b, 4, none⟩) _ w4)).trans w4
  gi_wp2
  refine wpIn_loop (fun a W => ∃ (i : Nat) (v2 v3 v4 v8 v9 v10 v11 v12 v13 v14 v15 v16 v17 v18 v19 v20 : Value), i ≤ 4 ∧ a = { tmps := #[.func (.yield l) #[] #[], .pointer (some ⟨b, 0, none⟩), v2, v3, v4, .pointer (some ⟨b, 1, none⟩), .agg #[.int .i64 n0, .int .i64 n1, .int .i64 n2, .int .i64 n3], .int .i64 i, v8, v9, v10, v11, v12, v13, v14, v15, v16, v17, v18, v19, v20], defers := [] } ∧ J (pres n0 n1 n2 n3 i) W)
    (fun a _ => mesA a) ⟨0, undef, undef, undef, undef, undef, undef, undef, undef, undef, undef, undef, undef, undef, undef, undef, undef, by omega, rfl, h0⟩ ?_
  · rintro a W1 ⟨i, v2, v3, v4, v8, v9, v10, v11, v12, v13, v14, v15, v16, v17, v18, v19, v20, hi, rfl, hJ⟩
    obtain rfl | rfl | rfl | rfl | rfl : i = 0 ∨ i = 1 ∨ i = 2 ∨ i = 3 ∨ i = 4 := by omega
    · have hix := ix76_0 n0 n1 n2 n3
      by_cases c0 : 0 ≤ n0
      · obtain ⟨f1, t1, a1, b1, hy1, hR1⟩ := hY (pres n0 n1 n2 n3 0) (0, n0) W1 hJ (pres_lt _ _ _ _ (by omega))
        dsimp only [encP] at hy1
        gi_wp2
        refine hR1.mono ?_
        rintro e W2 (⟨rfl, hJ1, _⟩ | ⟨rfl, hx1⟩)
        · gi_wp2
          exact ⟨⟨1, _, _, _, _, _, _, _, _, _, _, _, _, _, _, _, _, by omega, rfl, by rw [pres_s0 _ _ _ _ c0]; exact hJ1⟩, by simp [mesA]⟩
        · gi_wp2
          refine bodyPost_ret (results_none rfl _ _ _) rfl ?_
          exact ⟨⟨_, rfl⟩, .inr ⟨_, trivial, hx1⟩⟩
      · gi_wp2
        refine ⟨fun f hf => (by cases hf), ?_⟩
        gi_wp2
        exact ⟨⟨1, _, _, _, _, _, _, _, _, _, _, _, _, _, _, _, _, by omega, rfl, by rw [pres_n0 _ _ _ _ (by omega)]; exact hJ⟩, by simp [mesA]⟩
    · have hix := ix76_1 n0 n1 n2 n3
      by_cases c0 : 0 ≤ n1
      · obtain ⟨f1, t1, a1, b1, hy1, hR1⟩ := hY (pres n0 n1 n2 n3 1) (1, n1) W1 hJ (pres_lt _ _ _ _ (by omega))
        dsimp only [encP] at hy1
        gi_wp2
        refine hR1.mono ?_
        rintro e W2 (⟨rfl, hJ1, _⟩ | ⟨rfl, hx1⟩)
        · gi_wp2
          exact ⟨⟨2, _, _, _, _, _, _, _, _, _, _, _, _, _, _, _, _, by omega, rfl, by rw [pres_s1 _ _ _ _ c0]; exact hJ1⟩, by simp [mesA]⟩
        · gi_wp2
          refine bodyPost_ret (results_none rfl _ _ _) rfl ?_
          exact ⟨⟨_, rfl⟩, .inr ⟨_, trivial, hx1⟩⟩
      · gi_wp2
        refine ⟨fun f hf => (by cases hf), ?_⟩
        gi_wp2
        exact ⟨⟨2, _, _, _, _, _, _, _, _, _, _, _, _, _, _, _, _, by omega, rfl, by rw [pres_n1 _ _ _ _ (by omega)]; exact hJ⟩, by simp [mesA]⟩
    · have hix := ix76_2 n0 n1 n2 n3
      by_cases c0 : 0 ≤ n2
      · obtain ⟨f1, t1, a1, b1, hy1, hR1⟩ := hY (pres n0 n1 n2 n3 2) (2, n2) W1 hJ (pres_lt _ _ _ _ (by omega))
        dsimp only [encP] at hy1
        gi_wp2
        refine hR1.mono ?_
        rintro e W2 (⟨rfl, hJ1, _⟩ | ⟨rfl, hx1⟩)
        · gi_wp2
          exact ⟨⟨3, _, _, _, _, _, _, _, _, _, _, _, _, _, _, _, _, by omega, rfl, by rw [pres_s2 _ _ _ _ c0]; exact hJ1⟩, by simp [mesA]⟩
        · gi_wp2
          refine bodyPost_ret (results_none rfl _ _ _) rfl ?_
          exact ⟨⟨_, rfl⟩, .inr ⟨_, trivial, hx1⟩⟩
      · gi_wp2
        refine ⟨fun f hf => (by cases hf), ?_⟩
        gi_wp2
        exact ⟨⟨3, _, _, _, _, _, _, _, _, _, _, _, _, _, _, _, _, by omega, rfl, by rw [pres_n2 _ _ _ _ (by omega)]; exact hJ⟩, by simp [mesA]⟩
    · have hix := ix76_3 n0 n1 n2 n3
      by_cases c0 : 0 ≤ n3
      · obtain ⟨f1, t1, a1, b1, hy1, hR1⟩ := hY (pres n0 n1 n2 n3 3) (3, n3) W1 hJ (pres_lt _ _ _ _ (by omega))
        dsimp only [encP] at hy1
        gi_wp2
        refine hR1.mono ?_
        rintro e W2 (⟨rfl, hJ1, _⟩ | ⟨rfl, hx1⟩)
        · gi_wp2
          exact ⟨⟨4, _, _, _, _, _, _, _, _, _, _, _, _, _, _, _, _, by omega, rfl, by rw [pres_s3 _ _ _ _ c0]; exact hJ1⟩, by simp [mesA]⟩
        · gi_wp2
          refine bodyPost_ret (results_none rfl _ _ _) rfl ?_
          exact ⟨⟨_, rfl⟩, .inr ⟨_, trivial, hx1⟩⟩
      · gi_wp2
        refine ⟨fun f hf => (by cases hf), ?_⟩
        gi_wp2
        exact ⟨⟨4, _, _, _, _, _, _, _, _, _, _, _, _, _, _, _, _, by omega, rfl, by rw [pres_n3 _ _ _ _ (by omega)]; exact hJ⟩, by simp [mesA]⟩
    · gi_wp2
      go_end0
      exact ⟨⟨_, rfl⟩, .inl ⟨_, rfl, hJ⟩⟩
end Go.Proofs.YtddbidoaolnegaaGreatDoor
/- The one form of a level: the walk of the loop over a function. No statement of the seat is proved here; no condition. -/
namespace Go.Proofs.YtddbidoaolnegaaGreatDoor
open Go Go.RowKit Go.Shelf

def foldC (c : Int) (xs : List (Int × Int)) : Int := xs.foldl (fun c p => if c ≤ p.2 then 0 else c) c
theorem foldC_snoc (c : Int) (pre : List (Int × Int)) (x : Int × Int) : foldC c (pre ++ [x]) = if foldC c pre ≤ x.2 then 0 else foldC c pre := by unfold foldC; rw [List.foldl_append]; rfl

set_option maxRecDepth 100000 in
theorem params_in (F : Fence) (n : Nat) (h4 : F.fn 115) (hro : F.round = none) (v : Value) (c n0 n1 n2 n3 : Int) (hv : v = .agg #[.int .i64 c, .int .i64 n0, .int .i64 n1, .int .i64 n2, .int .i64 n3]) (w : World) :
    CallsIn F n Tryz.prog 115 #[v] w fun e w' => e = .returned (.func (.func 121) #[] #[.pointer (some ⟨w.heap.size, 0, none⟩)]) ∧ w' = w.alloc (.cells #[.int .i64 c, .int .i64 n0, .int .i64 n1, .int .i64 n2, .int .i64 n3] 78) := by
  subst hv
  refine callsIn_of_wp Tryz.func115 rfl h4 ?_ hro
  simp only [Tryz.ntmps115, List.size_toArray, List.length_cons, List.length_nil, Nat.reduceAdd, Nat.reduceSub, Array.replicate_succ, Array.replicate_zero, List.push_toArray, List.append_toArray, List.nil_append, List.cons_append]
  gi_wp2
  refine bodyPost_ret (results_tmp rfl _ _ _) rfl ?_
  exact ⟨rfl, rfl⟩

set_option maxRecDepth 100000 in
set_option maxHeartbeats 4000000 in
theorem form_in (F : Fence) (n : Nat) (h3 : F.fn 104) (h4 : F.fn 115) (h5 : F.fn 121) (hro : F.round = none) (hn : 3 ≤ n) (c n0 n1 n2 n3 : Int) (w : World) :
    CallsIn F n Tryz.prog 104 #[.agg #[.int .i64 c, .int .i64 n0, .int .i64 n1, .int .i64 n2, .int .i64 n3]] w fun e w' =>
      e = .returned (.agg #[.int .i64 (foldC c (ge0 n0 n1 n2 n3)), .int .i64 n0, .int .i64 n1, .int .i64 n2, .int .i64 n3]) ∧ Below w.heap.size w w' := by
  have h1 : 1 ≤ n := by omega
  refine callsIn_of_wp_marks Tryz.func104 rfl h3 ?_ hro
  simp only [Tryz.ntmps104, List.size_toArray, List.length_cons, List.length_nil, Nat.reduceAdd, Nat.reduceSub, Array.replicate_succ, Array.replicate_zero, List.push_toArray, List.append_toArray, List.nil_append, List.cons_append]
  gi_wp2
  refine (params_in F (n - 1) h4 hro _ c n0 n1 n2 n3 rfl _).mono ?_
  rintro e w1 ⟨rfl, rfl⟩
  gi_wp2
  have hseq := seqStopsA_iff.1 (params_stops F (n - 1) h5 hro (by omega) (((w.alloc (.cells #[.int .i64 c, .int .i64 n0, .int .i64 n1, .int .i64 n2, .int .i64 n3] 78)).alloc (.cells #[.int .i64 0, .int .i64 0, .int .i64 0, .int .i64 0, .int .i64 0] 78)).alloc (.cells #[.int .i64 c, .int .i64 n0, .int .i64 n1, .int .i64 n2, .int .i64 n3] 78)) (w.heap.size + 1 + 1) c n0 n1 n2 n3 (by simp [go_sem]) (by simp [go_sem]) (by simp [go_sem]) (by simp [go_sem]))
  refine wpIn_rangeFunc_ownF hro h1 (gf := 121) (lb := #[.pointer (some ⟨w.heap.size + 1 + 1, 0, none⟩)]) rfl h5 (enters_of Tryz.func121 (by kernel_rfl) rfl) hseq (fun h k => walksK_t h k) walksK_b (Below.refl _ _) (fun _ => rfl)
    (fun pre W => Below w.heap.size w W ∧ W.cell? ⟨w.heap.size, 0, none⟩ = some (.int .i64 (foldC c pre)) ∧ W.cell? ⟨w.heap.size, 1, none⟩ = some (.int .i64 n0) ∧ W.cell? ⟨w.heap.size, 2, none⟩ = some (.int .i64 n1) ∧ W.cell? ⟨w.heap.size, 3, none⟩ = some (.int .i64 n2) ∧ W.cell? ⟨w.heap.size, 4, none⟩ = some (.int .i64 n3) ∧ W.frozen? ⟨w.heap.size, 0, none⟩ = false ∧ (∀ o, o < 5 → W.cell? ⟨w.heap.size + 1, o, none⟩ = some (.int .i64 0) ∧ W.frozen? ⟨w.heap.size + 1, o, none⟩ = false))
    (fun _ _ _ => False)
    ?own
    (fun _ _ _ _ _ hs _ _ => hs)
    ?init
    (fun x => { tmps := #[.agg #[.int .i64 c, .int .i64 n0, .int .i64 n1, .int .i64 n2, .int .i64 n3], .pointer (some ⟨w.heap.size, 0, none⟩), .pointer (some ⟨w.heap.size + 1, 0, none⟩), undef, .int .i64 x.2, .agg #[.int .i64 c, .int .i64 n0, .int .i64 n1, .int .i64 n2, .int .i64 n3], .func (.func 121) #[] #[.pointer (some ⟨w.heap.size + 1 + 1, 0, none⟩)], .int .i64 x.1, .int .i64 x.2, undef, undef, undef, undef, undef, undef], defers := [] }) ?assign ?body ?done ?stop
  case own =>
    rintro s A B row ⟨hb, a0, a1, a2, a3, a4, af, az⟩ hg hr
    have hr2 : ∀ r, row = some r → ∃ o : Obj, A.heap[r]? = some o ∧ o.isCells = false := fun r e => (hr r e).2
    refine ⟨hb.grown hg hb.size (fun k e => ?_), cell_kept a0 hg hr2, cell_kept a1 hg hr2, cell_kept a2 hg hr2, cell_kept a3 hg hr2, cell_kept a4 hg hr2, (frozen_kept a0 hg hr2).trans af, fun o ho => ⟨cell_kept (az o ho).1 hg hr2, (frozen_kept (az o ho).1 hg hr2).trans (az o ho).2⟩⟩
    have := (hr k e).1
    simp at this; omega
  case init =>
    refine ⟨(((Below.refl _ w).alloc (Nat.le_refl _) _).alloc (by simp) _).alloc (by simp; omega) _, by simp [go_sem, foldC], by simp [go_sem], by simp [go_sem], by simp [go_sem], by simp [go_sem], by simp [go_sem], fun o ho => ⟨?_, by simp [go_sem]⟩⟩
    obtain rfl | rfl | rfl | rfl | rfl : o = 0 ∨ o = 1 ∨ o = 2 ∨ o = 3 ∨ o = 4 := by omega
    all_goals simp [go_sem]
  case assign =>
    intro l x W K hK
    dsimp only [encP]
    gi_wp2_with (rw [Oper.semAt_eq _ _ _ (fun c h => by cases h)]; go_simp; try go_bits)
    exact hK
  case body =>
    rintro l pre x W ⟨hb, a0, a1, a2, a3, a4, af, az⟩ _
    by_cases hx : foldC c pre ≤ x.2
    · gi_wp2_with (rw [Oper.semAt_eq _ _ _ (fun c h => by cases h)]; go_simp; try go_bits)
      refine ⟨KeepsOthers.setCell _ _ _, (KeepsOthers.setCell _ _ _).walks, hb.setCell (Nat.le_refl _) _, ?_, ?_, ?_, ?_, ?_, ?_, fun o ho => ⟨?_, ?_⟩⟩
      · rw [foldC_snoc, if_pos hx]; exact World.cell?_setCell_same' _ _ _ (by rw [a0]; rfl)
      · exact (World.cell?_setCell_other _ _ _ _ (by simp)).trans a1
      · exact (World.cell?_setCell_other _ _ _ _ (by simp)).trans a2
      · exact (World.cell?_setCell_other _ _ _ _ (by simp)).trans a3
      · exact (World.cell?_setCell_other _ _ _ _ (by simp)).trans a4
      · rw [World.frozen?_setCell]; exact af
      · exact (World.cell?_setCell_other _ _ _ _ (by simp)).trans ((az o ho).1)
      · rw [World.frozen?_setCell]; exact (az o ho).2
    · gi_wp2_with (rw [Oper.semAt_eq _ _ _ (fun c h => by cases h)]; go_simp; try go_bits)
      refine ⟨KeepsOthers.refl _, KeepsWalks.refl _, hb, ?_, a1, a2, a3, a4, af, az⟩
      rw [foldC_snoc, if_neg (by omega)]; exact a0
  case done =>
    rintro D xs W hD rfl ⟨hb, a0, a1, a2, a3, a4, af, az⟩ hK
    gi_wp2
    have k1 : ∀ (W : World) (o : Nat) (v : Value), W.heap[D]? = some (.deferred (some [])) → (W.setCell ⟨w.heap.size + 1, o, none⟩ v).heap[D]? = some (.deferred (some [])) := fun W o v h => (KeepsOthers.setCell W _ v).same D _ h rfl
    have hK' := k1 _ 4 (.int .i64 n3) (k1 _ 3 (.int .i64 n2) (k1 _ 2 (.int .i64 n1) (k1 _ 1 (.int .i64 n0) (k1 _ 0 (.int .i64 (foldC c (ge0 n0 n1 n2 n3))) hK))))
    refine ⟨by simp, .inl ⟨_, _, rfl, run_takeDeferred hK', ?_⟩⟩
    have g1 : ∀ (U : World) (o q : Nat) (v u : Value), U.cell? ⟨w.heap.size + 1, q, none⟩ = some u → (U.setCell ⟨w.heap.size + 1, o, none⟩ v).cell? ⟨w.heap.size + 1, q, none⟩ = some (if o = q then v else u) := fun U o q v u h => by
      by_cases e : o = q
      · subst e; rw [if_pos rfl]; exact World.cell?_setCell_same' _ _ _ (by rw [h]; rfl)
      · rw [if_neg e]; exact (World.cell?_setCell_other _ _ _ _ (fun h => e (by injection h))).trans h
    have g2 : ∀ q, q < 5 → _ := fun q hq => cell_kept (g1 _ 4 q (.int .i64 n3) _ (g1 _ 3 q (.int .i64 n2) _ (g1 _ 2 q (.int .i64 n1) _ (g1 _ 1 q (.int .i64 n0) _ (g1 _ 0 q (.int .i64 (foldC c (ge0 n0 n1 n2 n3))) _ (az q hq).1))))) (grownBy_putObj' _ D (.deferred none)) (fun r e => by cases e; exact ⟨_, hK', rfl⟩)
    have c0 := g2 0 (by omega)
    have c1 := g2 1 (by omega)
    have c2 := g2 2 (by omega)
    have c3 := g2 3 (by omega)
    have c4 := g2 4 (by omega)
    simp only [Nat.reduceEqDiff, ↓reduceIte] at c0 c1 c2 c3 c4
    refine ⟨.agg #[.int .i64 (foldC c (ge0 n0 n1 n2 n3)), .int .i64 n0, .int .i64 n1, .int .i64 n2, .int .i64 n3], ?_, rfl, ?_⟩
    · simp [results, Tryz.f104, go_sem, c0, c1, c2, c3, c4]
    · have k2 : ∀ (U : World) (o : Nat) (v : Value), Below w.heap.size w U → Below w.heap.size w (U.setCell ⟨w.heap.size + 1, o, none⟩ v) := fun U o v h => h.setCell (by simp) v
      refine (k2 _ 4 _ (k2 _ 3 _ (k2 _ 2 _ (k2 _ 1 _ (k2 _ 0 _ hb))))).grown (grownBy_putObj' _ D (.deferred none)) (by have := hb.size; simpa using this) (fun k e => ?_)
      cases e; simp at hD; omega
  case stop =>
    rintro D c pre W _ _ h _
    exact h.elim
end Go.Proofs.YtddbidoaolnegaaGreatDoor
/- The one form of a level: what the walk comes to, abstractly. No statement of the seat is proved here; no condition. -/
namespace Go.Proofs.YtddbidoaolnegaaGreatDoor
open Go Go.RowKit
attribute [local irreducible] W evI evT evL evOp evBin gdD Sem newT newB fillD bldOf
set_option maxRecDepth 10000
set_option maxHeartbeats 1000000

def formC (l : Lv) : Int := l.p.foldl (fun c n => if 0 ≤ n ∧ c ≤ n then 0 else c) l.c

theorem foldC_ge0 (c n0 n1 n2 n3 : Int) : foldC c (ge0 n0 n1 n2 n3) = [n0, n1, n2, n3].foldl (fun c n => if 0 ≤ n ∧ c ≤ n then 0 else c) c := by
  have h : ∀ (l : List (Int × Int)) (c : Int), foldC c (l.filter fun p => decide (0 ≤ p.2)) = (l.map (·.2)).foldl (fun c n => if 0 ≤ n ∧ c ≤ n then 0 else c) c := by
    intro l
    induction l with
    | nil => intro c; rfl
    | cons x l ih =>
      intro c
      by_cases hx : 0 ≤ x.2
      · rw [List.filter_cons_of_pos (by simpa using hx), List.map_cons, List.foldl_cons, ← ih]
        simp [foldC, hx]
      · rw [List.filter_cons_of_neg (by simpa using hx), List.map_cons, List.foldl_cons, ← ih]
        simp [hx]
  exact h [(0, n0), (1, n1), (2, n2), (3, n3)] c

theorem Rs_ints (g : Gh) : ∀ l : List Int, Rs g (l.map (.int .i64)) (l.map (.int .i64))
  | [] => by simp [Rs]
  | x :: l => by
    simp only [List.map_cons, Rs]
    exact ⟨_, _, rfl, by simp [R], rfl, Rs_ints g l⟩
attribute [local semireducible] Sem in
theorem sem104 (l : Lv) (hw : l.wf) (st : St) (k : D → St → Prop) (hk : k (Lv.d ⟨formC l, l.p, l.n⟩) st) : Sem P 104 [l.d] st k := by
  obtain ⟨c, p, hn⟩ := l
  obtain ⟨n0, n1, n2, n3, rfl⟩ : ∃ n0 n1 n2 n3, p = [n0, n1, n2, n3] := by
    match p, hn with
    | [a, b, c, d], _ => exact ⟨a, b, c, d, rfl⟩
  refine ⟨Tryz.call104, fun g w vs hi hv => ?_⟩
  obtain ⟨v, r, rfl, hv1, rfl⟩ := hv
  obtain ⟨arr, rfl, ha⟩ := hv1
  have harr : arr = #[.int .i64 c, .int .i64 n0, .int .i64 n1, .int .i64 n2, .int .i64 n3] := by
    simp only [List.map_cons, List.map_nil, Rs, R, List.cons.injEq, and_true] at ha
    obtain ⟨_, _, h0, rfl, _, _, _, rfl, rfl, _, _, _, rfl, rfl, _, _, _, rfl, rfl, _, _, _, rfl, rfl, _, rfl⟩ := ha
    exact Array.toList_inj.1 h0
  subst harr
  refine ((form_in (F := { fn := fun _ => True }) 3 trivial trivial trivial rfl (by omega) c n0 n1 n2 n3 w).calls (fun _ _ h => by cases h)).mono ?_
  rintro e w' ⟨rfl, hb⟩
  refine ⟨g, _, _, st, rfl, Gh.le.refl g, hi.ext hb, ?_, hk⟩
  rw [foldC_ge0]
  exact ⟨_, rfl, Rs_ints g (_ :: [n0, n1, n2, n3])⟩
end Go.Proofs.YtddbidoaolnegaaGreatDoor
