/-
PART OF A CLAIM: P1, P2, P3, P4. No statement of the seat is proved here; no condition. -/
import Derived.Test.YtddbidoaolnegaaGreatDoorWE7
import Derived.Test.YtddbidoaolnegaaGreatDoorWE8
set_option linter.all false
/- Names: the walks. No statement of the seat is proved here; no condition. -/
namespace Go.Proofs.YtddbidoaolnegaaGreatDoor
open Go Go.RowKit
open Nat renaming reduceLT → zA, reduceEqDiff → zB, reduceBEq → zC, reduceAdd → zD, reduceMul → zE, reduceSub → zF, reduceLeDiff → zG, mul_one → zH, zero_add → zI, add_zero → zJ
open Int renaming toNat_natCast → zK, reduceAdd → zL, reduceLE → zM, reduceLT → zN, natCast_nonneg → zO
open Go.Proofs.YtddbidoaolnegaaGreatDoor renaming evI_plain → ya, evI_guard → yb, evT_rd → yc, evT_rdg → yd, evT_act → ye, evT_actg → yf, evI_done → yg, evT_two → yh, evT_nil → yi, W.seqG → yj, W.block → yk, W.regionI → yl, W.cond → ym, W.skip → yn, W.ret → yo, W.exit → yp, gdD_split → yq, newT_intro → yr, newB_intro → ys, W.draw → yt, St.set_del → yu, St.give_take → yv, AGo.go → yw, IGo.go → yx, TGo.go → yy, Goes.go → yz
attribute [local go_sem] zK zP zQ zH zI zJ zO
attribute [local irreducible] W evI evT evL evOp evBin gdD Sem newT newB fillD bldOf
set_option maxRecDepth 10000
set_option maxHeartbeats 1000000

/-- May a byte stand in a name? -/
def letterB (c : Nat) : Bool := (97 ≤ c && c ≤ 122) || (65 ≤ c && c ≤ 90) || (48 ≤ c && c ≤ 57) || c == 95 || c == 46 || c == 39
def nameB (s : List UInt8) : Bool := s.all (fun c => letterB c.toNat) && decide (1 ≤ s.length) && decide (s.length ≤ 32)

theorem nameB_bad {s : List UInt8} {i : Nat} (hi : i < s.length) (h : letterB (s.getD i 0).toNat = false) : nameB s = false := by
  have : s.all (fun c => letterB c.toNat) = false := by
    rw [List.all_eq_false]
    exact ⟨s.getD i 0, by simp [List.getD, hi], by rw [h]; simp⟩
  simp [nameB, this]
theorem nameB_good {s : List UInt8} (h : ∀ j, j < s.length → letterB (s.getD j 0).toNat = true) : nameB s = (decide (1 ≤ s.length) && decide (s.length ≤ 32)) := by
  have : s.all (fun c => letterB c.toNat) = true := by
    rw [List.all_eq_true]
    intro c hc
    obtain ⟨j, hj, rfl⟩ := List.getElem_of_mem hc
    have := h j hj
    simpa [List.getD, hj] using this
  simp [nameB, this]

theorem lt_succ_all {p : Nat → Prop} {i : Nat} (h : ∀ j, j < i → p j) (hi : p i) : ∀ j, j < i + 1 → p j := fun j hj => by
  rcases Nat.lt_or_ge j i with h1 | h1
  · exact h j h1
  · have : j = i := by omega
    rw [this]; exact hi

theorem sem59 (s : List UInt8) (st : St) (k : D → St → Prop) (hs : s.length < 140737488355328) (hk : k (.bool (nameB s)) st) : Sem P 59 [.str s] st k := by
  refine Sem.of_body Tryz.call59 Tryz.func59 rfl Tryz.ntmps59 (by simp) ?_
  repeat' first | refine yj fun N hN => ?_ | refine yk ?_ | refine yl [] ?_ | (refine ya rfl rfl fun N hN => ?_; simp only [go_sem, ↓reduceIte, zA, zB, zC, zD, zE, zF, zG, zL, zM, zN, reduceCtorEq, Tryz.results59]) | (refine yg rfl ?_; try simp only [go_sem]) | ((first | refine yx hN _ _ ?_ | refine yz hN _ _ ?_); clear hN N) | fail
  refine W.loopN (fun m fr st' => st' = st ∧ ∃ i, i + m = s.length ∧ (∀ j, j < i → letterB (s.getD j 0).toNat = true) ∧ fr 0 = .str s ∧ fr 3 = .int .i64 i) ?_ s.length _ _ ⟨rfl, 0, by simp, by simp, by simp only [go_sem, ↓reduceIte, zA, zB, zC, zD, zE, zF, zG, zL, zM, zN, reduceCtorEq], by simp only [go_sem, ↓reduceIte, zA, zB, zC, zD, zE, zF, zG, zL, zM, zN, reduceCtorEq]; rfl⟩
  rintro m N' ih fr _ ⟨rfl, i, hi, hl, f0, f3⟩
  repeat' first | refine yj fun N hN => ?_ | refine yk ?_ | refine yl [] ?_ | ((first | refine ya rfl rfl fun N hN => ?_ | refine yb rfl rfl rfl rfl fun N hN => ?_ | refine ym ?_ | refine yo ?_ | refine yp ?_); simp only [go_sem, ↓reduceIte, zA, zB, zC, zD, zE, zF, zG, zL, zM, zN, reduceCtorEq, f0, f3, Tryz.results59]) | ((first | refine yg rfl ?_ | refine yn ?_); try simp only [go_sem]) | ((first | refine yx hN _ _ ?_ | refine yz hN _ _ ?_); clear hN N) | ((first | refine yq (fun h => ?_) (fun h => ?_) | (apply And.intro <;> intro h)) <;> (try simp only [zS, zT, zU, zV, Bool.not_true, Bool.not_false] at h) <;> (first | (exfalso; omega) | simp only [go_sem, ↓reduceIte, zA, zB, zC, zD, zE, zF, zG, zL, zM, zN, reduceCtorEq, f0, f3, h] | skip)) | (refine And.intro ?_ ?_; · omega) | clear hN N | fail
  all_goals first
    | (refine ih.back (m - 1) ?_ _ _ ⟨rfl, i + 1, ?_, lt_succ_all hl ?_, ?_, ?_⟩
       · omega
       · omega
       · simp only [letterB, Bool.or_eq_true, Bool.and_eq_true, decide_eq_true_eq, beq_iff_eq]; omega
       · simp only [go_sem, ↓reduceIte, zA, zB, zC, zD, zE, zF, zG, zL, zM, zN, reduceCtorEq, f0]
       · simp only [go_sem, ↓reduceIte, zA, zB, zC, zD, zE, zF, zG, zL, zM, zN, reduceCtorEq]; rfl)
    | (rw [nameB_bad (i := i) (by omega) (by simp only [letterB, Bool.or_eq_false_iff, Bool.and_eq_false_iff, decide_eq_false_iff_not, beq_eq_false_iff_ne]; omega)] at hk; exact hk)
    | (rw [nameB_good (fun j hj => hl j (by omega))] at hk
       have h1 : (1 ≤ s.length) = True := eq_true (by omega)
       simp only [h1, decide_true, Bool.true_and] at hk
       have h2 : decide ((s.length : Int) ≤ 32) = decide (s.length ≤ 32) := decide_eq_decide.2 (by omega)
       rw [h2]; exact hk)
    | (rw [nameB_good (fun j hj => hl j (by omega))] at hk
       have h1 : (1 ≤ s.length) = False := eq_false (by omega)
       simp only [h1, decide_false, Bool.false_and] at hk
       exact hk)
    | skip

theorem nameB_end {s : List UInt8} (h : ∀ j, j < s.length → letterB (s.getD j 0).toNat = true) : nameB s = (!decide (s = []) && decide ((s.length : Int) ≤ 32)) := by
  rw [nameB_good h]
  have h2 : decide ((s.length : Int) ≤ 32) = decide (s.length ≤ 32) := decide_eq_decide.2 (by omega)
  rw [h2]
  cases s <;> simp

theorem sem27 (s : List UInt8) (st : St) (k : D → St → Prop) (hs : s.length < 140737488355328) (hk : k (.bool (nameB s)) st) : Sem P 27 [.str s] st k := by
  refine Sem.of_body Tryz.call27 Tryz.func27 rfl Tryz.ntmps27 (by simp) ?_
  repeat' first | refine yj fun N hN => ?_ | refine yk ?_ | refine yl [] ?_ | (refine ya rfl rfl fun N hN => ?_; simp only [go_sem, ↓reduceIte, zA, zB, zC, zD, zE, zF, zG, zL, zM, zN, reduceCtorEq, Tryz.results27]) | (refine yg rfl ?_; try simp only [go_sem]) | ((first | refine yx hN _ _ ?_ | refine yz hN _ _ ?_); clear hN N) | fail
  refine W.loopN (fun m fr st' => st' = st ∧ ∃ i, i + m = s.length ∧ (∀ j, j < i → letterB (s.getD j 0).toNat = true) ∧ fr 0 = .str s ∧ fr 3 = .int .i64 i) ?_ s.length _ _ ⟨rfl, 0, by simp, by simp, by simp only [go_sem, ↓reduceIte, zA, zB, zC, zD, zE, zF, zG, zL, zM, zN, reduceCtorEq], by simp only [go_sem, ↓reduceIte, zA, zB, zC, zD, zE, zF, zG, zL, zM, zN, reduceCtorEq]; rfl⟩
  rintro m N' ih fr _ ⟨rfl, i, hi, hl, f0, f3⟩
  repeat' first | refine yj fun N hN => ?_ | refine yk ?_ | refine yl [] ?_ | ((first | refine ya rfl rfl fun N hN => ?_ | refine yb rfl rfl rfl rfl fun N hN => ?_ | refine ym ?_ | refine yo ?_ | refine yp ?_); simp only [go_sem, ↓reduceIte, zA, zB, zC, zD, zE, zF, zG, zL, zM, zN, reduceCtorEq, f0, f3, Tryz.results27]) | ((first | refine yg rfl ?_ | refine yn ?_); try simp only [go_sem]) | ((first | refine yx hN _ _ ?_ | refine yz hN _ _ ?_); clear hN N) | ((first | refine yq (fun h => ?_) (fun h => ?_) | (apply And.intro <;> intro h)) <;> (try simp only [zS, zT, zU, zV, Bool.not_true, Bool.not_false] at h) <;> (first | (exfalso; omega) | simp only [go_sem, ↓reduceIte, zA, zB, zC, zD, zE, zF, zG, zL, zM, zN, reduceCtorEq, f0, f3, h] | skip)) | (refine And.intro ?_ ?_; · omega) | clear hN N | fail
  all_goals first
    | (refine ih.back (m - 1) ?_ _ _ ⟨rfl, i + 1, ?_, lt_succ_all hl ?_, ?_, ?_⟩
       · omega
       · omega
       · simp only [letterB, Bool.or_eq_true, Bool.and_eq_true, decide_eq_true_eq, beq_iff_eq]; omega
       · simp only [go_sem, ↓reduceIte, zA, zB, zC, zD, zE, zF, zG, zL, zM, zN, reduceCtorEq, f0]
       · simp only [go_sem, ↓reduceIte, zA, zB, zC, zD, zE, zF, zG, zL, zM, zN, reduceCtorEq]; rfl)
    | (rw [nameB_bad (i := i) (by omega) (by simp only [letterB, Bool.or_eq_false_iff, Bool.and_eq_false_iff, decide_eq_false_iff_not, beq_eq_false_iff_ne]; omega)] at hk; exact hk)
    | (rw [nameB_good (fun j hj => hl j (by omega))] at hk
       have h1 : (1 ≤ s.length) = True := eq_true (by omega)
       simp only [h1, decide_true, Bool.true_and] at hk
       have h2 : decide ((s.length : Int) ≤ 32) = decide (s.length ≤ 32) := decide_eq_decide.2 (by omega)
       rw [h2]; exact hk)
    | (rw [nameB_good (fun j hj => hl j (by omega))] at hk
       have h1 : (1 ≤ s.length) = False := eq_false (by omega)
       simp only [h1, decide_false, Bool.false_and] at hk
       exact hk)

theorem sem103 (c : Nat) (st : St) (k : D → St → Prop) (hk : k (.bool (letterB c)) st) : Sem P 103 [.int .u8 c] st k := by
  refine Sem.of_body Tryz.call103 Tryz.func103 rfl Tryz.ntmps103 (by simp) ?_
  repeat' first | refine yj fun N hN => ?_ | refine yk ?_ | refine yl [] ?_ | ((first | refine ya rfl rfl fun N hN => ?_ | refine yb rfl rfl rfl rfl fun N hN => ?_ | refine ym ?_ | refine yo ?_ | refine yp ?_); simp only [go_sem, ↓reduceIte, zA, zB, zC, zD, zE, zF, zG, zL, zM, zN, reduceCtorEq, Tryz.results103]) | ((first | refine yg rfl ?_ | refine yn ?_); try simp only [go_sem]) | ((first | refine yx hN _ _ ?_ | refine yz hN _ _ ?_); clear hN N) | ((first | refine yq (fun h => ?_) (fun h => ?_) | (apply And.intro <;> intro h)) <;> (try simp only [zS, zT, zU, zV, Bool.not_true, Bool.not_false] at h) <;> (first | (exfalso; omega) | simp only [go_sem, ↓reduceIte, zA, zB, zC, zD, zE, zF, zG, zL, zM, zN, reduceCtorEq, h] | skip)) | clear hN N | fail
  all_goals first
    | (rw [show letterB c = true from by simp only [letterB, Bool.or_eq_true, Bool.and_eq_true, decide_eq_true_eq, beq_iff_eq]; omega] at hk; exact hk)
    | (rw [show letterB c = false from by simp only [letterB, Bool.or_eq_false_iff, Bool.and_eq_false_iff, decide_eq_false_iff_not, beq_eq_false_iff_ne]; omega] at hk; exact hk)
    | skip

theorem sem73 (s : List UInt8) (st : St) (k : D → St → Prop) (hs : s.length < 140737488355328) (hk : k (.bool (nameB s)) st) : Sem P 73 [.str s] st k := by
  refine Sem.of_body Tryz.call73 Tryz.func73 rfl Tryz.ntmps73 (by simp) ?_
  repeat' first | refine yj fun N hN => ?_ | refine yk ?_ | refine yl [] ?_ | (refine ya rfl rfl fun N hN => ?_; simp only [go_sem, ↓reduceIte, zA, zB, zC, zD, zE, zF, zG, zL, zM, zN, reduceCtorEq, Tryz.results73]) | (refine yg rfl ?_; try simp only [go_sem]) | ((first | refine yx hN _ _ ?_ | refine yz hN _ _ ?_); clear hN N) | fail
  refine W.loopN (fun m fr st' => st' = st ∧ ∃ i, i + m = s.length ∧ (∀ j, j < i → letterB (s.getD j 0).toNat = true) ∧ fr 0 = .str s ∧ fr 6 = .int .i64 i ∧ fr 5 = .int .i64 s.length) ?_ s.length _ _ ⟨rfl, 0, by simp, by simp, by simp only [go_sem, ↓reduceIte, zA, zB, zC, zD, zE, zF, zG, zL, zM, zN, reduceCtorEq], by simp only [go_sem, ↓reduceIte, zA, zB, zC, zD, zE, zF, zG, zL, zM, zN, reduceCtorEq]; rfl, by simp only [go_sem, ↓reduceIte, zA, zB, zC, zD, zE, zF, zG, zL, zM, zN, reduceCtorEq]⟩
  rintro m N' ih fr _ ⟨rfl, i, hi, hl, f0, f6, f5⟩
  repeat' first | refine yj fun N hN => ?_ | refine yk ?_ | refine yl [] ?_ | ((first | refine ya rfl rfl fun N hN => ?_ | refine yb rfl rfl rfl rfl fun N hN => ?_ | refine ym ?_ | refine yo ?_ | refine yp ?_); simp only [go_sem, ↓reduceIte, zA, zB, zC, zD, zE, zF, zG, zL, zM, zN, reduceCtorEq, f0, f6, f5, Tryz.results73]) | ((first | refine yg rfl ?_ | refine yn ?_); try simp only [go_sem]) | ((first | refine yx hN _ _ ?_ | refine yz hN _ _ ?_); clear hN N) | (refine sem103 _ _ _ ?_; try simp only [go_sem, ↓reduceIte, zA, zB, zC, zD, zE, zF, zG, zL, zM, zN, reduceCtorEq, f0, f6, f5]) | ((first | refine yq (fun h => ?_) (fun h => ?_) | (apply And.intro <;> intro h)) <;> (try simp only [zS, zT, zU, zV, Bool.not_true, Bool.not_false] at h) <;> (first | (exfalso; omega) | simp only [go_sem, ↓reduceIte, zA, zB, zC, zD, zE, zF, zG, zL, zM, zN, reduceCtorEq, f0, f6, f5, h] | skip)) | (refine And.intro ?_ ?_; · omega) | clear hN N | fail
  all_goals first
    | (refine ih.back (m - 1) ?_ _ _ ⟨rfl, i + 1, ?_, lt_succ_all hl ?_, ?_, ?_, ?_⟩
       · omega
       · omega
       · simpa using h
       · simp only [go_sem, ↓reduceIte, zA, zB, zC, zD, zE, zF, zG, zL, zM, zN, reduceCtorEq, f0]
       · simp only [go_sem, ↓reduceIte, zA, zB, zC, zD, zE, zF, zG, zL, zM, zN, reduceCtorEq]; rfl
       · simp only [go_sem, ↓reduceIte, zA, zB, zC, zD, zE, zF, zG, zL, zM, zN, reduceCtorEq, f5])
    | (rw [nameB_bad (i := i) (by omega) (by simpa using h)] at hk; exact hk)
    | (rw [nameB_end (fun j hj => hl j (by omega))] at hk
       simpa [h] using hk)
    | skip

theorem getD_map {α : Type} (f : α → D) (l : List α) (a : α) {i : Nat} (h : i < l.length) : (l.map f).getD i .any = f (l.getD i a) := by
  simp [List.getD, h]

theorem sem23 (s : List UInt8) (st : St) (k : D → St → Prop) (hs : s.length < 140737488355328) (hk : k (.bool (nameB s)) st) : Sem P 23 [.str s] st k := by
  refine Sem.drop ?_
  refine Sem.of_body Tryz.call23 Tryz.func23 rfl Tryz.ntmps23 (by simp) ?_
  repeat' first | refine yj fun N hN => ?_ | refine yk ?_ | refine yl [] ?_ | (refine ya rfl rfl fun N hN => ?_; simp only [go_sem, ↓reduceIte, zA, zB, zC, zD, zE, zF, zG, zL, zM, zN, reduceCtorEq, Tryz.results23]) | (refine yg rfl ?_; try simp only [go_sem]) | ((first | refine yx hN _ _ ?_ | refine yz hN _ _ ?_); clear hN N) | ((refine yr fun j hj => ?_; (try have hj0 := St.tok_of_give hj)); try simp only [go_sem, ↓reduceIte, zA, zB, zC, zD, zE, zF, zG, zL, zM, zN, reduceCtorEq]) | fail
  refine W.loopN (fun m fr st' => st' = st.give j ∧ ∃ i, i + m = s.length ∧ (∀ j, j < i → letterB (s.getD j 0).toNat = true) ∧ fr 0 = .str s ∧ fr 8 = .int .i64 i ∧ fr 7 = .int .i64 s.length ∧ fr 6 = .sl (.tok j) 1 (byD s)) ?_ s.length _ _ ⟨rfl, 0, by simp, by simp, by simp only [go_sem, ↓reduceIte, zA, zB, zC, zD, zE, zF, zG, zL, zM, zN, reduceCtorEq], by simp only [go_sem, ↓reduceIte, zA, zB, zC, zD, zE, zF, zG, zL, zM, zN, reduceCtorEq]; rfl, by simp only [go_sem, ↓reduceIte, zA, zB, zC, zD, zE, zF, zG, zL, zM, zN, reduceCtorEq], by simp only [go_sem, ↓reduceIte, zA, zB, zC, zD, zE, zF, zG, zL, zM, zN, reduceCtorEq]⟩
  rintro m N' ih fr _ ⟨rfl, i, hi, hl, f0, f8, f7, f6⟩
  rcases Nat.lt_or_ge i s.length with hlt | hge
  · have hc : ((i : Int) < s.length) = True := eq_true (by omega)
    have hg := byD_getD s hlt
    repeat' first | refine yj fun N hN => ?_ | refine yk ?_ | refine yl [] ?_ | ((first | refine ya rfl rfl fun N hN => ?_ | refine yb rfl rfl rfl rfl fun N hN => ?_ | refine ym ?_ | refine yo ?_); simp only [go_sem, ↓reduceIte, zA, zB, zC, zD, zE, zF, zG, zL, zM, zN, reduceCtorEq, f0, f8, f7, f6, hg, hc, Tryz.results23]) | ((first | refine yg rfl ?_ | refine yn ?_); try simp only [go_sem]) | ((first | refine yx hN _ _ ?_ | refine yz hN _ _ ?_); clear hN N) | ((first | refine yq (fun h => ?_) (fun h => ?_) | (apply And.intro <;> intro h)) <;> (try simp only [zS, zT, zU, zV, Bool.not_true, Bool.not_false] at h) <;> (first | (exfalso; omega) | simp only [go_sem, ↓reduceIte, zA, zB, zC, zD, zE, zF, zG, zL, zM, zN, reduceCtorEq, f0, f8, f7, f6, hg, hc, h] | skip)) | (refine And.intro ?_ ?_; · omega) | clear hN N | fail
    all_goals first
      | (refine ih.back (m - 1) ?_ _ _ ⟨rfl, i + 1, ?_, lt_succ_all hl ?_, ?_, ?_, ?_, ?_⟩
         · omega
         · omega
         · simp only [letterB, Bool.or_eq_true, Bool.and_eq_true, decide_eq_true_eq, beq_iff_eq]; omega
         · simp only [go_sem, ↓reduceIte, zA, zB, zC, zD, zE, zF, zG, zL, zM, zN, reduceCtorEq, f0]
         · simp only [go_sem, ↓reduceIte, zA, zB, zC, zD, zE, zF, zG, zL, zM, zN, reduceCtorEq]; rfl
         · simp only [go_sem, ↓reduceIte, zA, zB, zC, zD, zE, zF, zG, zL, zM, zN, reduceCtorEq, f7]
         · simp only [go_sem, ↓reduceIte, zA, zB, zC, zD, zE, zF, zG, zL, zM, zN, reduceCtorEq, f6])
      | (refine ⟨st, St.le_give (St.le.refl _) _, ?_⟩
         rw [nameB_bad (i := i) (by omega) (by simp only [letterB, Bool.or_eq_false_iff, Bool.and_eq_false_iff, decide_eq_false_iff_not, beq_eq_false_iff_ne]; omega)] at hk; exact hk)
  · have hc : ((i : Int) < s.length) = False := eq_false (by omega)
    repeat' first | refine yj fun N hN => ?_ | refine yl [] ?_ | ((first | refine ya rfl rfl fun N hN => ?_ | refine yb rfl rfl rfl rfl fun N hN => ?_ | refine ym ?_ | refine yo ?_ | refine yp ?_); simp only [go_sem, ↓reduceIte, zA, zB, zC, zD, zE, zF, zG, zL, zM, zN, reduceCtorEq, f0, f8, f7, f6, hc, Tryz.results23]) | (refine yg rfl ?_; try simp only [go_sem]) | ((first | refine yx hN _ _ ?_ | refine yz hN _ _ ?_); clear hN N) | (refine yq (fun h => ?_) (fun h => ?_) <;> (try simp only [zS, zT, zU, zV, Bool.not_true, Bool.not_false] at h) <;> (first | (exfalso; omega) | simp only [go_sem, ↓reduceIte, zA, zB, zC, zD, zE, zF, zG, zL, zM, zN, reduceCtorEq, f0, f8, f7, f6, hc, h] | skip)) | clear hN N | fail
    all_goals
      refine ⟨st, St.le_give (St.le.refl _) _, ?_⟩
      rw [nameB_end (fun j hj => hl j (by omega))] at hk
      simpa [h] using hk
end Go.Proofs.YtddbidoaolnegaaGreatDoor
/- Numbers as bytes: the walks. No statement of the seat is proved here; no condition. -/
namespace Go.Proofs.YtddbidoaolnegaaGreatDoor
open Go Go.RowKit
open Nat renaming reduceLT → zA, reduceEqDiff → zB, reduceBEq → zC, reduceAdd → zD, reduceMul → zE, reduceSub → zF, reduceLeDiff → zG, mul_one → zH, zero_add → zI, add_zero → zJ
open Int renaming toNat_natCast → zK, reduceAdd → zL, reduceLE → zM, reduceLT → zN, natCast_nonneg → zO
open Go.Proofs.YtddbidoaolnegaaGreatDoor renaming evI_plain → ya, evI_guard → yb, evT_rd → yc, evT_rdg → yd, evT_act → ye, evT_actg → yf, evI_done → yg, evT_two → yh, evT_nil → yi, W.seqG → yj, W.block → yk, W.regionI → yl, W.cond → ym, W.skip → yn, W.ret → yo, W.exit → yp, gdD_split → yq, newT_intro → yr, newB_intro → ys, W.draw → yt, St.set_del → yu, St.give_take → yv, AGo.go → yw, IGo.go → yx, TGo.go → yy, Goes.go → yz
attribute [local go_sem] zK zP zQ zH zI zJ zO
attribute [local irreducible] W evI evT evL evOp evBin gdD Sem newT newB fillD bldOf
set_option maxRecDepth 10000
set_option maxHeartbeats 1000000

/-- A number's bytes. -/
def num (n : Nat) : List UInt8 := if h : n < 128 then [UInt8.ofNat n] else UInt8.ofNat (128 + n % 128) :: num (n / 128)
theorem num_small {n : Nat} (h : n < 128) : num n = [UInt8.ofNat n] := by rw [num, dif_pos h]
theorem num_big {n : Nat} (h : ¬ n < 128) : num n = UInt8.ofNat (128 + n % 128) :: num (n / 128) := by rw [num, dif_neg h]
theorem num_len : ∀ (k n : Nat), n < 128 ^ (k + 1) → (num n).length ≤ k + 1
  | 0, n, h => by rw [num_small (by simpa using h)]; simp
  | k + 1, n, h => by
    by_cases hn : n < 128
    · rw [num_small hn]; simp
    · rw [num_big hn]
      have h1 : n / 128 < 128 ^ (k + 1) := by
        rw [Nat.div_lt_iff_lt_mul (by omega)]
        rw [Nat.pow_succ] at h; exact h
      have := num_len k (n / 128) h1
      simp; omega
theorem num_len64 {n : Nat} (h : n < 18446744073709551616) : (num n).length ≤ 10 := num_len 9 n (Nat.lt_trans h (by decide))

theorem wrap_u8 (n : Nat) : IntKind.u8.wrap (n : Int) = ((n % 256 : Nat) : Int) := by
  simp [IntKind.wrap, IntKind.bits, IntKind.signed]
theorem or128 (n : Nat) : bits .or .u8 (IntKind.u8.wrap (n : Int)) 128 = (((UInt8.ofNat (128 + n % 128)).toNat : Nat) : Int) := by
  rw [wrap_u8]
  have h : ∀ x : Fin 256, bits .or .u8 ((x.val : Nat) : Int) 128 = (((UInt8.ofNat (128 + x.val % 128)).toNat : Nat) : Int) := by decide
  have := h ⟨n % 256, Nat.mod_lt _ (by decide)⟩
  simp only at this
  rw [this]
  rw [show n % 256 % 128 = n % 128 by omega]
theorem wrap_small {n : Nat} (h : n < 128) : IntKind.u8.wrap (n : Int) = (((UInt8.ofNat n).toNat : Nat) : Int) := by
  rw [wrap_u8]; simp

theorem sem19 (ow : Own) (z : Nat) (b : List UInt8) (n : Nat) (st : St) (k : D → St → Prop) (hb : b.length < 1000000000) (hn : n < 18446744073709551616)
    (hk : ∀ j, st.tok j = false → k (.sl (.tok j) 1 (byD (b ++ num n))) (st.give j)) : Sem P 19 [.sl ow z (byD b), .int .u64 n] st k := by
  refine Sem.of_body Tryz.call19 Tryz.func19 rfl Tryz.ntmps19 (by simp) ?_
  repeat' first | refine yj fun N hN => ?_ | refine yk ?_ | refine yl [] ?_ | (refine ya rfl rfl fun N hN => ?_; simp only [go_sem, ↓reduceIte, zA, zB, zC, zD, zE, zF, zG, zL, zM, zN, reduceCtorEq, Tryz.results19]) | (refine yg rfl ?_; try simp only [go_sem]) | ((first | refine yx hN _ _ ?_ | refine yz hN _ _ ?_); clear hN N) | rw [yv hj] | ((refine yr fun j hj => ?_; (try have hj0 := St.tok_of_give hj)); try simp only [go_sem, ↓reduceIte, zA, zB, zC, zD, zE, zF, zG, zL, zM, zN, reduceCtorEq]) | (refine And.intro ?_ ?_; · omega) | fail
  refine W.loopN (fun m fr st' => ∃ j pre, st.tok j = false ∧ st' = st.give j ∧ pre ++ num m = num n ∧ m < 18446744073709551616 ∧ fr 1 = .int .u64 m ∧ fr 5 = .sl (.tok j) 1 (byD (b ++ pre))) ?_ n _ _ ⟨_, [], hj0, rfl, rfl, hn, by simp only [go_sem, ↓reduceIte, zA, zB, zC, zD, zE, zF, zG, zL, zM, zN, reduceCtorEq], by simp only [go_sem, ↓reduceIte, zA, zB, zC, zD, zE, zF, zG, zL, zM, zN, reduceCtorEq, List.append_nil]⟩
  rintro m N' ih fr _ ⟨j, pre, hj, rfl, hp, hm, f1, f5⟩
  have hl := num_len64 hn
  rw [← hp, List.length_append] at hl
  by_cases hc : m < 128
  · have hc' : ((128 : Int) ≤ m) = False := eq_false (by omega)
    have hv := wrap_small hc
    repeat' first | refine yj fun N hN => ?_ | refine yl [] ?_ | ((first | refine ya rfl rfl fun N hN => ?_ | refine ym ?_ | refine yo ?_ | refine yp ?_); simp only [go_sem, ↓reduceIte, zA, zB, zC, zD, zE, zF, zG, zL, zM, zN, reduceCtorEq, f1, f5, hc', hv, Tryz.results19]) | (refine yg rfl ?_; try simp only [go_sem]) | ((first | refine yx hN _ _ ?_ | refine yz hN _ _ ?_); clear hN N) | rw [yv hj] | ((refine yr fun j hj => ?_; (try have hj0 := St.tok_of_give hj)); try simp only [go_sem, ↓reduceIte, zA, zB, zC, zD, zE, zF, zG, zL, zM, zN, reduceCtorEq, f1, f5, hc', hv]) | (refine And.intro ?_ ?_; · omega) | clear hN N | fail
    all_goals (
      rw [num_small hc] at hp
      have := hk j hj0
      rw [← hp, ← List.append_assoc, byD_append] at this
      exact this)
  · have hc' : ((128 : Int) ≤ m) = True := eq_true (by omega)
    have hv := or128 m
    repeat' first | refine yj fun N hN => ?_ | refine yk ?_ | refine yl [] ?_ | ((first | refine ya rfl rfl fun N hN => ?_ | refine ym ?_); simp only [go_sem, ↓reduceIte, zA, zB, zC, zD, zE, zF, zG, zL, zM, zN, reduceCtorEq, f1, f5, hc', hv, Tryz.results19]) | ((first | refine yg rfl ?_ | refine yn ?_); try simp only [go_sem]) | ((first | refine yx hN _ _ ?_ | refine yz hN _ _ ?_); clear hN N) | rw [yv hj] | ((refine yr fun j hj => ?_; (try have hj0 := St.tok_of_give hj)); try simp only [go_sem, ↓reduceIte, zA, zB, zC, zD, zE, zF, zG, zL, zM, zN, reduceCtorEq, f1, f5, hc', hv]) | (refine And.intro ?_ ?_; · omega) | clear hN N | fail
    all_goals (
      rw [num_big hc] at hp
      refine ih.back (m / 128) (by omega) _ _ ⟨j, pre ++ [UInt8.ofNat (128 + m % 128)], hj0, rfl, by rw [List.append_assoc]; exact hp, by omega, ?_, ?_⟩
      · simp only [go_sem, ↓reduceIte, zA, zB, zC, zD, zE, zF, zG, zL, zM, zN, reduceCtorEq]; rfl
      · simp only [go_sem, ↓reduceIte, zA, zB, zC, zD, zE, zF, zG, zL, zM, zN, reduceCtorEq]; rw [← List.append_assoc, byD_append (b ++ pre)]; rfl)

theorem sem58 (n : Nat) (st : St) (k : D → St → Prop) (hn : n < 18446744073709551616)
    (hk : ∀ j, st.tok j = false → k (.sl (.tok j) 1 (byD (num n))) (st.give j)) : Sem P 58 [.int .u64 n] st k := by
  refine Sem.of_body Tryz.call58 Tryz.func58 rfl Tryz.ntmps58 (by simp) ?_
  repeat' first | refine yj fun N hN => ?_ | refine yk ?_ | refine yl [] ?_ | (refine ya rfl rfl fun N hN => ?_; simp only [go_sem, ↓reduceIte, zA, zB, zC, zD, zE, zF, zG, zL, zM, zN, reduceCtorEq, Tryz.results58]) | (refine yg rfl ?_; try simp only [go_sem]) | ((first | refine yx hN _ _ ?_ | refine yz hN _ _ ?_); clear hN N) | fail
  refine W.loopN (fun m fr st' => ∃ pre, pre ++ num m = num n ∧ m < 18446744073709551616 ∧ fr 0 = .int .u64 m ∧ ((pre = [] ∧ st' = st ∧ fr 3 = .sl .nil 0 []) ∨ ∃ j, st.tok j = false ∧ st' = st.give j ∧ fr 3 = .sl (.tok j) 1 (byD pre))) ?_ n _ _ ⟨[], rfl, hn, by simp only [go_sem, ↓reduceIte, zA, zB, zC, zD, zE, zF, zG, zL, zM, zN, reduceCtorEq], .inl ⟨rfl, rfl, by simp only [go_sem, ↓reduceIte, zA, zB, zC, zD, zE, zF, zG, zL, zM, zN, reduceCtorEq]⟩⟩
  rintro m N' ih fr st' ⟨pre, hp, hm, f0, hA⟩
  have hl := num_len64 hn
  rw [← hp, List.length_append] at hl
  have hw : ∀ x, x < 256 → IntKind.u8.wrap ((x : Nat) : Int) = ((UInt8.ofNat x).toNat : Nat) := fun x hx => by rw [wrap_u8]; simp
  by_cases hc : m < 128
  · have hc' : ((127 : Int) < m) = False := eq_false (by omega)
    have hv := wrap_small hc
    rw [num_small hc] at hp
    rcases hA with ⟨rfl, rfl, f3⟩ | ⟨j, hj, rfl, f3⟩
    · repeat' first | refine yj fun N hN => ?_ | refine yl [] ?_ | ((first | refine ya rfl rfl fun N hN => ?_ | refine ym ?_ | refine yo ?_ | refine yp ?_); simp only [go_sem, ↓reduceIte, zA, zB, zC, zD, zE, zF, zG, zL, zM, zN, reduceCtorEq, f0, f3, hc', hv, Tryz.results58]) | (refine yg rfl ?_; try simp only [go_sem]) | ((first | refine yx hN _ _ ?_ | refine yz hN _ _ ?_); clear hN N) | ((refine yr fun j hj => ?_; (try have hj0 := St.tok_of_give hj)); try simp only [go_sem, ↓reduceIte, zA, zB, zC, zD, zE, zF, zG, zL, zM, zN, reduceCtorEq, f0, f3, hc', hv]) | clear hN N | fail
      all_goals (
        have := hk j hj
        rw [← hp] at this
        exact this)
    · repeat' first | refine yj fun N hN => ?_ | refine yl [] ?_ | ((first | refine ya rfl rfl fun N hN => ?_ | refine ym ?_ | refine yo ?_ | refine yp ?_); simp only [go_sem, ↓reduceIte, zA, zB, zC, zD, zE, zF, zG, zL, zM, zN, reduceCtorEq, f0, f3, hc', hv, Tryz.results58]) | (refine yg rfl ?_; try simp only [go_sem]) | ((first | refine yx hN _ _ ?_ | refine yz hN _ _ ?_); clear hN N) | rw [yv hj] | ((refine yr fun j hj => ?_; (try have hj0 := St.tok_of_give hj)); try simp only [go_sem, ↓reduceIte, zA, zB, zC, zD, zE, zF, zG, zL, zM, zN, reduceCtorEq, f0, f3, hc', hv]) | (refine And.intro ?_ ?_; · omega) | clear hN N | fail
      all_goals (
        have := hk j hj0
        rw [← hp, byD_append] at this
        exact this)
  · have hc' : ((127 : Int) < m) = True := eq_true (by omega)
    have hv := hw (128 + m % 128) (by omega)
    have hv2 : (128 : Int) + (m : Int) % 128 = ((128 + m % 128 : Nat) : Int) := by omega
    rw [num_big hc] at hp
    rcases hA with ⟨rfl, rfl, f3⟩ | ⟨j, hj, rfl, f3⟩
    · repeat' first | refine yj fun N hN => ?_ | refine yk ?_ | refine yl [] ?_ | ((first | refine ya rfl rfl fun N hN => ?_ | refine ym ?_); simp only [go_sem, ↓reduceIte, zA, zB, zC, zD, zE, zF, zG, zL, zM, zN, reduceCtorEq, f0, f3, hc', hv2, hv, Tryz.results58]) | ((first | refine yg rfl ?_ | refine yn ?_); try simp only [go_sem]) | ((first | refine yx hN _ _ ?_ | refine yz hN _ _ ?_); clear hN N) | ((refine yr fun j hj => ?_; (try have hj0 := St.tok_of_give hj)); try simp only [go_sem, ↓reduceIte, zA, zB, zC, zD, zE, zF, zG, zL, zM, zN, reduceCtorEq, f0, f3, hc', hv2, hv]) | (refine And.intro ?_ ?_; · omega) | clear hN N | fail
      all_goals (
        refine ih.back (m / 128) (by omega) _ _ ⟨[UInt8.ofNat (128 + m % 128)], hp, by omega, ?_, .inr ⟨j, hj, rfl, ?_⟩⟩
        · simp only [go_sem, ↓reduceIte, zA, zB, zC, zD, zE, zF, zG, zL, zM, zN, reduceCtorEq]; rfl
        · simp only [go_sem, ↓reduceIte, zA, zB, zC, zD, zE, zF, zG, zL, zM, zN, reduceCtorEq]; rfl)
    · repeat' first | refine yj fun N hN => ?_ | refine yk ?_ | refine yl [] ?_ | ((first | refine ya rfl rfl fun N hN => ?_ | refine ym ?_); simp only [go_sem, ↓reduceIte, zA, zB, zC, zD, zE, zF, zG, zL, zM, zN, reduceCtorEq, f0, f3, hc', hv2, hv, Tryz.results58]) | ((first | refine yg rfl ?_ | refine yn ?_); try simp only [go_sem]) | ((first | refine yx hN _ _ ?_ | refine yz hN _ _ ?_); clear hN N) | rw [yv hj] | ((refine yr fun j hj => ?_; (try have hj0 := St.tok_of_give hj)); try simp only [go_sem, ↓reduceIte, zA, zB, zC, zD, zE, zF, zG, zL, zM, zN, reduceCtorEq, f0, f3, hc', hv2, hv]) | (refine And.intro ?_ ?_; · omega) | clear hN N | fail
      all_goals (
        refine ih.back (m / 128) (by omega) _ _ ⟨pre ++ [UInt8.ofNat (128 + m % 128)], by rw [List.append_assoc]; exact hp, by omega, ?_, .inr ⟨j, hj0, rfl, ?_⟩⟩
        · simp only [go_sem, ↓reduceIte, zA, zB, zC, zD, zE, zF, zG, zL, zM, zN, reduceCtorEq]; rfl
        · simp only [go_sem, ↓reduceIte, zA, zB, zC, zD, zE, zF, zG, zL, zM, zN, reduceCtorEq]; rw [byD_append]; rfl)

theorem sem21 (ow : Own) (z : Nat) (b : List UInt8) (n : Nat) (st : St) (k : D → St → Prop) (hb : b.length < 1000000000) (hn : n < 18446744073709551616)
    (hk : ∀ j, st.tok j = false → k (.sl (.tok j) 1 (byD (b ++ num n))) (st.give j)) : Sem P 21 [.sl ow z (byD b), .int .u64 n] st k := by
  have hl := num_len64 hn
  refine Sem.drop ?_
  refine Sem.of_body Tryz.call21 Tryz.func21 rfl Tryz.ntmps21 (by simp) ?_
  repeat' first | refine yj fun N hN => ?_ | refine yl [5] ?_ | ((first | refine ya rfl rfl fun N hN => ?_ | refine yo ?_); simp only [go_sem, ↓reduceIte, zA, zB, zC, zD, zE, zF, zG, zL, zM, zN, reduceCtorEq, Tryz.results21]) | (refine yg rfl ?_; try simp only [go_sem]) | ((first | refine yx hN _ _ ?_ | refine yz hN _ _ ?_); clear hN N) | (refine sem58 _ _ _ hn fun j hj => ?_; try simp only [go_sem, ↓reduceIte, zA, zB, zC, zD, zE, zF, zG, zL, zM, zN, reduceCtorEq]) | rw [yv hj] | ((refine yr fun j hj => ?_; (try have hj0 := St.tok_of_give hj)); try simp only [go_sem, ↓reduceIte, zA, zB, zC, zD, zE, zF, zG, zL, zM, zN, reduceCtorEq]) | (refine And.intro ?_ ?_; · omega) | fail
  all_goals (
    refine ⟨st.give j, ⟨fun r o h => h, fun i hi => ?_⟩, ?_⟩
    · simp only [St.tok_give, St.tok_take] at hi hj ⊢
      split at hi
      · rename_i h; simp [h]
      · simp_all
        intro e; subst e; simp_all
    · have h0 := St.tok_of_give (St.tok_of_give hj)
      have := hk j h0
      rw [byD_append] at this
      exact this)

theorem sem22 (ow : Own) (z : Nat) (b s : List UInt8) (st : St) (k : D → St → Prop) (hb : b.length < 100000000) (hs : s.length < 1000000)
    (hno : nameB s = false → k (.tup [.sl .nil 0 [], .int .i64 5]) st)
    (hk : ∀ j, nameB s = true → st.tok j = false → k (.tup [.sl (.tok j) 1 (byD (b ++ num s.length ++ s)), .int .i64 0]) (st.give j)) : Sem P 22 [.sl ow z (byD b), .str s] st k := by
  have hw := wrap_u64 (n := s.length) (by omega)
  have hl := num_len64 (n := s.length) (by omega)
  refine Sem.of_body Tryz.call22 Tryz.func22 rfl Tryz.ntmps22 (by simp) ?_
  repeat' first | refine yj fun N hN => ?_ | refine yl [] ?_ | ((first | refine ya rfl rfl fun N hN => ?_ | refine ym ?_ | refine yo ?_); simp only [go_sem, ↓reduceIte, zA, zB, zC, zD, zE, zF, zG, zL, zM, zN, reduceCtorEq, hw, Tryz.results22]) | ((first | refine yg rfl ?_ | refine yn ?_); try simp only [go_sem]) | ((first | refine yx hN _ _ ?_ | refine yz hN _ _ ?_); clear hN N) | (refine sem59 _ _ _ (by omega) ?_; try simp only [go_sem, ↓reduceIte, zA, zB, zC, zD, zE, zF, zG, zL, zM, zN, reduceCtorEq, hw]) | (refine sem21 _ _ _ _ _ _ (by omega) (by omega) fun j hj => ?_; try simp only [go_sem, ↓reduceIte, zA, zB, zC, zD, zE, zF, zG, zL, zM, zN, reduceCtorEq, hw]) | rw [yv hj] | ((apply And.intro <;> intro h) <;> (try simp only [zS, zT, zU, zV, Bool.not_true, Bool.not_false] at h) <;> (first | (exfalso; omega) | simp only [go_sem, ↓reduceIte, zA, zB, zC, zD, zE, zF, zG, zL, zM, zN, reduceCtorEq, hw, h] | skip)) | ((refine yr fun j hj => ?_; (try have hj0 := St.tok_of_give hj)); try simp only [go_sem, ↓reduceIte, zA, zB, zC, zD, zE, zF, zG, zL, zM, zN, reduceCtorEq, hw]) | (refine And.intro ?_ ?_; · omega) | clear hN N | fail
  · exact hno h
  · have := hk _ (by assumption) (by assumption)
    rw [byD_append] at this
    exact this

theorem sem89 (ow : Own) (z : Nat) (b s : List UInt8) (st : St) (k : D → St → Prop) (hb : b.length < 100000000) (hs : s.length < 1000000)
    (hno : nameB s = false → k (.tup [.sl .nil 0 [], .int .i64 5]) st)
    (hk : ∀ j, nameB s = true → st.tok j = false → k (.tup [.sl (.tok j) 1 (byD (b ++ num s.length ++ s)), .int .i64 0]) (st.give j)) : Sem P 89 [.sl ow z (byD b), .str s] st k := by
  have hw := wrap_u64 (n := s.length) (by omega)
  have hl := num_len64 (n := s.length) (by omega)
  refine Sem.of_body Tryz.call89 Tryz.func89 rfl Tryz.ntmps89 (by simp) ?_
  repeat' first | refine yj fun N hN => ?_ | refine yl [] ?_ | ((first | refine ya rfl rfl fun N hN => ?_ | refine ym ?_ | refine yo ?_); simp only [go_sem, ↓reduceIte, zA, zB, zC, zD, zE, zF, zG, zL, zM, zN, reduceCtorEq, hw, Tryz.results89]) | ((first | refine yg rfl ?_ | refine yn ?_); try simp only [go_sem]) | ((first | refine yx hN _ _ ?_ | refine yz hN _ _ ?_); clear hN N) | (refine sem73 _ _ _ (by omega) ?_; try simp only [go_sem, ↓reduceIte, zA, zB, zC, zD, zE, zF, zG, zL, zM, zN, reduceCtorEq, hw]) | (refine sem19 _ _ _ _ _ _ (by omega) (by omega) fun j hj => ?_; try simp only [go_sem, ↓reduceIte, zA, zB, zC, zD, zE, zF, zG, zL, zM, zN, reduceCtorEq, hw]) | rw [yv hj] | ((apply And.intro <;> intro h) <;> (try simp only [zS, zT, zU, zV, Bool.not_true, Bool.not_false] at h) <;> (first | (exfalso; omega) | simp only [go_sem, ↓reduceIte, zA, zB, zC, zD, zE, zF, zG, zL, zM, zN, reduceCtorEq, hw, h] | skip)) | ((refine yr fun j hj => ?_; (try have hj0 := St.tok_of_give hj)); try simp only [go_sem, ↓reduceIte, zA, zB, zC, zD, zE, zF, zG, zL, zM, zN, reduceCtorEq, hw]) | (refine And.intro ?_ ?_; · omega) | clear hN N | fail
  · exact hno h
  · have := hk _ (by assumption) (by assumption)
    rw [byD_append] at this
    exact this
end Go.Proofs.YtddbidoaolnegaaGreatDoor
/- Levels: the walks. No statement of the seat is proved here; no condition. -/
namespace Go.Proofs.YtddbidoaolnegaaGreatDoor
open Go Go.RowKit
open Nat renaming reduceLT → zA, reduceEqDiff → zB, reduceBEq → zC, reduceAdd → zD, reduceMul → zE, reduceSub → zF, reduceLeDiff → zG, mul_one → zH, zero_add → zI, add_zero → zJ
open Int renaming toNat_natCast → zK, reduceAdd → zL, reduceLE → zM, reduceLT → zN, natCast_nonneg → zO
open Go.Proofs.YtddbidoaolnegaaGreatDoor renaming evI_plain → ya, evI_guard → yb, evT_rd → yc, evT_rdg → yd, evT_act → ye, evT_actg → yf, evI_done → yg, evT_two → yh, evT_nil → yi, W.seqG → yj, W.block → yk, W.regionI → yl, W.cond → ym, W.skip → yn, W.ret → yo, W.exit → yp, gdD_split → yq, newT_intro → yr, newB_intro → ys, W.draw → yt, St.set_del → yu, St.give_take → yv, AGo.go → yw, IGo.go → yx, TGo.go → yy, Goes.go → yz
attribute [local go_sem] zK zP zQ zH zI zJ zO
attribute [local irreducible] W evI evT evL evOp evBin gdD Sem newT newB fillD bldOf
set_option maxRecDepth 10000
set_option maxHeartbeats 1000000

structure Lv where
  c : Int
  p : List Int
  n : p.length = 4
def Lv.d (l : Lv) : D := .agg (.int .i64 l.c :: l.p.map (.int .i64))

/-- One entry is as it may be. -/
def entB (c p : Int) : Bool := decide (-1 ≤ p) && decide (p ≤ 1099511627776) && !(decide (c ≤ p) && decide (0 ≤ p) && decide (0 < c))
def lvB (l : Lv) : Bool := decide (0 ≤ l.c) && decide (l.c ≤ 1099511627776) && l.p.all (entB l.c)

theorem all_bad {p : List Int} {q : Int → Bool} {i : Nat} (hi : i < p.length) (h : q (p.getD i 0) = false) : p.all q = false := by
  rw [List.all_eq_false]
  exact ⟨p.getD i 0, by simp [List.getD, hi], by rw [h]; simp⟩
theorem all_good {p : List Int} {q : Int → Bool} (h : ∀ j, j < p.length → q (p.getD j 0) = true) : p.all q = true := by
  rw [List.all_eq_true]
  intro c hc
  obtain ⟨j, hj, rfl⟩ := List.getElem_of_mem hc
  have := h j hj
  simpa [List.getD, hj] using this

theorem sem113 (l : Lv) (st : St) (k : D → St → Prop) (hk : k (.bool (lvB l)) st) : Sem P 113 [l.d] st k := by
  unfold Lv.d
  have hn := l.n
  by_cases c1 : l.c < 0
  · rw [show lvB l = false by (have h : ¬ 0 ≤ l.c := by omega); simp [lvB, h]] at hk
    refine Sem.of_body Tryz.call113 Tryz.func113 rfl Tryz.ntmps113 (by simp) ?_
    repeat' first | refine yj fun N hN => ?_ | refine yl [] ?_ | ((first | refine ya rfl rfl fun N hN => ?_ | refine yb rfl rfl rfl rfl fun N hN => ?_ | refine ym ?_ | refine yo ?_); simp only [go_sem, ↓reduceIte, zA, zB, zC, zD, zE, zF, zG, zL, zM, zN, reduceCtorEq, c1, Tryz.results113]) | (refine yg rfl ?_; try simp only [go_sem]) | ((first | refine yx hN _ _ ?_ | refine yz hN _ _ ?_); clear hN N) | (refine And.intro ?_ ?_; · omega) | clear hN N | fail
    all_goals exact hk
  by_cases c2 : 1099511627776 < l.c
  · rw [show lvB l = false by (have h : ¬ l.c ≤ 1099511627776 := by omega); simp [lvB, h]] at hk
    refine Sem.of_body Tryz.call113 Tryz.func113 rfl Tryz.ntmps113 (by simp) ?_
    repeat' first | refine yj fun N hN => ?_ | refine yl [] ?_ | ((first | refine ya rfl rfl fun N hN => ?_ | refine yb rfl rfl rfl rfl fun N hN => ?_ | refine ym ?_ | refine yo ?_); simp only [go_sem, ↓reduceIte, zA, zB, zC, zD, zE, zF, zG, zL, zM, zN, reduceCtorEq, c1, c2, Tryz.results113]) | (refine yg rfl ?_; try simp only [go_sem]) | ((first | refine yx hN _ _ ?_ | refine yz hN _ _ ?_); clear hN N) | (refine And.intro ?_ ?_; · omega) | clear hN N | fail
    all_goals exact hk
  refine Sem.of_body Tryz.call113 Tryz.func113 rfl Tryz.ntmps113 (by simp) ?_
  repeat' first | refine yj fun N hN => ?_ | refine yk ?_ | refine yl [] ?_ | ((first | refine ya rfl rfl fun N hN => ?_ | refine yb rfl rfl rfl rfl fun N hN => ?_ | refine ym ?_); simp only [go_sem, ↓reduceIte, zA, zB, zC, zD, zE, zF, zG, zL, zM, zN, reduceCtorEq, c1, c2, Tryz.results113]) | ((first | refine yg rfl ?_ | refine yn ?_); try simp only [go_sem]) | ((first | refine yx hN _ _ ?_ | refine yz hN _ _ ?_); clear hN N) | (refine And.intro ?_ ?_; · omega) | fail
  refine W.loopN (fun m fr st' => st' = st ∧ ∃ i, i + m = 4 ∧ (∀ j, j < i → entB l.c (l.p.getD j 0) = true) ∧ fr 3 = .int .i64 i ∧ fr 1 = .eptr (.agg (.int .i64 l.c :: l.p.map (.int .i64))) 0) ?_ 4 _ _ ⟨rfl, 0, by simp, by simp, by simp only [go_sem, ↓reduceIte, zA, zB, zC, zD, zE, zF, zG, zL, zM, zN, reduceCtorEq]; rfl, by simp only [go_sem, ↓reduceIte, zA, zB, zC, zD, zE, zF, zG, zL, zM, zN, reduceCtorEq]⟩
  rintro m N' ih fr _ ⟨rfl, i, hi, hl, f3, f1⟩
  rcases Nat.lt_or_ge i 4 with hlt | hge
  · have hg : (D.int .i64 l.c :: l.p.map (D.int .i64)).getD (1 + i) .any = .int .i64 (l.p.getD i 0) := by
      rw [Nat.add_comm, List.getD_cons_succ]; exact getD_map _ _ 0 (by omega)
    have hlen : 1 + i < 5 := by omega
    have h4 : (i : Int) < 4 := by omega
    by_cases a1 : l.p.getD i 0 < -1 <;> by_cases a2 : 1099511627776 < l.p.getD i 0 <;> by_cases a3 : l.c ≤ l.p.getD i 0 <;> by_cases a4 : 0 ≤ l.p.getD i 0 <;> by_cases a5 : 0 < l.c <;> try (exfalso; omega)
    all_goals (
      repeat' first | refine yj fun N hN => ?_ | refine yk ?_ | refine yl [] ?_ | ((first | refine ya rfl rfl fun N hN => ?_ | refine yc rfl rfl fun N hN => ?_ | refine yd rfl rfl rfl rfl fun N hN => ?_ | refine ye rfl rfl fun N hN => ?_ | refine yf rfl rfl rfl rfl fun N hN => ?_ | (refine yw hN _ _ ?_; clear hN N) | refine ym ?_ | refine yo ?_); simp only [go_sem, ↓reduceIte, zA, zB, zC, zD, zE, zF, zG, zL, zM, zN, reduceCtorEq, f3, f1, hg, hn, hlen, hlt, h4, a1, a2, a3, a4, a5, Tryz.results113]) | ((first | refine yg rfl ?_ | refine yn ?_ | refine yi ?_); try simp only [go_sem]) | ((first | refine yx hN _ _ ?_ | refine yz hN _ _ ?_ | refine yy hN _ ?_); clear hN N) | refine yt (id := 6) mixed [] (.rd 0 (.act 1 [0] (.act 2 [] (.act 3 [] (.act 4 [] (.act 5 [] (.rd 6 (.act 7 [6] (.act 8 [] (.act 9 [] (.act 10 [] (.act 11 [] (.act 12 [] (.rd 13 (.rd 14 (.rd 15 (.rd 16 (.act 17 [16, 15, 14, 13] (.act 18 [16, 15, 14, 13] (.act 19 [] (.act 20 [] (.rd 21 (.act 22 [21] (.act 23 [] (.act 24 [] (.act 25 [] (.act 26 [] (.act 27 [] (.act 28 [] (.act 29 [] (.act 30 [] (.act 31 [] (.act 32 [] (.nil)))))))))))))))))))))))))))))))))) (by kernel_rfl) ?_ | (refine And.intro ?_ ?_; · omega) | clear hN N | fail)
    all_goals first
      | (refine ih.back (m - 1) ?_ _ _ ⟨rfl, i + 1, ?_, lt_succ_all hl ?_, ?_, ?_⟩
         · omega
         · omega
         · simp only [entB, Bool.and_eq_true, decide_eq_true_eq, Bool.not_eq_true', Bool.and_eq_false_iff, decide_eq_false_iff_not]; omega
         · simp only [go_sem, ↓reduceIte, zA, zB, zC, zD, zE, zF, zG, zL, zM, zN, reduceCtorEq]; rfl
         · simp only [go_sem, ↓reduceIte, zA, zB, zC, zD, zE, zF, zG, zL, zM, zN, reduceCtorEq, f1])
      | (have hb : lvB l = false := by
           unfold lvB
           rw [all_bad (i := i) (by omega) (by simp only [entB, Bool.and_eq_false_iff, decide_eq_false_iff_not, Bool.not_eq_false', Bool.and_eq_true, decide_eq_true_eq]; omega), Bool.and_false]
         rw [hb] at hk; exact hk)
  · have h4 : ¬ (i : Int) < 4 := by omega
    have hb : lvB l = true := by
      unfold lvB
      rw [all_good (fun j hj => hl j (by omega))]
      simp only [Bool.and_true, Bool.and_eq_true, decide_eq_true_eq]; omega
    rw [hb] at hk
    repeat' first | refine yj fun N hN => ?_ | refine yl [] ?_ | ((first | refine ya rfl rfl fun N hN => ?_ | refine ym ?_ | refine yo ?_ | refine yp ?_); simp only [go_sem, ↓reduceIte, zA, zB, zC, zD, zE, zF, zG, zL, zM, zN, reduceCtorEq, f3, f1, h4, Tryz.results113]) | (refine yg rfl ?_; try simp only [go_sem]) | ((first | refine yx hN _ _ ?_ | refine yz hN _ _ ?_); clear hN N) | clear hN N | fail
    all_goals exact hk

theorem sem101 (l : Lv) (st : St) (k : D → St → Prop) (hk : k (.bool (lvB l && l.p.all (fun n => decide (n ≤ 64)) && decide (l.c ≤ 64))) st) : Sem P 101 [l.d] st k := by
  have hn := l.n
  refine Sem.of_body Tryz.call101 Tryz.func101 rfl Tryz.ntmps101 (by simp) ?_
  unfold Lv.d
  repeat' first | refine yj fun N hN => ?_ | refine yk ?_ | refine yl [] ?_ | (refine ya rfl rfl fun N hN => ?_; simp only [go_sem, ↓reduceIte, zA, zB, zC, zD, zE, zF, zG, zL, zM, zN, reduceCtorEq, Tryz.results101]) | (refine yg rfl ?_; try simp only [go_sem]) | ((first | refine yx hN _ _ ?_ | refine yz hN _ _ ?_); clear hN N) | fail
  refine W.loopN (fun m fr st' => st' = st ∧ ∃ i, i + m = 4 ∧ (∀ j, j < i → decide (l.p.getD j 0 ≤ 64) = true) ∧ fr 3 = .int .i64 i ∧ fr 1 = .eptr (.agg (.int .i64 l.c :: l.p.map (.int .i64))) 0) ?_ 4 _ _ ⟨rfl, 0, by simp, by simp, by simp only [go_sem, ↓reduceIte, zA, zB, zC, zD, zE, zF, zG, zL, zM, zN, reduceCtorEq]; rfl, by simp only [go_sem, ↓reduceIte, zA, zB, zC, zD, zE, zF, zG, zL, zM, zN, reduceCtorEq]⟩
  rintro m N' ih fr _ ⟨rfl, i, hi, hl, f3, f1⟩
  rcases Nat.lt_or_ge i 4 with hlt | hge
  · have hg : (D.int .i64 l.c :: l.p.map (D.int .i64)).getD (1 + i) .any = .int .i64 (l.p.getD i 0) := by
      rw [Nat.add_comm, List.getD_cons_succ]; exact getD_map _ _ 0 (by omega)
    have hlen : 1 + i < 5 := by omega
    have h4 : (i : Int) < 4 := by omega
    repeat' first | refine yj fun N hN => ?_ | refine yk ?_ | refine yl [] ?_ | ((first | refine ya rfl rfl fun N hN => ?_ | refine ym ?_ | refine yo ?_); simp only [go_sem, ↓reduceIte, zA, zB, zC, zD, zE, zF, zG, zL, zM, zN, reduceCtorEq, f3, f1, hg, hn, hlen, hlt, h4, Tryz.results101]) | ((first | refine yg rfl ?_ | refine yn ?_); try simp only [go_sem]) | ((first | refine yx hN _ _ ?_ | refine yz hN _ _ ?_); clear hN N) | ((apply And.intro <;> intro h) <;> (try simp only [zS, zT, zU, zV, Bool.not_true, Bool.not_false] at h) <;> (first | (exfalso; omega) | simp only [go_sem, ↓reduceIte, zA, zB, zC, zD, zE, zF, zG, zL, zM, zN, reduceCtorEq, f3, f1, hg, hn, hlen, hlt, h4, h] | skip)) | (refine And.intro ?_ ?_; · omega) | clear hN N | fail
    all_goals first
      | (refine ih.back (m - 1) ?_ _ _ ⟨rfl, i + 1, ?_, lt_succ_all hl ?_, ?_, ?_⟩
         · omega
         · omega
         · simp only [decide_eq_true_eq]; omega
         · simp only [go_sem, ↓reduceIte, zA, zB, zC, zD, zE, zF, zG, zL, zM, zN, reduceCtorEq]; rfl
         · simp only [go_sem, ↓reduceIte, zA, zB, zC, zD, zE, zF, zG, zL, zM, zN, reduceCtorEq, f1])
      | (rw [all_bad (p := l.p) (i := i) (by omega) (by simp only [decide_eq_false_iff_not]; omega), Bool.and_false, Bool.false_and] at hk; exact hk)
  · have h4 : ¬ (i : Int) < 4 := by omega
    rw [all_good (p := l.p) (fun j hj => hl j (by omega))] at hk
    repeat' first | refine yj fun N hN => ?_ | refine yl [] ?_ | ((first | refine ya rfl rfl fun N hN => ?_ | refine yb rfl rfl rfl rfl fun N hN => ?_ | refine ym ?_ | refine yo ?_ | refine yp ?_); simp only [go_sem, ↓reduceIte, zA, zB, zC, zD, zE, zF, zG, zL, zM, zN, reduceCtorEq, f3, f1, h4, hn, Tryz.results101]) | (refine yg rfl ?_; try simp only [go_sem]) | ((first | refine yx hN _ _ ?_ | refine yz hN _ _ ?_); clear hN N) | (refine sem113 l _ _ ?_; try simp only [go_sem, ↓reduceIte, zA, zB, zC, zD, zE, zF, zG, zL, zM, zN, reduceCtorEq, f3, f1, h4, hn]) | (refine yq (fun h => ?_) (fun h => ?_) <;> (try simp only [zS, zT, zU, zV, Bool.not_true, Bool.not_false] at h) <;> (first | (exfalso; omega) | simp only [go_sem, ↓reduceIte, zA, zB, zC, zD, zE, zF, zG, zL, zM, zN, reduceCtorEq, f3, f1, h4, hn, h] | skip)) | clear hN N | fail
    all_goals (simpa [h] using hk)
end Go.Proofs.YtddbidoaolnegaaGreatDoor
/- Levels as bytes: the walks. No statement of the seat is proved here; no condition. -/
namespace Go.Proofs.YtddbidoaolnegaaGreatDoor
open Go Go.RowKit
open Nat renaming reduceLT → zA, reduceEqDiff → zB, reduceBEq → zC, reduceAdd → zD, reduceMul → zE, reduceSub → zF, reduceLeDiff → zG, mul_one → zH, zero_add → zI, add_zero → zJ
open Int renaming toNat_natCast → zK, reduceAdd → zL, reduceLE → zM, reduceLT → zN, natCast_nonneg → zO
open Go.Proofs.YtddbidoaolnegaaGreatDoor renaming evI_plain → ya, evI_guard → yb, evT_rd → yc, evT_rdg → yd, evT_act → ye, evT_actg → yf, evI_done → yg, evT_two → yh, evT_nil → yi, W.seqG → yj, W.block → yk, W.regionI → yl, W.cond → ym, W.skip → yn, W.ret → yo, W.exit → yp, gdD_split → yq, newT_intro → yr, newB_intro → ys, W.draw → yt, St.set_del → yu, St.give_take → yv, AGo.go → yw, IGo.go → yx, TGo.go → yy, Goes.go → yz
attribute [local go_sem] zK zP zQ zH zI zJ zO
attribute [local irreducible] W evI evT evL evOp evBin gdD Sem newT newB fillD bldOf
set_option maxRecDepth 10000
set_option maxHeartbeats 1000000

/-- A level's bytes. -/
def lvNum (l : Lv) : List UInt8 := num l.c.toNat ++ l.p.flatMap fun n => num (n + 1).toNat

theorem wrap_u64i {n : Int} (h1 : 0 ≤ n) (h2 : n < 18446744073709551616) : IntKind.u64.wrap n = (n.toNat : Int) := by
  have := wrap_u64 (n := n.toNat) (by omega)
  rwa [show ((n.toNat : Nat) : Int) = n by omega] at this ⊢

theorem sem118 (ow : Own) (z : Nat) (b : List UInt8) (l : Lv) (st : St) (k : D → St → Prop) (hb : b.length < 100000000) (hc : 0 ≤ l.c ∧ l.c ≤ 1099511627776) (hp : ∀ i, i < 4 → -1 ≤ l.p.getD i 0 ∧ l.p.getD i 0 ≤ 1099511627776)
    (hk : ∀ j, st.tok j = false → k (.sl (.tok j) 1 (byD (b ++ lvNum l))) (st.give j)) : Sem P 118 [.sl ow z (byD b), .eptr l.d 0] st k := by
  have hn := l.n
  refine Sem.drop ?_
  refine Sem.of_body Tryz.call118 Tryz.func118 rfl Tryz.ntmps118 (by simp) ?_
  unfold Lv.d
  have hw := wrap_u64i hc.1 (by omega)
  repeat' first | refine yj fun N hN => ?_ | refine yk ?_ | refine yl [] ?_ | (refine ya rfl rfl fun N hN => ?_; simp only [go_sem, ↓reduceIte, zA, zB, zC, zD, zE, zF, zG, zL, zM, zN, reduceCtorEq, hw, hn, Tryz.results118]) | (refine yg rfl ?_; try simp only [go_sem]) | ((first | refine yx hN _ _ ?_ | refine yz hN _ _ ?_); clear hN N) | (refine sem19 _ _ _ _ _ _ (by omega) (by omega) fun j hj => ?_; try simp only [go_sem, ↓reduceIte, zA, zB, zC, zD, zE, zF, zG, zL, zM, zN, reduceCtorEq, hw, hn]) | fail
  have hle : (st.give j).le (st.give j) := St.le.refl _
  have ht : (l.p.map (D.int .i64)).take 4 = l.p.map (D.int .i64) := List.take_of_length_le (by simp [hn])
  refine W.loopN (fun m fr st' => ∃ i, i + m = 4 ∧ ∃ j, st.tok j = false ∧ (st.give j).le st' ∧ fr 13 = .int .i64 i ∧ fr 12 = .agg (l.p.map (.int .i64)) ∧ fr 0 = .sl (.tok j) 1 (byD (b ++ num l.c.toNat ++ (l.p.take i).flatMap fun n => num (n + 1).toNat)) ∧ ((l.p.take i).flatMap fun n => num (n + 1).toNat).length ≤ 10 * i) ?_ 4 _ _
    ⟨0, by simp, j, hj, hle, by simp only [go_sem, ↓reduceIte, zA, zB, zC, zD, zE, zF, zG, zL, zM, zN, reduceCtorEq]; rfl, by simp only [go_sem, ↓reduceIte, zA, zB, zC, zD, zE, zF, zG, zL, zM, zN, reduceCtorEq, ht], by simp only [go_sem, ↓reduceIte, zA, zB, zC, zD, zE, zF, zG, zL, zM, zN, reduceCtorEq, List.take_zero, List.flatMap_nil, List.append_nil], by simp⟩
  rintro m N' ih fr st' ⟨i, hi, j, hj, hle, f13, f12, f0, hbd⟩
  have hlc := num_len64 (n := l.c.toNat) (by omega)
  rcases Nat.lt_or_ge i 4 with hlt | hge
  · have hg : (l.p.map (D.int .i64)).getD i .any = .int .i64 (l.p.getD i 0) := getD_map _ _ 0 (by omega)
    have h4 : (i : Int) < 4 := by omega
    have hpi := hp i hlt
    have hw2 := wrap_u64i (n := l.p.getD i 0 + 1) (by omega) (by omega)
    have hlc2 := num_len64 (n := (l.p.getD i 0 + 1).toNat) (by omega)
    have htk : l.p.take (i + 1) = l.p.take i ++ [l.p.getD i 0] := by
      rw [List.take_add_one]
      simp [List.getD, show i < l.p.length by omega]
    have hb2 : (b ++ num l.c.toNat ++ (l.p.take i).flatMap fun n => num (n + 1).toNat).length < 1000000000 := by simp only [List.length_append]; omega
    repeat' first | refine yj fun N hN => ?_ | refine yk ?_ | refine yl [] ?_ | ((first | refine ya rfl rfl fun N hN => ?_ | refine ym ?_); simp only [go_sem, ↓reduceIte, zA, zB, zC, zD, zE, zF, zG, zL, zM, zN, reduceCtorEq, f13, f12, f0, hg, hn, hlt, h4, hw2, Tryz.results118]) | ((first | refine yg rfl ?_ | refine yn ?_); try simp only [go_sem]) | ((first | refine yx hN _ _ ?_ | refine yz hN _ _ ?_); clear hN N) | (refine sem19 _ _ _ _ _ _ hb2 (by omega) fun j hj => ?_; try simp only [go_sem, ↓reduceIte, zA, zB, zC, zD, zE, zF, zG, zL, zM, zN, reduceCtorEq, f13, f12, f0, hg, hn, hlt, h4, hw2]) | (refine And.intro ?_ ?_; · omega) | clear hN N | fail
    all_goals (
      refine ih.back (m - 1) (by omega) _ _ ⟨i + 1, by omega, _, St.tok_false_of_le ((St.le_give (St.le.refl _) _).trans hle) hj, St.give_mono ((St.le_give (St.le.refl _) _).trans hle) _, ?_, ?_, ?_, ?_⟩
      · simp only [go_sem, ↓reduceIte, zA, zB, zC, zD, zE, zF, zG, zL, zM, zN, reduceCtorEq]; rfl
      · simp only [go_sem, ↓reduceIte, zA, zB, zC, zD, zE, zF, zG, zL, zM, zN, reduceCtorEq, f12]
      · simp only [go_sem, ↓reduceIte, zA, zB, zC, zD, zE, zF, zG, zL, zM, zN, reduceCtorEq]; rw [htk, List.flatMap_append]; simp only [List.flatMap_cons, List.flatMap_nil, List.append_nil, List.append_assoc]
      · rw [htk, List.flatMap_append]; simp only [List.flatMap_cons, List.flatMap_nil, List.append_nil, List.length_append]; omega)
  · have h4 : ¬ (i : Int) < 4 := by omega
    have hall : l.p.take i = l.p := List.take_of_length_le (by omega)
    rw [hall] at f0
    repeat' first | refine yj fun N hN => ?_ | refine yl [] ?_ | ((first | refine ya rfl rfl fun N hN => ?_ | refine ym ?_ | refine yo ?_ | refine yp ?_); simp only [go_sem, ↓reduceIte, zA, zB, zC, zD, zE, zF, zG, zL, zM, zN, reduceCtorEq, f13, f12, f0, h4, Tryz.results118]) | (refine yg rfl ?_; try simp only [go_sem]) | ((first | refine yx hN _ _ ?_ | refine yz hN _ _ ?_); clear hN N) | clear hN N | fail
    all_goals exact ⟨_, hle, by have := hk j hj; rw [lvNum, ← List.append_assoc] at this; exact this⟩
end Go.Proofs.YtddbidoaolnegaaGreatDoor
