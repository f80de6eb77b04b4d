/-
PART OF A CLAIM: PA. No statement of the seat is proved here; no condition. -/
import Derived.Test.YtddbidoaolnegaaGreatDoorWO10
set_option linter.all false
/- Levels by the program: which may be: the walks. No statement of the seat is proved here; no condition. -/
namespace Go.Proofs.YtddbidoaolnegaaGreatDoor
open Go Go.RowKit
open Nat renaming reduceLT → zA, reduceEqDiff → zB, reduceBEq → zC, reduceAdd → zD, reduceMul → zE, reduceSub → zF, reduceLeDiff → zG, mul_one → zH, zero_add → zI, add_zero → zJ
open Int renaming toNat_natCast → zK, reduceAdd → zL, reduceLE → zM, reduceLT → zN, natCast_nonneg → zO
open Go.Proofs.YtddbidoaolnegaaGreatDoor renaming evI_plain → ya, evI_guard → yb, evT_rd → yc, evT_rdg → yd, evT_act → ye, evT_actg → yf, evI_done → yg, evT_two → yh, evT_nil → yi, W.seqG → yj, W.block → yk, W.regionI → yl, W.cond → ym, W.skip → yn, W.ret → yo, W.exit → yp, gdD_split → yq, newT_intro → yr, newB_intro → ys, W.draw → yt, St.set_del → yu, St.give_take → yv, AGo.go → yw, IGo.go → yx, TGo.go → yy, Goes.go → yz
attribute [local go_sem] zK zP zQ zH zI zJ zO
attribute [local irreducible] W evI evT evL evOp evBin gdD Sem newT newB fillD bldOf
set_option maxRecDepth 10000
set_option maxHeartbeats 1000000

theorem fold_zero : ∀ (p : List Int), p.foldl (fun c n => if 0 ≤ n ∧ c ≤ n then 0 else c) 0 = 0
  | [] => rfl
  | n :: p => by
    rw [List.foldl_cons]
    have : (if 0 ≤ n ∧ (0 : Int) ≤ n then (0 : Int) else 0) = 0 := by split <;> rfl
    rw [this]; exact fold_zero p
theorem fold_eq : ∀ (p : List Int) (c : Int), 0 ≤ c → (p.foldl (fun c n => if 0 ≤ n ∧ c ≤ n then 0 else c) c = c ↔ p.all (fun n => !(decide (c ≤ n) && decide (0 ≤ n) && decide (0 < c))) = true)
  | [], c, _ => by simp
  | n :: p, c, h => by
    rw [List.foldl_cons, List.all_cons, Bool.and_eq_true]
    by_cases hc : c = 0
    · subst hc
      have : (if 0 ≤ n ∧ (0 : Int) ≤ n then (0 : Int) else 0) = 0 := by split <;> rfl
      rw [this, fold_zero]; simp
    by_cases hn : 0 ≤ n ∧ c ≤ n
    · rw [if_pos hn, fold_zero]
      have h0 : 0 < c := by omega
      simp [hn.1, hn.2, h0]; omega
    · rw [if_neg hn, fold_eq p c h]
      have : (!(decide (c ≤ n) && decide (0 ≤ n) && decide (0 < c))) = true := by simp; omega
      simp only [this, true_and]

theorem lvB_form {l : Lv} (h0 : 0 ≤ l.c) (h1 : l.c ≤ 1099511627776) (hp : ∀ j, j < 4 → -1 ≤ l.p.getD j 0 ∧ l.p.getD j 0 ≤ 1099511627776) : lvB l = decide (formC l = l.c) := by
  have h2 : ∀ n ∈ l.p, -1 ≤ n ∧ n ≤ 1099511627776 := fun n hn => by
    obtain ⟨j, hj, rfl⟩ := List.getElem_of_mem hn
    have := hp j (by have := l.n; omega)
    simpa [List.getD, hj] using this
  rw [Bool.eq_iff_iff, decide_eq_true_eq, formC, fold_eq _ _ h0]
  simp only [lvB, h0, h1, decide_true, Bool.true_and, List.all_eq_true]
  constructor
  · intro h n hn
    have := h n hn
    simp only [entB, Bool.and_eq_true] at this
    exact this.2
  · intro h n hn
    have := h2 n hn
    simp only [entB, this.1, this.2, decide_true, Bool.true_and]
    exact h n hn

theorem lv_ints (l : Lv) : intsOf l.d.cells = some (l.c :: l.p) := by
  have : ∀ p : List Int, intsOf (p.map (D.int .i64)) = some p := by
    intro p
    induction p with
    | nil => rfl
    | cons a p ih => simp only [List.map_cons, intsOf, ih, Option.map_some]
  simp only [Lv.d, D.cells, intsOf, this, Option.map_some]

theorem evBin_lv (l l' : Lv) (lit : Bool) (c : D → Prop) : evBin P .eql 78 lit l.d l'.d c = c (.bool (decide (l.c :: l.p = l'.c :: l'.p))) := by
  have h1 := lv_ints l
  have h2 := lv_ints l'
  have e : ∀ x : Lv, x.d = .agg x.d.cells := fun x => rfl
  rw [e l, e l']
  simp only [evBin, evAgg, h1, h2, List.length_cons, l.n, l'.n, true_and]
  exact propext ⟨fun h => h.2, fun h => ⟨eqI78, h⟩⟩
attribute [go_sem] evBin_lv

theorem sem74 (l : Lv) (hw : l.wf) (st : St) (k : D → St → Prop) (hk : k (.bool (lvB l)) st) : Sem P 74 [l.d] st k := by
  have hn := l.n
  by_cases c1 : l.c < 0
  · rw [show lvB l = false by (have h : ¬ 0 ≤ l.c := by omega); simp [lvB, h]] at hk
    refine Sem.of_body Tryz.call74 Tryz.func74 rfl Tryz.ntmps74 (by simp) ?_
    repeat' first | refine yj fun N hN => ?_ | refine yl [] ?_ | ((first | refine ya rfl rfl fun N hN => ?_ | refine yb rfl rfl rfl rfl fun N hN => ?_ | refine ym ?_ | refine yo ?_); simp only [go_sem, ↓reduceIte, zA, zB, zC, zD, zE, zF, zG, zL, zM, zN, reduceCtorEq, c1, Tryz.results74]) | (refine yg rfl ?_; try simp only [go_sem]) | ((first | refine yx hN _ _ ?_ | refine yz hN _ _ ?_); clear hN N) | (refine And.intro ?_ ?_; · omega) | clear hN N | fail
    all_goals exact hk
  by_cases c2 : 1099511627776 < l.c
  · rw [show lvB l = false by (have h : ¬ l.c ≤ 1099511627776 := by omega); simp [lvB, h]] at hk
    refine Sem.of_body Tryz.call74 Tryz.func74 rfl Tryz.ntmps74 (by simp) ?_
    repeat' first | refine yj fun N hN => ?_ | refine yl [] ?_ | ((first | refine ya rfl rfl fun N hN => ?_ | refine yb rfl rfl rfl rfl fun N hN => ?_ | refine ym ?_ | refine yo ?_); simp only [go_sem, ↓reduceIte, zA, zB, zC, zD, zE, zF, zG, zL, zM, zN, reduceCtorEq, c1, c2, Tryz.results74]) | (refine yg rfl ?_; try simp only [go_sem]) | ((first | refine yx hN _ _ ?_ | refine yz hN _ _ ?_); clear hN N) | (refine And.intro ?_ ?_; · omega) | clear hN N | fail
    all_goals exact hk
  have ht : (l.p.map (D.int .i64)).take 4 = l.p.map (D.int .i64) := List.take_of_length_le (by simp [hn])
  refine Sem.of_body Tryz.call74 Tryz.func74 rfl Tryz.ntmps74 (by simp) ?_
  repeat' first | refine yj fun N hN => ?_ | refine yk ?_ | refine yl [] ?_ | ((first | refine ya rfl rfl fun N hN => ?_ | refine yb rfl rfl rfl rfl fun N hN => ?_ | refine ym ?_); simp only [go_sem, ↓reduceIte, zA, zB, zC, zD, zE, zF, zG, zL, zM, zN, reduceCtorEq, c1, c2, hn, ht, Tryz.results74]) | ((first | refine yg rfl ?_ | refine yn ?_); try simp only [go_sem]) | ((first | refine yx hN _ _ ?_ | refine yz hN _ _ ?_); clear hN N) | fail
  refine W.loopN (fun m fr st' => st = st' ∧ ∃ i, i + m = 4 ∧ (∀ j, j < i → -1 ≤ l.p.getD j 0 ∧ l.p.getD j 0 ≤ 1099511627776) ∧ fr 15 = .int .i64 i ∧ fr 14 = .agg (l.p.map (D.int .i64)) ∧ fr 1 = .eptr l.d 0) ?_ 4 _ _ ⟨rfl, 0, by simp, by simp, by simp only [go_sem, ↓reduceIte, zA, zB, zC, zD, zE, zF, zG, zL, zM, zN, reduceCtorEq]; rfl, by simp only [go_sem, ↓reduceIte, zA, zB, zC, zD, zE, zF, zG, zL, zM, zN, reduceCtorEq, ht], by simp only [go_sem, ↓reduceIte, zA, zB, zC, zD, zE, zF, zG, zL, zM, zN, reduceCtorEq]⟩
  rintro m N' ih fr _ ⟨rfl, i, hi, hl, f15, f14, f1⟩
  rcases Nat.lt_or_ge i 4 with hlt | hge
  · have hg : (l.p.map (D.int .i64)).getD i .any = .int .i64 (l.p.getD i 0) := getD_map _ _ 0 (by omega)
    have h4 : (i : Int) < 4 := by omega
    have hbad : ¬ (-1 ≤ l.p.getD i 0 ∧ l.p.getD i 0 ≤ 1099511627776) → k (.bool false) st := fun h => by
      have : lvB l = false := by
        unfold lvB
        rw [all_bad (i := i) (by omega) (by simp only [entB, Bool.and_eq_false_iff, decide_eq_false_iff_not]; omega), Bool.and_false]
      rw [this] at hk; exact hk
    by_cases a1 : l.p.getD i 0 < -1
    · repeat' first | refine yj fun N hN => ?_ | refine yk ?_ | refine yl [] ?_ | ((first | refine ya rfl rfl fun N hN => ?_ | refine yb rfl rfl rfl rfl fun N hN => ?_ | refine ym ?_ | refine yo ?_); simp only [go_sem, ↓reduceIte, zA, zB, zC, zD, zE, zF, zG, zL, zM, zN, reduceCtorEq, f15, f14, f1, hg, hn, hlt, h4, a1, Tryz.results74]) | ((first | refine yg rfl ?_ | refine yn ?_); try simp only [go_sem]) | ((first | refine yx hN _ _ ?_ | refine yz hN _ _ ?_); clear hN N) | clear hN N | fail
      all_goals exact hbad (by omega)
    by_cases a2 : 1099511627776 < l.p.getD i 0
    · repeat' first | refine yj fun N hN => ?_ | refine yk ?_ | refine yl [] ?_ | ((first | refine ya rfl rfl fun N hN => ?_ | refine yb rfl rfl rfl rfl fun N hN => ?_ | refine ym ?_ | refine yo ?_); simp only [go_sem, ↓reduceIte, zA, zB, zC, zD, zE, zF, zG, zL, zM, zN, reduceCtorEq, f15, f14, f1, hg, hn, hlt, h4, a1, a2, Tryz.results74]) | ((first | refine yg rfl ?_ | refine yn ?_); try simp only [go_sem]) | ((first | refine yx hN _ _ ?_ | refine yz hN _ _ ?_); clear hN N) | clear hN N | fail
      all_goals exact hbad (by omega)
    repeat' first | refine yj fun N hN => ?_ | refine yk ?_ | refine yl [] ?_ | ((first | refine ya rfl rfl fun N hN => ?_ | refine yb rfl rfl rfl rfl fun N hN => ?_ | refine ym ?_); simp only [go_sem, ↓reduceIte, zA, zB, zC, zD, zE, zF, zG, zL, zM, zN, reduceCtorEq, f15, f14, f1, hg, hn, hlt, h4, a1, a2, Tryz.results74]) | ((first | refine yg rfl ?_ | refine yn ?_); try simp only [go_sem]) | ((first | refine yx hN _ _ ?_ | refine yz hN _ _ ?_); clear hN N) | (refine And.intro ?_ ?_; · omega) | clear hN N | fail
    refine ih.back (m - 1) (by omega) _ _ ⟨rfl, i + 1, by omega, lt_succ_all (p := fun j => -1 ≤ l.p.getD j 0 ∧ l.p.getD j 0 ≤ 1099511627776) hl (by omega), ?_, ?_, ?_⟩
    · simp only [go_sem, ↓reduceIte, zA, zB, zC, zD, zE, zF, zG, zL, zM, zN, reduceCtorEq]; rfl
    · simp only [go_sem, ↓reduceIte, zA, zB, zC, zD, zE, zF, zG, zL, zM, zN, reduceCtorEq, f14]
    · simp only [go_sem, ↓reduceIte, zA, zB, zC, zD, zE, zF, zG, zL, zM, zN, reduceCtorEq, f1]
  · have h4 : ¬ (i : Int) < 4 := by omega
    rw [lvB_form (by omega) (by omega) (fun j hj => hl j (by omega))] at hk
    repeat' first | refine yj fun N hN => ?_ | refine yl [] ?_ | ((first | refine ya rfl rfl fun N hN => ?_ | refine yc rfl rfl fun N hN => ?_ | refine ye rfl rfl fun N hN => ?_ | (refine yw hN _ _ ?_; clear hN N) | refine ym ?_ | refine yo ?_ | refine yp ?_); simp only [go_sem, ↓reduceIte, zA, zB, zC, zD, zE, zF, zG, zL, zM, zN, reduceCtorEq, f15, f14, f1, h4, hn, Tryz.results74]) | ((first | refine yg rfl ?_ | refine yi ?_); try simp only [go_sem]) | ((first | refine yx hN _ _ ?_ | refine yz hN _ _ ?_ | refine yy hN _ ?_); clear hN N) | refine yt (id := 9) mixed [] (.rd 0 (.rd 2 (.act 1 [2] (.act 3 [] (.act 4 [] (.nil)))))) (by kernel_rfl) ?_ | (refine sem104 l hw _ _ ?_; try simp only [go_sem, ↓reduceIte, zA, zB, zC, zD, zE, zF, zG, zL, zM, zN, reduceCtorEq, f15, f14, f1, h4, hn]) | clear hN N | fail
    all_goals (refine kb hk ?_; simp)

theorem sem99 (l : Lv) (hw : l.wf) (st : St) (k : D → St → Prop) (hk : k (.bool (lvD l)) st) : Sem P 99 [l.d] st k := by
  have hn := l.n
  have ht : (l.p.map (D.int .i64)).take 4 = l.p.map (D.int .i64) := List.take_of_length_le (by simp [hn])
  refine Sem.of_body Tryz.call99 Tryz.func99 rfl Tryz.ntmps99 (by simp) ?_
  repeat' first | refine yj fun N hN => ?_ | refine yk ?_ | refine yl [] ?_ | (refine ya rfl rfl fun N hN => ?_; simp only [go_sem, ↓reduceIte, zA, zB, zC, zD, zE, zF, zG, zL, zM, zN, reduceCtorEq, hn, ht, Tryz.results99]) | (refine yg rfl ?_; try simp only [go_sem]) | ((first | refine yx hN _ _ ?_ | refine yz hN _ _ ?_); clear hN N) | fail
  refine W.loopN (fun m fr st' => st = st' ∧ ∃ i, i + m = 4 ∧ (∀ j, j < i → decide (l.p.getD j 0 ≤ 64) = true) ∧ fr 7 = .int .i64 i ∧ fr 6 = .agg (l.p.map (D.int .i64)) ∧ fr 1 = .eptr l.d 0) ?_ 4 _ _ ⟨rfl, 0, by simp, by simp, by simp only [go_sem, ↓reduceIte, zA, zB, zC, zD, zE, zF, zG, zL, zM, zN, reduceCtorEq]; rfl, by simp only [go_sem, ↓reduceIte, zA, zB, zC, zD, zE, zF, zG, zL, zM, zN, reduceCtorEq, ht], by simp only [go_sem, ↓reduceIte, zA, zB, zC, zD, zE, zF, zG, zL, zM, zN, reduceCtorEq]⟩
  rintro m N' ih fr _ ⟨rfl, i, hi, hl, f7, f6, f1⟩
  rcases Nat.lt_or_ge i 4 with hlt | hge
  · have hg : (l.p.map (D.int .i64)).getD i .any = .int .i64 (l.p.getD i 0) := getD_map _ _ 0 (by omega)
    have h4 : (i : Int) < 4 := by omega
    by_cases a1 : 64 < l.p.getD i 0
    · have : lvD l = false := by
        unfold lvD
        rw [all_bad (p := l.p) (i := i) (by omega) (by simp only [decide_eq_false_iff_not]; omega), Bool.and_false, Bool.false_and]
      rw [this] at hk
      repeat' first | refine yj fun N hN => ?_ | refine yk ?_ | refine yl [] ?_ | ((first | refine ya rfl rfl fun N hN => ?_ | refine ym ?_ | refine yo ?_); simp only [go_sem, ↓reduceIte, zA, zB, zC, zD, zE, zF, zG, zL, zM, zN, reduceCtorEq, f7, f6, f1, hg, hn, hlt, h4, a1, Tryz.results99]) | ((first | refine yg rfl ?_ | refine yn ?_); try simp only [go_sem]) | ((first | refine yx hN _ _ ?_ | refine yz hN _ _ ?_); clear hN N) | clear hN N | fail
      all_goals exact hk
    · repeat' first | refine yj fun N hN => ?_ | refine yk ?_ | refine yl [] ?_ | ((first | refine ya rfl rfl fun N hN => ?_ | refine ym ?_); simp only [go_sem, ↓reduceIte, zA, zB, zC, zD, zE, zF, zG, zL, zM, zN, reduceCtorEq, f7, f6, f1, hg, hn, hlt, h4, a1, Tryz.results99]) | ((first | refine yg rfl ?_ | refine yn ?_); try simp only [go_sem]) | ((first | refine yx hN _ _ ?_ | refine yz hN _ _ ?_); clear hN N) | (refine And.intro ?_ ?_; · omega) | clear hN N | fail
      refine ih.back (m - 1) (by omega) _ _ ⟨rfl, i + 1, by omega, lt_succ_all hl (by simp only [decide_eq_true_eq]; omega), ?_, ?_, ?_⟩
      · simp only [go_sem, ↓reduceIte, zA, zB, zC, zD, zE, zF, zG, zL, zM, zN, reduceCtorEq]; rfl
      · simp only [go_sem, ↓reduceIte, zA, zB, zC, zD, zE, zF, zG, zL, zM, zN, reduceCtorEq, f6]
      · simp only [go_sem, ↓reduceIte, zA, zB, zC, zD, zE, zF, zG, zL, zM, zN, reduceCtorEq, f1]
  · have h4 : ¬ (i : Int) < 4 := by omega
    have e : lvD l = (lvB l && decide (l.c ≤ 64)) := by
      unfold lvD
      rw [all_good (p := l.p) (fun j hj => hl j (by omega)), Bool.and_true]
    rw [e] at hk
    repeat' first | refine yj fun N hN => ?_ | refine yl [] ?_ | ((first | refine ya rfl rfl fun N hN => ?_ | refine yb rfl rfl rfl rfl fun N hN => ?_ | refine ym ?_ | refine yo ?_ | refine yp ?_); simp only [go_sem, ↓reduceIte, zA, zB, zC, zD, zE, zF, zG, zL, zM, zN, reduceCtorEq, f7, f6, f1, h4, hn, Tryz.results99]) | (refine yg rfl ?_; try simp only [go_sem]) | ((first | refine yx hN _ _ ?_ | refine yz hN _ _ ?_); clear hN N) | (refine sem74 l hw _ _ ?_; try simp only [go_sem, ↓reduceIte, zA, zB, zC, zD, zE, zF, zG, zL, zM, zN, reduceCtorEq, f7, f6, f1, h4, hn]) | (refine yq (fun h => ?_) (fun h => ?_) <;> (try simp only [zS, zT, zU, zV, Bool.not_true, Bool.not_false] at h) <;> (first | (exfalso; omega) | simp only [go_sem, ↓reduceIte, zA, zB, zC, zD, zE, zF, zG, zL, zM, zN, reduceCtorEq, f7, f6, f1, h4, hn, h] | skip)) | clear hN N | fail
    all_goals (refine kb hk ?_; simp_all)

/-! Nodes. -/
theorem sem108 (c : Nat) (st : St) (k : D → St → Prop) (hk : k (.tup [.int .i64 (if kidsN c < 0 then 0 else kidsN c), .bool (decide (0 ≤ kidsN c))]) st) : Sem P 108 [.int .u8 c] st k := by
  by_cases h1 : c = 1
  · subst h1; refine Sem.of_body Tryz.call108 Tryz.func108 rfl Tryz.ntmps108 (by simp) ?_
    repeat' first | refine yj fun N hN => ?_ | refine yk ?_ | refine yl [] ?_ | ((first | refine ya rfl rfl fun N hN => ?_ | refine ym ?_ | refine yo ?_ | refine yp ?_); simp only [go_sem, ↓reduceIte, zA, zB, zC, zD, zE, zF, zG, zL, zM, zN, reduceCtorEq, Tryz.results108]) | ((first | refine yg rfl ?_ | refine yn ?_); try simp only [go_sem]) | ((first | refine yx hN _ _ ?_ | refine yz hN _ _ ?_); clear hN N) | ((apply And.intro <;> intro h) <;> (try simp only [zS, zT, zU, zV, Bool.not_true, Bool.not_false] at h) <;> (first | (exfalso; omega) | simp only [go_sem, ↓reduceIte, zA, zB, zC, zD, zE, zF, zG, zL, zM, zN, reduceCtorEq, h] | skip)) | clear hN N | fail
    all_goals simpa [kidsN] using hk
  by_cases h2 : c = 2
  · subst h2; refine Sem.of_body Tryz.call108 Tryz.func108 rfl Tryz.ntmps108 (by simp) ?_
    repeat' first | refine yj fun N hN => ?_ | refine yk ?_ | refine yl [] ?_ | ((first | refine ya rfl rfl fun N hN => ?_ | refine ym ?_ | refine yo ?_ | refine yp ?_); simp only [go_sem, ↓reduceIte, zA, zB, zC, zD, zE, zF, zG, zL, zM, zN, reduceCtorEq, Tryz.results108]) | ((first | refine yg rfl ?_ | refine yn ?_); try simp only [go_sem]) | ((first | refine yx hN _ _ ?_ | refine yz hN _ _ ?_); clear hN N) | ((apply And.intro <;> intro h) <;> (try simp only [zS, zT, zU, zV, Bool.not_true, Bool.not_false] at h) <;> (first | (exfalso; omega) | simp only [go_sem, ↓reduceIte, zA, zB, zC, zD, zE, zF, zG, zL, zM, zN, reduceCtorEq, h] | skip)) | clear hN N | fail
    all_goals simpa [kidsN] using hk
  by_cases h3 : c = 3
  · subst h3; refine Sem.of_body Tryz.call108 Tryz.func108 rfl Tryz.ntmps108 (by simp) ?_
    repeat' first | refine yj fun N hN => ?_ | refine yk ?_ | refine yl [] ?_ | ((first | refine ya rfl rfl fun N hN => ?_ | refine ym ?_ | refine yo ?_ | refine yp ?_); simp only [go_sem, ↓reduceIte, zA, zB, zC, zD, zE, zF, zG, zL, zM, zN, reduceCtorEq, Tryz.results108]) | ((first | refine yg rfl ?_ | refine yn ?_); try simp only [go_sem]) | ((first | refine yx hN _ _ ?_ | refine yz hN _ _ ?_); clear hN N) | ((apply And.intro <;> intro h) <;> (try simp only [zS, zT, zU, zV, Bool.not_true, Bool.not_false] at h) <;> (first | (exfalso; omega) | simp only [go_sem, ↓reduceIte, zA, zB, zC, zD, zE, zF, zG, zL, zM, zN, reduceCtorEq, h] | skip)) | clear hN N | fail
    all_goals simpa [kidsN] using hk
  by_cases h4 : c = 4
  · subst h4; refine Sem.of_body Tryz.call108 Tryz.func108 rfl Tryz.ntmps108 (by simp) ?_
    repeat' first | refine yj fun N hN => ?_ | refine yk ?_ | refine yl [] ?_ | ((first | refine ya rfl rfl fun N hN => ?_ | refine ym ?_ | refine yo ?_ | refine yp ?_); simp only [go_sem, ↓reduceIte, zA, zB, zC, zD, zE, zF, zG, zL, zM, zN, reduceCtorEq, Tryz.results108]) | ((first | refine yg rfl ?_ | refine yn ?_); try simp only [go_sem]) | ((first | refine yx hN _ _ ?_ | refine yz hN _ _ ?_); clear hN N) | ((apply And.intro <;> intro h) <;> (try simp only [zS, zT, zU, zV, Bool.not_true, Bool.not_false] at h) <;> (first | (exfalso; omega) | simp only [go_sem, ↓reduceIte, zA, zB, zC, zD, zE, zF, zG, zL, zM, zN, reduceCtorEq, h] | skip)) | clear hN N | fail
    all_goals simpa [kidsN] using hk
  by_cases h5 : c = 5
  · subst h5; refine Sem.of_body Tryz.call108 Tryz.func108 rfl Tryz.ntmps108 (by simp) ?_
    repeat' first | refine yj fun N hN => ?_ | refine yk ?_ | refine yl [] ?_ | ((first | refine ya rfl rfl fun N hN => ?_ | refine ym ?_ | refine yo ?_ | refine yp ?_); simp only [go_sem, ↓reduceIte, zA, zB, zC, zD, zE, zF, zG, zL, zM, zN, reduceCtorEq, Tryz.results108]) | ((first | refine yg rfl ?_ | refine yn ?_); try simp only [go_sem]) | ((first | refine yx hN _ _ ?_ | refine yz hN _ _ ?_); clear hN N) | ((apply And.intro <;> intro h) <;> (try simp only [zS, zT, zU, zV, Bool.not_true, Bool.not_false] at h) <;> (first | (exfalso; omega) | simp only [go_sem, ↓reduceIte, zA, zB, zC, zD, zE, zF, zG, zL, zM, zN, reduceCtorEq, h] | skip)) | clear hN N | fail
    all_goals simpa [kidsN] using hk
  by_cases h6 : c = 6
  · subst h6; refine Sem.of_body Tryz.call108 Tryz.func108 rfl Tryz.ntmps108 (by simp) ?_
    repeat' first | refine yj fun N hN => ?_ | refine yk ?_ | refine yl [] ?_ | ((first | refine ya rfl rfl fun N hN => ?_ | refine ym ?_ | refine yo ?_ | refine yp ?_); simp only [go_sem, ↓reduceIte, zA, zB, zC, zD, zE, zF, zG, zL, zM, zN, reduceCtorEq, Tryz.results108]) | ((first | refine yg rfl ?_ | refine yn ?_); try simp only [go_sem]) | ((first | refine yx hN _ _ ?_ | refine yz hN _ _ ?_); clear hN N) | ((apply And.intro <;> intro h) <;> (try simp only [zS, zT, zU, zV, Bool.not_true, Bool.not_false] at h) <;> (first | (exfalso; omega) | simp only [go_sem, ↓reduceIte, zA, zB, zC, zD, zE, zF, zG, zL, zM, zN, reduceCtorEq, h] | skip)) | clear hN N | fail
    all_goals simpa [kidsN] using hk
  by_cases h7 : c = 7
  · subst h7; refine Sem.of_body Tryz.call108 Tryz.func108 rfl Tryz.ntmps108 (by simp) ?_
    repeat' first | refine yj fun N hN => ?_ | refine yk ?_ | refine yl [] ?_ | ((first | refine ya rfl rfl fun N hN => ?_ | refine ym ?_ | refine yo ?_ | refine yp ?_); simp only [go_sem, ↓reduceIte, zA, zB, zC, zD, zE, zF, zG, zL, zM, zN, reduceCtorEq, Tryz.results108]) | (refine yg rfl ?_; try simp only [go_sem]) | ((first | refine yx hN _ _ ?_ | refine yz hN _ _ ?_); clear hN N) | ((apply And.intro <;> intro h) <;> (try simp only [zS, zT, zU, zV, Bool.not_true, Bool.not_false] at h) <;> (first | (exfalso; omega) | simp only [go_sem, ↓reduceIte, zA, zB, zC, zD, zE, zF, zG, zL, zM, zN, reduceCtorEq, h] | skip)) | clear hN N | fail
    all_goals simpa [kidsN] using hk
  by_cases h8 : c = 8
  · subst h8; refine Sem.of_body Tryz.call108 Tryz.func108 rfl Tryz.ntmps108 (by simp) ?_
    repeat' first | refine yj fun N hN => ?_ | refine yk ?_ | refine yl [] ?_ | ((first | refine ya rfl rfl fun N hN => ?_ | refine ym ?_ | refine yo ?_ | refine yp ?_); simp only [go_sem, ↓reduceIte, zA, zB, zC, zD, zE, zF, zG, zL, zM, zN, reduceCtorEq, Tryz.results108]) | ((first | refine yg rfl ?_ | refine yn ?_); try simp only [go_sem]) | ((first | refine yx hN _ _ ?_ | refine yz hN _ _ ?_); clear hN N) | ((apply And.intro <;> intro h) <;> (try simp only [zS, zT, zU, zV, Bool.not_true, Bool.not_false] at h) <;> (first | (exfalso; omega) | simp only [go_sem, ↓reduceIte, zA, zB, zC, zD, zE, zF, zG, zL, zM, zN, reduceCtorEq, h] | skip)) | clear hN N | fail
    all_goals simpa [kidsN] using hk
  have e1 : ¬ (c : Int) = 1 := by omega
  have e2 : ¬ (c : Int) = 2 := by omega
  have e3 : ¬ (c : Int) = 3 := by omega
  have e4 : ¬ (c : Int) = 4 := by omega
  have e5 : ¬ (c : Int) = 5 := by omega
  have e6 : ¬ (c : Int) = 6 := by omega
  have e7 : ¬ (c : Int) = 7 := by omega
  have e8 : ¬ (c : Int) = 8 := by omega
  have hn : kidsN c = -1 := by simp only [kidsN, h1, h2, h3, h4, h5, h6, h7, h8, or_self, if_false]
  rw [hn] at hk
  refine Sem.of_body Tryz.call108 Tryz.func108 rfl Tryz.ntmps108 (by simp) ?_
  repeat' first | refine yj fun N hN => ?_ | refine yk ?_ | refine yl [] ?_ | ((first | refine ya rfl rfl fun N hN => ?_ | refine ym ?_ | refine yo ?_ | refine yp ?_); simp only [go_sem, ↓reduceIte, zA, zB, zC, zD, zE, zF, zG, zL, zM, zN, reduceCtorEq, e1, e2, e3, e4, e5, e6, e7, e8, Tryz.results108]) | ((first | refine yg rfl ?_ | refine yn ?_); try simp only [go_sem]) | ((first | refine yx hN _ _ ?_ | refine yz hN _ _ ?_); clear hN N) | clear hN N | fail
  all_goals simpa using hk

theorem sem110 (l : Lv) (hw : l.wf) (st : St) (k : D → St → Prop) (hk : k (.bool (!lvB l)) st) : Sem P 110 [l.d] st k := by
  refine Sem.of_body Tryz.call110 Tryz.func110 rfl Tryz.ntmps110 (by simp) ?_
  repeat' first | refine yj fun N hN => ?_ | refine yl [] ?_ | ((first | refine ya rfl rfl fun N hN => ?_ | refine yo ?_); simp only [go_sem, ↓reduceIte, zA, zB, zC, zD, zE, zF, zG, zL, zM, zN, reduceCtorEq, Tryz.results110]) | (refine yg rfl ?_; try simp only [go_sem]) | ((first | refine yx hN _ _ ?_ | refine yz hN _ _ ?_); clear hN N) | (refine sem74 l hw _ _ ?_; try simp only [go_sem, ↓reduceIte, zA, zB, zC, zD, zE, zF, zG, zL, zM, zN, reduceCtorEq]) | fail
  all_goals exact hk

/-- Where the first level is that may not be. -/
theorem sem119 (ls : List Lv) (hw : ∀ l ∈ ls, l.wf) (hlen : ls.length < 140737488355328) (st : St) (k : D → St → Prop)
    (hno : ls.all lvB = true → k (.int .i64 (-1)) st) (hk : ∀ i : Nat, ls.all lvB = false → k (.int .i64 i) st) : Sem P 119 [.sl .frozen 5 (ls.map Lv.d), .fn 110 [] []] st k := by
  refine Sem.of_body Tryz.call119 Tryz.func119 rfl Tryz.ntmps119 (by simp) ?_
  repeat' first | refine yj fun N hN => ?_ | refine yk ?_ | refine yl [] ?_ | (refine ya rfl rfl fun N hN => ?_; simp only [go_sem, ↓reduceIte, zA, zB, zC, zD, zE, zF, zG, zL, zM, zN, reduceCtorEq, Tryz.results119]) | (refine yg rfl ?_; try simp only [go_sem]) | ((first | refine yx hN _ _ ?_ | refine yz hN _ _ ?_); clear hN N) | fail
  refine W.loopN (fun m fr st' => st = st' ∧ ∃ i : Nat, i + m = ls.length ∧ (∀ j, j < i → lvB (ls.getD j Lv.z) = true) ∧ fr 8 = .int .i64 i ∧ fr 7 = .int .i64 ls.length ∧ fr 0 = .sl .frozen 5 (ls.map Lv.d) ∧ fr 1 = .fn 110 [] []) ?_ ls.length _ _ ⟨rfl, 0, by simp, by simp, by simp only [go_sem, ↓reduceIte, zA, zB, zC, zD, zE, zF, zG, zL, zM, zN, reduceCtorEq]; rfl, by simp only [go_sem, ↓reduceIte, zA, zB, zC, zD, zE, zF, zG, zL, zM, zN, reduceCtorEq], by simp only [go_sem, ↓reduceIte, zA, zB, zC, zD, zE, zF, zG, zL, zM, zN, reduceCtorEq], by simp only [go_sem, ↓reduceIte, zA, zB, zC, zD, zE, zF, zG, zL, zM, zN, reduceCtorEq]⟩
  rintro m N' ih fr _ ⟨rfl, i, hi, hal, f8, f7, f0, f1⟩
  rcases Nat.lt_or_ge i ls.length with hlt | hge
  · have hg : (ls.map Lv.d).getD i .any = (ls.getD i Lv.z).d := getD_map _ _ _ hlt
    have h4 : (i : Int) < ls.length := by omega
    have hm := getD_mem ls Lv.z hlt
    cases hl : lvB (ls.getD i Lv.z) with
    | true =>
      repeat' first | refine yj fun N hN => ?_ | refine yk ?_ | refine yl [] ?_ | ((first | refine ya rfl rfl fun N hN => ?_ | refine ym ?_); simp only [go_sem, ↓reduceIte, zA, zB, zC, zD, zE, zF, zG, zL, zM, zN, reduceCtorEq, f8, f7, f0, f1, hg, hlt, h4, hl, Tryz.results119]) | ((first | refine yg rfl ?_ | refine yn ?_); try simp only [go_sem]) | ((first | refine yx hN _ _ ?_ | refine yz hN _ _ ?_); clear hN N) | (refine sem110 _ (hw _ hm) _ _ ?_; try simp only [go_sem, ↓reduceIte, zA, zB, zC, zD, zE, zF, zG, zL, zM, zN, reduceCtorEq, f8, f7, f0, f1, hg, hlt, h4, hl]) | (refine And.intro ?_ ?_; · omega) | clear hN N | fail
      refine ih.back (m - 1) (by omega) _ _ ⟨rfl, i + 1, by omega, lt_succ_all hal hl, ?_, ?_, ?_, ?_⟩
      · simp only [go_sem, ↓reduceIte, zA, zB, zC, zD, zE, zF, zG, zL, zM, zN, reduceCtorEq]; rfl
      · simp only [go_sem, ↓reduceIte, zA, zB, zC, zD, zE, zF, zG, zL, zM, zN, reduceCtorEq, f7]
      · simp only [go_sem, ↓reduceIte, zA, zB, zC, zD, zE, zF, zG, zL, zM, zN, reduceCtorEq, f0]
      · simp only [go_sem, ↓reduceIte, zA, zB, zC, zD, zE, zF, zG, zL, zM, zN, reduceCtorEq, f1]
    | false =>
      have hb := all_badG Lv.z hlt hl
      repeat' first | refine yj fun N hN => ?_ | refine yk ?_ | refine yl [] ?_ | ((first | refine ya rfl rfl fun N hN => ?_ | refine ym ?_ | refine yo ?_); simp only [go_sem, ↓reduceIte, zA, zB, zC, zD, zE, zF, zG, zL, zM, zN, reduceCtorEq, f8, f7, f0, f1, hg, hlt, h4, hl, Tryz.results119]) | ((first | refine yg rfl ?_ | refine yn ?_); try simp only [go_sem]) | ((first | refine yx hN _ _ ?_ | refine yz hN _ _ ?_); clear hN N) | (refine sem110 _ (hw _ hm) _ _ ?_; try simp only [go_sem, ↓reduceIte, zA, zB, zC, zD, zE, zF, zG, zL, zM, zN, reduceCtorEq, f8, f7, f0, f1, hg, hlt, h4, hl]) | clear hN N | fail
      all_goals exact hk i hb
  · have h4 : ¬ (i : Int) < ls.length := by omega
    have hb := all_goodG Lv.z (q := lvB) (fun j hj => hal j (by omega))
    repeat' first | refine yj fun N hN => ?_ | refine yl [] ?_ | ((first | refine ya rfl rfl fun N hN => ?_ | refine ym ?_ | refine yo ?_ | refine yp ?_); simp only [go_sem, ↓reduceIte, zA, zB, zC, zD, zE, zF, zG, zL, zM, zN, reduceCtorEq, f8, f7, f0, f1, h4, Tryz.results119]) | (refine yg rfl ?_; try simp only [go_sem]) | ((first | refine yx hN _ _ ?_ | refine yz hN _ _ ?_); clear hN N) | clear hN N | fail
    all_goals exact hno hb

theorem sem109 (ls : List Lv) (hw : ∀ l ∈ ls, l.wf) (hlen : ls.length < 140737488355328) (st : St) (k : D → St → Prop)
    (hk : k (.bool (!ls.all lvB)) st) : Sem P 109 [.sl .frozen 5 (ls.map Lv.d), .fn 110 [] []] st k := by
  refine Sem.of_body Tryz.call109 Tryz.func109 rfl Tryz.ntmps109 (by simp) ?_
  repeat' first | refine yj fun N hN => ?_ | refine yl [] ?_ | ((first | refine ya rfl rfl fun N hN => ?_ | refine yo ?_); simp only [go_sem, ↓reduceIte, zA, zB, zC, zD, zE, zF, zG, zL, zM, zN, reduceCtorEq, Tryz.results109]) | (refine yg rfl ?_; try simp only [go_sem]) | ((first | refine yx hN _ _ ?_ | refine yz hN _ _ ?_); clear hN N) | (refine sem119 ls hw hlen _ _ (fun hb => ?_) (fun i hb => ?_) <;> try simp only [go_sem, ↓reduceIte, zA, zB, zC, zD, zE, zF, zG, zL, zM, zN, reduceCtorEq]) | fail
  all_goals (rw [hb] at hk; exact hk)
end Go.Proofs.YtddbidoaolnegaaGreatDoor
