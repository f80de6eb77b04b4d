/-
PART OF A CLAIM: P7, P8. No statement of the seat is proved here; no condition. -/
import Derived.Test.YtddbidoaolnegaaGreatDoorWE10
set_option linter.all false
/- Terms by the reference: which may be declared; what no statement looks at: the walks. No statement of the seat is proved here; no condition. -/
namespace Go.Proofs.YtddbidoaolnegaaGreatDoor
open Go Go.RowKit
open Nat renaming reduceLT → zA, reduceEqDiff → zB, reduceBEq → zC, reduceAdd → zD, reduceMul → zE, reduceSub → zF, reduceLeDiff → zG, mul_one → zH, zero_add → zI, add_zero → zJ
open Int renaming toNat_natCast → zK, reduceAdd → zL, reduceLE → zM, reduceLT → zN, natCast_nonneg → zO
open Go.Proofs.YtddbidoaolnegaaGreatDoor renaming evI_plain → ya, evI_guard → yb, evT_rd → yc, evT_rdg → yd, evT_act → ye, evT_actg → yf, evI_done → yg, evT_two → yh, evT_nil → yi, W.seqG → yj, W.block → yk, W.regionI → yl, W.cond → ym, W.skip → yn, W.ret → yo, W.exit → yp, gdD_split → yq, newT_intro → yr, newB_intro → ys, W.draw → yt, St.set_del → yu, St.give_take → yv, AGo.go → yw, IGo.go → yx, TGo.go → yy, Goes.go → yz
attribute [local go_sem] zK zP zQ zH zI zJ zO
attribute [local irreducible] W evI evT evL evOp evBin gdD Sem newT newB fillD bldOf
set_option maxRecDepth 10000
set_option maxHeartbeats 1000000

/-! What the countdown says. -/
mutual
def Tm.all (q : Tm → Bool) : Tm → Bool
  | .mk k n s ls ts => q (.mk k n s ls ts) && Tm.alls q ts
def Tm.alls (q : Tm → Bool) : List Tm → Bool
  | [] => true
  | t :: ts => t.all q && Tm.alls q ts
end
theorem Tm.all_eq (q : Tm → Bool) (t : Tm) : t.all q = (q t && Tm.alls q t.ts) := by cases t; rw [Tm.all]; rfl
theorem Tm.alls_all (q : Tm → Bool) : ∀ ts : List Tm, Tm.alls q ts = ts.all (Tm.all q)
  | [] => rfl
  | t :: ts => by rw [Tm.alls, Tm.alls_all q ts]; rfl
mutual
theorem mayG_val (q : Tm → Bool) : ∀ (t : Tm) (l d : Int), 0 ≤ l → mayG q t l d = if t.all q = true ∧ (t.size : Int) ≤ l ∧ (t.deep : Int) ≤ d then l - t.size else -1
  | .mk k n s ls ts, l, d, h => by
    rw [mayG, Tm.all, Tm.size, Tm.deep]
    by_cases c1 : l - 1 < 0
    · rw [if_pos (.inl c1), if_neg (by omega)]
    by_cases c2 : d ≤ 0
    · rw [if_pos (.inr (.inl c2)), if_neg (by omega)]
    by_cases c3 : q (.mk k n s ls ts) = true
    · rw [if_neg (by simp [c1, c2, c3]), mayGs_val q ts (l - 1) (d - 1) (by omega) (by omega), c3, Bool.true_and]
      by_cases hA : Tm.alls q ts = true ∧ (Tm.sizes ts : Int) ≤ l - 1 ∧ (Tm.deeps ts : Int) ≤ d - 1
      · rw [if_pos hA, if_pos ⟨hA.1, by omega, by omega⟩]; omega
      · rw [if_neg hA, if_neg (fun hB => hA ⟨hB.1, by omega, by omega⟩)]
    · have c3' : q (.mk k n s ls ts) = false := by simpa using c3
      rw [if_pos (.inr (.inr c3')), c3', if_neg (by simp)]
theorem mayGs_val (q : Tm → Bool) : ∀ (ts : List Tm) (l d : Int), 0 ≤ l → 0 ≤ d → mayGs q ts l d = if Tm.alls q ts = true ∧ (Tm.sizes ts : Int) ≤ l ∧ (Tm.deeps ts : Int) ≤ d then l - Tm.sizes ts else -1
  | [], l, d, h, h2 => by rw [mayGs, if_pos ⟨rfl, by simpa [Tm.sizes] using h, by simpa [Tm.deeps] using h2⟩]; simp [Tm.sizes]
  | t :: ts, l, d, h, h2 => by
    rw [mayGs, mayG_val q t l d h, Tm.alls, Tm.sizes, Tm.deeps]
    by_cases hA : t.all q = true ∧ (t.size : Int) ≤ l ∧ (t.deep : Int) ≤ d
    · rw [if_pos hA, if_neg (by omega), mayGs_val q ts (l - t.size) d (by omega) h2, hA.1, Bool.true_and]
      by_cases hB : Tm.alls q ts = true ∧ (Tm.sizes ts : Int) ≤ l - t.size ∧ (Tm.deeps ts : Int) ≤ d
      · rw [if_pos hB, if_pos ⟨hB.1, by omega, by omega⟩]; omega
      · rw [if_neg hB, if_neg (fun hC => hB ⟨hC.1, by omega, by omega⟩)]
    · rw [if_neg hA, if_pos (by omega), if_neg (fun hC => hA ⟨by have := hC.1; simp only [Bool.and_eq_true] at this; exact this.1, by omega, by omega⟩)]
end
theorem mayG_ok {q : Tm → Bool} {t : Tm} {l d : Int} (h : 0 ≤ l) : 0 ≤ mayG q t l d ↔ (t.all q = true ∧ (t.size : Int) ≤ l ∧ (t.deep : Int) ≤ d) := by
  rw [mayG_val q t l d h]
  split
  · rename_i hA; simp only [hA, and_self, iff_true]; omega
  · rename_i hA; simp only [hA, iff_false]; omega

/-! Which terms may be declared. -/
def termB (t : Tm) : Bool := t.all nodeB && decide (t.size ≤ 4096) && decide (t.deep ≤ 256) && lvsB t
theorem sem28 (t : Tm) (hw : t.wf) (st : St) (k : D → St → Prop) (hk : k (.bool (termB t)) st) : Sem P 28 [t.d] st k := by
  have hd := Tm.deep_le_size t
  have hok := mayG_ok (q := nodeB) (t := t) (l := 65536) (d := 4096) (by omega)
  by_cases c1 : 0 ≤ mayG nodeB t 65536 4096
  · have c2 := hok.1 c1
    by_cases c3 : t.size ≤ 4096
    · have e3 : (t.size : Int) ≤ 4096 := by omega
      by_cases c4 : t.deep ≤ 256
      · have e4 : (t.deep : Int) ≤ 256 := by omega
        simp only [termB, c2.1, c3, c4, decide_true, Bool.true_and] at hk
        refine Sem.of_body Tryz.call28 Tryz.func28 rfl Tryz.ntmps28 (by simp) ?_
        repeat' first | refine yj fun N hN => ?_ | refine yl [] ?_ | ((first | refine ya rfl rfl fun N hN => ?_ | refine yb rfl rfl rfl rfl fun N hN => ?_ | refine yo ?_); simp only [go_sem, ↓reduceIte, zA, zB, zC, zD, zE, zF, zG, zL, zM, zN, reduceCtorEq, c1, e3, e4, Tryz.results28]) | (refine yg rfl ?_; try simp only [go_sem]) | ((first | refine yx hN _ _ ?_ | refine yz hN _ _ ?_); clear hN N) | (refine sem63 t hw _ _ ?_; try simp only [go_sem, ↓reduceIte, zA, zB, zC, zD, zE, zF, zG, zL, zM, zN, reduceCtorEq, c1, e3, e4]) | (refine sem45 t hw _ _ (by omega) ?_; try simp only [go_sem, ↓reduceIte, zA, zB, zC, zD, zE, zF, zG, zL, zM, zN, reduceCtorEq, c1, e3, e4]) | (refine sem64 t hw _ _ (by omega) ?_; try simp only [go_sem, ↓reduceIte, zA, zB, zC, zD, zE, zF, zG, zL, zM, zN, reduceCtorEq, c1, e3, e4]) | (refine sem65 t hw _ _ ?_; try simp only [go_sem, ↓reduceIte, zA, zB, zC, zD, zE, zF, zG, zL, zM, zN, reduceCtorEq, c1, e3, e4]) | fail
        all_goals exact hk
      · have e4 : ¬ (t.deep : Int) ≤ 256 := by omega
        simp only [termB, c4, decide_false, Bool.false_and, Bool.and_false] at hk
        refine Sem.of_body Tryz.call28 Tryz.func28 rfl Tryz.ntmps28 (by simp) ?_
        repeat' first | refine yj fun N hN => ?_ | refine yl [] ?_ | ((first | refine ya rfl rfl fun N hN => ?_ | refine yb rfl rfl rfl rfl fun N hN => ?_ | refine yo ?_); simp only [go_sem, ↓reduceIte, zA, zB, zC, zD, zE, zF, zG, zL, zM, zN, reduceCtorEq, c1, e3, e4, Tryz.results28]) | (refine yg rfl ?_; try simp only [go_sem]) | ((first | refine yx hN _ _ ?_ | refine yz hN _ _ ?_); clear hN N) | (refine sem63 t hw _ _ ?_; try simp only [go_sem, ↓reduceIte, zA, zB, zC, zD, zE, zF, zG, zL, zM, zN, reduceCtorEq, c1, e3, e4]) | (refine sem45 t hw _ _ (by omega) ?_; try simp only [go_sem, ↓reduceIte, zA, zB, zC, zD, zE, zF, zG, zL, zM, zN, reduceCtorEq, c1, e3, e4]) | (refine sem64 t hw _ _ (by omega) ?_; try simp only [go_sem, ↓reduceIte, zA, zB, zC, zD, zE, zF, zG, zL, zM, zN, reduceCtorEq, c1, e3, e4]) | fail
        all_goals exact hk
    · have e3 : ¬ (t.size : Int) ≤ 4096 := by omega
      simp only [termB, c3, decide_false, Bool.false_and, Bool.and_false] at hk
      refine Sem.of_body Tryz.call28 Tryz.func28 rfl Tryz.ntmps28 (by simp) ?_
      repeat' first | refine yj fun N hN => ?_ | refine yl [] ?_ | ((first | refine ya rfl rfl fun N hN => ?_ | refine yb rfl rfl rfl rfl fun N hN => ?_ | refine yo ?_); simp only [go_sem, ↓reduceIte, zA, zB, zC, zD, zE, zF, zG, zL, zM, zN, reduceCtorEq, c1, e3, Tryz.results28]) | (refine yg rfl ?_; try simp only [go_sem]) | ((first | refine yx hN _ _ ?_ | refine yz hN _ _ ?_); clear hN N) | (refine sem63 t hw _ _ ?_; try simp only [go_sem, ↓reduceIte, zA, zB, zC, zD, zE, zF, zG, zL, zM, zN, reduceCtorEq, c1, e3]) | (refine sem45 t hw _ _ (by omega) ?_; try simp only [go_sem, ↓reduceIte, zA, zB, zC, zD, zE, zF, zG, zL, zM, zN, reduceCtorEq, c1, e3]) | fail
      all_goals exact hk
  · have hf : termB t = false := by
      rw [hok] at c1
      simp only [termB, Bool.and_eq_false_iff, decide_eq_false_iff_not]
      by_cases h1 : t.all nodeB = true
      · by_cases h2 : t.size ≤ 4096
        · by_cases h3 : t.deep ≤ 256
          · exact absurd ⟨h1, by omega, by omega⟩ c1
          · exact .inl (.inr h3)
        · exact .inl (.inl (.inr h2))
      · exact .inl (.inl (.inl (by simpa using h1)))
    rw [hf] at hk
    refine Sem.of_body Tryz.call28 Tryz.func28 rfl Tryz.ntmps28 (by simp) ?_
    repeat' first | refine yj fun N hN => ?_ | refine yl [] ?_ | ((first | refine ya rfl rfl fun N hN => ?_ | refine yb rfl rfl rfl rfl fun N hN => ?_ | refine yo ?_); simp only [go_sem, ↓reduceIte, zA, zB, zC, zD, zE, zF, zG, zL, zM, zN, reduceCtorEq, c1, Tryz.results28]) | (refine yg rfl ?_; try simp only [go_sem]) | ((first | refine yx hN _ _ ?_ | refine yz hN _ _ ?_); clear hN N) | (refine sem63 t hw _ _ ?_; try simp only [go_sem, ↓reduceIte, zA, zB, zC, zD, zE, zF, zG, zL, zM, zN, reduceCtorEq, c1]) | fail
    all_goals exact hk

/-- The zero term. -/
def noneB (t : Tm) : Bool := decide (t.k = 0) && decide (t.n = 0) && decide (t.s = []) && decide (t.ls = []) && decide (t.ts = [])
theorem len0 {α : Type} (l : List α) : ((l.length : Int) = 0) ↔ l = [] := by cases l <;> simp; omega
theorem sem29 (t : Tm) (st : St) (k : D → St → Prop) (hk : k (.bool (noneB t)) st) : Sem P 29 [t.d] st k := by
  have e0 : ((t.k : Int) = 0) ↔ t.k = 0 := by omega
  by_cases c0 : t.k = 0 <;> by_cases c1 : t.n = 0 <;> by_cases c2 : t.s = [] <;> by_cases c3 : t.ls = [] <;> by_cases c4 : t.ts = [] <;>
    simp only [noneB, c0, c1, c2, c3, c4, decide_true, decide_false, Bool.and_true, Bool.true_and, Bool.and_false, Bool.false_and] at hk
  all_goals (
    refine Sem.of_body Tryz.call29 Tryz.func29 rfl Tryz.ntmps29 (by simp) ?_
    repeat' first | refine yj fun N hN => ?_ | refine yl [] ?_ | ((first | refine ya rfl rfl fun N hN => ?_ | refine yb rfl rfl rfl rfl fun N hN => ?_ | refine yo ?_); simp only [go_sem, ↓reduceIte, zA, zB, zC, zD, zE, zF, zG, zL, zM, zN, reduceCtorEq, e0, c0, c1, c2, c3, c4, len0, Tryz.results29]) | (refine yg rfl ?_; try simp only [go_sem]) | ((first | refine yx hN _ _ ?_ | refine yz hN _ _ ?_); clear hN N) | (refine yq (fun h => ?_) (fun h => ?_) <;> (try simp only [zS, zT, zU, zV, Bool.not_true, Bool.not_false] at h) <;> (first | (exfalso; omega) | simp only [go_sem, ↓reduceIte, zA, zB, zC, zD, zE, zF, zG, zL, zM, zN, reduceCtorEq, e0, c0, c1, c2, c3, c4, len0, h] | skip)) | fail
    exact hk)

/-! Trees that no statement looks at. -/
def lsB (t : Tm) : Bool := decide (t.ls.length ≤ 20)
theorem sem84 : ∀ (t : Tm), t.wf → ∀ (l d : Int) (st : St) (k : D → St → Prop), 0 ≤ l → l ≤ 1000000000 → 0 ≤ d → d ≤ 1000000000 → k (.int .i64 (mayG lsB t l d)) st → Sem P 84 [t.d, .int .i64 l, .int .i64 d] st k := by
  intro t
  induction t using Tm.ind with
  | h k n s ls ts ihT =>
    intro hw l d st k' hl0 hl1 hd0 hd1 hk
    have wt := hw.to
    generalize he : Tm.mk k n s ls ts = t at *
    have hts : ts = t.ts := by rw [← he]; rfl
    rw [hts] at ihT
    clear he hts
    rw [mayG_eq] at hk
    by_cases c1 : l - 1 < 0
    · simp only [c1, true_or, reduceIte] at hk
      refine Sem.of_body Tryz.call84 Tryz.func84 rfl Tryz.ntmps84 (by simp) ?_
      repeat' first | refine yj fun N hN => ?_ | refine yl [] ?_ | ((first | refine ya rfl rfl fun N hN => ?_ | refine yb rfl rfl rfl rfl fun N hN => ?_ | refine ym ?_ | refine yo ?_); simp only [go_sem, ↓reduceIte, zA, zB, zC, zD, zE, zF, zG, zL, zM, zN, reduceCtorEq, c1, Tryz.results84]) | (refine yg rfl ?_; try simp only [go_sem]) | ((first | refine yx hN _ _ ?_ | refine yz hN _ _ ?_); clear hN N) | (refine And.intro ?_ ?_; · omega) | clear hN N | fail
      all_goals exact hk
    by_cases c2 : d ≤ 0
    · simp only [c1, c2, true_or, or_true, false_or, reduceIte] at hk
      refine Sem.of_body Tryz.call84 Tryz.func84 rfl Tryz.ntmps84 (by simp) ?_
      repeat' first | refine yj fun N hN => ?_ | refine yl [] ?_ | ((first | refine ya rfl rfl fun N hN => ?_ | refine yb rfl rfl rfl rfl fun N hN => ?_ | refine ym ?_ | refine yo ?_); simp only [go_sem, ↓reduceIte, zA, zB, zC, zD, zE, zF, zG, zL, zM, zN, reduceCtorEq, c1, c2, Tryz.results84]) | (refine yg rfl ?_; try simp only [go_sem]) | ((first | refine yx hN _ _ ?_ | refine yz hN _ _ ?_); clear hN N) | (refine And.intro ?_ ?_; · omega) | clear hN N | fail
      all_goals exact hk
    by_cases c3 : (20 : Int) < t.ls.length
    · have e3 : lsB t = false := by simp only [lsB, decide_eq_false_iff_not]; omega
      simp only [c1, c2, e3, or_true, reduceIte] at hk
      refine Sem.of_body Tryz.call84 Tryz.func84 rfl Tryz.ntmps84 (by simp) ?_
      repeat' first | refine yj fun N hN => ?_ | refine yl [] ?_ | ((first | refine ya rfl rfl fun N hN => ?_ | refine yb rfl rfl rfl rfl fun N hN => ?_ | refine ym ?_ | refine yo ?_); simp only [go_sem, ↓reduceIte, zA, zB, zC, zD, zE, zF, zG, zL, zM, zN, reduceCtorEq, c1, c2, c3, Tryz.results84]) | (refine yg rfl ?_; try simp only [go_sem]) | ((first | refine yx hN _ _ ?_ | refine yz hN _ _ ?_); clear hN N) | (refine And.intro ?_ ?_; · omega) | clear hN N | fail
      all_goals exact hk
    · have e3 : lsB t = true := by simp only [lsB, decide_eq_true_eq]; omega
      simp only [c1, c2, e3, or_self, Bool.true_eq_false, reduceIte] at hk
      refine Sem.of_body Tryz.call84 Tryz.func84 rfl Tryz.ntmps84 (by simp) ?_
      repeat' first | refine yj fun N hN => ?_ | refine yk ?_ | refine yl [] ?_ | ((first | refine ya rfl rfl fun N hN => ?_ | refine yb rfl rfl rfl rfl fun N hN => ?_ | refine ym ?_); simp only [go_sem, ↓reduceIte, zA, zB, zC, zD, zE, zF, zG, zL, zM, zN, reduceCtorEq, c1, c2, c3, Tryz.results84]) | ((first | refine yg rfl ?_ | refine yn ?_); try simp only [go_sem]) | ((first | refine yx hN _ _ ?_ | refine yz hN _ _ ?_); clear hN N) | (refine And.intro ?_ ?_; · omega) | fail
      refine W.loopN (fun m fr st' => st' = st ∧ ∃ i l', i + m = t.ts.length ∧ 0 ≤ l' ∧ l' ≤ l ∧ mayGs lsB (t.ts.drop i) l' (d - 1) = mayGs lsB t.ts (l - 1) (d - 1) ∧ fr 7 = .int .i64 i ∧ fr 1 = .int .i64 l' ∧ fr 2 = .int .i64 d ∧ fr 3 = .eptr t.d 0) ?_ t.ts.length _ _ ⟨rfl, 0, l - 1, by simp, by omega, by omega, by simp, by simp only [go_sem, ↓reduceIte, zA, zB, zC, zD, zE, zF, zG, zL, zM, zN, reduceCtorEq]; rfl, by simp only [go_sem, ↓reduceIte, zA, zB, zC, zD, zE, zF, zG, zL, zM, zN, reduceCtorEq], by simp only [go_sem, ↓reduceIte, zA, zB, zC, zD, zE, zF, zG, zL, zM, zN, reduceCtorEq], by simp only [go_sem, ↓reduceIte, zA, zB, zC, zD, zE, zF, zG, zL, zM, zN, reduceCtorEq]⟩
      rintro m N' ih fr _ ⟨rfl, i, l', hi, b1, b2, he, f7, f1, f2, f3⟩
      have hts := wt.ts
      rcases Nat.lt_or_ge i t.ts.length with hlt | hge
      · have hg : (t.ts.map Tm.d).getD i .any = (t.ts.getD i Tm.z).d := getD_map _ _ _ hlt
        have h4 : (i : Int) < t.ts.length := by omega
        rw [drop_getD _ Tm.z hlt, mayGs] at he
        have hm := getD_mem t.ts Tm.z hlt
        have hle := mayG_le lsB (t.ts.getD i Tm.z) l' (d - 1) b1
        repeat' first | refine yj fun N hN => ?_ | refine yk ?_ | refine yl [] ?_ | ((first | refine ya rfl rfl fun N hN => ?_ | refine ym ?_ | refine yo ?_); simp only [go_sem, ↓reduceIte, zA, zB, zC, zD, zE, zF, zG, zL, zM, zN, reduceCtorEq, f7, f1, f2, f3, hg, hlt, h4, Tryz.results84]) | ((first | refine yg rfl ?_ | refine yn ?_); try simp only [go_sem]) | ((first | refine yx hN _ _ ?_ | refine yz hN _ _ ?_); clear hN N) | (refine ihT _ hm (wt.tm _ hm) _ _ _ _ b1 (by omega) (by omega) (by omega) ?_; try simp only [go_sem, ↓reduceIte, zA, zB, zC, zD, zE, zF, zG, zL, zM, zN, reduceCtorEq, f7, f1, f2, f3, hg, hlt, h4]) | ((apply And.intro <;> intro h) <;> (try simp only [zS, zT, zU, zV, Bool.not_true, Bool.not_false] at h) <;> (first | (exfalso; omega) | simp only [go_sem, ↓reduceIte, zA, zB, zC, zD, zE, zF, zG, zL, zM, zN, reduceCtorEq, f7, f1, f2, f3, hg, hlt, h4, h] | skip)) | (refine And.intro ?_ ?_; · omega) | clear hN N | fail
        · rw [← he, if_pos h] at hk; exact hk
        · rw [if_neg h] at he
          refine ih.back (m - 1) (by omega) _ _ ⟨rfl, i + 1, _, by omega, by omega, by omega, he, ?_, ?_, ?_, ?_⟩
          · simp only [go_sem, ↓reduceIte, zA, zB, zC, zD, zE, zF, zG, zL, zM, zN, reduceCtorEq]; rfl
          · simp only [go_sem, ↓reduceIte, zA, zB, zC, zD, zE, zF, zG, zL, zM, zN, reduceCtorEq]
          · simp only [go_sem, ↓reduceIte, zA, zB, zC, zD, zE, zF, zG, zL, zM, zN, reduceCtorEq, f2]
          · simp only [go_sem, ↓reduceIte, zA, zB, zC, zD, zE, zF, zG, zL, zM, zN, reduceCtorEq, f3]
      · have h4 : ¬ (i : Int) < t.ts.length := by omega
        rw [List.drop_of_length_le hge, mayGs] at he
        repeat' first | refine yj fun N hN => ?_ | refine yl [] ?_ | ((first | refine ya rfl rfl fun N hN => ?_ | refine ym ?_ | refine yo ?_ | refine yp ?_); simp only [go_sem, ↓reduceIte, zA, zB, zC, zD, zE, zF, zG, zL, zM, zN, reduceCtorEq, f7, f1, f2, f3, h4, Tryz.results84]) | (refine yg rfl ?_; try simp only [go_sem]) | ((first | refine yx hN _ _ ?_ | refine yz hN _ _ ?_); clear hN N) | clear hN N | fail
        all_goals (rw [he]; exact hk)

/-- Deeper, or more, than a statement looks at. -/
def hugeB (t : Tm) : Bool := !(t.all lsB && decide (t.size ≤ 131072) && decide (t.deep ≤ 8192))
theorem sem44 (t : Tm) (hw : t.wf) (st : St) (k : D → St → Prop) (hk : k (.bool (hugeB t)) st) : Sem P 44 [t.d] st k := by
  have e : hugeB t = decide (mayG lsB t 131072 8192 < 0) := by
    have := mayG_ok (q := lsB) (t := t) (l := 131072) (d := 8192) (by omega)
    rw [Bool.eq_iff_iff, hugeB, Bool.not_eq_true', decide_eq_true_eq]
    constructor
    · intro h
      rcases (show mayG lsB t 131072 8192 < 0 ∨ 0 ≤ mayG lsB t 131072 8192 by omega) with h2 | h2
      · exact h2
      · obtain ⟨a, b, c⟩ := this.1 h2
        have b' : t.size ≤ 131072 := by omega
        have c' : t.deep ≤ 8192 := by omega
        simp [a, b', c'] at h
    · intro h
      cases hq : (t.all lsB && decide (t.size ≤ 131072) && decide (t.deep ≤ 8192)) with
      | false => rfl
      | true =>
        simp only [Bool.and_eq_true, decide_eq_true_eq] at hq
        have := this.2 ⟨hq.1.1, by omega, by omega⟩
        omega
  rw [e] at hk
  refine Sem.of_body Tryz.call44 Tryz.func44 rfl Tryz.ntmps44 (by simp) ?_
  repeat' first | refine yj fun N hN => ?_ | refine yl [] ?_ | ((first | refine ya rfl rfl fun N hN => ?_ | refine yo ?_); simp only [go_sem, ↓reduceIte, zA, zB, zC, zD, zE, zF, zG, zL, zM, zN, reduceCtorEq, Tryz.results44]) | (refine yg rfl ?_; try simp only [go_sem]) | ((first | refine yx hN _ _ ?_ | refine yz hN _ _ ?_); clear hN N) | (refine sem84 t hw _ _ _ _ (by omega) (by omega) (by omega) (by omega) ?_; try simp only [go_sem, ↓reduceIte, zA, zB, zC, zD, zE, zF, zG, zL, zM, zN, reduceCtorEq]) | fail
  all_goals exact hk

end Go.Proofs.YtddbidoaolnegaaGreatDoor
/- Declarations: what they are; which may be, by the reference: the walks. No statement of the seat is proved here; no condition. -/
namespace Go.Proofs.YtddbidoaolnegaaGreatDoor
open Go Go.RowKit
open Nat renaming reduceLT → zA, reduceEqDiff → zB, reduceBEq → zC, reduceAdd → zD, reduceMul → zE, reduceSub → zF, reduceLeDiff → zG, mul_one → zH, zero_add → zI, add_zero → zJ
open Int renaming toNat_natCast → zK, reduceAdd → zL, reduceLE → zM, reduceLT → zN, natCast_nonneg → zO
open Go.Proofs.YtddbidoaolnegaaGreatDoor renaming evI_plain → ya, evI_guard → yb, evT_rd → yc, evT_rdg → yd, evT_act → ye, evT_actg → yf, evI_done → yg, evT_two → yh, evT_nil → yi, W.seqG → yj, W.block → yk, W.regionI → yl, W.cond → ym, W.skip → yn, W.ret → yo, W.exit → yp, gdD_split → yq, newT_intro → yr, newB_intro → ys, W.draw → yt, St.set_del → yu, St.give_take → yv, AGo.go → yw, IGo.go → yx, TGo.go → yy, Goes.go → yz
attribute [local go_sem] zK zP zQ zH zI zJ zO
attribute [local irreducible] W evI evT evL evOp evBin gdD Sem newT newB fillD bldOf
set_option maxRecDepth 10000
set_option maxHeartbeats 1000000

structure Cc where
  name : List UInt8
  ty : Tm
structure In where
  name : List UInt8
  ty : Tm
  cs : List Cc
structure De where
  kind : Nat
  params : Int
  name : List UInt8
  ty : Tm
  val : Tm
  fixed : Int
  inds : List In
def Cc.z : Cc := ⟨[], .z⟩
def In.z : In := ⟨[], .z, []⟩
def De.z : De := ⟨0, 0, [], .z, .z, 0, []⟩
/-- A term's cells. -/
def Tm.c (t : Tm) : List D := [.int .u8 t.k, .int .i64 t.n, .str t.s, .sl .frozen 5 (t.ls.map Lv.d), .sl .frozen 5 (t.ts.map Tm.d)]
def Cc.d (c : Cc) : D := .agg (.str c.name :: c.ty.c)
def In.d (x : In) : D := .agg (.str x.name :: (x.ty.c ++ [.sl .frozen 6 (x.cs.map Cc.d)]))
def De.d (x : De) : D := .agg (.int .u8 x.kind :: .int .i64 x.params :: .str x.name :: (x.ty.c ++ (x.val.c ++ [.int .i64 x.fixed, .sl .frozen 7 (x.inds.map In.d)])))
theorem Cc.d_fine (x : Cc) : x.d.fine = true := rfl
theorem Cc.d_isAgg (x : Cc) : D.isAgg 6 x.d = true := rfl
theorem Cc.d_isAgg5 (x : Cc) : D.isAgg 5 x.d = false := rfl
theorem Cc.d_cells (x : Cc) : x.d.cells = [.str x.name, .int .u8 x.ty.k, .int .i64 x.ty.n, .str x.ty.s, .sl .frozen 5 (x.ty.ls.map Lv.d), .sl .frozen 5 (x.ty.ts.map Tm.d)] := rfl
theorem In.d_fine (x : In) : x.d.fine = true := rfl
theorem In.d_isAgg (x : In) : D.isAgg 7 x.d = true := rfl
theorem In.d_isAgg5 (x : In) : D.isAgg 5 x.d = false := rfl
theorem In.d_cells (x : In) : x.d.cells = [.str x.name, .int .u8 x.ty.k, .int .i64 x.ty.n, .str x.ty.s, .sl .frozen 5 (x.ty.ls.map Lv.d), .sl .frozen 5 (x.ty.ts.map Tm.d), .sl .frozen 6 (x.cs.map Cc.d)] := rfl
theorem De.d_fine (x : De) : x.d.fine = true := rfl
theorem De.d_isAgg (x : De) : D.isAgg 15 x.d = true := rfl
theorem De.d_isAgg5 (x : De) : D.isAgg 5 x.d = false := rfl
theorem De.d_cells (x : De) : x.d.cells = [.int .u8 x.kind, .int .i64 x.params, .str x.name, .int .u8 x.ty.k, .int .i64 x.ty.n, .str x.ty.s, .sl .frozen 5 (x.ty.ls.map Lv.d), .sl .frozen 5 (x.ty.ts.map Tm.d),
  .int .u8 x.val.k, .int .i64 x.val.n, .str x.val.s, .sl .frozen 5 (x.val.ls.map Lv.d), .sl .frozen 5 (x.val.ts.map Tm.d), .int .i64 x.fixed, .sl .frozen 7 (x.inds.map In.d)] := rfl
theorem Tm.d_fold (t : Tm) : D.agg [.int .u8 t.k, .int .i64 t.n, .str t.s, .sl .frozen 5 (t.ls.map Lv.d), .sl .frozen 5 (t.ts.map Tm.d)] = t.d := (Tm.d_eq t).symm
theorem take_succ_cons' {α : Type} (a : α) (l : List α) (n : Nat) : (a :: l).take (n + 1) = a :: l.take n := rfl
attribute [go_sem] Cc.d_fine Cc.d_isAgg Cc.d_isAgg5 Cc.d_cells In.d_fine In.d_isAgg In.d_isAgg5 In.d_cells De.d_fine De.d_isAgg De.d_isAgg5 De.d_cells Tm.d_fold take_succ_cons' List.take_zero

structure Cc.Wf (x : Cc) : Prop where
  name : x.name.length < 140737488355328
  ty : x.ty.wf
structure In.Wf (x : In) : Prop where
  name : x.name.length < 140737488355328
  ty : x.ty.wf
  len : x.cs.length < 140737488355328
  cs : ∀ c ∈ x.cs, c.Wf
structure De.Wf (x : De) : Prop where
  kind : x.kind < 256
  params : -9223372036854775808 ≤ x.params ∧ x.params ≤ 9223372036854775807
  name : x.name.length < 140737488355328
  ty : x.ty.wf
  val : x.val.wf
  fixed : -9223372036854775808 ≤ x.fixed ∧ x.fixed ≤ 9223372036854775807
  len : x.inds.length < 140737488355328
  inds : ∀ c ∈ x.inds, c.Wf

/-! Which may be. -/
def ctorB (c : Cc) : Bool := nameB c.name && termB c.ty
def indB (x : In) : Bool := nameB x.name && termB x.ty && decide (x.cs.length ≤ 8) && x.cs.all ctorB
def declB (d : De) : Bool := decide (0 ≤ d.params) && decide (d.params ≤ 4) && (
  if d.kind = 1 then nameB d.name && termB d.ty && noneB d.val && decide (d.fixed = 0) && decide (d.inds = [])
  else if d.kind = 2 ∨ d.kind = 3 then nameB d.name && termB d.ty && termB d.val && decide (d.fixed = 0) && decide (d.inds = [])
  else if d.kind = 4 then decide (d.name = []) && noneB d.ty && noneB d.val && decide (0 ≤ d.fixed) && decide (d.fixed ≤ 12) && decide (1 ≤ d.inds.length) && decide (d.inds.length ≤ 3) && d.inds.all indB
  else false)

theorem sem10 (x : De) (hw : x.Wf) (st : St) (k : D → St → Prop) (hk : k (.bool (declB x)) st) : Sem P 10 [x.d] st k := by
  by_cases p0 : x.params < 0
  · have p1 : ¬ 0 ≤ x.params := by omega
    simp only [declB, p1, decide_false, Bool.false_and] at hk
    refine Sem.of_body Tryz.call10 Tryz.func10 rfl Tryz.ntmps10 (by simp) ?_
    repeat' first | refine yj fun N hN => ?_ | refine yl [] ?_ | ((first | refine ya rfl rfl fun N hN => ?_ | refine yb rfl rfl rfl rfl fun N hN => ?_ | refine ym ?_ | refine yo ?_); simp only [go_sem, ↓reduceIte, zA, zB, zC, zD, zE, zF, zG, zL, zM, zN, reduceCtorEq, p0, Tryz.results10]) | (refine yg rfl ?_; try simp only [go_sem]) | ((first | refine yx hN _ _ ?_ | refine yz hN _ _ ?_); clear hN N) | clear hN N | fail
    all_goals exact hk
  by_cases p4 : 4 < x.params
  · have p1 : ¬ x.params ≤ 4 := by omega
    simp only [declB, p1, decide_false, Bool.false_and, Bool.and_false] at hk
    refine Sem.of_body Tryz.call10 Tryz.func10 rfl Tryz.ntmps10 (by simp) ?_
    repeat' first | refine yj fun N hN => ?_ | refine yl [] ?_ | ((first | refine ya rfl rfl fun N hN => ?_ | refine yb rfl rfl rfl rfl fun N hN => ?_ | refine ym ?_ | refine yo ?_); simp only [go_sem, ↓reduceIte, zA, zB, zC, zD, zE, zF, zG, zL, zM, zN, reduceCtorEq, p0, p4, Tryz.results10]) | (refine yg rfl ?_; try simp only [go_sem]) | ((first | refine yx hN _ _ ?_ | refine yz hN _ _ ?_); clear hN N) | clear hN N | fail
    all_goals exact hk
  have q0 : 0 ≤ x.params := by omega
  have q4 : x.params ≤ 4 := by omega
  simp only [declB, q0, q4, decide_true, Bool.true_and] at hk
  by_cases k1 : x.kind = 1
  · have e1 : (x.kind : Int) = 1 := by omega
    simp only [k1, reduceIte] at hk
    refine Sem.of_body Tryz.call10 Tryz.func10 rfl Tryz.ntmps10 (by simp) ?_
    repeat' first | refine yj fun N hN => ?_ | refine yk ?_ | refine yl [] ?_ | ((first | refine ya rfl rfl fun N hN => ?_ | refine yb rfl rfl rfl rfl fun N hN => ?_ | refine ym ?_ | refine yo ?_); simp only [go_sem, ↓reduceIte, zA, zB, zC, zD, zE, zF, zG, zL, zM, zN, reduceCtorEq, p0, p4, e1, len0, Tryz.results10]) | ((first | refine yg rfl ?_ | refine yn ?_); try simp only [go_sem]) | ((first | refine yx hN _ _ ?_ | refine yz hN _ _ ?_); clear hN N) | (refine sem27 _ _ _ hw.name ?_; try simp only [go_sem, ↓reduceIte, zA, zB, zC, zD, zE, zF, zG, zL, zM, zN, reduceCtorEq, p0, p4, e1, len0]) | (refine sem28 _ hw.ty _ _ ?_; try simp only [go_sem, ↓reduceIte, zA, zB, zC, zD, zE, zF, zG, zL, zM, zN, reduceCtorEq, p0, p4, e1, len0]) | (refine sem29 _ _ _ ?_; try simp only [go_sem, ↓reduceIte, zA, zB, zC, zD, zE, zF, zG, zL, zM, zN, reduceCtorEq, p0, p4, e1, len0]) | (refine yq (fun h => ?_) (fun h => ?_) <;> (try simp only [zS, zT, zU, zV, Bool.not_true, Bool.not_false] at h) <;> (first | (exfalso; omega) | simp only [go_sem, ↓reduceIte, zA, zB, zC, zD, zE, zF, zG, zL, zM, zN, reduceCtorEq, p0, p4, e1, len0, h] | skip)) | clear hN N | fail
    all_goals (refine kb hk ?_; simp_all)
  by_cases k2 : x.kind = 2 ∨ x.kind = 3
  · simp only [k1, k2, reduceIte] at hk
    rcases k2 with k2 | k2
    · have e1 : (x.kind : Int) = 2 := by omega
      refine Sem.of_body Tryz.call10 Tryz.func10 rfl Tryz.ntmps10 (by simp) ?_
      repeat' first | refine yj fun N hN => ?_ | refine yk ?_ | refine yl [] ?_ | ((first | refine ya rfl rfl fun N hN => ?_ | refine yb rfl rfl rfl rfl fun N hN => ?_ | refine ym ?_ | refine yo ?_); simp only [go_sem, ↓reduceIte, zA, zB, zC, zD, zE, zF, zG, zL, zM, zN, reduceCtorEq, p0, p4, e1, len0, Tryz.results10]) | ((first | refine yg rfl ?_ | refine yn ?_); try simp only [go_sem]) | ((first | refine yx hN _ _ ?_ | refine yz hN _ _ ?_); clear hN N) | (refine sem27 _ _ _ hw.name ?_; try simp only [go_sem, ↓reduceIte, zA, zB, zC, zD, zE, zF, zG, zL, zM, zN, reduceCtorEq, p0, p4, e1, len0]) | (refine sem28 _ hw.ty _ _ ?_; try simp only [go_sem, ↓reduceIte, zA, zB, zC, zD, zE, zF, zG, zL, zM, zN, reduceCtorEq, p0, p4, e1, len0]) | (refine sem28 _ hw.val _ _ ?_; try simp only [go_sem, ↓reduceIte, zA, zB, zC, zD, zE, zF, zG, zL, zM, zN, reduceCtorEq, p0, p4, e1, len0]) | ((first | refine yq (fun h => ?_) (fun h => ?_) | (apply And.intro <;> intro h)) <;> (try simp only [zS, zT, zU, zV, Bool.not_true, Bool.not_false] at h) <;> (first | (exfalso; omega) | simp only [go_sem, ↓reduceIte, zA, zB, zC, zD, zE, zF, zG, zL, zM, zN, reduceCtorEq, p0, p4, e1, len0, h] | skip)) | clear hN N | fail
      all_goals (refine kb hk ?_; simp_all)
    · have e1 : (x.kind : Int) = 3 := by omega
      refine Sem.of_body Tryz.call10 Tryz.func10 rfl Tryz.ntmps10 (by simp) ?_
      repeat' first | refine yj fun N hN => ?_ | refine yk ?_ | refine yl [] ?_ | ((first | refine ya rfl rfl fun N hN => ?_ | refine yb rfl rfl rfl rfl fun N hN => ?_ | refine ym ?_ | refine yo ?_); simp only [go_sem, ↓reduceIte, zA, zB, zC, zD, zE, zF, zG, zL, zM, zN, reduceCtorEq, p0, p4, e1, len0, Tryz.results10]) | ((first | refine yg rfl ?_ | refine yn ?_); try simp only [go_sem]) | ((first | refine yx hN _ _ ?_ | refine yz hN _ _ ?_); clear hN N) | (refine sem27 _ _ _ hw.name ?_; try simp only [go_sem, ↓reduceIte, zA, zB, zC, zD, zE, zF, zG, zL, zM, zN, reduceCtorEq, p0, p4, e1, len0]) | (refine sem28 _ hw.ty _ _ ?_; try simp only [go_sem, ↓reduceIte, zA, zB, zC, zD, zE, zF, zG, zL, zM, zN, reduceCtorEq, p0, p4, e1, len0]) | (refine sem28 _ hw.val _ _ ?_; try simp only [go_sem, ↓reduceIte, zA, zB, zC, zD, zE, zF, zG, zL, zM, zN, reduceCtorEq, p0, p4, e1, len0]) | ((first | refine yq (fun h => ?_) (fun h => ?_) | (apply And.intro <;> intro h)) <;> (try simp only [zS, zT, zU, zV, Bool.not_true, Bool.not_false] at h) <;> (first | (exfalso; omega) | simp only [go_sem, ↓reduceIte, zA, zB, zC, zD, zE, zF, zG, zL, zM, zN, reduceCtorEq, p0, p4, e1, len0, h] | skip)) | clear hN N | fail
      all_goals (refine kb hk ?_; simp_all)
  by_cases k4 : x.kind = 4
  · have e1 : (x.kind : Int) = 4 := by omega
    simp only [k1, k2, k4, reduceIte] at hk
    by_cases hs : (decide (x.name = []) && noneB x.ty && noneB x.val && decide (0 ≤ x.fixed) && decide (x.fixed ≤ 12) && decide (1 ≤ x.inds.length) && decide (x.inds.length ≤ 3)) = true
    · rw [hs, Bool.true_and] at hk
      simp only [Bool.and_eq_true, decide_eq_true_eq] at hs
      obtain ⟨⟨⟨⟨⟨⟨h1, h2⟩, h3⟩, h4⟩, h5⟩, h6⟩, h7⟩ := hs
      have g4 : ¬ x.fixed < 0 := by omega
      have g5 : ¬ 12 < x.fixed := by omega
      have g6 : ¬ (x.inds.length : Int) < 1 := by omega
      have g7 : ¬ (3 : Int) < x.inds.length := by omega
      refine Sem.of_body Tryz.call10 Tryz.func10 rfl Tryz.ntmps10 (by simp) ?_
      repeat' first | refine yj fun N hN => ?_ | refine yk ?_ | refine yl [] ?_ | ((first | refine ya rfl rfl fun N hN => ?_ | refine yb rfl rfl rfl rfl fun N hN => ?_ | refine ym ?_); simp only [go_sem, ↓reduceIte, zA, zB, zC, zD, zE, zF, zG, zL, zM, zN, reduceCtorEq, p0, p4, e1, h1, h2, h3, g4, g5, g6, g7, Tryz.results10]) | ((first | refine yg rfl ?_ | refine yn ?_); try simp only [go_sem]) | ((first | refine yx hN _ _ ?_ | refine yz hN _ _ ?_); clear hN N) | (refine sem29 _ _ _ ?_; try simp only [go_sem, ↓reduceIte, zA, zB, zC, zD, zE, zF, zG, zL, zM, zN, reduceCtorEq, p0, p4, e1, h1, h2, h3, g4, g5, g6, g7]) | ((apply And.intro <;> intro h) <;> (try simp only [zS, zT, zU, zV, Bool.not_true, Bool.not_false] at h) <;> (first | (exfalso; omega) | simp only [go_sem, ↓reduceIte, zA, zB, zC, zD, zE, zF, zG, zL, zM, zN, reduceCtorEq, p0, p4, e1, h1, h2, h3, g4, g5, g6, g7, h] | skip)) | fail
      refine W.loopN (fun m fr st' => st = st' ∧ ∃ i : Nat, i + m = x.inds.length ∧ (∀ j, j < i → indB (x.inds.getD j In.z) = true) ∧ fr 3 = .int .i64 i ∧ fr 1 = .eptr x.d 0) ?_ x.inds.length _ _ ⟨rfl, 0, by simp, by simp, by simp only [go_sem, ↓reduceIte, zA, zB, zC, zD, zE, zF, zG, zL, zM, zN, reduceCtorEq]; rfl, by simp only [go_sem, ↓reduceIte, zA, zB, zC, zD, zE, zF, zG, zL, zM, zN, reduceCtorEq]⟩
      rintro m N' ih fr _ ⟨rfl, i, hi, hal, f3, f1⟩
      rcases Nat.lt_or_ge i x.inds.length with hlt | hge
      · have hg : (x.inds.map In.d).getD i .any = (x.inds.getD i In.z).d := getD_map _ _ _ hlt
        have h4 : (i : Int) < x.inds.length := by omega
        have hm := getD_mem x.inds In.z hlt
        generalize hyy : x.inds.getD i In.z = y at *
        have hy := hw.inds y hm
        have hbad : indB y = false → k (.bool false) st := fun hb => by
          rw [show x.inds.all indB = false by (rw [List.all_eq_false]; exact ⟨y, hm, by simp [hb]⟩)] at hk; exact hk
        repeat' first | rw [yu hr] | refine yj fun N hN => ?_ | refine yk ?_ | refine yl [] ?_ | ((first | refine ya rfl rfl fun N hN => ?_ | refine yb rfl rfl rfl rfl fun N hN => ?_ | refine ym ?_ | refine yo ?_); simp only [go_sem, ↓reduceIte, zA, zB, zC, zD, zE, zF, zG, zL, zM, zN, reduceCtorEq, f3, f1, hg, hlt, h4, Tryz.results10]) | ((first | refine yg rfl ?_ | refine yn ?_); try simp only [go_sem]) | ((first | refine yx hN _ _ ?_ | refine yz hN _ _ ?_); clear hN N) | (refine sem27 _ _ _ hy.name ?_; try simp only [go_sem, ↓reduceIte, zA, zB, zC, zD, zE, zF, zG, zL, zM, zN, reduceCtorEq, f3, f1, hg, hlt, h4]) | (refine sem28 _ hy.ty _ _ ?_; try simp only [go_sem, ↓reduceIte, zA, zB, zC, zD, zE, zF, zG, zL, zM, zN, reduceCtorEq, f3, f1, hg, hlt, h4]) | ((first | refine yq (fun h => ?_) (fun h => ?_) | (apply And.intro <;> intro h)) <;> (try simp only [zS, zT, zU, zV, Bool.not_true, Bool.not_false] at h) <;> (first | (exfalso; omega) | simp only [go_sem, ↓reduceIte, zA, zB, zC, zD, zE, zF, zG, zL, zM, zN, reduceCtorEq, f3, f1, hg, hlt, h4, h] | skip)) | ((refine ys fun r hr => ?_; (try have hrn := (St.set_none hr).1); (try have hrn2 := Ne.symm (St.set_none hr).1)); try simp only [go_sem, ↓reduceIte, zA, zB, zC, zD, zE, zF, zG, zL, zM, zN, reduceCtorEq, f3, f1, hg, hlt, h4]) | clear hN N | fail
        · exact hbad (by simp only [indB, Bool.and_eq_false_iff, decide_eq_false_iff_not]; omega)
        · rename_i a1 a2
          have a3 : y.cs.length ≤ 8 := by omega
          refine W.loopN (fun m fr st' => st = st' ∧ ∃ j : Nat, j + m = y.cs.length ∧ (∀ q, q < j → ctorB (y.cs.getD q Cc.z) = true) ∧ fr 5 = .int .i64 j ∧ fr 3 = .int .i64 i ∧ fr 1 = .eptr x.d 0 ∧ fr 4 = .eptr y.d 0) ?_ y.cs.length _ _ ⟨rfl, 0, by simp, by simp, by simp only [go_sem, ↓reduceIte, zA, zB, zC, zD, zE, zF, zG, zL, zM, zN, reduceCtorEq]; rfl, by simp only [go_sem, ↓reduceIte, zA, zB, zC, zD, zE, zF, zG, zL, zM, zN, reduceCtorEq, f3], by simp only [go_sem, ↓reduceIte, zA, zB, zC, zD, zE, zF, zG, zL, zM, zN, reduceCtorEq, f1], by simp only [go_sem, ↓reduceIte, zA, zB, zC, zD, zE, zF, zG, zL, zM, zN, reduceCtorEq]⟩
          rintro m2 N2 ih2 fr2 _ ⟨rfl, j, hj, hcl, f5, f3, f1, f4⟩
          rcases Nat.lt_or_ge j y.cs.length with jlt | jge
          · have jg : (y.cs.map Cc.d).getD j .any = (y.cs.getD j Cc.z).d := getD_map _ _ _ jlt
            have j4 : (j : Int) < y.cs.length := by omega
            have jm := getD_mem y.cs Cc.z jlt
            have hcz := hy.cs _ jm
            have hbadc : ctorB (y.cs.getD j Cc.z) = false → k (.bool false) st := fun hb => hbad (by
              simp only [indB]; rw [all_badG Cc.z jlt hb, Bool.and_false])
            repeat' first | refine yj fun N hN => ?_ | refine yk ?_ | refine yl [] ?_ | ((first | refine ya rfl rfl fun N hN => ?_ | refine yb rfl rfl rfl rfl fun N hN => ?_ | refine ym ?_ | refine yo ?_); simp only [go_sem, ↓reduceIte, zA, zB, zC, zD, zE, zF, zG, zL, zM, zN, reduceCtorEq, f5, f3, f1, f4, jg, jlt, j4, Tryz.results10]) | ((first | refine yg rfl ?_ | refine yn ?_); try simp only [go_sem]) | ((first | refine yx hN _ _ ?_ | refine yz hN _ _ ?_); clear hN N) | (refine sem27 _ _ _ hcz.name ?_; try simp only [go_sem, ↓reduceIte, zA, zB, zC, zD, zE, zF, zG, zL, zM, zN, reduceCtorEq, f5, f3, f1, f4, jg, jlt, j4]) | (refine sem28 _ hcz.ty _ _ ?_; try simp only [go_sem, ↓reduceIte, zA, zB, zC, zD, zE, zF, zG, zL, zM, zN, reduceCtorEq, f5, f3, f1, f4, jg, jlt, j4]) | ((first | refine yq (fun h => ?_) (fun h => ?_) | (apply And.intro <;> intro h)) <;> (try simp only [zS, zT, zU, zV, Bool.not_true, Bool.not_false] at h) <;> (first | (exfalso; omega) | simp only [go_sem, ↓reduceIte, zA, zB, zC, zD, zE, zF, zG, zL, zM, zN, reduceCtorEq, f5, f3, f1, f4, jg, jlt, j4, h] | skip)) | (refine And.intro ?_ ?_; · omega) | clear hN N | fail
            · exact hbadc (by rw [ctorB, h, Bool.and_false])
            · rename_i b1
              refine ih2.back (m2 - 1) (by omega) _ _ ⟨rfl, j + 1, by omega, lt_succ_all hcl (by rw [ctorB, b1, h]; rfl), ?_, ?_, ?_, ?_⟩
              · simp only [go_sem, ↓reduceIte, zA, zB, zC, zD, zE, zF, zG, zL, zM, zN, reduceCtorEq]; rfl
              · simp only [go_sem, ↓reduceIte, zA, zB, zC, zD, zE, zF, zG, zL, zM, zN, reduceCtorEq, f3]
              · simp only [go_sem, ↓reduceIte, zA, zB, zC, zD, zE, zF, zG, zL, zM, zN, reduceCtorEq, f1]
              · simp only [go_sem, ↓reduceIte, zA, zB, zC, zD, zE, zF, zG, zL, zM, zN, reduceCtorEq, f4]
            · exact hbadc (by rw [ctorB, h, Bool.false_and])
          · have j4 : ¬ (j : Int) < y.cs.length := by omega
            have hib : indB y = true := by simp only [indB, a1, a2, a3, decide_true, Bool.true_and]; exact all_goodG Cc.z (fun q hq => hcl q (by omega))
            repeat' first | refine yj fun N hN => ?_ | refine yl [] ?_ | ((first | refine ya rfl rfl fun N hN => ?_ | refine ym ?_ | refine yp ?_); simp only [go_sem, ↓reduceIte, zA, zB, zC, zD, zE, zF, zG, zL, zM, zN, reduceCtorEq, f5, f3, f1, f4, j4, Tryz.results10]) | (refine yg rfl ?_; try simp only [go_sem]) | ((first | refine yx hN _ _ ?_ | refine yz hN _ _ ?_); clear hN N) | (refine And.intro ?_ ?_; · omega) | clear hN N | fail
            refine ih.back (m - 1) (by omega) _ _ ⟨rfl, i + 1, by omega, ?_, ?_, ?_⟩
            · exact lt_succ_all hal (by rw [hyy]; exact hib)
            · simp only [go_sem, ↓reduceIte, zA, zB, zC, zD, zE, zF, zG, zL, zM, zN, reduceCtorEq]; rfl
            · simp only [go_sem, ↓reduceIte, zA, zB, zC, zD, zE, zF, zG, zL, zM, zN, reduceCtorEq, f1]
        · exact hbad (by simp only [indB, h, Bool.and_false, Bool.false_and])
        · exact hbad (by simp only [indB, h, Bool.false_and])
      · have h4 : ¬ (i : Int) < x.inds.length := by omega
        rw [all_goodG In.z (fun j hj => hal j (by omega))] at hk
        repeat' first | refine yj fun N hN => ?_ | refine yl [] ?_ | ((first | refine ya rfl rfl fun N hN => ?_ | refine ym ?_ | refine yo ?_ | refine yp ?_); simp only [go_sem, ↓reduceIte, zA, zB, zC, zD, zE, zF, zG, zL, zM, zN, reduceCtorEq, f3, f1, h4, Tryz.results10]) | (refine yg rfl ?_; try simp only [go_sem]) | ((first | refine yx hN _ _ ?_ | refine yz hN _ _ ?_); clear hN N) | clear hN N | fail
        all_goals exact hk
    · rw [show (decide (x.name = []) && noneB x.ty && noneB x.val && decide (0 ≤ x.fixed) && decide (x.fixed ≤ 12) && decide (1 ≤ x.inds.length) && decide (x.inds.length ≤ 3)) = false by simpa using hs, Bool.false_and] at hk
      simp only [Bool.and_eq_true, decide_eq_true_eq] at hs
      refine Sem.of_body Tryz.call10 Tryz.func10 rfl Tryz.ntmps10 (by simp) ?_
      repeat' first | refine yj fun N hN => ?_ | refine yk ?_ | refine yl [] ?_ | ((first | refine ya rfl rfl fun N hN => ?_ | refine yb rfl rfl rfl rfl fun N hN => ?_ | refine ym ?_ | refine yo ?_); simp only [go_sem, ↓reduceIte, zA, zB, zC, zD, zE, zF, zG, zL, zM, zN, reduceCtorEq, p0, p4, e1, Tryz.results10]) | ((first | refine yg rfl ?_ | refine yn ?_); try simp only [go_sem]) | ((first | refine yx hN _ _ ?_ | refine yz hN _ _ ?_); clear hN N) | (refine sem29 _ _ _ ?_; try simp only [go_sem, ↓reduceIte, zA, zB, zC, zD, zE, zF, zG, zL, zM, zN, reduceCtorEq, p0, p4, e1]) | ((first | refine yq (fun h => ?_) (fun h => ?_) | (apply And.intro <;> intro h)) <;> (try simp only [zS, zT, zU, zV, Bool.not_true, Bool.not_false] at h) <;> (first | (exfalso; omega) | simp only [go_sem, ↓reduceIte, zA, zB, zC, zD, zE, zF, zG, zL, zM, zN, reduceCtorEq, p0, p4, e1, h] | skip)) | clear hN N | fail
      all_goals first
        | exact hk
        | (exfalso; apply hs; simp_all; omega)
  · have e1 : ¬ (x.kind : Int) = 1 := by omega
    have e2 : ¬ (x.kind : Int) = 2 := by omega
    have e3 : ¬ (x.kind : Int) = 3 := by omega
    have e4 : ¬ (x.kind : Int) = 4 := by omega
    simp only [k1, k2, k4, reduceIte] at hk
    refine Sem.of_body Tryz.call10 Tryz.func10 rfl Tryz.ntmps10 (by simp) ?_
    repeat' first | refine yj fun N hN => ?_ | refine yk ?_ | refine yl [] ?_ | ((first | refine ya rfl rfl fun N hN => ?_ | refine yb rfl rfl rfl rfl fun N hN => ?_ | refine ym ?_ | refine yo ?_); simp only [go_sem, ↓reduceIte, zA, zB, zC, zD, zE, zF, zG, zL, zM, zN, reduceCtorEq, p0, p4, e1, e2, e3, e4, Tryz.results10]) | ((first | refine yg rfl ?_ | refine yn ?_); try simp only [go_sem]) | ((first | refine yx hN _ _ ?_ | refine yz hN _ _ ?_); clear hN N) | fail
    all_goals exact hk
end Go.Proofs.YtddbidoaolnegaaGreatDoor
