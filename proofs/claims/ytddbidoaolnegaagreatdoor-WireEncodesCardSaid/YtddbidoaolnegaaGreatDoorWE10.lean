/-
PART OF A CLAIM: P5, P6. No statement of the seat is proved here; no condition. -/
import Derived.Test.YtddbidoaolnegaaGreatDoorWE9
set_option linter.all false
/- Terms: what they are; the walks over them by the reference. No statement of the seat is proved here; no condition. -/
namespace Go.Proofs.YtddbidoaolnegaaGreatDoor
open Go Go.RowKit
open Nat renaming reduceLT → zA, reduceEqDiff → zB, reduceBEq → zC, reduceAdd → zD, reduceMul → zE, reduceSub → zF, reduceLeDiff → zG, mul_one → zH, zero_add → zI, add_zero → zJ
open Int renaming toNat_natCast → zK, reduceAdd → zL, reduceLE → zM, reduceLT → zN, natCast_nonneg → zO
open Go.Proofs.YtddbidoaolnegaaGreatDoor renaming evI_plain → ya, evI_guard → yb, evT_rd → yc, evT_rdg → yd, evT_act → ye, evT_actg → yf, evI_done → yg, evT_two → yh, evT_nil → yi, W.seqG → yj, W.block → yk, W.regionI → yl, W.cond → ym, W.skip → yn, W.ret → yo, W.exit → yp, gdD_split → yq, newT_intro → yr, newB_intro → ys, W.draw → yt, St.set_del → yu, St.give_take → yv, AGo.go → yw, IGo.go → yx, TGo.go → yy, Goes.go → yz
attribute [local go_sem] zK zP zQ zH zI zJ zO
attribute [local irreducible] W evI evT evL evOp evBin gdD Sem newT newB fillD bldOf
set_option maxRecDepth 10000
set_option maxHeartbeats 1000000

theorem Lv.d_fine (l : Lv) : l.d.fine = true := rfl
theorem Lv.d_isAgg (l : Lv) : D.isAgg 5 l.d = true := by simp [Lv.d, D.isAgg, l.n]
theorem Lv.d_len (l : Lv) : l.d.cells.length = 5 := by simp [Lv.d, D.cells, l.n]
attribute [go_sem] Lv.d_fine Lv.d_isAgg Lv.d_len

inductive Tm where
  | mk (k : Nat) (n : Int) (s : List UInt8) (ls : List Lv) (ts : List Tm)
def Tm.k : Tm → Nat | .mk k _ _ _ _ => k
def Tm.n : Tm → Int | .mk _ n _ _ _ => n
def Tm.s : Tm → List UInt8 | .mk _ _ s _ _ => s
def Tm.ls : Tm → List Lv | .mk _ _ _ ls _ => ls
def Tm.ts : Tm → List Tm | .mk _ _ _ _ ts => ts
mutual
def Tm.d : Tm → D
  | .mk k n s ls ts => .agg [.int .u8 k, .int .i64 n, .str s, .sl .frozen 5 (ls.map Lv.d), .sl .frozen 5 (Tm.ds ts)]
def Tm.ds : List Tm → List D
  | [] => []
  | t :: ts => t.d :: Tm.ds ts
end
theorem Tm.ds_map : ∀ ts : List Tm, Tm.ds ts = ts.map Tm.d
  | [] => rfl
  | _ :: ts => by rw [Tm.ds, Tm.ds_map ts]; rfl
theorem Tm.d_eq (t : Tm) : t.d = .agg [.int .u8 t.k, .int .i64 t.n, .str t.s, .sl .frozen 5 (t.ls.map Lv.d), .sl .frozen 5 (t.ts.map Tm.d)] := by
  cases t; simp only [Tm.d, Tm.ds_map, Tm.k, Tm.n, Tm.s, Tm.ls, Tm.ts]

theorem Tm.d_fine (t : Tm) : t.d.fine = true := by rw [Tm.d_eq]; rfl
theorem Tm.d_isAgg (t : Tm) : D.isAgg 5 t.d = true := by rw [Tm.d_eq]; rfl
theorem Tm.d_len (t : Tm) : t.d.cells.length = 5 := by rw [Tm.d_eq]; rfl
attribute [go_sem] Tm.d_fine Tm.d_isAgg Tm.d_len

theorem kb {k : D → St → Prop} {a b : Bool} {st : St} (hk : k (.bool a) st) (h : a = b) : k (.bool b) st := h ▸ hk

/-- How many terms a kind has; -1 is no kind. -/
def kidsN (k : Nat) : Int := if k = 1 ∨ k = 2 ∨ k = 3 then 0 else if k = 4 ∨ k = 5 ∨ k = 6 then 2 else if k = 7 then 3 else if k = 8 then 1 else -1

theorem sem120 (c : Nat) (st : St) (k : D → St → Prop) (hk : k (.int .i64 (kidsN c)) st) : Sem P 120 [.int .u8 c] st k := by
  refine Sem.of_body Tryz.call120 Tryz.func120 rfl Tryz.ntmps120 (by simp) ?_
  repeat' first | refine yj fun N hN => ?_ | refine yk ?_ | refine yl [] ?_ | ((first | refine ya rfl rfl fun N hN => ?_ | refine ym ?_ | refine yo ?_); simp only [go_sem, ↓reduceIte, zA, zB, zC, zD, zE, zF, zG, zL, zM, zN, reduceCtorEq, Tryz.results120]) | ((first | refine yg rfl ?_ | refine yn ?_); try simp only [go_sem]) | ((first | refine yx hN _ _ ?_ | refine yz hN _ _ ?_); clear hN N) | ((apply And.intro <;> intro h) <;> (try simp only [zS, zT, zU, zV, Bool.not_true, Bool.not_false] at h) <;> (first | (exfalso; omega) | simp only [go_sem, ↓reduceIte, zA, zB, zC, zD, zE, zF, zG, zL, zM, zN, reduceCtorEq, h] | skip)) | clear hN N | fail
  all_goals (
    unfold kidsN at hk
    simp only [show (c = 1) ↔ ((c : Int) = 1) by omega, show (c = 2) ↔ ((c : Int) = 2) by omega, show (c = 3) ↔ ((c : Int) = 3) by omega, show (c = 4) ↔ ((c : Int) = 4) by omega, show (c = 5) ↔ ((c : Int) = 5) by omega, show (c = 6) ↔ ((c : Int) = 6) by omega, show (c = 7) ↔ ((c : Int) = 7) by omega, show (c = 8) ↔ ((c : Int) = 8) by omega] at hk
    simp_all)

/-- A node that may be. -/
def nodeB (t : Tm) : Bool :=
  decide (0 ≤ kidsN t.k) && decide ((t.ts.length : Int) = kidsN t.k) && t.ls.all lvB &&
  (if t.k = 3 ∨ t.k = 8 then nameB t.s else decide (t.s = [])) &&
  (if t.k = 2 then decide (0 ≤ t.n) && decide (t.n ≤ 1048576) else if t.k = 8 then decide (0 ≤ t.n) && decide (t.n < 12) else decide (t.n = 0)) &&
  (if t.k = 1 then decide (t.ls.length = 1) else if t.k = 3 then decide (t.ls.length ≤ 4) else decide (t.ls.length = 0))

theorem sem112 (t : Tm) (st : St) (k : D → St → Prop) (hs : t.s.length < 140737488355328) (hls : t.ls.length < 140737488355328) (hk : k (.bool (nodeB t)) st) : Sem P 112 [t.d] st k := by
  rw [Tm.d_eq]
  by_cases c1 : kidsN t.k < 0
  · rw [show nodeB t = false by (have h : ¬ 0 ≤ kidsN t.k := by omega); simp [nodeB, h]] at hk
    refine Sem.of_body Tryz.call112 Tryz.func112 rfl Tryz.ntmps112 (by simp) ?_
    repeat' first | refine yj fun N hN => ?_ | refine yl [] ?_ | ((first | refine ya rfl rfl fun N hN => ?_ | refine yd rfl rfl rfl rfl fun N hN => ?_ | refine ye rfl rfl fun N hN => ?_ | refine yf rfl rfl rfl rfl fun N hN => ?_ | (refine yw hN _ _ ?_; clear hN N) | refine ym ?_ | refine yo ?_); simp only [go_sem, ↓reduceIte, zA, zB, zC, zD, zE, zF, zG, zL, zM, zN, reduceCtorEq, c1, Tryz.results112]) | ((first | refine yg rfl ?_ | refine yi ?_); try simp only [go_sem]) | ((first | refine yx hN _ _ ?_ | refine yz hN _ _ ?_ | refine yy hN _ ?_); clear hN N) | refine yt (id := 1) mixed [] (.act 0 [] (.act 1 [] (.act 2 [] (.act 3 [] (.act 4 [] (.rd 5 (.rd 6 (.rd 7 (.act 8 [7, 6, 5] (.act 9 [7, 6, 5] (.act 10 [7, 6, 5] (.act 11 [] (.act 12 [] (.nil)))))))))))))) (by kernel_rfl) ?_ | (refine sem120 _ _ _ ?_; try simp only [go_sem, ↓reduceIte, zA, zB, zC, zD, zE, zF, zG, zL, zM, zN, reduceCtorEq, c1]) | clear hN N | fail
    all_goals exact hk
  by_cases c2 : (t.ts.length : Int) = kidsN t.k
  · refine Sem.of_body Tryz.call112 Tryz.func112 rfl Tryz.ntmps112 (by simp) ?_
    repeat' first | refine yj fun N hN => ?_ | refine yk ?_ | refine yl [] ?_ | ((first | refine ya rfl rfl fun N hN => ?_ | refine yd rfl rfl rfl rfl fun N hN => ?_ | refine ye rfl rfl fun N hN => ?_ | refine yf rfl rfl rfl rfl fun N hN => ?_ | (refine yw hN _ _ ?_; clear hN N) | refine ym ?_); simp only [go_sem, ↓reduceIte, zA, zB, zC, zD, zE, zF, zG, zL, zM, zN, reduceCtorEq, c1, c2, Tryz.results112]) | ((first | refine yg rfl ?_ | refine yn ?_ | refine yi ?_); try simp only [go_sem]) | ((first | refine yx hN _ _ ?_ | refine yz hN _ _ ?_ | refine yy hN _ ?_); clear hN N) | refine yt (id := 1) mixed [] (.act 0 [] (.act 1 [] (.act 2 [] (.act 3 [] (.act 4 [] (.rd 5 (.rd 6 (.rd 7 (.act 8 [7, 6, 5] (.act 9 [7, 6, 5] (.act 10 [7, 6, 5] (.act 11 [] (.act 12 [] (.nil)))))))))))))) (by kernel_rfl) ?_ | (refine sem120 _ _ _ ?_; try simp only [go_sem, ↓reduceIte, zA, zB, zC, zD, zE, zF, zG, zL, zM, zN, reduceCtorEq, c1, c2]) | fail
    refine W.loopN (fun m fr st' => st' = st ∧ ∃ i, i + m = t.ls.length ∧ (∀ j, j < i → lvB (t.ls.getD j ⟨0, [0, 0, 0, 0], rfl⟩) = true) ∧ fr 3 = .int .i64 i ∧ fr 1 = .eptr (.agg [.int .u8 t.k, .int .i64 t.n, .str t.s, .sl .frozen 5 (t.ls.map Lv.d), .sl .frozen 5 (t.ts.map Tm.d)]) 0) ?_ t.ls.length _ _ ⟨rfl, 0, by simp, by simp, by simp only [go_sem, ↓reduceIte, zA, zB, zC, zD, zE, zF, zG, zL, zM, zN, reduceCtorEq]; rfl, by simp only [go_sem, ↓reduceIte, zA, zB, zC, zD, zE, zF, zG, zL, zM, zN, reduceCtorEq]⟩
    rintro m N' ih fr _ ⟨rfl, i, hi, hl, f3, f1⟩
    rcases Nat.lt_or_ge i t.ls.length with hlt | hge
    · have hg : (t.ls.map Lv.d).getD i .any = (t.ls.getD i ⟨0, [0, 0, 0, 0], rfl⟩).d := getD_map _ _ _ hlt
      have h4 : (i : Int) < t.ls.length := by omega
      repeat' first | refine yj fun N hN => ?_ | refine yk ?_ | refine yl [] ?_ | ((first | refine ya rfl rfl fun N hN => ?_ | refine ym ?_ | refine yo ?_); simp only [go_sem, ↓reduceIte, zA, zB, zC, zD, zE, zF, zG, zL, zM, zN, reduceCtorEq, f3, f1, hg, hlt, h4, Tryz.results112]) | ((first | refine yg rfl ?_ | refine yn ?_); try simp only [go_sem]) | ((first | refine yx hN _ _ ?_ | refine yz hN _ _ ?_); clear hN N) | (refine sem113 _ _ _ ?_; try simp only [go_sem, ↓reduceIte, zA, zB, zC, zD, zE, zF, zG, zL, zM, zN, reduceCtorEq, f3, f1, hg, hlt, h4]) | ((apply And.intro <;> intro h) <;> (try simp only [zS, zT, zU, zV, Bool.not_true, Bool.not_false] at h) <;> (first | (exfalso; omega) | simp only [go_sem, ↓reduceIte, zA, zB, zC, zD, zE, zF, zG, zL, zM, zN, reduceCtorEq, f3, f1, hg, hlt, h4, h] | skip)) | (refine And.intro ?_ ?_; · omega) | clear hN N | fail
      all_goals first
        | (refine ih.back (m - 1) ?_ _ _ ⟨rfl, i + 1, ?_, lt_succ_all hl h, ?_, ?_⟩
           · omega
           · omega
           · simp only [go_sem, ↓reduceIte, zA, zB, zC, zD, zE, zF, zG, zL, zM, zN, reduceCtorEq]; rfl
           · simp only [go_sem, ↓reduceIte, zA, zB, zC, zD, zE, zF, zG, zL, zM, zN, reduceCtorEq, f1])
        | (have hb : t.ls.all lvB = false := by
             rw [List.all_eq_false]
             exact ⟨t.ls.getD i ⟨0, [0, 0, 0, 0], rfl⟩, by simp [List.getD, hlt], by rw [h]; simp⟩
           rw [show nodeB t = false by simp [nodeB, hb]] at hk; exact hk)
    · have h4 : ¬ (i : Int) < t.ls.length := by omega
      have hall : t.ls.all lvB = true := by
        rw [List.all_eq_true]
        intro c hc
        obtain ⟨j, hj, rfl⟩ := List.getElem_of_mem hc
        have := hl j (by omega)
        simpa [List.getD, hj] using this
      have hn : nodeB t = ((if t.k = 3 ∨ t.k = 8 then nameB t.s else decide (t.s = [])) && (if t.k = 2 then decide (0 ≤ t.n) && decide (t.n ≤ 1048576) else if t.k = 8 then decide (0 ≤ t.n) && decide (t.n < 12) else decide (t.n = 0)) &&
          (if t.k = 1 then decide (t.ls.length = 1) else if t.k = 3 then decide (t.ls.length ≤ 4) else decide (t.ls.length = 0))) := by
        simp only [nodeB, hall, c2, show 0 ≤ kidsN t.k by omega, decide_true, Bool.true_and]
      rw [hn] at hk
      have hkk : t.k = 1 ∨ t.k = 2 ∨ t.k = 3 ∨ t.k = 4 ∨ t.k = 5 ∨ t.k = 6 ∨ t.k = 7 ∨ t.k = 8 := by
        unfold kidsN at c1
        split at c1
        · omega
        · split at c1
          · omega
          · split at c1
            · omega
            · split at c1 <;> omega
      clear hn c1 c2 hl hall ih
      rcases hkk with e | e | e | e | e | e | e | e
      · have ei : (t.k : Int) = 1 := by omega
        simp only [e, Nat.reduceEqDiff, reduceIte, true_or, or_true, or_self, false_or, or_false] at hk
        repeat' first | refine yj fun N hN => ?_ | refine yk ?_ | refine yl [] ?_ | ((first | refine ya rfl rfl fun N hN => ?_ | refine yb rfl rfl rfl rfl fun N hN => ?_ | refine ym ?_ | refine yo ?_ | refine yp ?_); simp only [go_sem, ↓reduceIte, zA, zB, zC, zD, zE, zF, zG, zL, zM, zN, reduceCtorEq, f3, f1, h4, ei, Tryz.results112]) | (refine yg rfl ?_; try simp only [go_sem]) | ((first | refine yx hN _ _ ?_ | refine yz hN _ _ ?_); clear hN N) | (refine yq (fun h => ?_) (fun h => ?_) <;> (try simp only [zS, zT, zU, zV, Bool.not_true, Bool.not_false] at h) <;> (first | (exfalso; omega) | simp only [go_sem, ↓reduceIte, zA, zB, zC, zD, zE, zF, zG, zL, zM, zN, reduceCtorEq, f3, f1, h4, ei, h] | skip)) | clear hN N | fail
        all_goals (refine kb hk ?_; simp_all <;> omega)
      · have ei : (t.k : Int) = 2 := by omega
        simp only [e, Nat.reduceEqDiff, reduceIte, true_or, or_true, or_self, false_or, or_false] at hk
        repeat' first | refine yj fun N hN => ?_ | refine yk ?_ | refine yl [] ?_ | ((first | refine ya rfl rfl fun N hN => ?_ | refine yb rfl rfl rfl rfl fun N hN => ?_ | refine ym ?_ | refine yo ?_ | refine yp ?_); simp only [go_sem, ↓reduceIte, zA, zB, zC, zD, zE, zF, zG, zL, zM, zN, reduceCtorEq, f3, f1, h4, ei, Tryz.results112]) | (refine yg rfl ?_; try simp only [go_sem]) | ((first | refine yx hN _ _ ?_ | refine yz hN _ _ ?_); clear hN N) | ((first | refine yq (fun h => ?_) (fun h => ?_) | (apply And.intro <;> intro h)) <;> (try simp only [zS, zT, zU, zV, Bool.not_true, Bool.not_false] at h) <;> (first | (exfalso; omega) | simp only [go_sem, ↓reduceIte, zA, zB, zC, zD, zE, zF, zG, zL, zM, zN, reduceCtorEq, f3, f1, h4, ei, h] | skip)) | clear hN N | fail
        all_goals (refine kb hk ?_; simp_all <;> omega)
      · have ei : (t.k : Int) = 3 := by omega
        simp only [e, Nat.reduceEqDiff, reduceIte, true_or, or_true, or_self, false_or, or_false] at hk
        repeat' first | refine yj fun N hN => ?_ | refine yk ?_ | refine yl [] ?_ | ((first | refine ya rfl rfl fun N hN => ?_ | refine yb rfl rfl rfl rfl fun N hN => ?_ | refine ym ?_ | refine yo ?_ | refine yp ?_); simp only [go_sem, ↓reduceIte, zA, zB, zC, zD, zE, zF, zG, zL, zM, zN, reduceCtorEq, f3, f1, h4, ei, Tryz.results112]) | (refine yg rfl ?_; try simp only [go_sem]) | ((first | refine yx hN _ _ ?_ | refine yz hN _ _ ?_); clear hN N) | (refine sem27 _ _ _ hs ?_; try simp only [go_sem, ↓reduceIte, zA, zB, zC, zD, zE, zF, zG, zL, zM, zN, reduceCtorEq, f3, f1, h4, ei]) | ((first | refine yq (fun h => ?_) (fun h => ?_) | (apply And.intro <;> intro h)) <;> (try simp only [zS, zT, zU, zV, Bool.not_true, Bool.not_false] at h) <;> (first | (exfalso; omega) | simp only [go_sem, ↓reduceIte, zA, zB, zC, zD, zE, zF, zG, zL, zM, zN, reduceCtorEq, f3, f1, h4, ei, h] | skip)) | clear hN N | fail
        all_goals (refine kb hk ?_; simp_all <;> omega)
      · have ei : (t.k : Int) = 4 := by omega
        simp only [e, Nat.reduceEqDiff, reduceIte, true_or, or_true, or_self, false_or, or_false] at hk
        repeat' first | refine yj fun N hN => ?_ | refine yk ?_ | refine yl [] ?_ | ((first | refine ya rfl rfl fun N hN => ?_ | refine yb rfl rfl rfl rfl fun N hN => ?_ | refine ym ?_ | refine yo ?_ | refine yp ?_); simp only [go_sem, ↓reduceIte, zA, zB, zC, zD, zE, zF, zG, zL, zM, zN, reduceCtorEq, f3, f1, h4, ei, Tryz.results112]) | ((first | refine yg rfl ?_ | refine yn ?_); try simp only [go_sem]) | ((first | refine yx hN _ _ ?_ | refine yz hN _ _ ?_); clear hN N) | ((first | refine yq (fun h => ?_) (fun h => ?_) | (apply And.intro <;> intro h)) <;> (try simp only [zS, zT, zU, zV, Bool.not_true, Bool.not_false] at h) <;> (first | (exfalso; omega) | simp only [go_sem, ↓reduceIte, zA, zB, zC, zD, zE, zF, zG, zL, zM, zN, reduceCtorEq, f3, f1, h4, ei, h] | skip)) | clear hN N | fail
        all_goals (refine kb hk ?_; simp_all <;> omega)
      · have ei : (t.k : Int) = 5 := by omega
        simp only [e, Nat.reduceEqDiff, reduceIte, true_or, or_true, or_self, false_or, or_false] at hk
        repeat' first | refine yj fun N hN => ?_ | refine yk ?_ | refine yl [] ?_ | ((first | refine ya rfl rfl fun N hN => ?_ | refine yb rfl rfl rfl rfl fun N hN => ?_ | refine ym ?_ | refine yo ?_ | refine yp ?_); simp only [go_sem, ↓reduceIte, zA, zB, zC, zD, zE, zF, zG, zL, zM, zN, reduceCtorEq, f3, f1, h4, ei, Tryz.results112]) | ((first | refine yg rfl ?_ | refine yn ?_); try simp only [go_sem]) | ((first | refine yx hN _ _ ?_ | refine yz hN _ _ ?_); clear hN N) | ((first | refine yq (fun h => ?_) (fun h => ?_) | (apply And.intro <;> intro h)) <;> (try simp only [zS, zT, zU, zV, Bool.not_true, Bool.not_false] at h) <;> (first | (exfalso; omega) | simp only [go_sem, ↓reduceIte, zA, zB, zC, zD, zE, zF, zG, zL, zM, zN, reduceCtorEq, f3, f1, h4, ei, h] | skip)) | clear hN N | fail
        all_goals (refine kb hk ?_; simp_all <;> omega)
      · have ei : (t.k : Int) = 6 := by omega
        simp only [e, Nat.reduceEqDiff, reduceIte, true_or, or_true, or_self, false_or, or_false] at hk
        repeat' first | refine yj fun N hN => ?_ | refine yk ?_ | refine yl [] ?_ | ((first | refine ya rfl rfl fun N hN => ?_ | refine yb rfl rfl rfl rfl fun N hN => ?_ | refine ym ?_ | refine yo ?_ | refine yp ?_); simp only [go_sem, ↓reduceIte, zA, zB, zC, zD, zE, zF, zG, zL, zM, zN, reduceCtorEq, f3, f1, h4, ei, Tryz.results112]) | ((first | refine yg rfl ?_ | refine yn ?_); try simp only [go_sem]) | ((first | refine yx hN _ _ ?_ | refine yz hN _ _ ?_); clear hN N) | ((first | refine yq (fun h => ?_) (fun h => ?_) | (apply And.intro <;> intro h)) <;> (try simp only [zS, zT, zU, zV, Bool.not_true, Bool.not_false] at h) <;> (first | (exfalso; omega) | simp only [go_sem, ↓reduceIte, zA, zB, zC, zD, zE, zF, zG, zL, zM, zN, reduceCtorEq, f3, f1, h4, ei, h] | skip)) | clear hN N | fail
        all_goals (refine kb hk ?_; simp_all <;> omega)
      · have ei : (t.k : Int) = 7 := by omega
        simp only [e, Nat.reduceEqDiff, reduceIte, true_or, or_true, or_self, false_or, or_false] at hk
        repeat' first | refine yj fun N hN => ?_ | refine yk ?_ | refine yl [] ?_ | ((first | refine ya rfl rfl fun N hN => ?_ | refine yb rfl rfl rfl rfl fun N hN => ?_ | refine ym ?_ | refine yo ?_ | refine yp ?_); simp only [go_sem, ↓reduceIte, zA, zB, zC, zD, zE, zF, zG, zL, zM, zN, reduceCtorEq, f3, f1, h4, ei, Tryz.results112]) | ((first | refine yg rfl ?_ | refine yn ?_); try simp only [go_sem]) | ((first | refine yx hN _ _ ?_ | refine yz hN _ _ ?_); clear hN N) | ((first | refine yq (fun h => ?_) (fun h => ?_) | (apply And.intro <;> intro h)) <;> (try simp only [zS, zT, zU, zV, Bool.not_true, Bool.not_false] at h) <;> (first | (exfalso; omega) | simp only [go_sem, ↓reduceIte, zA, zB, zC, zD, zE, zF, zG, zL, zM, zN, reduceCtorEq, f3, f1, h4, ei, h] | skip)) | clear hN N | fail
        all_goals (refine kb hk ?_; simp_all <;> omega)
      · have ei : (t.k : Int) = 8 := by omega
        simp only [e, Nat.reduceEqDiff, reduceIte, true_or, or_true, or_self, false_or, or_false] at hk
        repeat' first | refine yj fun N hN => ?_ | refine yk ?_ | refine yl [] ?_ | ((first | refine ya rfl rfl fun N hN => ?_ | refine yb rfl rfl rfl rfl fun N hN => ?_ | refine ym ?_ | refine yo ?_ | refine yp ?_); simp only [go_sem, ↓reduceIte, zA, zB, zC, zD, zE, zF, zG, zL, zM, zN, reduceCtorEq, f3, f1, h4, ei, Tryz.results112]) | (refine yg rfl ?_; try simp only [go_sem]) | ((first | refine yx hN _ _ ?_ | refine yz hN _ _ ?_); clear hN N) | (refine sem27 _ _ _ hs ?_; try simp only [go_sem, ↓reduceIte, zA, zB, zC, zD, zE, zF, zG, zL, zM, zN, reduceCtorEq, f3, f1, h4, ei]) | ((first | refine yq (fun h => ?_) (fun h => ?_) | (apply And.intro <;> intro h)) <;> (try simp only [zS, zT, zU, zV, Bool.not_true, Bool.not_false] at h) <;> (first | (exfalso; omega) | simp only [go_sem, ↓reduceIte, zA, zB, zC, zD, zE, zF, zG, zL, zM, zN, reduceCtorEq, f3, f1, h4, ei, h] | skip)) | clear hN N | fail
        all_goals (refine kb hk ?_; simp_all <;> omega)
  · rw [show nodeB t = false by simp [nodeB, c2]] at hk
    refine Sem.of_body Tryz.call112 Tryz.func112 rfl Tryz.ntmps112 (by simp) ?_
    repeat' first | refine yj fun N hN => ?_ | refine yl [] ?_ | ((first | refine ya rfl rfl fun N hN => ?_ | refine yd rfl rfl rfl rfl fun N hN => ?_ | refine ye rfl rfl fun N hN => ?_ | refine yf rfl rfl rfl rfl fun N hN => ?_ | (refine yw hN _ _ ?_; clear hN N) | refine ym ?_ | refine yo ?_); simp only [go_sem, ↓reduceIte, zA, zB, zC, zD, zE, zF, zG, zL, zM, zN, reduceCtorEq, c1, c2, Tryz.results112]) | ((first | refine yg rfl ?_ | refine yi ?_); try simp only [go_sem]) | ((first | refine yx hN _ _ ?_ | refine yz hN _ _ ?_ | refine yy hN _ ?_); clear hN N) | refine yt (id := 1) mixed [] (.act 0 [] (.act 1 [] (.act 2 [] (.act 3 [] (.act 4 [] (.rd 5 (.rd 6 (.rd 7 (.act 8 [7, 6, 5] (.act 9 [7, 6, 5] (.act 10 [7, 6, 5] (.act 11 [] (.act 12 [] (.nil)))))))))))))) (by kernel_rfl) ?_ | (refine sem120 _ _ _ ?_; try simp only [go_sem, ↓reduceIte, zA, zB, zC, zD, zE, zF, zG, zL, zM, zN, reduceCtorEq, c1, c2]) | clear hN N | fail
    all_goals exact hk
end Go.Proofs.YtddbidoaolnegaaGreatDoor
/- Terms by the reference: how great, how deep, which may be: the walks. No statement of the seat is proved here; no condition. -/
namespace Go.Proofs.YtddbidoaolnegaaGreatDoor
open Go Go.RowKit
open Nat renaming reduceLT → zA, reduceEqDiff → zB, reduceBEq → zC, reduceAdd → zD, reduceMul → zE, reduceSub → zF, reduceLeDiff → zG, mul_one → zH, zero_add → zI, add_zero → zJ
open Int renaming toNat_natCast → zK, reduceAdd → zL, reduceLE → zM, reduceLT → zN, natCast_nonneg → zO
open Go.Proofs.YtddbidoaolnegaaGreatDoor renaming evI_plain → ya, evI_guard → yb, evT_rd → yc, evT_rdg → yd, evT_act → ye, evT_actg → yf, evI_done → yg, evT_two → yh, evT_nil → yi, W.seqG → yj, W.block → yk, W.regionI → yl, W.cond → ym, W.skip → yn, W.ret → yo, W.exit → yp, gdD_split → yq, newT_intro → yr, newB_intro → ys, W.draw → yt, St.set_del → yu, St.give_take → yv, AGo.go → yw, IGo.go → yx, TGo.go → yy, Goes.go → yz
attribute [local go_sem] zK zP zQ zH zI zJ zO
attribute [local irreducible] W evI evT evL evOp evBin gdD Sem newT newB fillD bldOf
set_option maxRecDepth 10000
set_option maxHeartbeats 1000000

theorem Tm.d_cells (t : Tm) : t.d.cells = [.int .u8 t.k, .int .i64 t.n, .str t.s, .sl .frozen 5 (t.ls.map Lv.d), .sl .frozen 5 (t.ts.map Tm.d)] := by rw [Tm.d_eq]; rfl
theorem Lv.d_cells (l : Lv) : l.d.cells = .int .i64 l.c :: l.p.map (.int .i64) := rfl
attribute [go_sem] Tm.d_cells Lv.d_cells
def Tm.z : Tm := .mk 0 0 [] [] []
def Lv.z : Lv := ⟨0, [0, 0, 0, 0], rfl⟩

theorem Tm.ind {p : Tm → Prop} (h : ∀ k n s ls ts, (∀ t ∈ ts, p t) → p (.mk k n s ls ts)) : ∀ t, p t :=
  Tm.rec (motive_1 := p) (motive_2 := fun ts => ∀ t ∈ ts, p t) (fun k n s ls ts ih => h k n s ls ts ih) (by simp) (fun t ts h1 h2 x hx => by
    rcases List.mem_cons.1 hx with rfl | hx
    · exact h1
    · exact h2 x hx)

def Lv.wf (l : Lv) : Prop := -9223372036854775808 ≤ l.c ∧ l.c ≤ 9223372036854775807 ∧ ∀ i, i < 4 → -9223372036854775808 ≤ l.p.getD i 0 ∧ l.p.getD i 0 ≤ 9223372036854775807
mutual
def Tm.wf : Tm → Prop
  | .mk k n s ls ts => k < 256 ∧ (-9223372036854775808 ≤ n ∧ n ≤ 9223372036854775807) ∧ s.length < 140737488355328 ∧ ls.length < 140737488355328 ∧ ts.length < 140737488355328 ∧ (∀ l ∈ ls, l.wf) ∧ Tm.wfs ts
def Tm.wfs : List Tm → Prop
  | [] => True
  | t :: ts => t.wf ∧ Tm.wfs ts
end
theorem Tm.wfs_iff : ∀ {ts : List Tm}, Tm.wfs ts ↔ ∀ t ∈ ts, t.wf
  | [] => by simp [Tm.wfs]
  | t :: ts => by simp [Tm.wfs, Tm.wfs_iff (ts := ts)]
structure Tm.Wf (t : Tm) : Prop where
  k : t.k < 256
  n : -9223372036854775808 ≤ t.n ∧ t.n ≤ 9223372036854775807
  s : t.s.length < 140737488355328
  ls : t.ls.length < 140737488355328
  ts : t.ts.length < 140737488355328
  lv : ∀ l ∈ t.ls, l.wf
  tm : ∀ x ∈ t.ts, x.wf
theorem Tm.wf.to {t : Tm} (h : t.wf) : t.Wf := by
  cases t
  simp only [Tm.wf, Tm.wfs_iff] at h
  exact ⟨h.1, h.2.1, h.2.2.1, h.2.2.2.1, h.2.2.2.2.1, h.2.2.2.2.2.1, h.2.2.2.2.2.2⟩

theorem drop_getD {α : Type} (l : List α) (a : α) {i : Nat} (h : i < l.length) : l.drop i = l.getD i a :: l.drop (i + 1) := by
  rw [List.drop_eq_getElem_cons h]; simp [List.getD, h]
theorem getD_mem {α : Type} (l : List α) (a : α) {i : Nat} (h : i < l.length) : l.getD i a ∈ l := by
  simp [List.getD, h]

mutual
def mayG (q : Tm → Bool) : Tm → Int → Int → Int
  | .mk k n s ls ts, l, d => if l - 1 < 0 ∨ d ≤ 0 ∨ q (.mk k n s ls ts) = false then -1 else mayGs q ts (l - 1) (d - 1)
def mayGs (q : Tm → Bool) : List Tm → Int → Int → Int
  | [], l, _ => l
  | t :: ts, l, d => if mayG q t l d < 0 then -1 else mayGs q ts (mayG q t l d) d
end
theorem mayG_eq (q : Tm → Bool) (t : Tm) (l d : Int) : mayG q t l d = if l - 1 < 0 ∨ d ≤ 0 ∨ q t = false then -1 else mayGs q t.ts (l - 1) (d - 1) := by
  cases t; rw [mayG]; rfl

mutual
theorem mayG_le (q : Tm → Bool) : ∀ (t : Tm) (l d : Int), 0 ≤ l → -1 ≤ mayG q t l d ∧ mayG q t l d ≤ l
  | .mk k n s ls ts, l, d, h => by
    rw [mayG]
    split
    · omega
    · have := mayGs_le q ts (l - 1) (d - 1) (by omega); omega
theorem mayGs_le (q : Tm → Bool) : ∀ (ts : List Tm) (l d : Int), 0 ≤ l → -1 ≤ mayGs q ts l d ∧ mayGs q ts l d ≤ l
  | [], l, d, h => by rw [mayGs]; omega
  | t :: ts, l, d, h => by
    rw [mayGs]
    have h1 := mayG_le q t l d h
    split
    · omega
    · have := mayGs_le q ts (mayG q t l d) d (by omega); omega
end

theorem sem100 : ∀ (t : Tm), t.wf → ∀ (l d : Int) (st : St) (k : D → St → Prop), 0 ≤ l → l ≤ 1000000000 → 0 ≤ d → d ≤ 1000000000 → k (.int .i64 (mayG nodeB t l d)) st → Sem P 100 [t.d, .int .i64 l, .int .i64 d] st k := by
  intro t
  induction t using Tm.ind with
  | h k n s ls ts ihT =>
    intro hw l d st k' hl0 hl1 hd0 hd1 hk
    have wt := hw.to
    generalize he : Tm.mk k n s ls ts = t at *
    have hts : ts = t.ts := by rw [← he]; rfl
    rw [hts] at ihT
    clear he hts
    rw [mayG_eq] at hk
    by_cases c1 : l - 1 < 0
    · simp only [c1, true_or, reduceIte] at hk
      refine Sem.of_body Tryz.call100 Tryz.func100 rfl Tryz.ntmps100 (by simp) ?_
      repeat' first | refine yj fun N hN => ?_ | refine yl [] ?_ | ((first | refine ya rfl rfl fun N hN => ?_ | refine yb rfl rfl rfl rfl fun N hN => ?_ | refine ym ?_ | refine yo ?_); simp only [go_sem, ↓reduceIte, zA, zB, zC, zD, zE, zF, zG, zL, zM, zN, reduceCtorEq, c1, Tryz.results100]) | (refine yg rfl ?_; try simp only [go_sem]) | ((first | refine yx hN _ _ ?_ | refine yz hN _ _ ?_); clear hN N) | (refine And.intro ?_ ?_; · omega) | clear hN N | fail
      all_goals exact hk
    by_cases c2 : d ≤ 0
    · simp only [c1, c2, true_or, or_true, false_or, reduceIte] at hk
      refine Sem.of_body Tryz.call100 Tryz.func100 rfl Tryz.ntmps100 (by simp) ?_
      repeat' first | refine yj fun N hN => ?_ | refine yl [] ?_ | ((first | refine ya rfl rfl fun N hN => ?_ | refine yb rfl rfl rfl rfl fun N hN => ?_ | refine ym ?_ | refine yo ?_); simp only [go_sem, ↓reduceIte, zA, zB, zC, zD, zE, zF, zG, zL, zM, zN, reduceCtorEq, c1, c2, Tryz.results100]) | (refine yg rfl ?_; try simp only [go_sem]) | ((first | refine yx hN _ _ ?_ | refine yz hN _ _ ?_); clear hN N) | (refine And.intro ?_ ?_; · omega) | clear hN N | fail
      all_goals exact hk
    by_cases c3 : nodeB t = true
    · simp only [c1, c2, c3, or_self, Bool.true_eq_false, reduceIte] at hk
      refine Sem.of_body Tryz.call100 Tryz.func100 rfl Tryz.ntmps100 (by simp) ?_
      repeat' first | refine yj fun N hN => ?_ | refine yk ?_ | refine yl [] ?_ | ((first | refine ya rfl rfl fun N hN => ?_ | refine yb rfl rfl rfl rfl fun N hN => ?_ | refine ym ?_); simp only [go_sem, ↓reduceIte, zA, zB, zC, zD, zE, zF, zG, zL, zM, zN, reduceCtorEq, c1, c2, c3, Tryz.results100]) | ((first | refine yg rfl ?_ | refine yn ?_); try simp only [go_sem]) | ((first | refine yx hN _ _ ?_ | refine yz hN _ _ ?_); clear hN N) | (refine sem112 t _ _ wt.s wt.ls ?_; try simp only [go_sem, ↓reduceIte, zA, zB, zC, zD, zE, zF, zG, zL, zM, zN, reduceCtorEq, c1, c2, c3]) | (refine And.intro ?_ ?_; · omega) | fail
      refine W.loopN (fun m fr st' => st' = st ∧ ∃ i l', i + m = t.ts.length ∧ 0 ≤ l' ∧ l' ≤ l ∧ mayGs nodeB (t.ts.drop i) l' (d - 1) = mayGs nodeB t.ts (l - 1) (d - 1) ∧ fr 7 = .int .i64 i ∧ fr 1 = .int .i64 l' ∧ fr 2 = .int .i64 d ∧ fr 3 = .eptr t.d 0) ?_ t.ts.length _ _ ⟨rfl, 0, l - 1, by simp, by omega, by omega, by simp, by simp only [go_sem, ↓reduceIte, zA, zB, zC, zD, zE, zF, zG, zL, zM, zN, reduceCtorEq]; rfl, by simp only [go_sem, ↓reduceIte, zA, zB, zC, zD, zE, zF, zG, zL, zM, zN, reduceCtorEq], by simp only [go_sem, ↓reduceIte, zA, zB, zC, zD, zE, zF, zG, zL, zM, zN, reduceCtorEq], by simp only [go_sem, ↓reduceIte, zA, zB, zC, zD, zE, zF, zG, zL, zM, zN, reduceCtorEq]⟩
      rintro m N' ih fr _ ⟨rfl, i, l', hi, b1, b2, he, f7, f1, f2, f3⟩
      have hts := wt.ts
      rcases Nat.lt_or_ge i t.ts.length with hlt | hge
      · have hg : (t.ts.map Tm.d).getD i .any = (t.ts.getD i Tm.z).d := getD_map _ _ _ hlt
        have h4 : (i : Int) < t.ts.length := by omega
        rw [drop_getD _ Tm.z hlt, mayGs] at he
        have hm := getD_mem t.ts Tm.z hlt
        have hle := mayG_le nodeB (t.ts.getD i Tm.z) l' (d - 1) b1
        repeat' first | refine yj fun N hN => ?_ | refine yk ?_ | refine yl [] ?_ | ((first | refine ya rfl rfl fun N hN => ?_ | refine ym ?_ | refine yo ?_); simp only [go_sem, ↓reduceIte, zA, zB, zC, zD, zE, zF, zG, zL, zM, zN, reduceCtorEq, f7, f1, f2, f3, hg, hlt, h4, Tryz.results100]) | ((first | refine yg rfl ?_ | refine yn ?_); try simp only [go_sem]) | ((first | refine yx hN _ _ ?_ | refine yz hN _ _ ?_); clear hN N) | (refine ihT _ hm (wt.tm _ hm) _ _ _ _ b1 (by omega) (by omega) (by omega) ?_; try simp only [go_sem, ↓reduceIte, zA, zB, zC, zD, zE, zF, zG, zL, zM, zN, reduceCtorEq, f7, f1, f2, f3, hg, hlt, h4]) | ((apply And.intro <;> intro h) <;> (try simp only [zS, zT, zU, zV, Bool.not_true, Bool.not_false] at h) <;> (first | (exfalso; omega) | simp only [go_sem, ↓reduceIte, zA, zB, zC, zD, zE, zF, zG, zL, zM, zN, reduceCtorEq, f7, f1, f2, f3, hg, hlt, h4, h] | skip)) | (refine And.intro ?_ ?_; · omega) | clear hN N | fail
        · rw [← he, if_pos h] at hk; exact hk
        · rw [if_neg h] at he
          refine ih.back (m - 1) (by omega) _ _ ⟨rfl, i + 1, _, by omega, by omega, by omega, he, ?_, ?_, ?_, ?_⟩
          · simp only [go_sem, ↓reduceIte, zA, zB, zC, zD, zE, zF, zG, zL, zM, zN, reduceCtorEq]; rfl
          · simp only [go_sem, ↓reduceIte, zA, zB, zC, zD, zE, zF, zG, zL, zM, zN, reduceCtorEq]
          · simp only [go_sem, ↓reduceIte, zA, zB, zC, zD, zE, zF, zG, zL, zM, zN, reduceCtorEq, f2]
          · simp only [go_sem, ↓reduceIte, zA, zB, zC, zD, zE, zF, zG, zL, zM, zN, reduceCtorEq, f3]
      · have h4 : ¬ (i : Int) < t.ts.length := by omega
        rw [List.drop_of_length_le hge, mayGs] at he
        repeat' first | refine yj fun N hN => ?_ | refine yl [] ?_ | ((first | refine ya rfl rfl fun N hN => ?_ | refine ym ?_ | refine yo ?_ | refine yp ?_); simp only [go_sem, ↓reduceIte, zA, zB, zC, zD, zE, zF, zG, zL, zM, zN, reduceCtorEq, f7, f1, f2, f3, h4, Tryz.results100]) | (refine yg rfl ?_; try simp only [go_sem]) | ((first | refine yx hN _ _ ?_ | refine yz hN _ _ ?_); clear hN N) | clear hN N | fail
        all_goals (rw [he]; exact hk)
    · have c4 : nodeB t = false := by simpa using c3
      simp only [c1, c2, c4, or_true, reduceIte] at hk
      refine Sem.of_body Tryz.call100 Tryz.func100 rfl Tryz.ntmps100 (by simp) ?_
      repeat' first | refine yj fun N hN => ?_ | refine yl [] ?_ | ((first | refine ya rfl rfl fun N hN => ?_ | refine yb rfl rfl rfl rfl fun N hN => ?_ | refine ym ?_ | refine yo ?_); simp only [go_sem, ↓reduceIte, zA, zB, zC, zD, zE, zF, zG, zL, zM, zN, reduceCtorEq, c1, c2, c4, Tryz.results100]) | (refine yg rfl ?_; try simp only [go_sem]) | ((first | refine yx hN _ _ ?_ | refine yz hN _ _ ?_); clear hN N) | (refine sem112 t _ _ wt.s wt.ls ?_; try simp only [go_sem, ↓reduceIte, zA, zB, zC, zD, zE, zF, zG, zL, zM, zN, reduceCtorEq, c1, c2, c4]) | (refine And.intro ?_ ?_; · omega) | clear hN N | fail
      all_goals exact hk

theorem sem63 (t : Tm) (hw : t.wf) (st : St) (k : D → St → Prop) (hk : k (.bool (decide (0 ≤ mayG nodeB t 65536 4096))) st) : Sem P 63 [t.d] st k := by
  refine Sem.of_body Tryz.call63 Tryz.func63 rfl Tryz.ntmps63 (by simp) ?_
  repeat' first | refine yj fun N hN => ?_ | refine yl [] ?_ | ((first | refine ya rfl rfl fun N hN => ?_ | refine yo ?_); simp only [go_sem, ↓reduceIte, zA, zB, zC, zD, zE, zF, zG, zL, zM, zN, reduceCtorEq, Tryz.results63]) | (refine yg rfl ?_; try simp only [go_sem]) | ((first | refine yx hN _ _ ?_ | refine yz hN _ _ ?_); clear hN N) | (refine sem100 t hw _ _ _ _ (by omega) (by omega) (by omega) (by omega) ?_; try simp only [go_sem, ↓reduceIte, zA, zB, zC, zD, zE, zF, zG, zL, zM, zN, reduceCtorEq]) | fail
  all_goals exact hk

/-! How many nodes; how deep. -/
mutual
def Tm.size : Tm → Nat
  | .mk _ _ _ _ ts => 1 + Tm.sizes ts
def Tm.sizes : List Tm → Nat
  | [] => 0
  | t :: ts => t.size + Tm.sizes ts
end
mutual
def Tm.deep : Tm → Nat
  | .mk _ _ _ _ ts => Tm.deeps ts + 1
def Tm.deeps : List Tm → Nat
  | [] => 0
  | t :: ts => max t.deep (Tm.deeps ts)
end
theorem Tm.size_eq (t : Tm) : t.size = 1 + Tm.sizes t.ts := by cases t; rw [Tm.size]; rfl
theorem Tm.deep_eq (t : Tm) : t.deep = Tm.deeps t.ts + 1 := by cases t; rw [Tm.deep]; rfl
theorem Tm.sizes_mem : ∀ {ts : List Tm} {t : Tm}, t ∈ ts → t.size ≤ Tm.sizes ts
  | [], _, h => by simp at h
  | x :: ts, t, h => by
    rw [Tm.sizes]
    rcases List.mem_cons.1 h with rfl | h
    · omega
    · have := Tm.sizes_mem h; omega
theorem Tm.deeps_le_sizes : ∀ {ts : List Tm}, (∀ t ∈ ts, t.deep ≤ t.size) → Tm.deeps ts ≤ Tm.sizes ts
  | [], _ => by simp [Tm.deeps, Tm.sizes]
  | t :: ts, h => by
    rw [Tm.deeps, Tm.sizes]
    have h1 := h t (by simp)
    have h2 := Tm.deeps_le_sizes (ts := ts) (fun x hx => h x (by simp [hx]))
    omega
theorem Tm.deep_le_size (t : Tm) : t.deep ≤ t.size := by
  induction t using Tm.ind with
  | h k n s ls ts ih =>
    rw [Tm.deep, Tm.size]
    have := Tm.deeps_le_sizes ih; omega

theorem sem45 : ∀ (t : Tm), t.wf → ∀ (st : St) (k : D → St → Prop), t.size < 1000000000 → k (.int .i64 t.size) st → Sem P 45 [t.d] st k := by
  intro t
  induction t using Tm.ind with
  | h k n s ls ts ihT =>
    intro hw st k' hsz hk
    have wt := hw.to
    generalize he : Tm.mk k n s ls ts = t at *
    have hts : ts = t.ts := by rw [← he]; rfl
    rw [hts] at ihT
    clear he hts
    rw [Tm.size_eq] at hk hsz
    refine Sem.of_body Tryz.call45 Tryz.func45 rfl Tryz.ntmps45 (by simp) ?_
    repeat' first | refine yj fun N hN => ?_ | refine yk ?_ | refine yl [] ?_ | (refine ya rfl rfl fun N hN => ?_; simp only [go_sem, ↓reduceIte, zA, zB, zC, zD, zE, zF, zG, zL, zM, zN, reduceCtorEq, Tryz.results45]) | (refine yg rfl ?_; try simp only [go_sem]) | ((first | refine yx hN _ _ ?_ | refine yz hN _ _ ?_); clear hN N) | fail
    refine W.loopN (fun m fr st' => st' = st ∧ ∃ i l' : Nat, i + m = t.ts.length ∧ l' + Tm.sizes (t.ts.drop i) = 1 + Tm.sizes t.ts ∧ fr 4 = .int .i64 i ∧ fr 3 = .int .i64 l' ∧ fr 1 = .eptr t.d 0) ?_ t.ts.length _ _ ⟨rfl, 0, 1, by simp, by simp, by simp only [go_sem, ↓reduceIte, zA, zB, zC, zD, zE, zF, zG, zL, zM, zN, reduceCtorEq]; rfl, by simp only [go_sem, ↓reduceIte, zA, zB, zC, zD, zE, zF, zG, zL, zM, zN, reduceCtorEq]; rfl, by simp only [go_sem, ↓reduceIte, zA, zB, zC, zD, zE, zF, zG, zL, zM, zN, reduceCtorEq]⟩
    rintro m N' ih fr _ ⟨rfl, i, l', hi, he, f4, f3, f1⟩
    have hts := wt.ts
    rcases Nat.lt_or_ge i t.ts.length with hlt | hge
    · have hg : (t.ts.map Tm.d).getD i .any = (t.ts.getD i Tm.z).d := getD_map _ _ _ hlt
      have h4 : (i : Int) < t.ts.length := by omega
      rw [drop_getD _ Tm.z hlt, Tm.sizes] at he
      have hm := getD_mem t.ts Tm.z hlt
      repeat' first | refine yj fun N hN => ?_ | refine yk ?_ | refine yl [] ?_ | ((first | refine ya rfl rfl fun N hN => ?_ | refine ym ?_); simp only [go_sem, ↓reduceIte, zA, zB, zC, zD, zE, zF, zG, zL, zM, zN, reduceCtorEq, f4, f3, f1, hg, hlt, h4, Tryz.results45]) | ((first | refine yg rfl ?_ | refine yn ?_); try simp only [go_sem]) | ((first | refine yx hN _ _ ?_ | refine yz hN _ _ ?_); clear hN N) | (refine ihT _ hm (wt.tm _ hm) _ _ (by omega) ?_; try simp only [go_sem, ↓reduceIte, zA, zB, zC, zD, zE, zF, zG, zL, zM, zN, reduceCtorEq, f4, f3, f1, hg, hlt, h4]) | (refine And.intro ?_ ?_; · omega) | clear hN N | fail
      refine ih.back (m - 1) (by omega) _ _ ⟨rfl, i + 1, l' + (t.ts.getD i Tm.z).size, by omega, by omega, ?_, ?_, ?_⟩
      · simp only [go_sem, ↓reduceIte, zA, zB, zC, zD, zE, zF, zG, zL, zM, zN, reduceCtorEq]; rfl
      · simp only [go_sem, ↓reduceIte, zA, zB, zC, zD, zE, zF, zG, zL, zM, zN, reduceCtorEq]; rfl
      · simp only [go_sem, ↓reduceIte, zA, zB, zC, zD, zE, zF, zG, zL, zM, zN, reduceCtorEq, f1]
    · have h4 : ¬ (i : Int) < t.ts.length := by omega
      rw [List.drop_of_length_le hge, Tm.sizes] at he
      repeat' first | refine yj fun N hN => ?_ | refine yl [] ?_ | ((first | refine ya rfl rfl fun N hN => ?_ | refine ym ?_ | refine yo ?_ | refine yp ?_); simp only [go_sem, ↓reduceIte, zA, zB, zC, zD, zE, zF, zG, zL, zM, zN, reduceCtorEq, f4, f3, f1, h4, Tryz.results45]) | (refine yg rfl ?_; try simp only [go_sem]) | ((first | refine yx hN _ _ ?_ | refine yz hN _ _ ?_); clear hN N) | clear hN N | fail
      all_goals (have e : l' = 1 + Tm.sizes t.ts := by omega
                 rw [e]; exact hk)

theorem sem64 : ∀ (t : Tm), t.wf → ∀ (st : St) (k : D → St → Prop), t.size < 1000000000 → k (.int .i64 t.deep) st → Sem P 64 [t.d] st k := by
  intro t
  induction t using Tm.ind with
  | h k n s ls ts ihT =>
    intro hw st k' hsz hk
    have wt := hw.to
    generalize he : Tm.mk k n s ls ts = t at *
    have hts : ts = t.ts := by rw [← he]; rfl
    rw [hts] at ihT
    clear he hts
    have hds := Tm.deep_le_size t
    rw [Tm.deep_eq] at hk hds
    have hsz' := hsz
    rw [Tm.size_eq] at hsz
    refine Sem.of_body Tryz.call64 Tryz.func64 rfl Tryz.ntmps64 (by simp) ?_
    repeat' first | refine yj fun N hN => ?_ | refine yk ?_ | refine yl [] ?_ | (refine ya rfl rfl fun N hN => ?_; simp only [go_sem, ↓reduceIte, zA, zB, zC, zD, zE, zF, zG, zL, zM, zN, reduceCtorEq, Tryz.results64]) | (refine yg rfl ?_; try simp only [go_sem]) | ((first | refine yx hN _ _ ?_ | refine yz hN _ _ ?_); clear hN N) | fail
    refine W.loopN (fun m fr st' => st' = st ∧ ∃ i l' : Nat, i + m = t.ts.length ∧ max l' (Tm.deeps (t.ts.drop i)) = Tm.deeps t.ts ∧ fr 4 = .int .i64 i ∧ fr 3 = .int .i64 l' ∧ fr 1 = .eptr t.d 0) ?_ t.ts.length _ _ ⟨rfl, 0, 0, by simp, by simp, by simp only [go_sem, ↓reduceIte, zA, zB, zC, zD, zE, zF, zG, zL, zM, zN, reduceCtorEq]; rfl, by simp only [go_sem, ↓reduceIte, zA, zB, zC, zD, zE, zF, zG, zL, zM, zN, reduceCtorEq]; rfl, by simp only [go_sem, ↓reduceIte, zA, zB, zC, zD, zE, zF, zG, zL, zM, zN, reduceCtorEq]⟩
    rintro m N' ih fr _ ⟨rfl, i, l', hi, he, f4, f3, f1⟩
    have hts := wt.ts
    rcases Nat.lt_or_ge i t.ts.length with hlt | hge
    · have hg : (t.ts.map Tm.d).getD i .any = (t.ts.getD i Tm.z).d := getD_map _ _ _ hlt
      have h4 : (i : Int) < t.ts.length := by omega
      rw [drop_getD _ Tm.z hlt, Tm.deeps] at he
      have hm := getD_mem t.ts Tm.z hlt
      have hms := Tm.sizes_mem hm
      repeat' first | refine yj fun N hN => ?_ | refine yk ?_ | refine yl [] ?_ | ((first | refine ya rfl rfl fun N hN => ?_ | refine ym ?_); simp only [go_sem, ↓reduceIte, zA, zB, zC, zD, zE, zF, zG, zL, zM, zN, reduceCtorEq, f4, f3, f1, hg, hlt, h4, Tryz.results64]) | ((first | refine yg rfl ?_ | refine yn ?_); try simp only [go_sem]) | ((first | refine yx hN _ _ ?_ | refine yz hN _ _ ?_); clear hN N) | (refine ihT _ hm (wt.tm _ hm) _ _ (by omega) ?_; try simp only [go_sem, ↓reduceIte, zA, zB, zC, zD, zE, zF, zG, zL, zM, zN, reduceCtorEq, f4, f3, f1, hg, hlt, h4]) | (refine And.intro ?_ ?_; · omega) | clear hN N | fail
      refine ih.back (m - 1) (by omega) _ _ ⟨rfl, i + 1, max l' (t.ts.getD i Tm.z).deep, by omega, by omega, ?_, ?_, ?_⟩
      · simp only [go_sem, ↓reduceIte, zA, zB, zC, zD, zE, zF, zG, zL, zM, zN, reduceCtorEq]; rfl
      · simp only [go_sem, ↓reduceIte, zA, zB, zC, zD, zE, zF, zG, zL, zM, zN, reduceCtorEq]; congr 1; omega
      · simp only [go_sem, ↓reduceIte, zA, zB, zC, zD, zE, zF, zG, zL, zM, zN, reduceCtorEq, f1]
    · have h4 : ¬ (i : Int) < t.ts.length := by omega
      rw [List.drop_of_length_le hge, Tm.deeps] at he
      repeat' first | refine yj fun N hN => ?_ | refine yl [] ?_ | ((first | refine ya rfl rfl fun N hN => ?_ | refine ym ?_ | refine yo ?_ | refine yp ?_); simp only [go_sem, ↓reduceIte, zA, zB, zC, zD, zE, zF, zG, zL, zM, zN, reduceCtorEq, f4, f3, f1, h4, Tryz.results64]) | (refine yg rfl ?_; try simp only [go_sem]) | ((first | refine yx hN _ _ ?_ | refine yz hN _ _ ?_); clear hN N) | (refine And.intro ?_ ?_; · omega) | clear hN N | fail
      all_goals (have e : l' = Tm.deeps t.ts := by omega
                 rw [e]; exact hk)

/-! The levels of all nodes. -/
def lvD (l : Lv) : Bool := lvB l && l.p.all (fun n => decide (n ≤ 64)) && decide (l.c ≤ 64)
mutual
def lvsB : Tm → Bool
  | .mk _ _ _ ls ts => ls.all lvD && lvssB ts
def lvssB : List Tm → Bool
  | [] => true
  | t :: ts => lvsB t && lvssB ts
end
theorem lvsB_eq (t : Tm) : lvsB t = (t.ls.all lvD && lvssB t.ts) := by cases t; rw [lvsB]; rfl
theorem lvssB_all : ∀ (ts : List Tm), lvssB ts = ts.all lvsB
  | [] => rfl
  | t :: ts => by rw [lvssB, lvssB_all ts]; rfl
theorem all_badG {α : Type} {p : List α} (z : α) {q : α → Bool} {i : Nat} (hi : i < p.length) (h : q (p.getD i z) = false) : p.all q = false := by
  rw [List.all_eq_false]
  exact ⟨p.getD i z, by simp [List.getD, hi], by rw [h]; simp⟩
theorem all_goodG {α : Type} {p : List α} (z : α) {q : α → Bool} (h : ∀ j, j < p.length → q (p.getD j z) = true) : p.all q = true := by
  rw [List.all_eq_true]
  intro c hc
  obtain ⟨j, hj, rfl⟩ := List.getElem_of_mem hc
  have := h j hj
  simpa [List.getD, hj] using this

theorem sem65 : ∀ (t : Tm), t.wf → ∀ (st : St) (k : D → St → Prop), k (.bool (lvsB t)) st → Sem P 65 [t.d] st k := by
  intro t
  induction t using Tm.ind with
  | h k n s ls ts ihT =>
    intro hw st k' hk
    have wt := hw.to
    generalize he : Tm.mk k n s ls ts = t at *
    have hts : ts = t.ts := by rw [← he]; rfl
    rw [hts] at ihT
    clear he hts
    rw [lvsB_eq, lvssB_all] at hk
    have hts := wt.ts
    have hls := wt.ls
    refine Sem.of_body Tryz.call65 Tryz.func65 rfl Tryz.ntmps65 (by simp) ?_
    repeat' first | refine yj fun N hN => ?_ | refine yk ?_ | refine yl [] ?_ | (refine ya rfl rfl fun N hN => ?_; simp only [go_sem, ↓reduceIte, zA, zB, zC, zD, zE, zF, zG, zL, zM, zN, reduceCtorEq, Tryz.results65]) | (refine yg rfl ?_; try simp only [go_sem]) | ((first | refine yx hN _ _ ?_ | refine yz hN _ _ ?_); clear hN N) | fail
    refine W.loopN (fun m fr st' => st = st' ∧ ∃ i : Nat, i + m = t.ls.length ∧ (∀ j, j < i → lvD (t.ls.getD j Lv.z) = true) ∧ fr 3 = .int .i64 i ∧ fr 1 = .eptr t.d 0) ?_ t.ls.length _ _ ⟨rfl, 0, by simp, by simp, by simp only [go_sem, ↓reduceIte, zA, zB, zC, zD, zE, zF, zG, zL, zM, zN, reduceCtorEq]; rfl, by simp only [go_sem, ↓reduceIte, zA, zB, zC, zD, zE, zF, zG, zL, zM, zN, reduceCtorEq]⟩
    rintro m N' ih fr _ ⟨rfl, i, hi, hal, f3, f1⟩
    rcases Nat.lt_or_ge i t.ls.length with hlt | hge
    · have hg : (t.ls.map Lv.d).getD i .any = (t.ls.getD i Lv.z).d := getD_map _ _ _ hlt
      have h4 : (i : Int) < t.ls.length := by omega
      cases hl : lvD (t.ls.getD i Lv.z) with
      | true =>
        repeat' first | refine yj fun N hN => ?_ | refine yk ?_ | refine yl [] ?_ | ((first | refine ya rfl rfl fun N hN => ?_ | refine ym ?_); simp only [go_sem, ↓reduceIte, zA, zB, zC, zD, zE, zF, zG, zL, zM, zN, reduceCtorEq, f3, f1, hg, hlt, h4, hl, Tryz.results65]) | ((first | refine yg rfl ?_ | refine yn ?_); try simp only [go_sem]) | ((first | refine yx hN _ _ ?_ | refine yz hN _ _ ?_); clear hN N) | (refine sem101 _ _ _ ?_; rw [← lvD]; try simp only [go_sem, ↓reduceIte, zA, zB, zC, zD, zE, zF, zG, zL, zM, zN, reduceCtorEq, f3, f1, hg, hlt, h4, hl]) | (refine And.intro ?_ ?_; · omega) | clear hN N | fail
        refine ih.back (m - 1) (by omega) _ _ ⟨rfl, i + 1, by omega, lt_succ_all hal hl, ?_, ?_⟩
        · simp only [go_sem, ↓reduceIte, zA, zB, zC, zD, zE, zF, zG, zL, zM, zN, reduceCtorEq]; rfl
        · simp only [go_sem, ↓reduceIte, zA, zB, zC, zD, zE, zF, zG, zL, zM, zN, reduceCtorEq, f1]
      | false =>
        repeat' first | refine yj fun N hN => ?_ | refine yk ?_ | refine yl [] ?_ | ((first | refine ya rfl rfl fun N hN => ?_ | refine ym ?_ | refine yo ?_); simp only [go_sem, ↓reduceIte, zA, zB, zC, zD, zE, zF, zG, zL, zM, zN, reduceCtorEq, f3, f1, hg, hlt, h4, hl, Tryz.results65]) | ((first | refine yg rfl ?_ | refine yn ?_); try simp only [go_sem]) | ((first | refine yx hN _ _ ?_ | refine yz hN _ _ ?_); clear hN N) | (refine sem101 _ _ _ ?_; rw [← lvD]; try simp only [go_sem, ↓reduceIte, zA, zB, zC, zD, zE, zF, zG, zL, zM, zN, reduceCtorEq, f3, f1, hg, hlt, h4, hl]) | clear hN N | fail
        all_goals (rw [all_badG Lv.z hlt hl, Bool.false_and] at hk; exact hk)
    · have h4 : ¬ (i : Int) < t.ls.length := by omega
      rw [all_goodG Lv.z (fun j hj => hal j (by omega)), Bool.true_and] at hk
      repeat' first | refine yj fun N hN => ?_ | refine yk ?_ | refine yl [] ?_ | ((first | refine ya rfl rfl fun N hN => ?_ | refine ym ?_ | refine yp ?_); simp only [go_sem, ↓reduceIte, zA, zB, zC, zD, zE, zF, zG, zL, zM, zN, reduceCtorEq, f3, f1, h4, Tryz.results65]) | (refine yg rfl ?_; try simp only [go_sem]) | ((first | refine yx hN _ _ ?_ | refine yz hN _ _ ?_); clear hN N) | clear hN N | fail
      clear ih f3 h4 hal hi hge
      refine W.loopN (fun m fr st' => st = st' ∧ ∃ i : Nat, i + m = t.ts.length ∧ (∀ j, j < i → lvsB (t.ts.getD j Tm.z) = true) ∧ fr 4 = .int .i64 i ∧ fr 1 = .eptr t.d 0) ?_ t.ts.length _ _ ⟨rfl, 0, by simp, by simp, by simp only [go_sem, ↓reduceIte, zA, zB, zC, zD, zE, zF, zG, zL, zM, zN, reduceCtorEq]; rfl, by simp only [go_sem, ↓reduceIte, zA, zB, zC, zD, zE, zF, zG, zL, zM, zN, reduceCtorEq, f1]⟩
      rintro m N' ih fr _ ⟨rfl, i, hi, hal, f4, f1⟩
      rcases Nat.lt_or_ge i t.ts.length with hlt | hge
      · have hg : (t.ts.map Tm.d).getD i .any = (t.ts.getD i Tm.z).d := getD_map _ _ _ hlt
        have h4 : (i : Int) < t.ts.length := by omega
        have hm := getD_mem t.ts Tm.z hlt
        cases hl : lvsB (t.ts.getD i Tm.z) with
        | true =>
          repeat' first | refine yj fun N hN => ?_ | refine yk ?_ | refine yl [] ?_ | ((first | refine ya rfl rfl fun N hN => ?_ | refine ym ?_); simp only [go_sem, ↓reduceIte, zA, zB, zC, zD, zE, zF, zG, zL, zM, zN, reduceCtorEq, f4, f1, hg, hlt, h4, hl, Tryz.results65]) | ((first | refine yg rfl ?_ | refine yn ?_); try simp only [go_sem]) | ((first | refine yx hN _ _ ?_ | refine yz hN _ _ ?_); clear hN N) | (refine ihT _ hm (wt.tm _ hm) _ _ ?_; try simp only [go_sem, ↓reduceIte, zA, zB, zC, zD, zE, zF, zG, zL, zM, zN, reduceCtorEq, f4, f1, hg, hlt, h4, hl]) | (refine And.intro ?_ ?_; · omega) | clear hN N | fail
          refine ih.back (m - 1) (by omega) _ _ ⟨rfl, i + 1, by omega, lt_succ_all hal hl, ?_, ?_⟩
          · simp only [go_sem, ↓reduceIte, zA, zB, zC, zD, zE, zF, zG, zL, zM, zN, reduceCtorEq]; rfl
          · simp only [go_sem, ↓reduceIte, zA, zB, zC, zD, zE, zF, zG, zL, zM, zN, reduceCtorEq, f1]
        | false =>
          repeat' first | refine yj fun N hN => ?_ | refine yk ?_ | refine yl [] ?_ | ((first | refine ya rfl rfl fun N hN => ?_ | refine ym ?_ | refine yo ?_); simp only [go_sem, ↓reduceIte, zA, zB, zC, zD, zE, zF, zG, zL, zM, zN, reduceCtorEq, f4, f1, hg, hlt, h4, hl, Tryz.results65]) | ((first | refine yg rfl ?_ | refine yn ?_); try simp only [go_sem]) | ((first | refine yx hN _ _ ?_ | refine yz hN _ _ ?_); clear hN N) | (refine ihT _ hm (wt.tm _ hm) _ _ ?_; try simp only [go_sem, ↓reduceIte, zA, zB, zC, zD, zE, zF, zG, zL, zM, zN, reduceCtorEq, f4, f1, hg, hlt, h4, hl]) | clear hN N | fail
          all_goals (rw [all_badG Tm.z hlt hl] at hk; exact hk)
      · have h4 : ¬ (i : Int) < t.ts.length := by omega
        rw [all_goodG Tm.z (fun j hj => hal j (by omega))] at hk
        repeat' first | refine yj fun N hN => ?_ | refine yl [] ?_ | ((first | refine ya rfl rfl fun N hN => ?_ | refine ym ?_ | refine yo ?_ | refine yp ?_); simp only [go_sem, ↓reduceIte, zA, zB, zC, zD, zE, zF, zG, zL, zM, zN, reduceCtorEq, f4, f1, h4, Tryz.results65]) | (refine yg rfl ?_; try simp only [go_sem]) | ((first | refine yx hN _ _ ?_ | refine yz hN _ _ ?_); clear hN N) | clear hN N | fail
        all_goals exact hk
end Go.Proofs.YtddbidoaolnegaaGreatDoor
