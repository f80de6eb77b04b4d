/-
WireEncodes answers true at every list of declarations, and leaves it as it was: the tied card, by the program's text. Conditions: those of the given card and no others (the package-level variable errors.errorType starts as the program's text lays it; each string and slice within the form's reach).
-/
import Derived.Test.YtddbidoaolnegaaGreatDoorWE22
import Derived.Test.YtddbidoaolnegaaGreatDoorWE25
import Derived.Test.YtddbidoaolnegaaGreatDoorWE26
import Derived.Test.YtddbidoaolnegaaGreatDoorWE29
set_option linter.all false
/- WireEncodes: the walk of its function, off works'. No statement of the seat is proved here; no condition. -/
namespace Go.Proofs.YtddbidoaolnegaaGreatDoor
open Go Go.RowKit
open Nat renaming reduceLT → zA, reduceEqDiff → zB, reduceBEq → zC, reduceAdd → zD, reduceMul → zE, reduceSub → zF, reduceLeDiff → zG, mul_one → zH, zero_add → zI, add_zero → zJ
open Int renaming toNat_natCast → zK, reduceAdd → zL, reduceLE → zM, reduceLT → zN, natCast_nonneg → zO
open Go.Proofs.YtddbidoaolnegaaGreatDoor renaming evI_plain → ya, evI_guard → yb, evT_rd → yc, evT_rdg → yd, evT_act → ye, evT_actg → yf, evI_done → yg, evT_two → yh, evT_nil → yi, W.seqG → yj, W.block → yk, W.regionI → yl, W.cond → ym, W.skip → yn, W.ret → yo, W.exit → yp, gdD_split → yq, newT_intro → yr, newB_intro → ys, W.draw → yt, St.set_del → yu, St.give_take → yv, AGo.go → yw, IGo.go → yx, TGo.go → yy, Goes.go → yz
attribute [local go_sem] zK zP zQ zH zI zJ zO
attribute [local irreducible] W evI evT evL evOp evBin gdD Sem newT newB fillD bldOf
set_option maxRecDepth 10000
set_option maxHeartbeats 4000000


section
variable (sem6 : ∀ (st : St) (k : D → St → Prop), (∀ st', k (.bool true) st') → Sem P 6 [] st k)
include sem6
theorem sem3_of (l : List De) (hw : ∀ a ∈ l, a.Wf) (hlen : l.length < 140737488355328) (st : St) (k : D → St → Prop) (hk : ∀ st', k (.bool true) st') : Sem P 3 [.sl .frozen 15 (l.map De.d)] st k := by
  by_cases c1 : 256 < l.length
  · have e1 : (256 : Int) < l.length := by omega
    have e2 : ¬ (l.length : Int) ≤ 256 := by omega
    cases cv : vastB l 40 600
    all_goals (
      refine Sem.of_body Tryz.call3 Tryz.func3 rfl Tryz.ntmps3 (by simp) ?_
      repeat' first | refine yj fun N hN => ?_ | refine yl [] ?_ | ((first | refine ya rfl rfl fun N hN => ?_ | refine yb rfl rfl rfl rfl fun N hN => ?_ | refine ym ?_ | refine yo ?_); simp only [go_sem, ↓reduceIte, zA, zB, zC, zD, zE, zF, zG, zL, zM, zN, reduceCtorEq, cv, e1, e2, Tryz.results3]) | ((first | refine yg rfl ?_ | refine yn ?_); try simp only [go_sem]) | ((first | refine yx hN _ _ ?_ | refine yz hN _ _ ?_); clear hN N) | (refine sem5 _ l 40 600 _ _ hw (by omega) ?_; try simp only [go_sem, ↓reduceIte, zA, zB, zC, zD, zE, zF, zG, zL, zM, zN, reduceCtorEq, cv, e1, e2]) | (refine Sem.frzT (sem7 _ l hw hlen (fun h => absurd h (by omega)) _ _ (fun _ st' => ⟨_, _, _, _, rfl, .inl ⟨rfl, rfl⟩, ?_⟩) (fun h => absurd h (by omega)) (fun h => absurd h (by omega)) (fun h => absurd h (by omega))); try simp only [go_sem, ↓reduceIte, zA, zB, zC, zD, zE, zF, zG, zL, zM, zN, reduceCtorEq, cv, e1, e2]) | (refine sem6 _ _ fun st' => ?_; try simp only [go_sem, ↓reduceIte, zA, zB, zC, zD, zE, zF, zG, zL, zM, zN, reduceCtorEq, cv, e1, e2]) | (refine yq (fun h => ?_) (fun h => ?_) <;> (try simp only [zS, zT, zU, zV, Bool.not_true, Bool.not_false] at h) <;> (first | (exfalso; omega) | simp only [go_sem, ↓reduceIte, zA, zB, zC, zD, zE, zF, zG, zL, zM, zN, reduceCtorEq, cv, e1, e2, h] | skip)) | clear hN N | fail
      exact hk _)
  have e1 : ¬ (256 : Int) < l.length := by omega
  have e2 : (l.length : Int) ≤ 256 := by omega
  cases cv : vastB l 40 600 with
  | true =>
    refine Sem.of_body Tryz.call3 Tryz.func3 rfl Tryz.ntmps3 (by simp) ?_
    repeat' first | refine yj fun N hN => ?_ | refine yl [] ?_ | ((first | refine ya rfl rfl fun N hN => ?_ | refine yb rfl rfl rfl rfl fun N hN => ?_ | refine ym ?_ | refine yo ?_); simp only [go_sem, ↓reduceIte, zA, zB, zC, zD, zE, zF, zG, zL, zM, zN, reduceCtorEq, cv, e1, e2, Tryz.results3]) | (refine yg rfl ?_; try simp only [go_sem]) | ((first | refine yx hN _ _ ?_ | refine yz hN _ _ ?_); clear hN N) | (refine sem5 _ l 40 600 _ _ hw (by omega) ?_; try simp only [go_sem, ↓reduceIte, zA, zB, zC, zD, zE, zF, zG, zL, zM, zN, reduceCtorEq, cv, e1, e2]) | (refine sem6 _ _ fun st' => ?_; try simp only [go_sem, ↓reduceIte, zA, zB, zC, zD, zE, zF, zG, zL, zM, zN, reduceCtorEq, cv, e1, e2]) | clear hN N | fail
    exact hk _
  | false =>
    have hc := cost_vast cv
    cases ca : l.all declB with
    | false =>
      refine Sem.of_body Tryz.call3 Tryz.func3 rfl Tryz.ntmps3 (by simp) ?_
      repeat' first | refine yj fun N hN => ?_ | refine yk ?_ | refine yl [] ?_ | ((first | refine ya rfl rfl fun N hN => ?_ | refine yb rfl rfl rfl rfl fun N hN => ?_ | refine ym ?_); simp only [go_sem, ↓reduceIte, zA, zB, zC, zD, zE, zF, zG, zL, zM, zN, reduceCtorEq, cv, e1, e2, Tryz.results3]) | ((first | refine yg rfl ?_ | refine yn ?_); try simp only [go_sem]) | ((first | refine yx hN _ _ ?_ | refine yz hN _ _ ?_); clear hN N) | (refine sem5 _ l 40 600 _ _ hw (by omega) ?_; try simp only [go_sem, ↓reduceIte, zA, zB, zC, zD, zE, zF, zG, zL, zM, zN, reduceCtorEq, cv, e1, e2]) | (refine Sem.frzT (sem7 _ l hw hlen (fun _ _ => hc) _ _ (fun h => absurd h (by omega)) (fun _ _ st' => ⟨_, _, _, _, rfl, .inl ⟨rfl, rfl⟩, ?_⟩) (fun _ h => absurd h (by rw [ca]; simp)) (fun _ h => absurd h (by rw [ca]; simp))); try simp only [go_sem, ↓reduceIte, zA, zB, zC, zD, zE, zF, zG, zL, zM, zN, reduceCtorEq, cv, e1, e2]) | (refine Sem.frzT (sem8 _ l hw hlen (fun _ _ => hc) _ _ (fun h => absurd h (by omega)) (fun _ _ st' => ⟨_, _, _, _, rfl, .inl ⟨rfl, rfl⟩, ?_⟩) (fun _ h => absurd h (by rw [ca]; simp)) (fun _ h => absurd h (by rw [ca]; simp))); try simp only [go_sem, ↓reduceIte, zA, zB, zC, zD, zE, zF, zG, zL, zM, zN, reduceCtorEq, cv, e1, e2]) | fail
      refine W.loopN (fun m fr st' => ∃ i : Nat, i + m = l.length ∧ fr 7 = .int .i64 i ∧ fr 0 = .sl .frozen 15 (l.map De.d) ∧ fr 3 = .sl .frozen 1 [] ∧ fr 4 = .int .i64 1 ∧ fr 5 = .sl .frozen 1 [] ∧ fr 6 = .int .i64 1) ?_ l.length _ _
        ⟨0, by simp, by simp only [go_sem, ↓reduceIte, zA, zB, zC, zD, zE, zF, zG, zL, zM, zN, reduceCtorEq]; rfl, by simp only [go_sem, ↓reduceIte, zA, zB, zC, zD, zE, zF, zG, zL, zM, zN, reduceCtorEq], by simp only [go_sem, ↓reduceIte, zA, zB, zC, zD, zE, zF, zG, zL, zM, zN, reduceCtorEq], by simp only [go_sem, ↓reduceIte, zA, zB, zC, zD, zE, zF, zG, zL, zM, zN, reduceCtorEq], by simp only [go_sem, ↓reduceIte, zA, zB, zC, zD, zE, zF, zG, zL, zM, zN, reduceCtorEq], by simp only [go_sem, ↓reduceIte, zA, zB, zC, zD, zE, zF, zG, zL, zM, zN, reduceCtorEq]⟩
      rintro m N' ih fr st' ⟨i, hi, f7, f0, f3, f4, f5, f6⟩
      rcases Nat.lt_or_ge i l.length with hlt | hge
      · have hg : (l.map De.d).getD i .any = (l.getD i De.z).d := getD_map _ _ _ hlt
        have i4 : (i : Int) < l.length := by omega
        have hmx := getD_mem l De.z hlt
        repeat' first | refine yj fun N hN => ?_ | refine yk ?_ | refine yl [] ?_ | ((first | refine ya rfl rfl fun N hN => ?_ | refine yc rfl rfl fun N hN => ?_ | refine ye rfl rfl fun N hN => ?_ | (refine yw hN _ _ ?_; clear hN N) | refine ym ?_); simp only [go_sem, ↓reduceIte, zA, zB, zC, zD, zE, zF, zG, zL, zM, zN, reduceCtorEq, f7, f0, hg, hlt, i4, Tryz.results3]) | ((first | refine yg rfl ?_ | refine yn ?_ | refine yi ?_); try simp only [go_sem]) | ((first | refine yx hN _ _ ?_ | refine yz hN _ _ ?_ | refine yy hN _ ?_); clear hN N) | refine yt (id := 10) mixed [] (.rd 0 (.rd 1 (.rd 2 (.rd 3 (.rd 5 (.rd 6 (.rd 7 (.rd 8 (.act 4 [8, 7, 6, 5] (.act 9 [] (.act 10 [] (.nil)))))))))))) (by kernel_rfl) ?_ | (refine sem9 _ (hw _ hmx) _ _ ?_; try simp only [go_sem, ↓reduceIte, zA, zB, zC, zD, zE, zF, zG, zL, zM, zN, reduceCtorEq, f7, f0, hg, hlt, i4]) | (refine sem10 _ (hw _ hmx) _ _ ?_; try simp only [go_sem, ↓reduceIte, zA, zB, zC, zD, zE, zF, zG, zL, zM, zN, reduceCtorEq, f7, f0, hg, hlt, i4]) | (refine And.intro ?_ ?_; · omega) | clear hN N | fail
        refine ih.back (m - 1) (by omega) _ _ ⟨i + 1, by omega, ?_, ?_, ?_, ?_, ?_, ?_⟩
        · simp only [go_sem, ↓reduceIte, zA, zB, zC, zD, zE, zF, zG, zL, zM, zN, reduceCtorEq]; rfl
        · simp only [go_sem, ↓reduceIte, zA, zB, zC, zD, zE, zF, zG, zL, zM, zN, reduceCtorEq, f0]
        · simp only [go_sem, ↓reduceIte, zA, zB, zC, zD, zE, zF, zG, zL, zM, zN, reduceCtorEq, f3]
        · simp only [go_sem, ↓reduceIte, zA, zB, zC, zD, zE, zF, zG, zL, zM, zN, reduceCtorEq, f4]
        · simp only [go_sem, ↓reduceIte, zA, zB, zC, zD, zE, zF, zG, zL, zM, zN, reduceCtorEq, f5]
        · simp only [go_sem, ↓reduceIte, zA, zB, zC, zD, zE, zF, zG, zL, zM, zN, reduceCtorEq, f6]
      · have i4 : ¬ (i : Int) < l.length := by omega
        repeat' first | refine yj fun N hN => ?_ | refine yl [] ?_ | ((first | refine ya rfl rfl fun N hN => ?_ | refine yb rfl rfl rfl rfl fun N hN => ?_ | refine ym ?_ | refine yo ?_ | refine yp ?_); simp only [go_sem, ↓reduceIte, zA, zB, zC, zD, zE, zF, zG, zL, zM, zN, reduceCtorEq, f7, f0, f3, f4, f5, f6, i4, bytesOf, Tryz.results3]) | (refine yg rfl ?_; try simp only [go_sem]) | ((first | refine yx hN _ _ ?_ | refine yz hN _ _ ?_); clear hN N) | (refine sem6 _ _ fun st' => ?_; try simp only [go_sem, ↓reduceIte, zA, zB, zC, zD, zE, zF, zG, zL, zM, zN, reduceCtorEq, f7, f0, f3, f4, f5, f6, i4, bytesOf]) | clear hN N | fail
        all_goals exact hk _
    | true =>
      by_cases cb : encBig l
      · refine Sem.of_body Tryz.call3 Tryz.func3 rfl Tryz.ntmps3 (by simp) ?_
        repeat' first | refine yj fun N hN => ?_ | refine yk ?_ | refine yl [] ?_ | ((first | refine ya rfl rfl fun N hN => ?_ | refine yb rfl rfl rfl rfl fun N hN => ?_ | refine ym ?_); simp only [go_sem, ↓reduceIte, zA, zB, zC, zD, zE, zF, zG, zL, zM, zN, reduceCtorEq, cv, e1, e2, Tryz.results3]) | ((first | refine yg rfl ?_ | refine yn ?_); try simp only [go_sem]) | ((first | refine yx hN _ _ ?_ | refine yz hN _ _ ?_); clear hN N) | (refine sem5 _ l 40 600 _ _ hw (by omega) ?_; try simp only [go_sem, ↓reduceIte, zA, zB, zC, zD, zE, zF, zG, zL, zM, zN, reduceCtorEq, cv, e1, e2]) | (refine Sem.frzT (sem7 _ l hw hlen (fun _ _ => hc) _ _ (fun h => absurd h (by omega)) (fun _ h => absurd h (by rw [ca]; simp)) (fun _ _ _ st' => ⟨_, _, _, _, rfl, .inl ⟨rfl, rfl⟩, ?_⟩) (fun _ _ h => absurd cb h)); try simp only [go_sem, ↓reduceIte, zA, zB, zC, zD, zE, zF, zG, zL, zM, zN, reduceCtorEq, cv, e1, e2]) | (refine Sem.frzT (sem8 _ l hw hlen (fun _ _ => hc) _ _ (fun h => absurd h (by omega)) (fun _ h => absurd h (by rw [ca]; simp)) (fun _ _ _ st' => ⟨_, _, _, _, rfl, .inl ⟨rfl, rfl⟩, ?_⟩) (fun _ _ h => absurd cb h)); try simp only [go_sem, ↓reduceIte, zA, zB, zC, zD, zE, zF, zG, zL, zM, zN, reduceCtorEq, cv, e1, e2]) | fail
        refine W.loopN (fun m fr st' => ∃ i : Nat, i + m = l.length ∧ fr 7 = .int .i64 i ∧ fr 0 = .sl .frozen 15 (l.map De.d) ∧ fr 3 = .sl .frozen 1 [] ∧ fr 4 = .int .i64 4 ∧ fr 5 = .sl .frozen 1 [] ∧ fr 6 = .int .i64 4) ?_ l.length _ _
          ⟨0, by simp, by simp only [go_sem, ↓reduceIte, zA, zB, zC, zD, zE, zF, zG, zL, zM, zN, reduceCtorEq]; rfl, by simp only [go_sem, ↓reduceIte, zA, zB, zC, zD, zE, zF, zG, zL, zM, zN, reduceCtorEq], by simp only [go_sem, ↓reduceIte, zA, zB, zC, zD, zE, zF, zG, zL, zM, zN, reduceCtorEq], by simp only [go_sem, ↓reduceIte, zA, zB, zC, zD, zE, zF, zG, zL, zM, zN, reduceCtorEq], by simp only [go_sem, ↓reduceIte, zA, zB, zC, zD, zE, zF, zG, zL, zM, zN, reduceCtorEq], by simp only [go_sem, ↓reduceIte, zA, zB, zC, zD, zE, zF, zG, zL, zM, zN, reduceCtorEq]⟩
        rintro m N' ih fr st' ⟨i, hi, f7, f0, f3, f4, f5, f6⟩
        rcases Nat.lt_or_ge i l.length with hlt | hge
        · have hg : (l.map De.d).getD i .any = (l.getD i De.z).d := getD_map _ _ _ hlt
          have i4 : (i : Int) < l.length := by omega
          have hmx := getD_mem l De.z hlt
          repeat' first | refine yj fun N hN => ?_ | refine yk ?_ | refine yl [] ?_ | ((first | refine ya rfl rfl fun N hN => ?_ | refine yc rfl rfl fun N hN => ?_ | refine ye rfl rfl fun N hN => ?_ | (refine yw hN _ _ ?_; clear hN N) | refine ym ?_); simp only [go_sem, ↓reduceIte, zA, zB, zC, zD, zE, zF, zG, zL, zM, zN, reduceCtorEq, f7, f0, hg, hlt, i4, Tryz.results3]) | ((first | refine yg rfl ?_ | refine yn ?_ | refine yi ?_); try simp only [go_sem]) | ((first | refine yx hN _ _ ?_ | refine yz hN _ _ ?_ | refine yy hN _ ?_); clear hN N) | refine yt (id := 10) mixed [] (.rd 0 (.rd 1 (.rd 2 (.rd 3 (.rd 5 (.rd 6 (.rd 7 (.rd 8 (.act 4 [8, 7, 6, 5] (.act 9 [] (.act 10 [] (.nil)))))))))))) (by kernel_rfl) ?_ | (refine sem9 _ (hw _ hmx) _ _ ?_; try simp only [go_sem, ↓reduceIte, zA, zB, zC, zD, zE, zF, zG, zL, zM, zN, reduceCtorEq, f7, f0, hg, hlt, i4]) | (refine sem10 _ (hw _ hmx) _ _ ?_; try simp only [go_sem, ↓reduceIte, zA, zB, zC, zD, zE, zF, zG, zL, zM, zN, reduceCtorEq, f7, f0, hg, hlt, i4]) | (refine And.intro ?_ ?_; · omega) | clear hN N | fail
          refine ih.back (m - 1) (by omega) _ _ ⟨i + 1, by omega, ?_, ?_, ?_, ?_, ?_, ?_⟩
          · simp only [go_sem, ↓reduceIte, zA, zB, zC, zD, zE, zF, zG, zL, zM, zN, reduceCtorEq]; rfl
          · simp only [go_sem, ↓reduceIte, zA, zB, zC, zD, zE, zF, zG, zL, zM, zN, reduceCtorEq, f0]
          · simp only [go_sem, ↓reduceIte, zA, zB, zC, zD, zE, zF, zG, zL, zM, zN, reduceCtorEq, f3]
          · simp only [go_sem, ↓reduceIte, zA, zB, zC, zD, zE, zF, zG, zL, zM, zN, reduceCtorEq, f4]
          · simp only [go_sem, ↓reduceIte, zA, zB, zC, zD, zE, zF, zG, zL, zM, zN, reduceCtorEq, f5]
          · simp only [go_sem, ↓reduceIte, zA, zB, zC, zD, zE, zF, zG, zL, zM, zN, reduceCtorEq, f6]
        · have i4 : ¬ (i : Int) < l.length := by omega
          repeat' first | refine yj fun N hN => ?_ | refine yl [] ?_ | ((first | refine ya rfl rfl fun N hN => ?_ | refine yb rfl rfl rfl rfl fun N hN => ?_ | refine ym ?_ | refine yo ?_ | refine yp ?_); simp only [go_sem, ↓reduceIte, zA, zB, zC, zD, zE, zF, zG, zL, zM, zN, reduceCtorEq, f7, f0, f3, f4, f5, f6, i4, bytesOf, Tryz.results3]) | (refine yg rfl ?_; try simp only [go_sem]) | ((first | refine yx hN _ _ ?_ | refine yz hN _ _ ?_); clear hN N) | (refine sem6 _ _ fun st' => ?_; try simp only [go_sem, ↓reduceIte, zA, zB, zC, zD, zE, zF, zG, zL, zM, zN, reduceCtorEq, f7, f0, f3, f4, f5, f6, i4, bytesOf]) | clear hN N | fail
          all_goals exact hk _
      · refine Sem.of_body Tryz.call3 Tryz.func3 rfl Tryz.ntmps3 (by simp) ?_
        repeat' first | refine yj fun N hN => ?_ | refine yk ?_ | refine yl [] ?_ | ((first | refine ya rfl rfl fun N hN => ?_ | refine yb rfl rfl rfl rfl fun N hN => ?_ | refine ym ?_); simp only [go_sem, ↓reduceIte, zA, zB, zC, zD, zE, zF, zG, zL, zM, zN, reduceCtorEq, cv, e1, e2, Tryz.results3]) | ((first | refine yg rfl ?_ | refine yn ?_); try simp only [go_sem]) | ((first | refine yx hN _ _ ?_ | refine yz hN _ _ ?_); clear hN N) | (refine sem5 _ l 40 600 _ _ hw (by omega) ?_; try simp only [go_sem, ↓reduceIte, zA, zB, zC, zD, zE, zF, zG, zL, zM, zN, reduceCtorEq, cv, e1, e2]) | (refine Sem.frzT (sem7 _ l hw hlen (fun _ _ => hc) _ _ (fun h => absurd h (by omega)) (fun _ h => absurd h (by rw [ca]; simp)) (fun _ _ h => absurd h cb) (fun _ _ _ ow1 st' => ⟨_, _, _, _, rfl, .inr rfl, ?_⟩)); try simp only [go_sem, ↓reduceIte, zA, zB, zC, zD, zE, zF, zG, zL, zM, zN, reduceCtorEq, cv, e1, e2]) | (refine Sem.frzT (sem8 _ l hw hlen (fun _ _ => hc) _ _ (fun h => absurd h (by omega)) (fun _ h => absurd h (by rw [ca]; simp)) (fun _ _ h => absurd h cb) (fun _ _ _ ow2 st' => ⟨_, _, _, _, rfl, .inr rfl, ?_⟩)); try simp only [go_sem, ↓reduceIte, zA, zB, zC, zD, zE, zF, zG, zL, zM, zN, reduceCtorEq, cv, e1, e2]) | fail
        refine W.loopN (fun m fr st' => ∃ i : Nat, i + m = l.length ∧ fr 7 = .int .i64 i ∧ fr 0 = .sl .frozen 15 (l.map De.d) ∧ fr 3 = .sl .frozen 1 (byD (encBy l)) ∧ fr 4 = .int .i64 0 ∧ fr 5 = .sl .frozen 1 (byD (encBy l)) ∧ fr 6 = .int .i64 0) ?_ l.length _ _
          ⟨0, by simp, by simp only [go_sem, ↓reduceIte, zA, zB, zC, zD, zE, zF, zG, zL, zM, zN, reduceCtorEq]; rfl, by simp only [go_sem, ↓reduceIte, zA, zB, zC, zD, zE, zF, zG, zL, zM, zN, reduceCtorEq], by simp only [go_sem, ↓reduceIte, zA, zB, zC, zD, zE, zF, zG, zL, zM, zN, reduceCtorEq], by simp only [go_sem, ↓reduceIte, zA, zB, zC, zD, zE, zF, zG, zL, zM, zN, reduceCtorEq], by simp only [go_sem, ↓reduceIte, zA, zB, zC, zD, zE, zF, zG, zL, zM, zN, reduceCtorEq], by simp only [go_sem, ↓reduceIte, zA, zB, zC, zD, zE, zF, zG, zL, zM, zN, reduceCtorEq]⟩
        rintro m N' ih fr st' ⟨i, hi, f7, f0, f3, f4, f5, f6⟩
        rcases Nat.lt_or_ge i l.length with hlt | hge
        · have hg : (l.map De.d).getD i .any = (l.getD i De.z).d := getD_map _ _ _ hlt
          have i4 : (i : Int) < l.length := by omega
          have hmx := getD_mem l De.z hlt
          repeat' first | refine yj fun N hN => ?_ | refine yk ?_ | refine yl [] ?_ | ((first | refine ya rfl rfl fun N hN => ?_ | refine yc rfl rfl fun N hN => ?_ | refine ye rfl rfl fun N hN => ?_ | (refine yw hN _ _ ?_; clear hN N) | refine ym ?_); simp only [go_sem, ↓reduceIte, zA, zB, zC, zD, zE, zF, zG, zL, zM, zN, reduceCtorEq, f7, f0, hg, hlt, i4, Tryz.results3]) | ((first | refine yg rfl ?_ | refine yn ?_ | refine yi ?_); try simp only [go_sem]) | ((first | refine yx hN _ _ ?_ | refine yz hN _ _ ?_ | refine yy hN _ ?_); clear hN N) | refine yt (id := 10) mixed [] (.rd 0 (.rd 1 (.rd 2 (.rd 3 (.rd 5 (.rd 6 (.rd 7 (.rd 8 (.act 4 [8, 7, 6, 5] (.act 9 [] (.act 10 [] (.nil)))))))))))) (by kernel_rfl) ?_ | (refine sem9 _ (hw _ hmx) _ _ ?_; try simp only [go_sem, ↓reduceIte, zA, zB, zC, zD, zE, zF, zG, zL, zM, zN, reduceCtorEq, f7, f0, hg, hlt, i4]) | (refine sem10 _ (hw _ hmx) _ _ ?_; try simp only [go_sem, ↓reduceIte, zA, zB, zC, zD, zE, zF, zG, zL, zM, zN, reduceCtorEq, f7, f0, hg, hlt, i4]) | (refine And.intro ?_ ?_; · omega) | clear hN N | fail
          refine ih.back (m - 1) (by omega) _ _ ⟨i + 1, by omega, ?_, ?_, ?_, ?_, ?_, ?_⟩
          · simp only [go_sem, ↓reduceIte, zA, zB, zC, zD, zE, zF, zG, zL, zM, zN, reduceCtorEq]; rfl
          · simp only [go_sem, ↓reduceIte, zA, zB, zC, zD, zE, zF, zG, zL, zM, zN, reduceCtorEq, f0]
          · simp only [go_sem, ↓reduceIte, zA, zB, zC, zD, zE, zF, zG, zL, zM, zN, reduceCtorEq, f3]
          · simp only [go_sem, ↓reduceIte, zA, zB, zC, zD, zE, zF, zG, zL, zM, zN, reduceCtorEq, f4]
          · simp only [go_sem, ↓reduceIte, zA, zB, zC, zD, zE, zF, zG, zL, zM, zN, reduceCtorEq, f5]
          · simp only [go_sem, ↓reduceIte, zA, zB, zC, zD, zE, zF, zG, zL, zM, zN, reduceCtorEq, f6]
        · have i4 : ¬ (i : Int) < l.length := by omega
          repeat' first | refine yj fun N hN => ?_ | refine yl [] ?_ | ((first | refine ya rfl rfl fun N hN => ?_ | refine yb rfl rfl rfl rfl fun N hN => ?_ | refine ym ?_ | refine yo ?_ | refine yp ?_); simp only [go_sem, ↓reduceIte, zA, zB, zC, zD, zE, zF, zG, zL, zM, zN, reduceCtorEq, f7, f0, f3, f4, f5, f6, i4, bytesOf_byD, Tryz.results3]) | (refine yg rfl ?_; try simp only [go_sem]) | ((first | refine yx hN _ _ ?_ | refine yz hN _ _ ?_); clear hN N) | (refine sem6 _ _ fun st' => ?_; try simp only [go_sem, ↓reduceIte, zA, zB, zC, zD, zE, zF, zG, zL, zM, zN, reduceCtorEq, f7, f0, f3, f4, f5, f6, i4, bytesOf_byD]) | clear hN N | fail
          all_goals exact hk _
end
end Go.Proofs.YtddbidoaolnegaaGreatDoor
/- works: the anchor's walk. No statement of the seat is proved here; no condition. -/
namespace Go.Proofs.YtddbidoaolnegaaGreatDoor
open Go Go.RowKit
open Nat renaming reduceLT → zA, reduceEqDiff → zB, reduceBEq → zC, reduceAdd → zD, reduceMul → zE, reduceSub → zF, reduceLeDiff → zG, mul_one → zH, zero_add → zI, add_zero → zJ
open Int renaming toNat_natCast → zK, reduceAdd → zL, reduceLE → zM, reduceLT → zN, natCast_nonneg → zO
open Go.Proofs.YtddbidoaolnegaaGreatDoor renaming evI_plain → ya, evI_guard → yb, evT_rd → yc, evT_rdg → yd, evT_act → ye, evT_actg → yf, evI_done → yg, evT_two → yh, evT_nil → yi, W.seqG → yj, W.block → yk, W.regionI → yl, W.cond → ym, W.skip → yn, W.ret → yo, W.exit → yp, gdD_split → yq, newT_intro → yr, newB_intro → ys, W.draw → yt, St.set_del → yu, St.give_take → yv, AGo.go → yw, IGo.go → yx, TGo.go → yy, Goes.go → yz
attribute [local go_sem] zK zP zQ zH zI zJ zO
attribute [local irreducible] W evI evT evL evOp evBin gdD Sem newT newB fillD bldOf
set_option maxRecDepth 10000
set_option maxHeartbeats 4000000

theorem encBy_nil : encBy [] = [66, 84, 78, 49, 0, 0, 0, 0] := by
  simp [encBy, encE, En.z, nmB, lvBs, num_small]
theorem encBig_nil : ¬ encBig [] := by
  unfold encBig
  rw [encBy_nil]
  simp [encE, En.z]

theorem sem6 (st : St) (k : D → St → Prop) (hk : ∀ st', k (.bool true) st') : Sem P 6 [] st k := by
  refine Sem.of_body Tryz.call6 Tryz.func6 rfl Tryz.ntmps6 (by simp) ?_
  repeat' first | refine yj fun N hN => ?_ | refine yl [7, 13, 19] ?_ | (refine ya rfl rfl fun N hN => ?_; simp only [go_sem, ↓reduceIte, zA, zB, zC, zD, zE, zF, zG, zL, zM, zN, reduceCtorEq, Tryz.results6]) | (refine yg rfl ?_; try simp only [go_sem]) | ((first | refine yx hN _ _ ?_ | refine yz hN _ _ ?_); clear hN N) | fail
  refine Sem.nilArg (b := 15) (Sem.frzT (sem7 .nil [] (by simp) (by simp) (fun _ _ => by simp) _ _ (fun h => absurd h (by simp)) (fun _ h => absurd h (by simp)) (fun _ _ h => absurd h encBig_nil) (fun _ _ _ ow1 st1 => ⟨_, _, _, _, rfl, .inr rfl, ?_⟩)))
  rw [encBy_nil]
  repeat' first | refine yj fun N hN => ?_ | refine yl [7, 13, 19] ?_ | (refine ya rfl rfl fun N hN => ?_; simp only [go_sem, ↓reduceIte, zA, zB, zC, zD, zE, zF, zG, zL, zM, zN, reduceCtorEq, Tryz.results6]) | (refine yg rfl ?_; try simp only [go_sem]) | ((first | refine yx hN _ _ ?_ | refine yz hN _ _ ?_); clear hN N) | ((refine yr fun j hj => ?_; (try have hj0 := St.tok_of_give hj)); try simp only [go_sem, ↓reduceIte, zA, zB, zC, zD, zE, zF, zG, zL, zM, zN, reduceCtorEq]) | fail
  refine sem11_1 _ _ _ fun st2 => ?_
  repeat' first | refine yj fun N hN => ?_ | refine yl [7, 13, 19] ?_ | (refine ya rfl rfl fun N hN => ?_; simp only [go_sem, ↓reduceIte, zA, zB, zC, zD, zE, zF, zG, zL, zM, zN, reduceCtorEq, Tryz.results6]) | (refine yg rfl ?_; try simp only [go_sem]) | ((first | refine yx hN _ _ ?_ | refine yz hN _ _ ?_); clear hN N) | ((refine yr fun j hj => ?_; (try have hj0 := St.tok_of_give hj)); try simp only [go_sem, ↓reduceIte, zA, zB, zC, zD, zE, zF, zG, zL, zM, zN, reduceCtorEq]) | fail
  refine sem11_2 _ _ _ fun st3 => ?_
  repeat' first | refine yj fun N hN => ?_ | refine yl [7, 13, 19] ?_ | ((first | refine ya rfl rfl fun N hN => ?_ | refine yb rfl rfl rfl rfl fun N hN => ?_ | refine yo ?_); simp only [go_sem, ↓reduceIte, zA, zB, zC, zD, zE, zF, zG, zL, zM, zN, reduceCtorEq, bytesOf_byD, Tryz.results6]) | (refine yg rfl ?_; try simp only [go_sem]) | ((first | refine yx hN _ _ ?_ | refine yz hN _ _ ?_); clear hN N) | (refine sem15 8 6 r .nilptr _ _ (by simp only [go_sem, ↓reduceIte, zA, zB, zC, zD, zE, zF, zG, zL, zM, zN, reduceCtorEq]) ?_; try simp only [go_sem, ↓reduceIte, zA, zB, zC, zD, zE, zF, zG, zL, zM, zN, reduceCtorEq, bytesOf_byD]) | (refine sem16 8 6 _ _ _ ?_; try simp only [go_sem, ↓reduceIte, zA, zB, zC, zD, zE, zF, zG, zL, zM, zN, reduceCtorEq, bytesOf_byD]) | (refine yq (fun h => ?_) (fun h => ?_) <;> (try simp only [zS, zT, zU, zV, Bool.not_true, Bool.not_false] at h) <;> (first | (exfalso; omega) | simp only [go_sem, ↓reduceIte, zA, zB, zC, zD, zE, zF, zG, zL, zM, zN, reduceCtorEq, bytesOf_byD, h] | skip)) | ((refine ys fun r hr => ?_; (try have hrn := (St.set_none hr).1); (try have hrn2 := Ne.symm (St.set_none hr).1)); try simp only [go_sem, ↓reduceIte, zA, zB, zC, zD, zE, zF, zG, zL, zM, zN, reduceCtorEq, bytesOf_byD]) | fail
  exact hk _
end Go.Proofs.YtddbidoaolnegaaGreatDoor
/-
WireEncodes answers true at every list of declarations, and leaves it as it was: the tied card, by the program's text. Conditions: those of the given card and no others (the package-level variable errors.errorType starts as the program's text lays it; each string and slice within the form's reach).
-/
namespace Go.Proofs.YtddbidoaolnegaaGreatDoor
open Go Go.RowKit
theorem sem3 (l : List De) (hw : ∀ a ∈ l, a.Wf) (hl : l.length < 140737488355328) : Sem P 3 [.sl .frozen 15 (l.map De.d)] St.z fun d _ => d = .bool true :=
  sem3_of sem6 l hw hl St.z _ fun _ => rfl
theorem wireEncodes_proved : Rows.WireEncodesCardSaid := wireEncodes_card sem3
end Go.Proofs.YtddbidoaolnegaaGreatDoor
