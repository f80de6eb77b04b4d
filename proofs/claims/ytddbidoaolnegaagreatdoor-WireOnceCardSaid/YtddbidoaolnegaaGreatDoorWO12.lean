/-
PART OF A CLAIM: PB. No statement of the seat is proved here; no condition. -/
import Derived.Test.YtddbidoaolnegaaGreatDoorWO11
set_option linter.all false
/- Terms by the program: which may be, how great they are: the walks. No statement of the seat is proved here; no condition. -/
namespace Go.Proofs.YtddbidoaolnegaaGreatDoor
open Go Go.RowKit
open Nat renaming reduceLT → zA, reduceEqDiff → zB, reduceBEq → zC, reduceAdd → zD, reduceMul → zE, reduceSub → zF, reduceLeDiff → zG, mul_one → zH, zero_add → zI, add_zero → zJ
open Int renaming toNat_natCast → zK, reduceAdd → zL, reduceLE → zM, reduceLT → zN, natCast_nonneg → zO
open Go.Proofs.YtddbidoaolnegaaGreatDoor renaming evI_plain → ya, evI_guard → yb, evT_rd → yc, evT_rdg → yd, evT_act → ye, evT_actg → yf, evI_done → yg, evT_two → yh, evT_nil → yi, W.seqG → yj, W.block → yk, W.regionI → yl, W.cond → ym, W.skip → yn, W.ret → yo, W.exit → yp, gdD_split → yq, newT_intro → yr, newB_intro → ys, W.draw → yt, St.set_del → yu, St.give_take → yv, AGo.go → yw, IGo.go → yx, TGo.go → yy, Goes.go → yz
attribute [local go_sem] zK zP zQ zH zI zJ zO
attribute [local irreducible] W evI evT evL evOp evBin gdD Sem newT newB fillD bldOf
set_option maxRecDepth 10000
set_option maxHeartbeats 1000000

theorem St.set_set (st : St) (r : Nat) (a b : Ob) : (st.set r a).set r b = st.set r b := by
  simp only [St.set, St.mk.injEq, and_true]
  funext x; split <;> rfl
theorem St.set_self {st : St} {r : Nat} {a : Ob} (h : st.mem r = some a) : st.set r a = st := by
  cases st with
  | mk m t =>
    simp only [St.set, St.mk.injEq, and_true]
    funext x
    split
    · subst x; exact h.symm
    · rfl
theorem splice_nil (cs : List D) : splice cs 0 [] = cs := by simp [splice]
theorem splice_cons (c x : D) (cs xs : List D) : splice (c :: cs) 0 (x :: xs) = x :: splice cs 0 xs := by simp [splice]
theorem splice_succ (c : D) (cs xs : List D) (n : Nat) : splice (c :: cs) (n + 1) xs = c :: splice cs n xs := by
  simp only [splice, List.take_succ_cons, List.cons_append, List.cons.injEq, true_and]
  rw [show n + 1 + xs.length = (n + xs.length) + 1 by omega, List.drop_succ_cons]
attribute [go_sem] St.set_set splice_nil splice_cons splice_succ List.take_nil List.drop_nil Bool.and_true Bool.true_and Bool.and_self

theorem sem96 (t : Tm) (hw : t.wf) (st : St) (k : D → St → Prop) (hk : k (.bool (nodeB t)) st) : Sem P 96 [t.d] st k := by
  have wt := hw.to
  have hls := wt.ls
  by_cases c1 : kidsN t.k < 0
  · rw [show nodeB t = false by (have h : ¬ 0 ≤ kidsN t.k := by omega); simp [nodeB, h]] at hk
    have c0 : ¬ 0 ≤ kidsN t.k := by omega
    refine Sem.of_body Tryz.call96 Tryz.func96 rfl Tryz.ntmps96 (by simp) ?_
    repeat' first | refine yj fun N hN => ?_ | refine yl [] ?_ | ((first | refine ya rfl rfl fun N hN => ?_ | refine yb rfl rfl rfl rfl fun N hN => ?_ | refine ym ?_ | refine yo ?_); simp only [go_sem, ↓reduceIte, zA, zB, zC, zD, zE, zF, zG, zL, zM, zN, reduceCtorEq, c1, c0, Tryz.results96]) | (refine yg rfl ?_; try simp only [go_sem]) | ((first | refine yx hN _ _ ?_ | refine yz hN _ _ ?_); clear hN N) | (refine sem108 _ _ _ ?_; try simp only [go_sem, ↓reduceIte, zA, zB, zC, zD, zE, zF, zG, zL, zM, zN, reduceCtorEq, c1, c0]) | clear hN N | fail
    all_goals exact hk
  have c0 : 0 ≤ kidsN t.k := by omega
  by_cases c2 : kidsN t.k = t.ts.length
  · have c2s : (t.ts.length : Int) = kidsN t.k := c2.symm
    by_cases c3 : t.ls.all lvB = true
    · have hn : nodeB t = ((if t.k = 3 ∨ t.k = 8 then nameB t.s else decide (t.s = [])) && (if t.k = 2 then decide (0 ≤ t.n) && decide (t.n ≤ 1048576) else if t.k = 8 then decide (0 ≤ t.n) && decide (t.n < 12) else decide (t.n = 0)) &&
          (if t.k = 1 then decide (t.ls.length = 1) else if t.k = 3 then decide (t.ls.length ≤ 4) else decide (t.ls.length = 0))) := by
        simp only [nodeB, c3, c2.symm, c0, decide_true, Bool.true_and]
      rw [hn] at hk
      have hkk : t.k = 1 ∨ t.k = 2 ∨ t.k = 3 ∨ t.k = 4 ∨ t.k = 5 ∨ t.k = 6 ∨ t.k = 7 ∨ t.k = 8 := by
        unfold kidsN at c1
        split at c1
        · omega
        · split at c1
          · omega
          · split at c1
            · omega
            · split at c1 <;> omega
      clear hn
      rcases hkk with e | e | e | e | e | e | e | e
      · have ei : (t.k : Int) = 1 := by omega
        rw [e] at c0 c1 c2s
        simp only [e, Nat.reduceEqDiff, reduceIte, true_or, or_true, or_self, false_or, or_false] at hk
        refine Sem.of_body Tryz.call96 Tryz.func96 rfl Tryz.ntmps96 (by simp) ?_
        repeat' first | refine yj fun N hN => ?_ | refine yk ?_ | refine yl [] ?_ | ((first | refine ya rfl rfl fun N hN => ?_ | refine yb rfl rfl rfl rfl fun N hN => ?_ | refine yc rfl rfl fun N hN => ?_ | refine ye rfl rfl fun N hN => ?_ | (refine yw hN _ _ ?_; clear hN N) | refine ym ?_ | refine yo ?_); simp only [go_sem, ↓reduceIte, zA, zB, zC, zD, zE, zF, zG, zL, zM, zN, reduceCtorEq, c1, c0, c2s, c3, ei, Tryz.results96]) | ((first | refine yg rfl ?_ | refine yn ?_ | refine yi ?_); try simp only [go_sem]) | ((first | refine yx hN _ _ ?_ | refine yz hN _ _ ?_ | refine yy hN _ ?_); clear hN N) | refine yt (id := 4) mixed [] (.rd 0 (.rd 1 (.rd 2 (.rd 3 (.rd 4 (.rd 5 (.rd 6 (.rd 7 (.rd 8 (.rd 9 (.act 10 [9, 8, 7, 6, 5, 4, 3] (.act 11 [9, 8, 7, 6] (.act 12 [] (.nil)))))))))))))) (by kernel_rfl) ?_ | (refine sem108 _ _ _ ?_; try simp only [go_sem, ↓reduceIte, zA, zB, zC, zD, zE, zF, zG, zL, zM, zN, reduceCtorEq, c1, c0, c2s, c3, ei]) | (refine sem109 _ wt.lv wt.ls _ _ ?_; try simp only [go_sem, ↓reduceIte, zA, zB, zC, zD, zE, zF, zG, zL, zM, zN, reduceCtorEq, c1, c0, c2s, c3, ei]) | (refine yq (fun h => ?_) (fun h => ?_) <;> (try simp only [zS, zT, zU, zV, Bool.not_true, Bool.not_false] at h) <;> (first | (exfalso; omega) | simp only [go_sem, ↓reduceIte, zA, zB, zC, zD, zE, zF, zG, zL, zM, zN, reduceCtorEq, c1, c0, c2s, c3, ei, h] | skip)) | fail
        all_goals (refine kb hk ?_; clear c0 c1 c2 c2s; simp_all <;> omega)
      · have ei : (t.k : Int) = 2 := by omega
        rw [e] at c0 c1 c2s
        simp only [e, Nat.reduceEqDiff, reduceIte, true_or, or_true, or_self, false_or, or_false] at hk
        refine Sem.of_body Tryz.call96 Tryz.func96 rfl Tryz.ntmps96 (by simp) ?_
        repeat' first | refine yj fun N hN => ?_ | refine yk ?_ | refine yl [] ?_ | ((first | refine ya rfl rfl fun N hN => ?_ | refine yb rfl rfl rfl rfl fun N hN => ?_ | refine yc rfl rfl fun N hN => ?_ | refine ye rfl rfl fun N hN => ?_ | (refine yw hN _ _ ?_; clear hN N) | refine ym ?_ | refine yo ?_); simp only [go_sem, ↓reduceIte, zA, zB, zC, zD, zE, zF, zG, zL, zM, zN, reduceCtorEq, c1, c0, c2s, c3, ei, Tryz.results96]) | ((first | refine yg rfl ?_ | refine yn ?_ | refine yi ?_); try simp only [go_sem]) | ((first | refine yx hN _ _ ?_ | refine yz hN _ _ ?_ | refine yy hN _ ?_); clear hN N) | refine yt (id := 4) mixed [] (.rd 0 (.rd 1 (.rd 2 (.rd 3 (.rd 4 (.rd 5 (.rd 6 (.rd 7 (.rd 8 (.rd 9 (.act 10 [9, 8, 7, 6, 5, 4, 3] (.act 11 [9, 8, 7, 6] (.act 12 [] (.nil)))))))))))))) (by kernel_rfl) ?_ | (refine sem108 _ _ _ ?_; try simp only [go_sem, ↓reduceIte, zA, zB, zC, zD, zE, zF, zG, zL, zM, zN, reduceCtorEq, c1, c0, c2s, c3, ei]) | (refine sem109 _ wt.lv wt.ls _ _ ?_; try simp only [go_sem, ↓reduceIte, zA, zB, zC, zD, zE, zF, zG, zL, zM, zN, reduceCtorEq, c1, c0, c2s, c3, ei]) | ((first | refine yq (fun h => ?_) (fun h => ?_) | (apply And.intro <;> intro h)) <;> (try simp only [zS, zT, zU, zV, Bool.not_true, Bool.not_false] at h) <;> (first | (exfalso; omega) | simp only [go_sem, ↓reduceIte, zA, zB, zC, zD, zE, zF, zG, zL, zM, zN, reduceCtorEq, c1, c0, c2s, c3, ei, h] | skip)) | fail
        all_goals (refine kb hk ?_; clear c0 c1 c2 c2s; simp_all <;> omega)
      · have ei : (t.k : Int) = 3 := by omega
        rw [e] at c0 c1 c2s
        simp only [e, Nat.reduceEqDiff, reduceIte, true_or, or_true, or_self, false_or, or_false] at hk
        refine Sem.of_body Tryz.call96 Tryz.func96 rfl Tryz.ntmps96 (by simp) ?_
        repeat' first | refine yj fun N hN => ?_ | refine yk ?_ | refine yl [] ?_ | ((first | refine ya rfl rfl fun N hN => ?_ | refine yb rfl rfl rfl rfl fun N hN => ?_ | refine yc rfl rfl fun N hN => ?_ | refine ye rfl rfl fun N hN => ?_ | (refine yw hN _ _ ?_; clear hN N) | refine ym ?_ | refine yo ?_); simp only [go_sem, ↓reduceIte, zA, zB, zC, zD, zE, zF, zG, zL, zM, zN, reduceCtorEq, c1, c0, c2s, c3, ei, Tryz.results96]) | ((first | refine yg rfl ?_ | refine yn ?_ | refine yi ?_); try simp only [go_sem]) | ((first | refine yx hN _ _ ?_ | refine yz hN _ _ ?_ | refine yy hN _ ?_); clear hN N) | refine yt (id := 4) mixed [] (.rd 0 (.rd 1 (.rd 2 (.rd 3 (.rd 4 (.rd 5 (.rd 6 (.rd 7 (.rd 8 (.rd 9 (.act 10 [9, 8, 7, 6, 5, 4, 3] (.act 11 [9, 8, 7, 6] (.act 12 [] (.nil)))))))))))))) (by kernel_rfl) ?_ | refine yt (id := 11) mixed [] (.rd 0 (.rd 1 (.rd 3 (.rd 4 (.rd 5 (.rd 6 (.act 2 [6, 5, 4, 3] (.act 7 [6, 5, 4, 3] (.act 8 [] (.nil)))))))))) (by kernel_rfl) ?_ | (refine sem108 _ _ _ ?_; try simp only [go_sem, ↓reduceIte, zA, zB, zC, zD, zE, zF, zG, zL, zM, zN, reduceCtorEq, c1, c0, c2s, c3, ei]) | (refine sem109 _ wt.lv wt.ls _ _ ?_; try simp only [go_sem, ↓reduceIte, zA, zB, zC, zD, zE, zF, zG, zL, zM, zN, reduceCtorEq, c1, c0, c2s, c3, ei]) | (refine sem23 _ _ _ wt.s ?_; try simp only [go_sem, ↓reduceIte, zA, zB, zC, zD, zE, zF, zG, zL, zM, zN, reduceCtorEq, c1, c0, c2s, c3, ei]) | ((first | refine yq (fun h => ?_) (fun h => ?_) | (apply And.intro <;> intro h)) <;> (try simp only [zS, zT, zU, zV, Bool.not_true, Bool.not_false] at h) <;> (first | (exfalso; omega) | simp only [go_sem, ↓reduceIte, zA, zB, zC, zD, zE, zF, zG, zL, zM, zN, reduceCtorEq, c1, c0, c2s, c3, ei, h] | skip)) | fail
        all_goals (refine kb hk ?_; clear c0 c1 c2 c2s; simp_all <;> omega)
      · have ei : (t.k : Int) = 4 := by omega
        rw [e] at c0 c1 c2s
        simp only [e, Nat.reduceEqDiff, reduceIte, true_or, or_true, or_self, false_or, or_false] at hk
        refine Sem.of_body Tryz.call96 Tryz.func96 rfl Tryz.ntmps96 (by simp) ?_
        repeat' first | refine yj fun N hN => ?_ | refine yk ?_ | refine yl [] ?_ | ((first | refine ya rfl rfl fun N hN => ?_ | refine yb rfl rfl rfl rfl fun N hN => ?_ | refine yc rfl rfl fun N hN => ?_ | refine ye rfl rfl fun N hN => ?_ | (refine yw hN _ _ ?_; clear hN N) | refine ym ?_ | refine yo ?_); simp only [go_sem, ↓reduceIte, zA, zB, zC, zD, zE, zF, zG, zL, zM, zN, reduceCtorEq, c1, c0, c2s, c3, ei, Tryz.results96]) | ((first | refine yg rfl ?_ | refine yn ?_ | refine yi ?_); try simp only [go_sem]) | ((first | refine yx hN _ _ ?_ | refine yz hN _ _ ?_ | refine yy hN _ ?_); clear hN N) | refine yt (id := 4) mixed [] (.rd 0 (.rd 1 (.rd 2 (.rd 3 (.rd 4 (.rd 5 (.rd 6 (.rd 7 (.rd 8 (.rd 9 (.act 10 [9, 8, 7, 6, 5, 4, 3] (.act 11 [9, 8, 7, 6] (.act 12 [] (.nil)))))))))))))) (by kernel_rfl) ?_ | (refine sem108 _ _ _ ?_; try simp only [go_sem, ↓reduceIte, zA, zB, zC, zD, zE, zF, zG, zL, zM, zN, reduceCtorEq, c1, c0, c2s, c3, ei]) | (refine sem109 _ wt.lv wt.ls _ _ ?_; try simp only [go_sem, ↓reduceIte, zA, zB, zC, zD, zE, zF, zG, zL, zM, zN, reduceCtorEq, c1, c0, c2s, c3, ei]) | ((first | refine yq (fun h => ?_) (fun h => ?_) | (apply And.intro <;> intro h)) <;> (try simp only [zS, zT, zU, zV, Bool.not_true, Bool.not_false] at h) <;> (first | (exfalso; omega) | simp only [go_sem, ↓reduceIte, zA, zB, zC, zD, zE, zF, zG, zL, zM, zN, reduceCtorEq, c1, c0, c2s, c3, ei, h] | skip)) | fail
        all_goals (refine kb hk ?_; clear c0 c1 c2 c2s; simp_all <;> omega)
      · have ei : (t.k : Int) = 5 := by omega
        rw [e] at c0 c1 c2s
        simp only [e, Nat.reduceEqDiff, reduceIte, true_or, or_true, or_self, false_or, or_false] at hk
        refine Sem.of_body Tryz.call96 Tryz.func96 rfl Tryz.ntmps96 (by simp) ?_
        repeat' first | refine yj fun N hN => ?_ | refine yk ?_ | refine yl [] ?_ | ((first | refine ya rfl rfl fun N hN => ?_ | refine yb rfl rfl rfl rfl fun N hN => ?_ | refine yc rfl rfl fun N hN => ?_ | refine ye rfl rfl fun N hN => ?_ | (refine yw hN _ _ ?_; clear hN N) | refine ym ?_ | refine yo ?_); simp only [go_sem, ↓reduceIte, zA, zB, zC, zD, zE, zF, zG, zL, zM, zN, reduceCtorEq, c1, c0, c2s, c3, ei, Tryz.results96]) | ((first | refine yg rfl ?_ | refine yn ?_ | refine yi ?_); try simp only [go_sem]) | ((first | refine yx hN _ _ ?_ | refine yz hN _ _ ?_ | refine yy hN _ ?_); clear hN N) | refine yt (id := 4) mixed [] (.rd 0 (.rd 1 (.rd 2 (.rd 3 (.rd 4 (.rd 5 (.rd 6 (.rd 7 (.rd 8 (.rd 9 (.act 10 [9, 8, 7, 6, 5, 4, 3] (.act 11 [9, 8, 7, 6] (.act 12 [] (.nil)))))))))))))) (by kernel_rfl) ?_ | (refine sem108 _ _ _ ?_; try simp only [go_sem, ↓reduceIte, zA, zB, zC, zD, zE, zF, zG, zL, zM, zN, reduceCtorEq, c1, c0, c2s, c3, ei]) | (refine sem109 _ wt.lv wt.ls _ _ ?_; try simp only [go_sem, ↓reduceIte, zA, zB, zC, zD, zE, zF, zG, zL, zM, zN, reduceCtorEq, c1, c0, c2s, c3, ei]) | ((first | refine yq (fun h => ?_) (fun h => ?_) | (apply And.intro <;> intro h)) <;> (try simp only [zS, zT, zU, zV, Bool.not_true, Bool.not_false] at h) <;> (first | (exfalso; omega) | simp only [go_sem, ↓reduceIte, zA, zB, zC, zD, zE, zF, zG, zL, zM, zN, reduceCtorEq, c1, c0, c2s, c3, ei, h] | skip)) | fail
        all_goals (refine kb hk ?_; clear c0 c1 c2 c2s; simp_all <;> omega)
      · have ei : (t.k : Int) = 6 := by omega
        rw [e] at c0 c1 c2s
        simp only [e, Nat.reduceEqDiff, reduceIte, true_or, or_true, or_self, false_or, or_false] at hk
        refine Sem.of_body Tryz.call96 Tryz.func96 rfl Tryz.ntmps96 (by simp) ?_
        repeat' first | refine yj fun N hN => ?_ | refine yk ?_ | refine yl [] ?_ | ((first | refine ya rfl rfl fun N hN => ?_ | refine yb rfl rfl rfl rfl fun N hN => ?_ | refine yc rfl rfl fun N hN => ?_ | refine ye rfl rfl fun N hN => ?_ | (refine yw hN _ _ ?_; clear hN N) | refine ym ?_ | refine yo ?_); simp only [go_sem, ↓reduceIte, zA, zB, zC, zD, zE, zF, zG, zL, zM, zN, reduceCtorEq, c1, c0, c2s, c3, ei, Tryz.results96]) | ((first | refine yg rfl ?_ | refine yn ?_ | refine yi ?_); try simp only [go_sem]) | ((first | refine yx hN _ _ ?_ | refine yz hN _ _ ?_ | refine yy hN _ ?_); clear hN N) | refine yt (id := 4) mixed [] (.rd 0 (.rd 1 (.rd 2 (.rd 3 (.rd 4 (.rd 5 (.rd 6 (.rd 7 (.rd 8 (.rd 9 (.act 10 [9, 8, 7, 6, 5, 4, 3] (.act 11 [9, 8, 7, 6] (.act 12 [] (.nil)))))))))))))) (by kernel_rfl) ?_ | (refine sem108 _ _ _ ?_; try simp only [go_sem, ↓reduceIte, zA, zB, zC, zD, zE, zF, zG, zL, zM, zN, reduceCtorEq, c1, c0, c2s, c3, ei]) | (refine sem109 _ wt.lv wt.ls _ _ ?_; try simp only [go_sem, ↓reduceIte, zA, zB, zC, zD, zE, zF, zG, zL, zM, zN, reduceCtorEq, c1, c0, c2s, c3, ei]) | ((first | refine yq (fun h => ?_) (fun h => ?_) | (apply And.intro <;> intro h)) <;> (try simp only [zS, zT, zU, zV, Bool.not_true, Bool.not_false] at h) <;> (first | (exfalso; omega) | simp only [go_sem, ↓reduceIte, zA, zB, zC, zD, zE, zF, zG, zL, zM, zN, reduceCtorEq, c1, c0, c2s, c3, ei, h] | skip)) | fail
        all_goals (refine kb hk ?_; clear c0 c1 c2 c2s; simp_all <;> omega)
      · have ei : (t.k : Int) = 7 := by omega
        rw [e] at c0 c1 c2s
        simp only [e, Nat.reduceEqDiff, reduceIte, true_or, or_true, or_self, false_or, or_false] at hk
        refine Sem.of_body Tryz.call96 Tryz.func96 rfl Tryz.ntmps96 (by simp) ?_
        repeat' first | refine yj fun N hN => ?_ | refine yk ?_ | refine yl [] ?_ | ((first | refine ya rfl rfl fun N hN => ?_ | refine yb rfl rfl rfl rfl fun N hN => ?_ | refine yc rfl rfl fun N hN => ?_ | refine ye rfl rfl fun N hN => ?_ | (refine yw hN _ _ ?_; clear hN N) | refine ym ?_ | refine yo ?_); simp only [go_sem, ↓reduceIte, zA, zB, zC, zD, zE, zF, zG, zL, zM, zN, reduceCtorEq, c1, c0, c2s, c3, ei, Tryz.results96]) | ((first | refine yg rfl ?_ | refine yn ?_ | refine yi ?_); try simp only [go_sem]) | ((first | refine yx hN _ _ ?_ | refine yz hN _ _ ?_ | refine yy hN _ ?_); clear hN N) | refine yt (id := 4) mixed [] (.rd 0 (.rd 1 (.rd 2 (.rd 3 (.rd 4 (.rd 5 (.rd 6 (.rd 7 (.rd 8 (.rd 9 (.act 10 [9, 8, 7, 6, 5, 4, 3] (.act 11 [9, 8, 7, 6] (.act 12 [] (.nil)))))))))))))) (by kernel_rfl) ?_ | (refine sem108 _ _ _ ?_; try simp only [go_sem, ↓reduceIte, zA, zB, zC, zD, zE, zF, zG, zL, zM, zN, reduceCtorEq, c1, c0, c2s, c3, ei]) | (refine sem109 _ wt.lv wt.ls _ _ ?_; try simp only [go_sem, ↓reduceIte, zA, zB, zC, zD, zE, zF, zG, zL, zM, zN, reduceCtorEq, c1, c0, c2s, c3, ei]) | ((first | refine yq (fun h => ?_) (fun h => ?_) | (apply And.intro <;> intro h)) <;> (try simp only [zS, zT, zU, zV, Bool.not_true, Bool.not_false] at h) <;> (first | (exfalso; omega) | simp only [go_sem, ↓reduceIte, zA, zB, zC, zD, zE, zF, zG, zL, zM, zN, reduceCtorEq, c1, c0, c2s, c3, ei, h] | skip)) | fail
        all_goals (refine kb hk ?_; clear c0 c1 c2 c2s; simp_all <;> omega)
      · have ei : (t.k : Int) = 8 := by omega
        rw [e] at c0 c1 c2s
        simp only [e, Nat.reduceEqDiff, reduceIte, true_or, or_true, or_self, false_or, or_false] at hk
        by_cases g : 0 ≤ t.n
        · refine Sem.of_body Tryz.call96 Tryz.func96 rfl Tryz.ntmps96 (by simp) ?_
          repeat' first | refine yj fun N hN => ?_ | refine yk ?_ | refine yl [] ?_ | ((first | refine ya rfl rfl fun N hN => ?_ | refine yb rfl rfl rfl rfl fun N hN => ?_ | refine yc rfl rfl fun N hN => ?_ | refine yd rfl rfl rfl rfl fun N hN => ?_ | refine ye rfl rfl fun N hN => ?_ | (refine yw hN _ _ ?_; clear hN N) | refine ym ?_ | refine yo ?_); simp only [go_sem, ↓reduceIte, zA, zB, zC, zD, zE, zF, zG, zL, zM, zN, reduceCtorEq, c1, c0, c2s, c3, ei, g, Tryz.results96]) | ((first | refine yg rfl ?_ | refine yn ?_ | refine yi ?_); try simp only [go_sem]) | ((first | refine yx hN _ _ ?_ | refine yz hN _ _ ?_ | refine yy hN _ ?_); clear hN N) | refine yt (id := 4) mixed [] (.rd 0 (.rd 1 (.rd 2 (.rd 3 (.rd 4 (.rd 5 (.rd 6 (.rd 7 (.rd 8 (.rd 9 (.act 10 [9, 8, 7, 6, 5, 4, 3] (.act 11 [9, 8, 7, 6] (.act 12 [] (.nil)))))))))))))) (by kernel_rfl) ?_ | refine yt (id := 13) mixed [] (.rd 0 (.rd 1 (.rd 3 (.rd 4 (.rd 5 (.act 2 [5, 4, 3] (.act 6 [] (.rd 7 (.rd 8 (.rd 9 (.rd 10 (.act 11 [10, 9, 8, 7] (.act 12 [] (.nil)))))))))))))) (by kernel_rfl) ?_ | (refine sem108 _ _ _ ?_; try simp only [go_sem, ↓reduceIte, zA, zB, zC, zD, zE, zF, zG, zL, zM, zN, reduceCtorEq, c1, c0, c2s, c3, ei, g]) | (refine sem109 _ wt.lv wt.ls _ _ ?_; try simp only [go_sem, ↓reduceIte, zA, zB, zC, zD, zE, zF, zG, zL, zM, zN, reduceCtorEq, c1, c0, c2s, c3, ei, g]) | (refine sem23 _ _ _ wt.s ?_; try simp only [go_sem, ↓reduceIte, zA, zB, zC, zD, zE, zF, zG, zL, zM, zN, reduceCtorEq, c1, c0, c2s, c3, ei, g]) | ((first | refine yq (fun h => ?_) (fun h => ?_) | (apply And.intro <;> intro h)) <;> (try simp only [zS, zT, zU, zV, Bool.not_true, Bool.not_false] at h) <;> (first | (exfalso; omega) | simp only [go_sem, ↓reduceIte, zA, zB, zC, zD, zE, zF, zG, zL, zM, zN, reduceCtorEq, c1, c0, c2s, c3, ei, g, h] | skip)) | fail
          all_goals (refine kb hk ?_; clear c0 c1 c2 c2s; simp_all <;> omega)
        · refine Sem.of_body Tryz.call96 Tryz.func96 rfl Tryz.ntmps96 (by simp) ?_
          repeat' first | refine yj fun N hN => ?_ | refine yk ?_ | refine yl [] ?_ | ((first | refine ya rfl rfl fun N hN => ?_ | refine yb rfl rfl rfl rfl fun N hN => ?_ | refine yc rfl rfl fun N hN => ?_ | refine yd rfl rfl rfl rfl fun N hN => ?_ | refine ye rfl rfl fun N hN => ?_ | (refine yw hN _ _ ?_; clear hN N) | refine ym ?_ | refine yo ?_); simp only [go_sem, ↓reduceIte, zA, zB, zC, zD, zE, zF, zG, zL, zM, zN, reduceCtorEq, c1, c0, c2s, c3, ei, g, Tryz.results96]) | ((first | refine yg rfl ?_ | refine yn ?_ | refine yi ?_); try simp only [go_sem]) | ((first | refine yx hN _ _ ?_ | refine yz hN _ _ ?_ | refine yy hN _ ?_); clear hN N) | refine yt (id := 4) mixed [] (.rd 0 (.rd 1 (.rd 2 (.rd 3 (.rd 4 (.rd 5 (.rd 6 (.rd 7 (.rd 8 (.rd 9 (.act 10 [9, 8, 7, 6, 5, 4, 3] (.act 11 [9, 8, 7, 6] (.act 12 [] (.nil)))))))))))))) (by kernel_rfl) ?_ | refine yt (id := 13) mixed [] (.rd 0 (.rd 1 (.rd 3 (.rd 4 (.rd 5 (.act 2 [5, 4, 3] (.act 6 [] (.rd 7 (.rd 8 (.rd 9 (.rd 10 (.act 11 [10, 9, 8, 7] (.act 12 [] (.nil)))))))))))))) (by kernel_rfl) ?_ | (refine sem108 _ _ _ ?_; try simp only [go_sem, ↓reduceIte, zA, zB, zC, zD, zE, zF, zG, zL, zM, zN, reduceCtorEq, c1, c0, c2s, c3, ei, g]) | (refine sem109 _ wt.lv wt.ls _ _ ?_; try simp only [go_sem, ↓reduceIte, zA, zB, zC, zD, zE, zF, zG, zL, zM, zN, reduceCtorEq, c1, c0, c2s, c3, ei, g]) | (refine sem23 _ _ _ wt.s ?_; try simp only [go_sem, ↓reduceIte, zA, zB, zC, zD, zE, zF, zG, zL, zM, zN, reduceCtorEq, c1, c0, c2s, c3, ei, g]) | ((first | refine yq (fun h => ?_) (fun h => ?_) | (apply And.intro <;> intro h)) <;> (try simp only [zS, zT, zU, zV, Bool.not_true, Bool.not_false] at h) <;> (first | (exfalso; omega) | simp only [go_sem, ↓reduceIte, zA, zB, zC, zD, zE, zF, zG, zL, zM, zN, reduceCtorEq, c1, c0, c2s, c3, ei, g, h] | skip)) | fail
          all_goals (refine kb hk ?_; clear c0 c1 c2 c2s; simp_all <;> omega)
    · have c4 : t.ls.all lvB = false := by simpa using c3
      rw [show nodeB t = false by simp only [nodeB, c4, Bool.and_false, Bool.false_and]] at hk
      refine Sem.of_body Tryz.call96 Tryz.func96 rfl Tryz.ntmps96 (by simp) ?_
      repeat' first | refine yj fun N hN => ?_ | refine yl [] ?_ | ((first | refine ya rfl rfl fun N hN => ?_ | refine yb rfl rfl rfl rfl fun N hN => ?_ | refine ym ?_ | refine yo ?_); simp only [go_sem, ↓reduceIte, zA, zB, zC, zD, zE, zF, zG, zL, zM, zN, reduceCtorEq, c1, c0, c2s, c4, Tryz.results96]) | (refine yg rfl ?_; try simp only [go_sem]) | ((first | refine yx hN _ _ ?_ | refine yz hN _ _ ?_); clear hN N) | (refine sem108 _ _ _ ?_; try simp only [go_sem, ↓reduceIte, zA, zB, zC, zD, zE, zF, zG, zL, zM, zN, reduceCtorEq, c1, c0, c2s, c4]) | (refine sem109 _ wt.lv wt.ls _ _ ?_; try simp only [go_sem, ↓reduceIte, zA, zB, zC, zD, zE, zF, zG, zL, zM, zN, reduceCtorEq, c1, c0, c2s, c4]) | clear hN N | fail
      all_goals exact hk
  · have c2' : ¬ (t.ts.length : Int) = kidsN t.k := fun h => c2 h.symm
    rw [show nodeB t = false by simp only [nodeB, c2', decide_false, Bool.and_false, Bool.false_and]] at hk
    refine Sem.of_body Tryz.call96 Tryz.func96 rfl Tryz.ntmps96 (by simp) ?_
    repeat' first | refine yj fun N hN => ?_ | refine yl [] ?_ | ((first | refine ya rfl rfl fun N hN => ?_ | refine yb rfl rfl rfl rfl fun N hN => ?_ | refine ym ?_ | refine yo ?_); simp only [go_sem, ↓reduceIte, zA, zB, zC, zD, zE, zF, zG, zL, zM, zN, reduceCtorEq, c1, c0, c2, Tryz.results96]) | (refine yg rfl ?_; try simp only [go_sem]) | ((first | refine yx hN _ _ ?_ | refine yz hN _ _ ?_); clear hN N) | (refine sem108 _ _ _ ?_; try simp only [go_sem, ↓reduceIte, zA, zB, zC, zD, zE, zF, zG, zL, zM, zN, reduceCtorEq, c1, c0, c2]) | clear hN N | fail
    all_goals exact hk

theorem sem95 : ∀ (t : Tm), t.wf → ∀ (l d : Int) (r q : Nat) (st : St) (k : D → St → Prop), r ≠ q → st.mem r = some (.cells [.int .i64 l]) → st.mem q = some (.cells [.fn 95 [] [.ptr r 0, .ptr q 0]]) →
    0 ≤ l → l ≤ 1000000000 → 0 ≤ d → d ≤ 1000000000 →
    (0 ≤ mayG nodeB t l d → k (.bool true) (st.set r (.cells [.int .i64 (mayG nodeB t l d)]))) → (mayG nodeB t l d < 0 → ∀ l', k (.bool false) (st.set r (.cells [.int .i64 l']))) →
    Sem P 95 [t.d, .int .i64 d, .ptr r 0, .ptr q 0] st k := by
  intro t
  induction t using Tm.ind with
  | h kk n s ls ts ihT =>
    intro hw l d r q st k hrq hr hq hl0 hl1 hd0 hd1 hyes hno
    have wt := hw.to
    generalize he : Tm.mk kk n s ls ts = t at *
    have hts : ts = t.ts := by rw [← he]; rfl
    rw [hts] at ihT
    clear he hts
    rw [mayG_eq] at hyes hno
    have e1 : (q = r) = False := eq_false (fun h => hrq h.symm)
    have e2 : (r = q) = False := eq_false hrq
    by_cases c1 : l - 1 < 0
    · simp only [c1, true_or, reduceIte] at hno
      refine Sem.of_body Tryz.call95 Tryz.func95 rfl Tryz.ntmps95 (by simp) ?_
      repeat' first | refine yj fun N hN => ?_ | refine yl [2] ?_ | ((first | refine ya rfl rfl fun N hN => ?_ | refine yb rfl rfl rfl rfl fun N hN => ?_ | refine ym ?_ | refine yo ?_); simp only [go_sem, ↓reduceIte, zA, zB, zC, zD, zE, zF, zG, zL, zM, zN, reduceCtorEq, c1, hr, hq, e1, e2, Tryz.results95]) | (refine yg rfl ?_; try simp only [go_sem]) | ((first | refine yx hN _ _ ?_ | refine yz hN _ _ ?_); clear hN N) | (refine And.intro ?_ ?_; · omega) | clear hN N | fail
      all_goals exact hno (by omega) _
    by_cases c2 : d ≤ 0
    · simp only [c1, c2, true_or, or_true, false_or, reduceIte] at hno
      refine Sem.of_body Tryz.call95 Tryz.func95 rfl Tryz.ntmps95 (by simp) ?_
      repeat' first | refine yj fun N hN => ?_ | refine yl [2] ?_ | ((first | refine ya rfl rfl fun N hN => ?_ | refine yb rfl rfl rfl rfl fun N hN => ?_ | refine ym ?_ | refine yo ?_); simp only [go_sem, ↓reduceIte, zA, zB, zC, zD, zE, zF, zG, zL, zM, zN, reduceCtorEq, c1, c2, hr, hq, e1, e2, Tryz.results95]) | (refine yg rfl ?_; try simp only [go_sem]) | ((first | refine yx hN _ _ ?_ | refine yz hN _ _ ?_); clear hN N) | (refine And.intro ?_ ?_; · omega) | clear hN N | fail
      all_goals exact hno (by omega) _
    by_cases c3 : nodeB t = true
    · simp only [c1, c2, c3, or_self, Bool.true_eq_false, reduceIte] at hyes hno
      have hts := wt.ts
      refine Sem.of_body Tryz.call95 Tryz.func95 rfl Tryz.ntmps95 (by simp) ?_
      repeat' first | refine yj fun N hN => ?_ | refine yk ?_ | refine yl [2] ?_ | ((first | refine ya rfl rfl fun N hN => ?_ | refine yb rfl rfl rfl rfl fun N hN => ?_ | refine ym ?_); simp only [go_sem, ↓reduceIte, zA, zB, zC, zD, zE, zF, zG, zL, zM, zN, reduceCtorEq, c1, c2, c3, hr, hq, e1, e2, Tryz.results95]) | ((first | refine yg rfl ?_ | refine yn ?_); try simp only [go_sem]) | ((first | refine yx hN _ _ ?_ | refine yz hN _ _ ?_); clear hN N) | (refine sem96 t hw _ _ ?_; try simp only [go_sem, ↓reduceIte, zA, zB, zC, zD, zE, zF, zG, zL, zM, zN, reduceCtorEq, c1, c2, c3, hr, hq, e1, e2]) | (refine And.intro ?_ ?_; · omega) | fail
      refine W.loopN (fun m fr st' => ∃ (i : Nat) (l' : Int), st' = st.set r (.cells [.int .i64 l']) ∧ i + m = t.ts.length ∧ 0 ≤ l' ∧ l' ≤ l ∧ mayGs nodeB (t.ts.drop i) l' (d - 1) = mayGs nodeB t.ts (l - 1) (d - 1) ∧ fr 25 = .int .i64 i ∧ fr 24 = .int .i64 t.ts.length ∧ fr 23 = .sl .frozen 5 (t.ts.map Tm.d) ∧ fr 1 = .int .i64 d ∧ fr 2 = .ptr r 0 ∧ fr 3 = .ptr q 0) ?_ t.ts.length _ _
        ⟨0, l - 1, rfl, by simp, by omega, by omega, by simp, by simp only [go_sem, ↓reduceIte, zA, zB, zC, zD, zE, zF, zG, zL, zM, zN, reduceCtorEq]; rfl, by simp only [go_sem, ↓reduceIte, zA, zB, zC, zD, zE, zF, zG, zL, zM, zN, reduceCtorEq], by simp only [go_sem, ↓reduceIte, zA, zB, zC, zD, zE, zF, zG, zL, zM, zN, reduceCtorEq], by simp only [go_sem, ↓reduceIte, zA, zB, zC, zD, zE, zF, zG, zL, zM, zN, reduceCtorEq], by simp only [go_sem, ↓reduceIte, zA, zB, zC, zD, zE, zF, zG, zL, zM, zN, reduceCtorEq], by simp only [go_sem, ↓reduceIte, zA, zB, zC, zD, zE, zF, zG, zL, zM, zN, reduceCtorEq]⟩
      rintro m N' ih fr _ ⟨i, l', rfl, hi, b1, b2, he, f25, f24, f23, f1, f2, f3⟩
      rcases Nat.lt_or_ge i t.ts.length with hlt | hge
      · have hg : (t.ts.map Tm.d).getD i .any = (t.ts.getD i Tm.z).d := getD_map _ _ _ hlt
        have h4 : (i : Int) < t.ts.length := by omega
        rw [drop_getD _ Tm.z hlt, mayGs] at he
        have hm := getD_mem t.ts Tm.z hlt
        have hle := mayG_le nodeB (t.ts.getD i Tm.z) l' (d - 1) b1
        repeat' first | rw [yu hr] | refine yj fun N hN => ?_ | refine yk ?_ | refine yl [2] ?_ | ((first | refine ya rfl rfl fun N hN => ?_ | refine ym ?_); simp only [go_sem, ↓reduceIte, zA, zB, zC, zD, zE, zF, zG, zL, zM, zN, reduceCtorEq, f25, f24, f23, f1, f2, f3, hg, hlt, h4, hq, e1, e2, Tryz.results95]) | ((first | refine yg rfl ?_ | refine yn ?_); try simp only [go_sem]) | ((first | refine yx hN _ _ ?_ | refine yz hN _ _ ?_); clear hN N) | ((refine ys fun r hr => ?_; (try have hrn := (St.set_none hr).1); (try have hrn2 := Ne.symm (St.set_none hr).1)); try simp only [go_sem, ↓reduceIte, zA, zB, zC, zD, zE, zF, zG, zL, zM, zN, reduceCtorEq, f25, f24, f23, f1, f2, f3, hg, hlt, h4, hq, e1, e2]) | (refine And.intro ?_ ?_; · omega) | fail
        refine ihT _ hm (wt.tm _ hm) _ _ _ _ _ _ hrq (by simp only [go_sem, ↓reduceIte, zA, zB, zC, zD, zE, zF, zG, zL, zM, zN, reduceCtorEq]) (by simp only [go_sem, ↓reduceIte, zA, zB, zC, zD, zE, zF, zG, zL, zM, zN, reduceCtorEq, hq, e1]) b1 (by omega) (by omega) (by omega) (fun hok => ?_) (fun hbad l2 => ?_)
        · have hok' : ¬ mayG nodeB (t.ts.getD i Tm.z) l' (d - 1) < 0 := by omega
          rw [if_neg hok'] at he
          repeat' first | refine yl [2] ?_ | ((first | refine ya rfl rfl fun N hN => ?_ | refine ym ?_); simp only [go_sem, ↓reduceIte, zA, zB, zC, zD, zE, zF, zG, zL, zM, zN, reduceCtorEq, f25, f24, f23, f1, f2, f3, hg, hlt, h4, hq, e1, e2, Tryz.results95]) | ((first | refine yg rfl ?_ | refine yn ?_); try simp only [go_sem]) | ((first | refine yx hN _ _ ?_ | refine yz hN _ _ ?_); clear hN N) | (refine And.intro ?_ ?_; · omega) | clear hN N | fail
          refine ih.back (m - 1) (by omega) _ _ ⟨i + 1, _, rfl, by omega, by omega, by omega, he, ?_, ?_, ?_, ?_, ?_, ?_⟩
          · simp only [go_sem, ↓reduceIte, zA, zB, zC, zD, zE, zF, zG, zL, zM, zN, reduceCtorEq]; rfl
          · simp only [go_sem, ↓reduceIte, zA, zB, zC, zD, zE, zF, zG, zL, zM, zN, reduceCtorEq, f24]
          · simp only [go_sem, ↓reduceIte, zA, zB, zC, zD, zE, zF, zG, zL, zM, zN, reduceCtorEq, f23]
          · simp only [go_sem, ↓reduceIte, zA, zB, zC, zD, zE, zF, zG, zL, zM, zN, reduceCtorEq, f1]
          · simp only [go_sem, ↓reduceIte, zA, zB, zC, zD, zE, zF, zG, zL, zM, zN, reduceCtorEq, f2]
          · simp only [go_sem, ↓reduceIte, zA, zB, zC, zD, zE, zF, zG, zL, zM, zN, reduceCtorEq, f3]
        · rw [if_pos hbad] at he
          repeat' first | refine yj fun N hN => ?_ | refine yl [2] ?_ | ((first | refine ya rfl rfl fun N hN => ?_ | refine ym ?_ | refine yo ?_); simp only [go_sem, ↓reduceIte, zA, zB, zC, zD, zE, zF, zG, zL, zM, zN, reduceCtorEq, f25, f24, f23, f1, f2, f3, hg, hlt, h4, hq, e1, e2, Tryz.results95]) | (refine yg rfl ?_; try simp only [go_sem]) | ((first | refine yx hN _ _ ?_ | refine yz hN _ _ ?_); clear hN N) | clear hN N | fail
          all_goals exact hno (by omega) _
      · have h4 : ¬ (i : Int) < t.ts.length := by omega
        rw [List.drop_of_length_le hge, mayGs] at he
        rw [← he] at hyes
        repeat' first | refine yj fun N hN => ?_ | refine yl [2] ?_ | ((first | refine ya rfl rfl fun N hN => ?_ | refine ym ?_ | refine yo ?_ | refine yp ?_); simp only [go_sem, ↓reduceIte, zA, zB, zC, zD, zE, zF, zG, zL, zM, zN, reduceCtorEq, f25, f24, f23, f1, f2, f3, h4, Tryz.results95]) | (refine yg rfl ?_; try simp only [go_sem]) | ((first | refine yx hN _ _ ?_ | refine yz hN _ _ ?_); clear hN N) | clear hN N | fail
        all_goals exact hyes b1
    · have c4 : nodeB t = false := by simpa using c3
      simp only [c1, c2, c4, or_true, reduceIte] at hno
      refine Sem.of_body Tryz.call95 Tryz.func95 rfl Tryz.ntmps95 (by simp) ?_
      repeat' first | refine yj fun N hN => ?_ | refine yl [2] ?_ | ((first | refine ya rfl rfl fun N hN => ?_ | refine yb rfl rfl rfl rfl fun N hN => ?_ | refine ym ?_ | refine yo ?_); simp only [go_sem, ↓reduceIte, zA, zB, zC, zD, zE, zF, zG, zL, zM, zN, reduceCtorEq, c1, c2, c4, hr, hq, e1, e2, Tryz.results95]) | (refine yg rfl ?_; try simp only [go_sem]) | ((first | refine yx hN _ _ ?_ | refine yz hN _ _ ?_); clear hN N) | (refine sem96 t hw _ _ ?_; try simp only [go_sem, ↓reduceIte, zA, zB, zC, zD, zE, zF, zG, zL, zM, zN, reduceCtorEq, c1, c2, c4, hr, hq, e1, e2]) | (refine And.intro ?_ ?_; · omega) | clear hN N | fail
      all_goals exact hno (by omega) _

/-- A term that may be at all. -/
def okT3 (t : Tm) : Bool := t.all nodeB && decide (t.size ≤ 65536) && decide (t.deep ≤ 4096)
theorem okT3_iff (t : Tm) : 0 ≤ mayG nodeB t 65536 4096 ↔ okT3 t = true := by
  rw [mayG_ok (by omega), okT3, Bool.and_eq_true, Bool.and_eq_true, decide_eq_true_eq, decide_eq_true_eq]
  constructor
  · rintro ⟨a, b, c⟩; exact ⟨⟨a, by omega⟩, by omega⟩
  · rintro ⟨⟨a, b⟩, c⟩; exact ⟨a, by omega, by omega⟩

theorem sem60 (t : Tm) (hw : t.wf) (st : St) (k : D → St → Prop) (hk : k (.bool (okT3 t)) st) : Sem P 60 [t.d] st k := by
  refine Sem.drop ?_
  refine Sem.of_body Tryz.call60 Tryz.func60 rfl Tryz.ntmps60 (by simp) ?_
  repeat' first | rw [yu hr] | refine yj fun N hN => ?_ | refine yl [3, 4] ?_ | (refine ya rfl rfl fun N hN => ?_; simp only [go_sem, ↓reduceIte, zA, zB, zC, zD, zE, zF, zG, zL, zM, zN, reduceCtorEq, Tryz.results60]) | (refine yg rfl ?_; try simp only [go_sem]) | ((first | refine yx hN _ _ ?_ | refine yz hN _ _ ?_); clear hN N) | ((refine ys fun r hr => ?_; (try have hrn := (St.set_none hr).1); (try have hrn2 := Ne.symm (St.set_none hr).1)); try simp only [go_sem, ↓reduceIte, zA, zB, zC, zD, zE, zF, zG, zL, zM, zN, reduceCtorEq]) | fail
  rename_i r1 hr1 N hN
  rw [St.mem_set] at hr
  have hne : r ≠ r1 := fun h => by rw [if_pos h] at hr; cases hr
  rw [if_neg hne] at hr
  have e1 : (r1 = r) = False := eq_false (fun h => hne h.symm)
  have hle : ∀ x, st.le (((st.set r1 (.cells [.int .i64 65536])).set r (.cells [.fn 95 [] [.ptr r1 0, .ptr r 0]])).set r1 x) := fun x =>
    St.le_set (St.le_set (St.le_set (St.le.refl _) _ hr1) _ hr) _ hr1
  refine sem95 t hw 65536 4096 r1 r _ _ (fun h => hne h.symm) (by simp only [go_sem, ↓reduceIte, zA, zB, zC, zD, zE, zF, zG, zL, zM, zN, reduceCtorEq, e1]) (by simp only [go_sem, ↓reduceIte, zA, zB, zC, zD, zE, zF, zG, zL, zM, zN, reduceCtorEq]) (by omega) (by omega) (by omega) (by omega) (fun hok => ?_) (fun hbad l2 => ?_)
  · rw [(okT3_iff t).1 hok] at hk
    repeat' first | ((first | refine ya rfl rfl fun N hN => ?_ | refine yo ?_); simp only [go_sem, ↓reduceIte, zA, zB, zC, zD, zE, zF, zG, zL, zM, zN, reduceCtorEq, Tryz.results60]) | (refine yg rfl ?_; try simp only [go_sem]) | ((first | refine yx hN _ _ ?_ | refine yz hN _ _ ?_); clear hN N) | fail
    exact ⟨st, hle _, hk⟩
  · have : okT3 t = false := by
      cases h : okT3 t with
      | false => rfl
      | true => have := (okT3_iff t).2 h; omega
    rw [this] at hk
    repeat' first | ((first | refine ya rfl rfl fun N hN => ?_ | refine yo ?_); simp only [go_sem, ↓reduceIte, zA, zB, zC, zD, zE, zF, zG, zL, zM, zN, reduceCtorEq, Tryz.results60]) | (refine yg rfl ?_; try simp only [go_sem]) | ((first | refine yx hN _ _ ?_ | refine yz hN _ _ ?_); clear hN N) | fail
    exact ⟨st, hle _, hk⟩

theorem sem111 (t : Tm) (i : Int) (st : St) (k : D → St → Prop) (hk : ∀ b : Int, 0 ≤ b → b ≤ 1 → k (.int .i64 b) st) : Sem P 111 [t.d, .int .i64 i] st k := by
  refine Sem.of_body Tryz.call111 Tryz.func111 rfl Tryz.ntmps111 (by simp) ?_
  repeat' first | refine yj fun N hN => ?_ | refine yk ?_ | refine yl [] ?_ | ((first | refine ya rfl rfl fun N hN => ?_ | refine yb rfl rfl rfl rfl fun N hN => ?_ | refine ym ?_ | refine yo ?_); simp only [go_sem, ↓reduceIte, zA, zB, zC, zD, zE, zF, zG, zL, zM, zN, reduceCtorEq, Tryz.results111]) | ((first | refine yg rfl ?_ | refine yn ?_); try simp only [go_sem]) | ((first | refine yx hN _ _ ?_ | refine yz hN _ _ ?_); clear hN N) | ((first | refine yq (fun h => ?_) (fun h => ?_) | (apply And.intro <;> intro h)) <;> (try simp only [zS, zT, zU, zV, Bool.not_true, Bool.not_false] at h) <;> (first | (exfalso; omega) | simp only [go_sem, ↓reduceIte, zA, zB, zC, zD, zE, zF, zG, zL, zM, zN, reduceCtorEq, h] | skip)) | clear hN N | fail
  all_goals exact hk _ (by omega) (by omega)

theorem sem98 (t : Tm) (a n : Int) (r : Nat) (st : St) (k : D → St → Prop) (hr : st.mem r = some (.cells [.int .i64 n])) (h0 : 0 ≤ n) (h1 : n ≤ 1000000000) (hk : k (.bool true) (st.set r (.cells [.int .i64 (n + 1)]))) :
    Sem P 98 [t.d, .int .i64 a, .ptr r 0] st k := by
  refine Sem.of_body Tryz.call98 Tryz.func98 rfl Tryz.ntmps98 (by simp) ?_
  repeat' first | refine yj fun N hN => ?_ | refine yl [2] ?_ | ((first | refine ya rfl rfl fun N hN => ?_ | refine yo ?_); simp only [go_sem, ↓reduceIte, zA, zB, zC, zD, zE, zF, zG, zL, zM, zN, reduceCtorEq, hr, Tryz.results98]) | (refine yg rfl ?_; try simp only [go_sem]) | ((first | refine yx hN _ _ ?_ | refine yz hN _ _ ?_); clear hN N) | (refine And.intro ?_ ?_; · omega) | fail
  all_goals exact hk

theorem sem97 : ∀ (t : Tm), t.wf → ∀ (a : Int) (n : Nat) (q : Nat) (st : St) (k : D → St → Prop), st.mem q = some (.cells [.int .i64 n]) → 0 ≤ a → a + t.deep ≤ 1000000000 → n + t.size ≤ 1000000000 →
    k (.bool true) (st.set q (.cells [.int .i64 (n + t.size : Nat)])) → Sem P 97 [t.d, .int .i64 a, .fn 98 [] [.ptr q 0]] st k := by
  intro t
  induction t using Tm.ind with
  | h kk n s ls ts ihT =>
    intro hw a n q st k hq ha0 ha1 hn hk
    have wt := hw.to
    generalize he : Tm.mk kk _ s ls ts = t at *
    have hts : ts = t.ts := by rw [← he]; rfl
    rw [hts] at ihT
    clear he hts
    have hts := wt.ts
    rw [Tm.deep_eq] at ha1
    rw [Tm.size_eq] at hn hk
    refine Sem.of_body Tryz.call97 Tryz.func97 rfl Tryz.ntmps97 (by simp) ?_
    repeat' first | refine yj fun N hN => ?_ | refine yk ?_ | refine yl [] ?_ | ((first | refine ya rfl rfl fun N hN => ?_ | refine ym ?_); simp only [go_sem, ↓reduceIte, zA, zB, zC, zD, zE, zF, zG, zL, zM, zN, reduceCtorEq, Tryz.results97]) | ((first | refine yg rfl ?_ | refine yn ?_); try simp only [go_sem]) | ((first | refine yx hN _ _ ?_ | refine yz hN _ _ ?_); clear hN N) | (refine sem98 t _ _ _ _ _ hq (by omega) (by omega) ?_; try simp only [go_sem, ↓reduceIte, zA, zB, zC, zD, zE, zF, zG, zL, zM, zN, reduceCtorEq]) | fail
    refine W.loopN (fun m fr st' => ∃ (i c : Nat), st' = st.set q (.cells [.int .i64 c]) ∧ i + m = t.ts.length ∧ c + Tm.sizes (t.ts.drop i) = n + (1 + Tm.sizes t.ts) ∧ fr 17 = .int .i64 i ∧ fr 16 = .int .i64 t.ts.length ∧ fr 15 = .sl .frozen 5 (t.ts.map Tm.d) ∧ fr 1 = .int .i64 a ∧ fr 2 = .fn 98 [] [.ptr q 0] ∧ fr 3 = .eptr t.d 0) ?_ t.ts.length _ _
      ⟨0, n + 1, by rfl, by simp, by simp; omega, by simp only [go_sem, ↓reduceIte, zA, zB, zC, zD, zE, zF, zG, zL, zM, zN, reduceCtorEq]; rfl, by simp only [go_sem, ↓reduceIte, zA, zB, zC, zD, zE, zF, zG, zL, zM, zN, reduceCtorEq], by simp only [go_sem, ↓reduceIte, zA, zB, zC, zD, zE, zF, zG, zL, zM, zN, reduceCtorEq], by simp only [go_sem, ↓reduceIte, zA, zB, zC, zD, zE, zF, zG, zL, zM, zN, reduceCtorEq], by simp only [go_sem, ↓reduceIte, zA, zB, zC, zD, zE, zF, zG, zL, zM, zN, reduceCtorEq], by simp only [go_sem, ↓reduceIte, zA, zB, zC, zD, zE, zF, zG, zL, zM, zN, reduceCtorEq]⟩
    rintro m N' ih fr _ ⟨i, c, rfl, hi, he, f17, f16, f15, f1, f2, f3⟩
    rcases Nat.lt_or_ge i t.ts.length with hlt | hge
    · have hg : (t.ts.map Tm.d).getD i .any = (t.ts.getD i Tm.z).d := getD_map _ _ _ hlt
      have h4 : (i : Int) < t.ts.length := by omega
      rw [drop_getD _ Tm.z hlt, Tm.sizes] at he
      have hm := getD_mem t.ts Tm.z hlt
      have hms := Tm.sizes_mem hm
      have hmd : (t.ts.getD i Tm.z).deep ≤ Tm.deeps t.ts := by
        have : ∀ {l : List Tm} {x : Tm}, x ∈ l → x.deep ≤ Tm.deeps l := fun {l} {x} h => by
          induction l with
          | nil => simp at h
          | cons y l ih =>
            rw [Tm.deeps]
            rcases List.mem_cons.1 h with rfl | h
            · omega
            · have := ih h; omega
        exact this hm
      repeat' first | rw [yu hr] | refine yj fun N hN => ?_ | refine yk ?_ | refine yl [] ?_ | ((first | refine ya rfl rfl fun N hN => ?_ | refine yc rfl rfl fun N hN => ?_ | refine ye rfl rfl fun N hN => ?_ | (refine yw hN _ _ ?_; clear hN N) | refine ym ?_); simp only [go_sem, ↓reduceIte, zA, zB, zC, zD, zE, zF, zG, zL, zM, zN, reduceCtorEq, f17, f16, f15, f1, f2, f3, hg, hlt, h4, Tryz.results97]) | ((first | refine yg rfl ?_ | refine yn ?_ | refine yi ?_); try simp only [go_sem]) | ((first | refine yx hN _ _ ?_ | refine yz hN _ _ ?_ | refine yy hN _ ?_); clear hN N) | refine yt (id := 6) mixed [] (.rd 0 (.rd 1 (.rd 2 (.rd 3 (.rd 6 (.act 4 [6, 1, 0] (.act 5 [6, 0] (.act 7 [] (.act 8 [] (.nil)))))))))) (by kernel_rfl) ?_ | (refine sem111 _ _ _ _ (fun b b0 b1 => ?_); try simp only [go_sem, ↓reduceIte, zA, zB, zC, zD, zE, zF, zG, zL, zM, zN, reduceCtorEq, f17, f16, f15, f1, f2, f3, hg, hlt, h4]) | (refine ihT _ hm (wt.tm _ hm) _ c q _ _ (by simp only [go_sem, ite_true])  (by omega) (by omega) (by omega) ?_; try simp only [go_sem, ↓reduceIte, zA, zB, zC, zD, zE, zF, zG, zL, zM, zN, reduceCtorEq, f17, f16, f15, f1, f2, f3, hg, hlt, h4]) | ((refine ys fun r hr => ?_; (try have hrn := (St.set_none hr).1); (try have hrn2 := Ne.symm (St.set_none hr).1)); try simp only [go_sem, ↓reduceIte, zA, zB, zC, zD, zE, zF, zG, zL, zM, zN, reduceCtorEq, f17, f16, f15, f1, f2, f3, hg, hlt, h4]) | (refine And.intro ?_ ?_; · omega) | clear hN N | fail
      refine ih.back (m - 1) (by omega) _ _ ⟨i + 1, _, rfl, by omega, by omega, ?_, ?_, ?_, ?_, ?_, ?_⟩
      · simp only [go_sem, ↓reduceIte, zA, zB, zC, zD, zE, zF, zG, zL, zM, zN, reduceCtorEq]; rfl
      · simp only [go_sem, ↓reduceIte, zA, zB, zC, zD, zE, zF, zG, zL, zM, zN, reduceCtorEq, f16]
      · simp only [go_sem, ↓reduceIte, zA, zB, zC, zD, zE, zF, zG, zL, zM, zN, reduceCtorEq, f15]
      · simp only [go_sem, ↓reduceIte, zA, zB, zC, zD, zE, zF, zG, zL, zM, zN, reduceCtorEq, f1]
      · simp only [go_sem, ↓reduceIte, zA, zB, zC, zD, zE, zF, zG, zL, zM, zN, reduceCtorEq, f2]
      · simp only [go_sem, ↓reduceIte, zA, zB, zC, zD, zE, zF, zG, zL, zM, zN, reduceCtorEq, f3]
    · have h4 : ¬ (i : Int) < t.ts.length := by omega
      rw [List.drop_of_length_le hge, Tm.sizes] at he
      repeat' first | refine yj fun N hN => ?_ | refine yl [] ?_ | ((first | refine ya rfl rfl fun N hN => ?_ | refine ym ?_ | refine yo ?_ | refine yp ?_); simp only [go_sem, ↓reduceIte, zA, zB, zC, zD, zE, zF, zG, zL, zM, zN, reduceCtorEq, f17, f16, f15, f1, f2, f3, h4, Tryz.results97]) | (refine yg rfl ?_; try simp only [go_sem]) | ((first | refine yx hN _ _ ?_ | refine yz hN _ _ ?_); clear hN N) | clear hN N | fail
      all_goals (rw [show c = n + (1 + Tm.sizes t.ts) by omega]; exact hk)

theorem sem61 (t : Tm) (hw : t.wf) (st : St) (k : D → St → Prop) (hk : k (.int .i64 (if okT3 t = true then (t.size : Int) else 0)) st) : Sem P 61 [t.d] st k := by
  have hds := Tm.deep_le_size t
  cases ho : okT3 t with
  | false =>
    simp only [ho, Bool.false_eq_true, if_false] at hk
    refine Sem.drop ?_
    refine Sem.of_body Tryz.call61 Tryz.func61 rfl Tryz.ntmps61 (by simp) ?_
    repeat' first | rw [yu hr] | refine yj fun N hN => ?_ | refine yl [2] ?_ | ((first | refine ya rfl rfl fun N hN => ?_ | refine ym ?_ | refine yo ?_); simp only [go_sem, ↓reduceIte, zA, zB, zC, zD, zE, zF, zG, zL, zM, zN, reduceCtorEq, ho, Tryz.results61]) | (refine yg rfl ?_; try simp only [go_sem]) | ((first | refine yx hN _ _ ?_ | refine yz hN _ _ ?_); clear hN N) | (refine sem60 t hw _ _ ?_; try simp only [go_sem, ↓reduceIte, zA, zB, zC, zD, zE, zF, zG, zL, zM, zN, reduceCtorEq, ho]) | ((refine ys fun r hr => ?_; (try have hrn := (St.set_none hr).1); (try have hrn2 := Ne.symm (St.set_none hr).1)); try simp only [go_sem, ↓reduceIte, zA, zB, zC, zD, zE, zF, zG, zL, zM, zN, reduceCtorEq, ho]) | clear hN N | fail
    exact ⟨st, St.le_set (St.le.refl _) _ hr, hk⟩
  | true =>
    simp only [ho, if_true] at hk
    have hsz : t.size ≤ 65536 ∧ t.deep ≤ 4096 := by
      simp only [okT3, Bool.and_eq_true, decide_eq_true_eq] at ho; exact ⟨ho.1.2, ho.2⟩
    refine Sem.drop ?_
    refine Sem.of_body Tryz.call61 Tryz.func61 rfl Tryz.ntmps61 (by simp) ?_
    repeat' first | refine yj fun N hN => ?_ | refine yl [2] ?_ | ((first | refine ya rfl rfl fun N hN => ?_ | refine ym ?_); simp only [go_sem, ↓reduceIte, zA, zB, zC, zD, zE, zF, zG, zL, zM, zN, reduceCtorEq, ho, Tryz.results61]) | ((first | refine yg rfl ?_ | refine yn ?_); try simp only [go_sem]) | ((first | refine yx hN _ _ ?_ | refine yz hN _ _ ?_); clear hN N) | (refine sem60 t hw _ _ ?_; try simp only [go_sem, ↓reduceIte, zA, zB, zC, zD, zE, zF, zG, zL, zM, zN, reduceCtorEq, ho]) | ((refine ys fun r hr => ?_; (try have hrn := (St.set_none hr).1); (try have hrn2 := Ne.symm (St.set_none hr).1)); try simp only [go_sem, ↓reduceIte, zA, zB, zC, zD, zE, zF, zG, zL, zM, zN, reduceCtorEq, ho]) | fail
    refine sem97 t hw 0 0 r _ _ (by simp only [go_sem, ↓reduceIte, zA, zB, zC, zD, zE, zF, zG, zL, zM, zN, reduceCtorEq]; rfl) (by omega) (by omega) (by omega) ?_
    repeat' first | rw [yu hr] | refine yj fun N hN => ?_ | refine yl [2] ?_ | ((first | refine ya rfl rfl fun N hN => ?_ | refine yo ?_); simp only [go_sem, ↓reduceIte, zA, zB, zC, zD, zE, zF, zG, zL, zM, zN, reduceCtorEq, ho, Tryz.results61]) | (refine yg rfl ?_; try simp only [go_sem]) | ((first | refine yx hN _ _ ?_ | refine yz hN _ _ ?_); clear hN N) | fail
    exact ⟨st, St.le_set (St.le.refl _) _ hr, hk⟩
end Go.Proofs.YtddbidoaolnegaaGreatDoor
