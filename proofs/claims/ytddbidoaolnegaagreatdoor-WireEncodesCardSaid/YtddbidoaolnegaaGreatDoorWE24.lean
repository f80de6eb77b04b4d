/-
PART OF A CLAIM: PO. No statement of the seat is proved here; no condition. -/
import Derived.Test.YtddbidoaolnegaaGreatDoorWE8
import Derived.Test.YtddbidoaolnegaaGreatDoorWE23
set_option linter.all false
/- Terms into the reference's tables: the walk. No statement of the seat is proved here; no condition. -/
namespace Go.Proofs.YtddbidoaolnegaaGreatDoor
open Go Go.RowKit
open Nat renaming reduceLT → zA, reduceEqDiff → zB, reduceBEq → zC, reduceAdd → zD, reduceMul → zE, reduceSub → zF, reduceLeDiff → zG, mul_one → zH, zero_add → zI, add_zero → zJ
open Int renaming toNat_natCast → zK, reduceAdd → zL, reduceLE → zM, reduceLT → zN, natCast_nonneg → zO
open Go.Proofs.YtddbidoaolnegaaGreatDoor renaming evI_plain → ya, evI_guard → yb, evT_rd → yc, evT_rdg → yd, evT_act → ye, evT_actg → yf, evI_done → yg, evT_two → yh, evT_nil → yi, W.seqG → yj, W.block → yk, W.regionI → yl, W.cond → ym, W.skip → yn, W.ret → yo, W.exit → yp, gdD_split → yq, newT_intro → yr, newB_intro → ys, W.draw → yt, St.set_del → yu, St.give_take → yv, AGo.go → yw, IGo.go → yx, TGo.go → yy, Goes.go → yz
attribute [local go_sem] zK zP zQ zH zI zJ zO
attribute [local irreducible] W evI evT evL evOp evBin gdD Sem newT newB fillD bldOf
set_option maxRecDepth 10000
set_option maxHeartbeats 4000000

theorem RS.mono {r : Nat} {e : En} {c : Nat → Option Nat} {st s : St} (h : RS r e c st) (l : st.le s) : RS r e c s :=
  ⟨l.1 _ _ h.w, h.z, fun i j a b => l.2 _ (h.t i j a b), h.d⟩
theorem KeepR.mono {c c' : Nat → Option Nat} {st st' s : St} (h : KeepR c st c' st') (l : st'.le s) : KeepR c st c' s :=
  ⟨fun j a b => ⟨l.2 _ (h.tok j a b).1, (h.tok j a b).2⟩⟩
theorem RS.take {r : Nat} {e : En} {c : Nat → Option Nat} {st : St} (h : RS r e c st) {q : Nat} (hq : ∀ i, i < 5 → c i ≠ some q) : RS r e c (st.take q) :=
  ⟨h.w, h.z, fun i j a b => by rw [St.tok_take, if_neg (fun e : j = q => hq i a (by rw [← e]; exact b))]; exact h.t i j a b, h.d⟩
theorem KeepR.take {c c' : Nat → Option Nat} {st st' : St} (h : KeepR c st c' st') {q : Nat} (hq : st.tok q = true → ∃ i, i < 5 ∧ c i = some q) : KeepR c st c' (st'.take q) :=
  ⟨fun j a b => ⟨by
    rw [St.tok_take, if_neg (fun e : j = q => by
      obtain ⟨i, h1, h2⟩ := hq (by rw [← e]; exact b)
      exact a i h1 (by rw [h2, e]))]; exact (h.tok j a b).1, (h.tok j a b).2⟩⟩
theorem KeepR.fresh {c c' : Nat → Option Nat} {st st' : St} (h : KeepR c st c' st') {q : Nat} (hq : st'.tok q = false) : st.tok q = true → ∃ i, i < 5 ∧ c i = some q := fun ht => by
  cases Classical.em (∃ i, i < 5 ∧ c i = some q) with
  | inl h => exact h
  | inr hn => have := (h.tok q (fun i a b => hn ⟨i, a, b⟩) ht).1; rw [hq] at this; cases this
theorem RS.own {r : Nat} {e : En} {c : Nat → Option Nat} {st : St} (h : RS r e c st) {q : Nat} (hq : st.tok q = false) : ∀ i, i < 5 → c i ≠ some q := fun i a b => by
  have := h.t i q a b; rw [hq] at this; cases this

/-- What the reference's tables hold is as it may be. -/
structure ROk (e : En) : Prop where
  names : ∀ s ∈ e.names, nameB s = true
  terms : ∀ t ∈ e.terms, t.wf
theorem ROk.name {e : En} (h : ROk e) {s : List UInt8} (hs : nameB s = true) : ROk (e.name s) := ⟨fun x hx => by
  have hx : x ∈ addU e.names s := hx
  by_cases hm : s ∈ e.names
  · rw [addU_mem hm] at hx; exact h.names x hx
  · rw [addU_new hm] at hx
    rcases List.mem_append.1 hx with hx | hx
    · exact h.names x hx
    · simp only [List.mem_singleton] at hx; rw [hx]; exact hs, h.terms⟩
theorem ROk.node {e : En} (h : ROk e) {t : Tm} (hn : nodeB t = true) : ROk (e.node t) := by
  have : ROk (e.nodeN t) := by
    unfold En.nodeN
    split
    · rename_i hk; exact h.name ((NodeB.of hn).name hk)
    · exact h
  exact ⟨this.names, this.terms⟩
theorem ROk.put {e : En} (h : ROk e) {t : Tm} (hn : nodeB t = true) (hw : t.wf) : ROk (e.putT t) := by
  refine ⟨(h.node hn).names, fun x hx => ?_⟩
  simp only [En.putT] at hx
  rcases List.mem_append.1 hx with hx | hx
  · exact h.terms x hx
  · simp only [List.mem_singleton] at hx; rw [hx]; exact hw
mutual
theorem ROk.term : ∀ (t : Tm) {e : En}, ROk e → t.all nodeB = true → t.wf → ROk (termE t e)
  | .mk k n s ls ts, e, h, hA, hw => by
    by_cases hm : Tm.mk k n s ls ts ∈ e.terms
    · rw [termE_old hm]; exact h
    · rw [termE_new hm]
      exact (ROk.kids ts h (fun x hx => all_kid hA hx) (fun x hx => hw.to.tm x hx)).put (all_node hA) hw
theorem ROk.kids : ∀ (ts : List Tm) {e : En}, ROk e → (∀ x ∈ ts, x.all nodeB = true) → (∀ x ∈ ts, x.wf) → ROk (kidsE ts e)
  | [], _, h, _, _ => by rw [kidsE]; exact h
  | t :: ts, _, h, hA, hw => by
    rw [kidsE]
    exact ROk.kids ts (ROk.term t h (hA t (by simp)) (hw t (by simp))) (fun x hx => hA x (by simp [hx])) (fun x hx => hw x (by simp [hx]))
end
theorem nm_len {s : List UInt8} (h : nameB s = true) : s.length < 140737488355328 := by have := nameB_len h; omega

theorem sem57 : ∀ (t : Tm), t.wf → t.all nodeB = true → ∀ (r : Nat) (e : En) (c : Nat → Option Nat) (st : St) (n : Nat), RS r e c st → ROk e → ESz e n → n + t.size ≤ 20000 →
    ∀ (k : D → St → Prop), (∀ c' st', RS r (termE t e) c' st' → KeepR c st c' st' → k (.int .u64 (pos (termE t e).terms t)) st') → Sem P 57 [.ptr r 0, t.d] st k := by
  intro t
  induction t using Tm.ind with
  | h kk m0 s ls ts ihT =>
    intro hw oA r e c st n hS hE hz hn k hk
    have wt := hw.to
    generalize he : Tm.mk kk m0 s ls ts = t at *
    have hts : ts = t.ts := by rw [← he]; rfl
    rw [hts] at ihT
    clear he hts
    have hnb := all_node oA
    have nt := NodeB.of hnb
    have hts3 : t.ts.length ≤ 3 := by have := nt.kids; have := kidsN_le t.k; omega
    have hsz := Tm.size_eq t
    obtain ⟨ow0, z0, hnd⟩ := oD_sl (z := 5) (hS.z 2)
    replace hnd : oD (c 2) 5 (e.terms.map Tm.d) = .sl ow0 z0 (e.terms.map Tm.d) := hnd
    have hw0 := hS.w
    rw [rCells, hnd] at hw0
    have hzt := hz.t
    refine Sem.of_body Tryz.call57 Tryz.func57 rfl Tryz.ntmps57 (by simp) ?_
    repeat' first | refine yj fun N hN => ?_ | refine yk ?_ | refine yl [] ?_ | (refine ya rfl rfl fun N hN => ?_; simp only [go_sem, ↓reduceIte, zA, zB, zC, zD, zE, zF, zG, zL, zM, zN, reduceCtorEq, Tryz.results57]) | (refine yg rfl ?_; try simp only [go_sem]) | ((first | refine yx hN _ _ ?_ | refine yz hN _ _ ?_); clear hN N) | fail
    refine W.loopN (fun m fr st' => st = st' ∧ ∃ i : Nat, i + m = e.terms.length ∧ (∀ j, j < i → e.terms.getD j Tm.z ≠ t) ∧ fr 5 = .int .i64 i ∧ fr 0 = .ptr r 0 ∧ fr 3 = .eptr t.d 0) ?_ e.terms.length _ _ ⟨rfl, 0, by simp, by simp, by simp only [go_sem, ↓reduceIte, zA, zB, zC, zD, zE, zF, zG, zL, zM, zN, reduceCtorEq]; rfl, by simp only [go_sem, ↓reduceIte, zA, zB, zC, zD, zE, zF, zG, zL, zM, zN, reduceCtorEq], by simp only [go_sem, ↓reduceIte, zA, zB, zC, zD, zE, zF, zG, zL, zM, zN, reduceCtorEq]⟩
    rintro m N' ih fr _ ⟨rfl, i, hi, hal, f5, f0, f3⟩
    have hwi : IntKind.u64.wrap (i : Int) = (i : Nat) := wrap_u64 (by omega)
    rcases Nat.lt_or_ge i e.terms.length with hlt | hge
    · have hg : (e.terms.map Tm.d).getD i .any = (e.terms.getD i Tm.z).d := getD_map _ _ _ hlt
      have i4 : (i : Int) < e.terms.length := by omega
      obtain ⟨j1, _, hj1⟩ := oD_ne (z := 5) (xs := e.terms.map Tm.d) (hS.z 2) (map_ne hlt)
      rw [← hnd, hj1] at hw0
      have hmx := getD_mem e.terms Tm.z hlt
      repeat' first | refine yj fun N hN => ?_ | refine yk ?_ | refine yl [] ?_ | ((first | refine ya rfl rfl fun N hN => ?_ | refine yc rfl rfl fun N hN => ?_ | refine ye rfl rfl fun N hN => ?_ | (refine yw hN _ _ ?_; clear hN N) | refine ym ?_ | refine yo ?_); simp only [go_sem, ↓reduceIte, zA, zB, zC, zD, zE, zF, zG, zL, zM, zN, reduceCtorEq, f5, f0, f3, hw0, hg, hlt, i4, hwi, Tryz.results57]) | ((first | refine yg rfl ?_ | refine yn ?_ | refine yi ?_); try simp only [go_sem]) | ((first | refine yx hN _ _ ?_ | refine yz hN _ _ ?_ | refine yy hN _ ?_); clear hN N) | refine yt (id := 4) mixed [] (.rd 0 (.rd 1 (.rd 2 (.rd 3 (.rd 4 (.rd 5 (.rd 6 (.act 7 [6, 5, 4, 3, 2, 1, 0] (.act 8 [] (.nil)))))))))) (by kernel_rfl) ?_ | (refine sem83 _ (hE.terms _ hmx) _ hw _ _ (fun hq => ?_) (fun hq => ?_); try simp only [go_sem, ↓reduceIte, zA, zB, zC, zD, zE, zF, zG, zL, zM, zN, reduceCtorEq, f5, f0, f3, hw0, hg, hlt, i4, hwi]) | (refine And.intro ?_ ?_; · omega) | clear hN N | fail
      · have hp := pos_first hal hlt hq
        have hm : t ∈ e.terms := by rw [← hq]; exact hmx
        rw [termE_old hm, hp] at hk
        exact hk c st hS (KeepR.refl c st)
      · refine ih.back (m - 1) (by omega) _ _ ⟨rfl, i + 1, by omega, lt_succ_all hal hq, ?_, ?_, ?_⟩
        · simp only [go_sem, ↓reduceIte, zA, zB, zC, zD, zE, zF, zG, zL, zM, zN, reduceCtorEq]; rfl
        · simp only [go_sem, ↓reduceIte, zA, zB, zC, zD, zE, zF, zG, zL, zM, zN, reduceCtorEq, f0]
        · simp only [go_sem, ↓reduceIte, zA, zB, zC, zD, zE, zF, zG, zL, zM, zN, reduceCtorEq, f3]
    · have i4 : ¬ (i : Int) < e.terms.length := by omega
      have hm : t ∉ e.terms := not_mem_getD (z := Tm.z) (fun j hj => hal j (by omega))
      repeat' first | refine yj fun N hN => ?_ | refine yk ?_ | refine yl [] ?_ | ((first | refine ya rfl rfl fun N hN => ?_ | refine ym ?_ | refine yp ?_); simp only [go_sem, ↓reduceIte, zA, zB, zC, zD, zE, zF, zG, zL, zM, zN, reduceCtorEq, f5, f0, f3, hw0, i4, Tryz.results57]) | (refine yg rfl ?_; try simp only [go_sem]) | ((first | refine yx hN _ _ ?_ | refine yz hN _ _ ?_); clear hN N) | clear hN N | fail
      refine W.loopN (fun m fr st' => ∃ (i : Nat) (e' : En) (c' : Nat → Option Nat), RS r e' c' st' ∧ KeepR c st c' st' ∧ ROk e' ∧ ESz e' (n + Tm.sizes (t.ts.take i)) ∧ kidsE (t.ts.drop i) e' = kidsE t.ts e ∧ i + m = t.ts.length ∧
        (∀ y ∈ e'.terms, y ∈ e.terms ∨ y.size < t.size) ∧ (∀ x ∈ t.ts.take i, x ∈ e'.terms) ∧ fr 7 = .int .i64 i ∧ fr 3 = .eptr t.d 0 ∧ fr 0 = .ptr r 0 ∧
        ((i = 0 ∧ fr 6 = .sl .nil 0 []) ∨ ∃ q, 0 < i ∧ fr 6 = .sl (.tok q) 1 (((t.ts.take i).map (pos e'.terms)).map fun n => .int .u64 (n : Nat)) ∧ st'.tok q = true ∧ (∀ x, x < 5 → c' x ≠ some q) ∧ (st.tok q = true → ∃ x, x < 5 ∧ c x = some q))) ?_ t.ts.length _ _
        ⟨0, e, _, hS, KeepR.refl c st, hE, hz.le (by omega), by simp, by simp, fun y hy => .inl hy, by simp, by simp only [go_sem, ↓reduceIte, zA, zB, zC, zD, zE, zF, zG, zL, zM, zN, reduceCtorEq]; rfl, by simp only [go_sem, ↓reduceIte, zA, zB, zC, zD, zE, zF, zG, zL, zM, zN, reduceCtorEq, f3], by simp only [go_sem, ↓reduceIte, zA, zB, zC, zD, zE, zF, zG, zL, zM, zN, reduceCtorEq, f0], .inl ⟨rfl, by simp only [go_sem, ↓reduceIte, zA, zB, zC, zD, zE, zF, zG, zL, zM, zN, reduceCtorEq]⟩⟩
      clear f5 f0 f3 i4 hal hi hge ih hwi
      rintro m N' ih fr st' ⟨i, e', c', gS, gK, gE, gz, gk, hi, gsm, gm, f7, f3, f0, gq⟩
      have ea := Tm.d_eq t
      rw [ea] at f3
      rcases Nat.lt_or_ge i t.ts.length with hlt | hge
      · have hg : (t.ts.map Tm.d).getD i .any = (t.ts.getD i Tm.z).d := getD_map _ _ _ hlt
        have h4 : (i : Int) < t.ts.length := by omega
        have hmx := getD_mem t.ts Tm.z hlt
        have hms := Tm.sizes_mem hmx
        have htk := take_succ_getD t.ts Tm.z hlt
        have hdr := drop_getD t.ts Tm.z hlt
        rw [hdr, kidsE] at gk
        have hss : Tm.sizes (t.ts.take i) + (t.ts.getD i Tm.z).size = Tm.sizes (t.ts.take (i + 1)) ∧ Tm.sizes (t.ts.take (i + 1)) ≤ Tm.sizes t.ts := by
          have app : ∀ a b : List Tm, Tm.sizes (a ++ b) = Tm.sizes a + Tm.sizes b := by
            intro a; induction a with
            | nil => intro b; simp [Tm.sizes]
            | cons x a ih => intro b; rw [List.cons_append, Tm.sizes, Tm.sizes, ih]; omega
          refine ⟨by rw [htk, app]; simp [Tm.sizes], ?_⟩
          conv => rhs; rw [← List.take_append_drop (i + 1) t.ts, app]
          omega
        have hxw := wt.tm _ hmx
        have hxo := all_kid oA hmx
        generalize t.ts.getD i Tm.z = x at *
        have hpos : ∀ z ∈ t.ts.take i, pos (termE x e').terms z = pos e'.terms z := fun z hz => by
          obtain ⟨mm, h⟩ := termE_ext x e'; rw [h, pos_app mm (gm z hz)]
        have hmapp : (t.ts.take i).map (pos e'.terms) = (t.ts.take i).map (pos (termE x e').terms) := List.map_congr_left fun z hz => (hpos z hz).symm
        have hnew : ((t.ts.take (i + 1)).map (pos (termE x e').terms)).map (fun n => D.int .u64 (n : Nat)) = ((t.ts.take i).map (pos e'.terms)).map (fun n => D.int .u64 (n : Nat)) ++ [.int .u64 (pos (termE x e').terms x)] := by
          rw [htk, List.map_append, List.map_append, hmapp]; rfl
        have hmem2 : ∀ z ∈ t.ts.take (i + 1), z ∈ (termE x e').terms := by
          intro z hz
          rw [htk] at hz
          rcases List.mem_append.1 hz with hz | hz
          · obtain ⟨mm, h⟩ := termE_ext x e'; rw [h]; exact List.mem_append_left _ (gm z hz)
          · simp only [List.mem_singleton] at hz; rw [hz]; exact termE_mem _ _
        have hsm2 : ∀ y ∈ (termE x e').terms, y ∈ e.terms ∨ y.size < t.size := fun y hy => by
          rcases termE_small x e' y hy with h | h
          · exact gsm y h
          · right; omega
        have hz2 : ESz (termE x e') (n + Tm.sizes (t.ts.take (i + 1))) := by
          have := ESz.term x gz (by omega) hxo
          exact this.le (by omega)
        have hln : (t.ts.take i).length ≤ 3 := by rw [List.length_take]; omega
        rcases gq with ⟨hi0, f6⟩ | ⟨q, hi0, f6, gt, gn, gf⟩
        · have ht0 : t.ts.take i = [] := by rw [hi0]; simp
          rw [ht0] at hnew
          repeat' first | refine yj fun N hN => ?_ | refine yk ?_ | refine yl [] ?_ | ((first | refine ya rfl rfl fun N hN => ?_ | refine ym ?_); simp only [go_sem, ↓reduceIte, zA, zB, zC, zD, zE, zF, zG, zL, zM, zN, reduceCtorEq, f7, f3, f0, f6, hg, hlt, h4, Tryz.results57]) | ((first | refine yg rfl ?_ | refine yn ?_); try simp only [go_sem]) | ((first | refine yx hN _ _ ?_ | refine yz hN _ _ ?_); clear hN N) | (refine ihT x hmx hxw hxo r e' c' st' _ gS gE gz (by omega) _ (fun c2 st2 vS vK => ?_); try simp only [go_sem, ↓reduceIte, zA, zB, zC, zD, zE, zF, zG, zL, zM, zN, reduceCtorEq, f7, f3, f0, f6, hg, hlt, h4]) | ((refine yr fun j hj => ?_; (try have hj0 := St.tok_of_give hj)); try simp only [go_sem, ↓reduceIte, zA, zB, zC, zD, zE, zF, zG, zL, zM, zN, reduceCtorEq, f7, f3, f0, f6, hg, hlt, h4]) | (refine And.intro ?_ ?_; · omega) | clear hN N | fail
          refine ih.back (m - 1) (by omega) _ _ ⟨i + 1, termE x e', c2, vS.mono (St.le_give (St.le.refl _) _), (gK.trans vK).mono (St.le_give (St.le.refl _) _), ROk.term x gE hxo hxw, hz2, gk, by omega, hsm2, hmem2, ?_, ?_, ?_, .inr ⟨j, by omega, ?_, by simp [St.tok_give], vS.own hj, (gK.trans vK).fresh hj⟩⟩
          · simp only [go_sem, ↓reduceIte, zA, zB, zC, zD, zE, zF, zG, zL, zM, zN, reduceCtorEq]; rfl
          · simp only [go_sem, ↓reduceIte, zA, zB, zC, zD, zE, zF, zG, zL, zM, zN, reduceCtorEq, f3]; try rw [ea]
          · simp only [go_sem, ↓reduceIte, zA, zB, zC, zD, zE, zF, zG, zL, zM, zN, reduceCtorEq, f0]
          · simp only [go_sem, ↓reduceIte, zA, zB, zC, zD, zE, zF, zG, zL, zM, zN, reduceCtorEq]; rw [hnew]; rfl
        · repeat' first | refine yj fun N hN => ?_ | refine yk ?_ | refine yl [] ?_ | ((first | refine ya rfl rfl fun N hN => ?_ | refine ym ?_); simp only [go_sem, ↓reduceIte, zA, zB, zC, zD, zE, zF, zG, zL, zM, zN, reduceCtorEq, f7, f3, f0, f6, hg, hlt, h4, Tryz.results57]) | ((first | refine yg rfl ?_ | refine yn ?_); try simp only [go_sem]) | ((first | refine yx hN _ _ ?_ | refine yz hN _ _ ?_); clear hN N) | fail
          refine ihT x hmx hxw hxo r e' c' st' _ gS gE gz (by omega) _ (fun c2 st2 vS vK => ?_)
          obtain ⟨v1, v2⟩ := vK.tok q gn gt
          repeat' first | refine yl [] ?_ | (refine ya rfl rfl fun N hN => ?_; simp only [go_sem, ↓reduceIte, zA, zB, zC, zD, zE, zF, zG, zL, zM, zN, reduceCtorEq, f7, f3, f0, f6, hg, hlt, h4, v1, Tryz.results57]) | (refine yg rfl ?_; try simp only [go_sem]) | ((first | refine yx hN _ _ ?_ | refine yz hN _ _ ?_); clear hN N) | ((refine yr fun j hj => ?_; (try have hj0 := St.tok_of_give hj)); try simp only [go_sem, ↓reduceIte, zA, zB, zC, zD, zE, zF, zG, zL, zM, zN, reduceCtorEq, f7, f3, f0, f6, hg, hlt, h4, v1]) | (refine And.intro ?_ ?_; · omega) | clear hN N | fail
          refine ih.back (m - 1) (by omega) _ _ ⟨i + 1, termE x e', c2, (vS.take v2).mono (St.le_give (St.le.refl _) _), ((gK.trans vK).take gf).mono (St.le_give (St.le.refl _) _), ROk.term x gE hxo hxw, hz2, gk, by omega, hsm2, hmem2, ?_, ?_, ?_, .inr ⟨j, by omega, ?_, by simp [St.tok_give], vS.own hj, (gK.trans vK).fresh (q := j) hj⟩⟩
          · simp only [go_sem, ↓reduceIte, zA, zB, zC, zD, zE, zF, zG, zL, zM, zN, reduceCtorEq]; rfl
          · simp only [go_sem, ↓reduceIte, zA, zB, zC, zD, zE, zF, zG, zL, zM, zN, reduceCtorEq, f3]; try rw [ea]
          · simp only [go_sem, ↓reduceIte, zA, zB, zC, zD, zE, zF, zG, zL, zM, zN, reduceCtorEq, f0]
          · simp only [go_sem, ↓reduceIte, zA, zB, zC, zD, zE, zF, zG, zL, zM, zN, reduceCtorEq]; rw [hnew]
      · have h4 : ¬ (i : Int) < t.ts.length := by omega
        rw [List.drop_of_length_le hge, kidsE] at gk
        rw [List.take_of_length_le hge] at gz gq
        have hnt : t ∉ e'.terms := fun h => by
          rcases gsm t h with h | h
          · exact hm h
          · omega
        obtain ⟨ow, z, f6, hzz⟩ : ∃ ow z, fr 6 = .sl ow z ((t.ts.map (pos e'.terms)).map fun n => .int .u64 (n : Nat)) ∧ (t.ts = [] ∨ z = 1) := by
          rcases gq with ⟨h0, f6⟩ | ⟨q, _, f6, _⟩
          · have : t.ts = [] := List.eq_nil_of_length_eq_zero (by omega)
            exact ⟨.nil, 0, by rw [f6, this]; rfl, .inl this⟩
          · exact ⟨.tok q, 1, f6, .inr rfl⟩
        have hpt := gz.put (by omega) hnb
        have hT : termE t e = e'.putT t := by rw [termE_new hm, ← gk]
        rw [hT] at hk
        have hpp : pos (e'.putT t).terms t = e'.terms.length := by
          have := pos_addU e'.terms t
          rw [addU_new hnt, pos_not hnt] at this
          exact this
        rw [hpp] at hk
        repeat' first | refine yj fun N hN => ?_ | refine yl [] ?_ | (refine ya rfl rfl fun N hN => ?_; simp only [go_sem, ↓reduceIte, zA, zB, zC, zD, zE, zF, zG, zL, zM, zN, reduceCtorEq, f7, f3, f0, f6, h4, Tryz.results57]) | (refine yg rfl ?_; try simp only [go_sem]) | ((first | refine yx hN _ _ ?_ | refine yz hN _ _ ?_); clear hN N) | fail
        refine W.cond ?_
        simp only [go_sem, ↓reduceIte, zA, zB, zC, zD, zE, zF, zG, zL, zM, zN, reduceCtorEq]
        repeat' first | refine yj fun N hN => ?_ | refine yl [] ?_ | ((first | refine ya rfl rfl fun N hN => ?_ | refine yp ?_); simp only [go_sem, ↓reduceIte, zA, zB, zC, zD, zE, zF, zG, zL, zM, zN, reduceCtorEq, f7, f3, f0, f6, h4, Tryz.results57]) | (refine yg rfl ?_; try simp only [go_sem]) | ((first | refine yx hN _ _ ?_ | refine yz hN _ _ ?_); clear hN N) | clear hN N | fail
        have hNz : ESz (e'.nodeN t) (n + Tm.sizes t.ts + 1) := by
          unfold En.nodeN
          split
          · rename_i hk2
            have q := nmB_len (l := e'.names) (nt.name hk2)
            have a1 := gz.nm; have a2 := gz.l; have a3 := gz.t; have a4 := gz.d
            exact ⟨⟨by show (addU e'.names t.s).length ≤ _; omega, by show (nmB (addU e'.names t.s)).length ≤ _; omega⟩, ⟨by show e'.levels.length ≤ _; omega, by show (lvBs e'.levels).length ≤ _; omega⟩, ⟨by show e'.terms.length ≤ _; omega, by show e'.tb.length ≤ _; omega⟩, by show e'.db.length ≤ _; omega⟩
          · exact gz.le (by omega)
        have hk256 := wt.k
        have hu8 := u8_k t.k hk256
        have hn0 := nt.n
        have hnw := wrap_u64i hn0.1 (by omega)
        have hlw := wrap_u64 (n := t.ls.length) (by have := nt.ls; omega)
        have gzn := gz.nm
        have hpn := pos_le e'.names t.s
        have ln := num_len64 (n := t.n.toNat) (by omega)
        have lp := num_len64 (n := pos e'.names t.s) (by omega)
        have ll := num_len64 (n := t.ls.length) (by have := nt.ls; omega)
        have key1 : ∀ (fr : Fr) (st2 : St) (ow2 : Own) (z2 : Nat), RS r e' c' st2 → KeepR c st c' st2 → fr 8 = .sl ow2 z2 (byD (UInt8.ofNat t.k :: (if t.k = 2 then num t.n.toNat else []))) → fr 0 = .ptr r 0 → fr 3 = .eptr t.d 0 → fr 6 = .sl ow z ((t.ts.map (pos e'.terms)).map fun n => .int .u64 (n : Nat)) → N fr st2 := by
          intro fr st2 ow2 z2 gS gK f8 f0 f3 f6
          rw [ea] at f3
          refine Goes.go hN _ _ ?_
          clear hN N
          have hNn : (e'.nodeN t).names.length ≤ e'.names.length + 1 := by have := hNz.nm; unfold En.nodeN; split; exact (nmB_len (nt.name (by assumption))).1; omega
          have hNl : (e'.nodeN t).levels = e'.levels := by unfold En.nodeN; split <;> rfl
          have hlv : ∀ l ∈ t.ls, lvB l = true := by have := nt.lv; rwa [List.all_eq_true] at this
          have hNlen := hNz.l
          have hls4 := nt.ls
          have hhl2 : (nodeHd (e'.nodeN t) t).length ≤ 21 := nodeHd_len hNz (by omega) hnb
          by_cases k3 : t.k = 3
          · have e3 : (t.k : Int) = 3 := by omega
            have k2 : ¬ t.k = 2 := by omega
            rw [if_neg k2] at f8
            have hN1 : e'.nodeN t = e'.name t.s := by rw [En.nodeN, if_pos (.inl k3)]
            have hh : nodeHd (e'.nodeN t) t = [UInt8.ofNat t.k] ++ num (pos e'.names t.s) ++ num t.ls.length := by rw [hN1, nodeHd, if_neg k2, if_pos k3]; simp [En.name, pos_addU]
            repeat' first | refine yj fun N hN => ?_ | refine yk ?_ | refine yl [] ?_ | ((first | refine ya rfl rfl fun N hN => ?_ | refine yb rfl rfl rfl rfl fun N hN => ?_ | refine ym ?_); simp only [go_sem, ↓reduceIte, zA, zB, zC, zD, zE, zF, zG, zL, zM, zN, reduceCtorEq, f8, f0, f3, f6, e3, hlw, Tryz.results57]) | ((first | refine yg rfl ?_ | refine yn ?_); try simp only [go_sem]) | ((first | refine yx hN _ _ ?_ | refine yz hN _ _ ?_); clear hN N) | (refine sem56 _ (nm_len (nt.name (.inl k3))) r e' c' _ gS (fun x hx => nm_len (gE.names x hx)) (by omega) _ (fun c2 st3 gS2 gK2 => ?_); try simp only [go_sem, ↓reduceIte, zA, zB, zC, zD, zE, zF, zG, zL, zM, zN, reduceCtorEq, f8, f0, f3, f6, e3, hlw]) | (refine sem21 _ _ _ _ _ _ (by simp only [List.length_append, List.length_cons, List.length_nil]; omega) (by omega) fun j hj => ?_; try simp only [go_sem, ↓reduceIte, zA, zB, zC, zD, zE, zF, zG, zL, zM, zN, reduceCtorEq, f8, f0, f3, f6, e3, hlw]) | ((apply And.intro <;> intro h) <;> (try simp only [zS, zT, zU, zV, Bool.not_true, Bool.not_false] at h) <;> (first | (exfalso; omega) | simp only [go_sem, ↓reduceIte, zA, zB, zC, zD, zE, zF, zG, zL, zM, zN, reduceCtorEq, f8, f0, f3, f6, e3, hlw, h] | skip)) | fail
            have gS3 : ∀ a b, RS r (e'.nodeN t) c2 ((st3.give a).give b) := fun a b => by rw [hN1]; exact gS2.mono (St.le_give (St.le_give (St.le.refl _) _) _)
            have gK3 : ∀ a b, KeepR c st c2 ((st3.give a).give b) := fun a b => (gK.trans gK2).mono (St.le_give (St.le_give (St.le.refl _) _) _)
            refine W.loopN (fun m fr st' => ∃ (i : Nat) (c2 : Nat → Option Nat) (ow2 : Own) (z2 : Nat), RS r ((e'.nodeN t).lvs (t.ls.take i)) c2 st' ∧ KeepR c st c2 st' ∧ i + m = t.ls.length ∧ ((t.ls.take i).flatMap (fun l => num (pos (e'.node t).levels l))).length ≤ 10 * i ∧
              fr 9 = .int .i64 i ∧ fr 8 = .sl ow2 z2 (byD (nodeHd (e'.nodeN t) t ++ (t.ls.take i).flatMap (fun l => num (pos (e'.node t).levels l)))) ∧ fr 3 = .eptr t.d 0 ∧ fr 0 = .ptr r 0 ∧ fr 6 = .sl ow z ((t.ts.map (pos e'.terms)).map fun n => .int .u64 (n : Nat))) ?_ t.ls.length _ _
              ⟨0, c2, .tok j, 1, gS3 _ _, gK3 _ _, by simp, by simp, by simp only [go_sem, ↓reduceIte, zA, zB, zC, zD, zE, zF, zG, zL, zM, zN, reduceCtorEq]; rfl, (by (try simp only [go_sem, ↓reduceIte, zA, zB, zC, zD, zE, zF, zG, zL, zM, zN, reduceCtorEq]); (try simp only [f8]); simp [hh]), by simp only [go_sem, ↓reduceIte, zA, zB, zC, zD, zE, zF, zG, zL, zM, zN, reduceCtorEq, f3]; try rw [ea], by simp only [go_sem, ↓reduceIte, zA, zB, zC, zD, zE, zF, zG, zL, zM, zN, reduceCtorEq, f0], by simp only [go_sem, ↓reduceIte, zA, zB, zC, zD, zE, zF, zG, zL, zM, zN, reduceCtorEq, f6]⟩
            clear gS3 gS2 gK2 gS gK f8 f0 f3 f6 hh
            rintro m N' ih fr st' ⟨i, c2, ow2, z2, gS, gK, hi, hbl, f9, f8, f3, f0, f6⟩
            rw [ea] at f3
            rcases Nat.lt_or_ge i t.ls.length with hlt | hge
            · have hg : (t.ls.map Lv.d).getD i .any = (t.ls.getD i Lv.z).d := getD_map _ _ _ hlt
              have h4 : (i : Int) < t.ls.length := by omega
              have hmx := getD_mem t.ls Lv.z hlt
              have hpf := pos_lv_final (e := e'.nodeN t) hlt
              have htk := take_succ_getD t.ls Lv.z hlt
              have hsz := lvs_sz (e := e'.nodeN t) (n := 0) (ls := t.ls.take i) (fun l hl => hlv l (List.mem_of_mem_take hl))
              have htl : (t.ls.take i).length ≤ 4 := by rw [List.length_take]; omega
              have hple := pos_le ((e'.nodeN t).lvs (t.ls.take i)).levels (t.ls.getD i Lv.z)
              have hnl := num_len64 (n := pos ((e'.nodeN t).lvs (t.ls.take i)).levels (t.ls.getD i Lv.z)) (by omega)
              have hbb : (nodeHd (e'.nodeN t) t ++ (t.ls.take i).flatMap (fun l => num (pos (e'.node t).levels l))).length < 1000000000 := by rw [List.length_append]; omega
              repeat' first | refine yj fun N hN => ?_ | refine yk ?_ | refine yl [] ?_ | ((first | refine ya rfl rfl fun N hN => ?_ | refine ym ?_); simp only [go_sem, ↓reduceIte, zA, zB, zC, zD, zE, zF, zG, zL, zM, zN, reduceCtorEq, f9, f8, f3, f0, f6, hg, hlt, h4, Tryz.results57]) | ((first | refine yg rfl ?_ | refine yn ?_); try simp only [go_sem]) | ((first | refine yx hN _ _ ?_ | refine yz hN _ _ ?_); clear hN N) | (refine sem94 _ r _ c2 _ gS (by omega) _ (fun c3 st3 vS vK => ?_); try simp only [go_sem, ↓reduceIte, zA, zB, zC, zD, zE, zF, zG, zL, zM, zN, reduceCtorEq, f9, f8, f3, f0, f6, hg, hlt, h4]) | (refine sem21 _ _ _ _ _ _ hbb (by omega) fun j hj => ?_; try simp only [go_sem, ↓reduceIte, zA, zB, zC, zD, zE, zF, zG, zL, zM, zN, reduceCtorEq, f9, f8, f3, f0, f6, hg, hlt, h4]) | (refine And.intro ?_ ?_; · omega) | clear hN N | fail
              refine ih.back (m - 1) (by omega) _ _ ⟨i + 1, c3, .tok j, 1, ?_, (gK.trans vK).mono (St.le_give (St.le.refl _) _), by omega, ?_, ?_, ?_, ?_, ?_, ?_⟩
              · rw [lvs_take hlt]; exact vS.mono (St.le_give (St.le.refl _) _)
              · rw [htk, List.flatMap_append, List.length_append]
                simp only [List.flatMap_cons, List.flatMap_nil, List.append_nil]
                rw [show (e'.node t).levels = ((e'.nodeN t).lvs t.ls).levels from rfl, hpf] at *
                omega
              · simp only [go_sem, ↓reduceIte, zA, zB, zC, zD, zE, zF, zG, zL, zM, zN, reduceCtorEq]; rfl
              · simp only [go_sem, ↓reduceIte, zA, zB, zC, zD, zE, zF, zG, zL, zM, zN, reduceCtorEq]
                rw [htk, List.flatMap_append, ← List.append_assoc]
                simp only [List.flatMap_cons, List.flatMap_nil, List.append_nil]
                rw [show (e'.node t).levels = ((e'.nodeN t).lvs t.ls).levels from rfl, hpf]
              · simp only [go_sem, ↓reduceIte, zA, zB, zC, zD, zE, zF, zG, zL, zM, zN, reduceCtorEq, f3]; try rw [ea]
              · simp only [go_sem, ↓reduceIte, zA, zB, zC, zD, zE, zF, zG, zL, zM, zN, reduceCtorEq, f0]
              · simp only [go_sem, ↓reduceIte, zA, zB, zC, zD, zE, zF, zG, zL, zM, zN, reduceCtorEq, f6]
            · have h4 : ¬ (i : Int) < t.ls.length := by omega
              rw [List.take_of_length_le hge] at f8 gS hbl
              repeat' first | refine yj fun N hN => ?_ | refine yk ?_ | refine yl [] ?_ | ((first | refine ya rfl rfl fun N hN => ?_ | refine ym ?_ | refine yp ?_); simp only [go_sem, ↓reduceIte, zA, zB, zC, zD, zE, zF, zG, zL, zM, zN, reduceCtorEq, f9, f8, f3, f0, f6, h4, Tryz.results57]) | (refine yg rfl ?_; try simp only [go_sem]) | ((first | refine yx hN _ _ ?_ | refine yz hN _ _ ?_); clear hN N) | clear hN N | fail
              have hbl3 : (t.ls.flatMap (fun l => num (pos (e'.node t).levels l))).length ≤ 40 := by omega
              rw [← ea] at f3
              refine W.loopN (fun m fr st' => ∃ (i : Nat) (ow2 : Own) (z2 : Nat), RS r (e'.node t) c2 st' ∧ KeepR c st c2 st' ∧ i + m = t.ts.length ∧ ((t.ts.take i).flatMap (fun x => num (pos e'.terms x))).length ≤ 10 * i ∧
                fr 10 = .int .i64 i ∧ fr 6 = .sl ow z ((t.ts.map (pos e'.terms)).map fun n => .int .u64 (n : Nat)) ∧ fr 3 = .eptr t.d 0 ∧ fr 0 = .ptr r 0 ∧ fr 8 = .sl ow2 z2 (byD (nodeHd (e'.nodeN t) t ++ t.ls.flatMap (fun l => num (pos (e'.node t).levels l)) ++ (t.ts.take i).flatMap (fun x => num (pos e'.terms x))))) ?_ t.ts.length _ _
                ⟨0, ow2, z2, gS, gK, by simp, by simp, by simp only [go_sem, ↓reduceIte, zA, zB, zC, zD, zE, zF, zG, zL, zM, zN, reduceCtorEq]; rfl, by simp only [go_sem, ↓reduceIte, zA, zB, zC, zD, zE, zF, zG, zL, zM, zN, reduceCtorEq, f6], by simp only [go_sem, ↓reduceIte, zA, zB, zC, zD, zE, zF, zG, zL, zM, zN, reduceCtorEq, f3], by simp only [go_sem, ↓reduceIte, zA, zB, zC, zD, zE, zF, zG, zL, zM, zN, reduceCtorEq, f0], by simp only [go_sem, ↓reduceIte, zA, zB, zC, zD, zE, zF, zG, zL, zM, zN, reduceCtorEq, f8]; simp⟩
              clear gS gK f8 f6 f3 f0 f9 h4 hi hge ih
              rintro m N' ih fr st' ⟨i, ow2, z2, gS, gK, hi, hbl2, f10, f6, f3, f0, f8⟩
              have hlk : ((t.ts.map (pos e'.terms)).map fun n => D.int .u64 (n : Nat)).length = t.ts.length := by simp
              rcases Nat.lt_or_ge i t.ts.length with hlt | hge
              · have hz1' : z = 1 := by
                  rcases hzz with h | h
                  · rw [h] at hlt; simp at hlt
                  · exact h
                have hg : ((t.ts.map (pos e'.terms)).map fun n => D.int .u64 (n : Nat)).getD i .any = .int .u64 (pos e'.terms (t.ts.getD i Tm.z)) := by
                  rw [map_u64_getD _ (by simpa using hlt)]
                  simp [List.getD, hlt]
                have h4 : (i : Int) < t.ts.length := by omega
                have htk := take_succ_getD t.ts Tm.z hlt
                have hple := pos_le e'.terms (t.ts.getD i Tm.z)
                have hgt := gz.t
                have hnl := num_len64 (n := pos e'.terms (t.ts.getD i Tm.z)) (by omega)
                have hbb : (nodeHd (e'.nodeN t) t ++ t.ls.flatMap (fun l => num (pos (e'.node t).levels l)) ++ (t.ts.take i).flatMap (fun x => num (pos e'.terms x))).length < 1000000000 := by rw [List.length_append, List.length_append]; omega
                repeat' first | refine yj fun N hN => ?_ | refine yk ?_ | refine yl [] ?_ | ((first | refine ya rfl rfl fun N hN => ?_ | refine ym ?_); simp only [go_sem, ↓reduceIte, zA, zB, zC, zD, zE, zF, zG, zL, zM, zN, reduceCtorEq, f10, f6, f3, f0, f8, hg, hlt, h4, hz1', Tryz.results57]) | ((first | refine yg rfl ?_ | refine yn ?_); try simp only [go_sem]) | ((first | refine yx hN _ _ ?_ | refine yz hN _ _ ?_); clear hN N) | (refine sem21 _ _ _ _ _ _ hbb (by omega) fun j hj => ?_; try simp only [go_sem, ↓reduceIte, zA, zB, zC, zD, zE, zF, zG, zL, zM, zN, reduceCtorEq, f10, f6, f3, f0, f8, hg, hlt, h4, hz1']) | (refine And.intro ?_ ?_; · omega) | clear hN N | fail
                refine ih.back (m - 1) (by omega) _ _ ⟨i + 1, .tok j, 1, gS.mono (St.le_give (St.le.refl _) _), gK.mono (St.le_give (St.le.refl _) _), by omega, ?_, ?_, ?_, ?_, ?_, ?_⟩
                · rw [htk, List.flatMap_append, List.length_append]
                  simp only [List.flatMap_cons, List.flatMap_nil, List.append_nil]
                  omega
                · simp only [go_sem, ↓reduceIte, zA, zB, zC, zD, zE, zF, zG, zL, zM, zN, reduceCtorEq]; rfl
                · simp only [go_sem, ↓reduceIte, zA, zB, zC, zD, zE, zF, zG, zL, zM, zN, reduceCtorEq, f6, hz1']
                · simp only [go_sem, ↓reduceIte, zA, zB, zC, zD, zE, zF, zG, zL, zM, zN, reduceCtorEq, f3]
                · simp only [go_sem, ↓reduceIte, zA, zB, zC, zD, zE, zF, zG, zL, zM, zN, reduceCtorEq, f0]
                · simp only [go_sem, ↓reduceIte, zA, zB, zC, zD, zE, zF, zG, zL, zM, zN, reduceCtorEq]
                  rw [htk, List.flatMap_append, ← List.append_assoc]
                  simp only [List.flatMap_cons, List.flatMap_nil, List.append_nil]
              · have h4 : ¬ (i : Int) < t.ts.length := by omega
                rw [List.take_of_length_le hge, ← nodeBy_hd] at f8
                repeat' first | refine yj fun N hN => ?_ | refine yl [] ?_ | (refine ya rfl rfl fun N hN => ?_; simp only [go_sem, ↓reduceIte, zA, zB, zC, zD, zE, zF, zG, zL, zM, zN, reduceCtorEq, f10, f6, f3, f0, f8, h4, Tryz.results57]) | (refine yg rfl ?_; try simp only [go_sem]) | (refine yx hN _ _ ?_; clear hN N) | fail
                refine Goes.go hN _ _ ?_
                clear hN N
                repeat' first | ((first | refine ym ?_ | refine yp ?_); simp only [go_sem, ↓reduceIte, zA, zB, zC, zD, zE, zF, zG, zL, zM, zN, reduceCtorEq, f10, f6, f3, f0, f8, h4, Tryz.results57]) | clear hN N | fail
                have hw2 := gS.w
                rw [rCells] at hw2
                have hBne : byD (nodeBy (e'.node t) t) ≠ [] := by simp [nodeBy, byD]
                have hgt := gz.t
                have hBl := hpt.2
                obtain ⟨nt1, nt2, nt3⟩ := node_terms e' t
                rw [nt2] at hw2
                refine Goes.go hN _ _ ?_
                clear hN N
                refine W.seqG fun N hN => ?_
                have key5 : ∀ (fr : Fr) (st3 : St) (c3 : Nat → Option Nat), RS r { e'.node t with tb := e'.tb ++ nodeBy (e'.node t) t } c3 st3 → KeepR c st c3 st3 → fr 0 = .ptr r 0 → fr 3 = .eptr t.d 0 → N fr st3 := by
                  intro fr st3 c3 gS gK f0 f3
                  have hw3 := gS.w
                  rw [rCells] at hw3
                  have hwq : IntKind.u64.wrap (((e'.terms.length + 1 : Nat) : Int) - 1) = (e'.terms.length : Nat) := wrap_last (by omega)
                  have hwp : IntKind.u64.wrap (e'.terms.length : Int) = (e'.terms.length : Nat) := wrap_u64 (by omega)
                  refine Goes.go hN _ _ ?_
                  clear hN N
                  refine W.seqG fun N hN => ?_
                  have hmp : (e'.terms ++ [t]).map Tm.d = e'.terms.map Tm.d ++ [t.d] := by rw [List.map_append]; rfl
                  have hl2 : ∀ x, x ≠ 2 → rL (e'.putT t) x = rL { e'.node t with tb := e'.tb ++ nodeBy (e'.node t) t } x := fun x hx => by rcases x with _ | _ | _ | _ | _ | x <;> first | rfl | exact absurd rfl hx
                  refine W.late2 (id := 29) (c := 7) (tS := 31) (tE := 33) (tM := 74) (s0 := 127) (s3 := 130) (s4 := 131) (s5 := 132) (s6 := 133) (s7 := 134) (s8 := 135) (s10 := 136) (s11 := 137) (f := 2) (z := 5) (q := 2) (bs := 80) mixed [] (.rd 0 (.rd 1 (.rd 2 (.rd 3 (.rd 4 (.rd 5 (.act 6 [5, 4, 3, 2, 1, 0] (.nil)))))))) (by kernel_rfl) (by kernel_rfl) rfl
                    ⟨⟨_, rfl, rfl, rfl, rfl⟩, ⟨_, rfl, rfl, rfl, rfl⟩, ⟨_, rfl, rfl, rfl, rfl⟩, ⟨_, rfl, rfl, rfl, rfl⟩, ⟨_, rfl, rfl, rfl, rfl⟩, ⟨by kernel_rfl, by kernel_rfl, by kernel_rfl, by kernel_rfl⟩, by decide, by decide⟩ (by kernel_rfl) ⟨_, _, rfl, rfl, rfl, rfl, rfl, rfl, rfl⟩
                    (by kernel_rfl) (by kernel_rfl) ?_ ?_ ?_ (by decide) ?_
                  · intro i j hi hj
                    rcases (show i = 0 ∨ i = 1 ∨ i = 2 by omega) with rfl | rfl | rfl <;> rcases (show j = 0 ∨ j = 1 ∨ j = 2 ∨ j = 3 by omega) with rfl | rfl | rfl | rfl <;> kernel_rfl
                  · intro i j hi hj
                    rcases (show i = 0 ∨ i = 1 by omega) with rfl | rfl <;> rcases (show j = 0 ∨ j = 1 ∨ j = 2 ∨ j = 3 by omega) with rfl | rfl | rfl | rfl <;> kernel_rfl
                  · intro i j hi hj
                    rcases (show i = 0 ∨ i = 1 ∨ i = 2 by omega) with rfl | rfl | rfl <;> rcases (show j = 0 ∨ j = 1 ∨ j = 2 by omega) with rfl | rfl | rfl <;> kernel_rfl
                  rw [nt1] at hw3
                  cases hc4 : c3 2 with
                  | none =>
                    have h0 : (e'.node t).terms.map Tm.d = [] := gS.z 2 hc4
                    rw [nt1] at h0
                    have h0' : e'.terms = [] := by simpa using h0
                    rw [hc4, show oD none 5 (e'.terms.map Tm.d) = .sl .nil 0 [] from rfl] at hw3
                    repeat' first | ((first | refine yc rfl rfl fun N hN => ?_ | refine ye rfl rfl fun N hN => ?_ | (refine yw hN _ _ ?_; clear hN N)); simp only [go_sem, ↓reduceIte, zA, zB, zC, zD, zE, zF, zG, zL, zM, zN, reduceCtorEq, f0, f3, hw3, Tryz.results57]) | (refine yi ?_; try simp only [go_sem]) | (refine yy hN _ ?_; clear hN N) | fail
                    refine ⟨r, 0, 0, .nil, [], [.int .u8 t.k, .int .i64 t.n, .str t.s, .sl .frozen 5 (t.ls.map Lv.d), .sl .frozen 5 (t.ts.map Tm.d)], [oD (c3 0) 1 ((e'.node t).names.map .str), oD (c3 1) 5 ((e'.node t).levels.map Lv.d), .sl (.nil) 0 [], oD (c3 3) 1 (byD (e'.tb ++ nodeBy (e'.node t) t)), oD (c3 4) 1 (byD (e'.node t).db)], .agg [.int .u8 0, .int .i64 0, .str [], .sl .nil 0 [], .sl .nil 0 []], ⟨?_, ?_, ?_, ?_, ⟨.frozen, 5, ?_⟩, ⟨rfl, rfl⟩, trivial, ?_, ⟨hw3, by simp⟩, fun j hj => ?_⟩⟩
                    · simp only [go_sem, ↓reduceIte, zA, zB, zC, zD, zE, zF, zG, zL, zM, zN, reduceCtorEq]
                    · simp only [go_sem, ↓reduceIte, zA, zB, zC, zD, zE, zF, zG, zL, zM, zN, reduceCtorEq]
                    · simp only [go_sem, ↓reduceIte, zA, zB, zC, zD, zE, zF, zG, zL, zM, zN, reduceCtorEq]; try rw [ea]
                    · simp only [go_sem, ↓reduceIte, zA, zB, zC, zD, zE, zF, zG, zL, zM, zN, reduceCtorEq]; try simp
                    · simp only [go_sem, ↓reduceIte, zA, zB, zC, zD, zE, zF, zG, zL, zM, zN, reduceCtorEq]
                    · simp; try omega
                    · rw [← ea]
                      have e1 : ownSt st3 (.nil) j = st3.give j := rfl
                      rw [e1]
                      obtain ⟨u1, u2⟩ := gS.up (i := 2) (j := j) (e' := e'.putT t) (s := (st3.give j).set r (.cells (rCells (upR c3 2 j) (e'.putT t)))) (by rw [St.mem_set, if_pos rfl])
                        hl2 hj (by simp [St.tok_give, St.tok_set]) (fun i _ hi => by simp [St.tok_give, St.tok_set, hi]) (by omega)
                      have hfin := hk _ _ u1 (gK.trans u2)
                      have hce : rCells (upR c3 2 j) (e'.putT t) = splice [oD (c3 0) 1 ((e'.node t).names.map .str), oD (c3 1) 5 ((e'.node t).levels.map Lv.d), .sl (.nil) 0 [], oD (c3 3) 1 (byD (e'.tb ++ nodeBy (e'.node t) t)), oD (c3 4) 1 (byD (e'.node t).db)] (0 + 2) [.sl (.tok j) 5 ([] ++ [t.d])] := by
                        have h00 : (e'.putT t).terms = [t] := by show e'.terms ++ [t] = [t]; rw [h0']; rfl
                        rw [rCells, h00]
                        simp [splice, upR, oD, En.putT]
                      rw [hce] at hfin
                      simp only [go_sem, ↓reduceIte, zA, zB, zC, zD, zE, zF, zG, zL, zM, zN, reduceCtorEq]
                      refine Goes.go hN _ _ ?_
                      clear hN N
                      repeat' first | refine yj fun N hN => ?_ | refine yl [] ?_ | ((first | refine ya rfl rfl fun N hN => ?_ | refine yo ?_); simp only [go_sem, ↓reduceIte, zA, zB, zC, zD, zE, zF, zG, zL, zM, zN, reduceCtorEq, f0, f3, hwq, hwp, Tryz.results57]) | (refine yg rfl ?_; try simp only [go_sem]) | ((first | refine yx hN _ _ ?_ | refine yz hN _ _ ?_); clear hN N) | (refine And.intro ?_ ?_; · omega) | fail
                      rw [h0'] at hfin
                      exact hfin
                  | some j0 =>
                    have hj0 := gS.t 2 j0 (by omega) hc4
                    rw [hc4, show oD (some j0) 5 (e'.terms.map Tm.d) = .sl (.tok j0) 5 (e'.terms.map Tm.d) from rfl] at hw3
                    repeat' first | ((first | refine yc rfl rfl fun N hN => ?_ | refine ye rfl rfl fun N hN => ?_ | (refine yw hN _ _ ?_; clear hN N)); simp only [go_sem, ↓reduceIte, zA, zB, zC, zD, zE, zF, zG, zL, zM, zN, reduceCtorEq, f0, f3, hw3, Tryz.results57]) | (refine yi ?_; try simp only [go_sem]) | (refine yy hN _ ?_; clear hN N) | fail
                    refine ⟨r, 0, 5, .tok j0, (e'.terms.map Tm.d), [.int .u8 t.k, .int .i64 t.n, .str t.s, .sl .frozen 5 (t.ls.map Lv.d), .sl .frozen 5 (t.ts.map Tm.d)], [oD (c3 0) 1 ((e'.node t).names.map .str), oD (c3 1) 5 ((e'.node t).levels.map Lv.d), .sl (.tok j0) 5 (e'.terms.map Tm.d), oD (c3 3) 1 (byD (e'.tb ++ nodeBy (e'.node t) t)), oD (c3 4) 1 (byD (e'.node t).db)], .agg [.int .u8 0, .int .i64 0, .str [], .sl .nil 0 [], .sl .nil 0 []], ⟨?_, ?_, ?_, ?_, ⟨.frozen, 5, ?_⟩, ⟨rfl, rfl⟩, ⟨rfl, hj0⟩, ?_, ⟨hw3, by simp⟩, fun j hj => ?_⟩⟩
                    · simp only [go_sem, ↓reduceIte, zA, zB, zC, zD, zE, zF, zG, zL, zM, zN, reduceCtorEq]
                    · simp only [go_sem, ↓reduceIte, zA, zB, zC, zD, zE, zF, zG, zL, zM, zN, reduceCtorEq]
                    · simp only [go_sem, ↓reduceIte, zA, zB, zC, zD, zE, zF, zG, zL, zM, zN, reduceCtorEq]; try rw [ea]
                    · simp only [go_sem, ↓reduceIte, zA, zB, zC, zD, zE, zF, zG, zL, zM, zN, reduceCtorEq]; try simp
                    · simp only [go_sem, ↓reduceIte, zA, zB, zC, zD, zE, zF, zG, zL, zM, zN, reduceCtorEq]
                    · simp; try omega
                    · rw [← ea]
                      have e1 : ownSt st3 (.tok j0) j = (st3.take j0).give j := rfl
                      rw [e1]
                      obtain ⟨u1, u2⟩ := gS.up (i := 2) (j := j) (e' := e'.putT t) (s := ((st3.take j0).give j).set r (.cells (rCells (upR c3 2 j) (e'.putT t)))) (by rw [St.mem_set, if_pos rfl])
                        hl2 hj (by simp [St.tok_give, St.tok_set]) (fun i hi ht => by
                          have : i ≠ j0 := fun e => hi (by rw [hc4, e])
                          simp [St.tok_give, St.tok_set, St.tok_take, ht, this]) (by omega)
                      have hfin := hk _ _ u1 (gK.trans u2)
                      have hce : rCells (upR c3 2 j) (e'.putT t) = splice [oD (c3 0) 1 ((e'.node t).names.map .str), oD (c3 1) 5 ((e'.node t).levels.map Lv.d), .sl (.tok j0) 5 (e'.terms.map Tm.d), oD (c3 3) 1 (byD (e'.tb ++ nodeBy (e'.node t) t)), oD (c3 4) 1 (byD (e'.node t).db)] (0 + 2) [.sl (.tok j) 5 ((e'.terms.map Tm.d) ++ [t.d])] := by
                        have h00 : (e'.putT t).terms = e'.terms ++ [t] := rfl
                        rw [rCells, h00]
                        simp [splice, upR, oD, En.putT]
                      rw [hce] at hfin
                      simp only [go_sem, ↓reduceIte, zA, zB, zC, zD, zE, zF, zG, zL, zM, zN, reduceCtorEq]
                      refine Goes.go hN _ _ ?_
                      clear hN N
                      repeat' first | refine yj fun N hN => ?_ | refine yl [] ?_ | ((first | refine ya rfl rfl fun N hN => ?_ | refine yo ?_); simp only [go_sem, ↓reduceIte, zA, zB, zC, zD, zE, zF, zG, zL, zM, zN, reduceCtorEq, f0, f3, hwq, hwp, Tryz.results57]) | (refine yg rfl ?_; try simp only [go_sem]) | ((first | refine yx hN _ _ ?_ | refine yz hN _ _ ?_); clear hN N) | (refine And.intro ?_ ?_; · omega) | fail
                      exact hfin
                clear hN
                have hl1 : ∀ x, x ≠ 3 → rL { e'.node t with tb := e'.tb ++ nodeBy (e'.node t) t } x = rL (e'.node t) x := fun x hx => by rcases x with _ | _ | _ | _ | _ | x <;> first | rfl | exact absurd rfl hx
                have hap : byD e'.tb ++ byD (nodeBy (e'.node t) t) = byD (e'.tb ++ nodeBy (e'.node t) t) := (byD_append _ _).symm
                cases hc3 : c2 3 with
                | none =>
                  have h0 : byD (e'.node t).tb = [] := gS.z 3 hc3
                  rw [nt2] at h0
                  have h0' : e'.tb = [] := by simpa [byD] using h0
                  rw [hc3, show oD none 1 (byD e'.tb) = .sl .nil 0 [] from rfl] at hw2
                  repeat' first | refine yl [] ?_ | (refine ya rfl rfl fun N hN => ?_; simp only [go_sem, ↓reduceIte, zA, zB, zC, zD, zE, zF, zG, zL, zM, zN, reduceCtorEq, f3, f0, f8, hw2, hBne, Tryz.results57]) | (refine yg rfl ?_; try simp only [go_sem]) | (refine yx hN _ _ ?_; clear hN N) | ((refine yr fun j hj => ?_; (try have hj0 := St.tok_of_give hj)); try simp only [go_sem, ↓reduceIte, zA, zB, zC, zD, zE, zF, zG, zL, zM, zN, reduceCtorEq, f3, f0, f8, hw2, hBne]) | (refine And.intro ?_ ?_; · omega) | fail
                  obtain ⟨u1, u2⟩ := gS.up (i := 3) (j := j) (e' := { e'.node t with tb := e'.tb ++ nodeBy (e'.node t) t }) (s := (st'.give j).set r (.cells (rCells (upR c2 3 j) { e'.node t with tb := e'.tb ++ nodeBy (e'.node t) t }))) (by rw [St.mem_set, if_pos rfl])
                    hl1 hj (by simp [St.tok_give, St.tok_set]) (fun i _ hi => by simp [St.tok_give, St.tok_set, hi]) (by omega)
                  rw [h0', List.nil_append] at u1 u2 key5
                  refine key5 _ _ _ u1 (gK.trans u2) ?_ ?_
                  · simp only [go_sem, ↓reduceIte, zA, zB, zC, zD, zE, zF, zG, zL, zM, zN, reduceCtorEq, f0]
                  · simp only [go_sem, ↓reduceIte, zA, zB, zC, zD, zE, zF, zG, zL, zM, zN, reduceCtorEq, f3]
                | some j0 =>
                  have hj0 := gS.t 3 j0 (by omega) hc3
                  rw [hc3, show oD (some j0) 1 (byD e'.tb) = .sl (.tok j0) 1 (byD e'.tb) from rfl] at hw2
                  have hln : (byD e'.tb).length < 100000000 := by simp [byD]; omega
                  have hln2 : (byD (nodeBy (e'.node t) t)).length < 100000000 := by simp [byD]; omega
                  repeat' first | refine yl [] ?_ | (refine ya rfl rfl fun N hN => ?_; simp only [go_sem, ↓reduceIte, zA, zB, zC, zD, zE, zF, zG, zL, zM, zN, reduceCtorEq, f3, f0, f8, hw2, hBne, hj0, hap, Tryz.results57]) | (refine yg rfl ?_; try simp only [go_sem]) | (refine yx hN _ _ ?_; clear hN N) | ((refine yr fun j hj => ?_; (try have hj0 := St.tok_of_give hj)); try simp only [go_sem, ↓reduceIte, zA, zB, zC, zD, zE, zF, zG, zL, zM, zN, reduceCtorEq, f3, f0, f8, hw2, hBne, hj0, hap]) | (refine And.intro ?_ ?_; · omega) | fail
                  obtain ⟨u1, u2⟩ := gS.up (i := 3) (j := j) (e' := { e'.node t with tb := e'.tb ++ nodeBy (e'.node t) t }) (s := ((st'.take j0).give j).set r (.cells (rCells (upR c2 3 j) { e'.node t with tb := e'.tb ++ nodeBy (e'.node t) t }))) (by rw [St.mem_set, if_pos rfl])
                    hl1 hj (by simp [St.tok_give, St.tok_set]) (fun i hi ht => by
                      have : i ≠ j0 := fun e => hi (by rw [hc3, e])
                      simp [St.tok_give, St.tok_set, St.tok_take, ht, this]) (by omega)
                  refine key5 _ _ _ u1 (gK.trans u2) ?_ ?_
                  · simp only [go_sem, ↓reduceIte, zA, zB, zC, zD, zE, zF, zG, zL, zM, zN, reduceCtorEq, f0]
                  · simp only [go_sem, ↓reduceIte, zA, zB, zC, zD, zE, zF, zG, zL, zM, zN, reduceCtorEq, f3]
          by_cases k8 : t.k = 8
          · have e8 : (t.k : Int) = 8 := by omega
            have k2 : ¬ t.k = 2 := by omega
            rw [if_neg k2] at f8
            have hN1 : e'.nodeN t = e'.name t.s := by rw [En.nodeN, if_pos (.inr k8)]
            have hh : nodeHd (e'.nodeN t) t = [UInt8.ofNat t.k] ++ num (pos e'.names t.s) ++ num t.n.toNat := by rw [hN1, nodeHd, if_neg k2, if_neg k3, if_pos k8]; simp [En.name, pos_addU]
            repeat' first | refine yj fun N hN => ?_ | refine yk ?_ | refine yl [] ?_ | ((first | refine ya rfl rfl fun N hN => ?_ | refine yb rfl rfl rfl rfl fun N hN => ?_ | refine ym ?_); simp only [go_sem, ↓reduceIte, zA, zB, zC, zD, zE, zF, zG, zL, zM, zN, reduceCtorEq, f8, f0, f3, f6, e8, hnw, Tryz.results57]) | ((first | refine yg rfl ?_ | refine yn ?_); try simp only [go_sem]) | ((first | refine yx hN _ _ ?_ | refine yz hN _ _ ?_); clear hN N) | (refine sem56 _ (nm_len (nt.name (.inr k8))) r e' c' _ gS (fun x hx => nm_len (gE.names x hx)) (by omega) _ (fun c2 st3 gS2 gK2 => ?_); try simp only [go_sem, ↓reduceIte, zA, zB, zC, zD, zE, zF, zG, zL, zM, zN, reduceCtorEq, f8, f0, f3, f6, e8, hnw]) | (refine sem21 _ _ _ _ _ _ (by simp only [List.length_append, List.length_cons, List.length_nil]; omega) (by omega) fun j hj => ?_; try simp only [go_sem, ↓reduceIte, zA, zB, zC, zD, zE, zF, zG, zL, zM, zN, reduceCtorEq, f8, f0, f3, f6, e8, hnw]) | ((first | refine yq (fun h => ?_) (fun h => ?_) | (apply And.intro <;> intro h)) <;> (try simp only [zS, zT, zU, zV, Bool.not_true, Bool.not_false] at h) <;> (first | (exfalso; omega) | simp only [go_sem, ↓reduceIte, zA, zB, zC, zD, zE, zF, zG, zL, zM, zN, reduceCtorEq, f8, f0, f3, f6, e8, hnw, h] | skip)) | fail
            have gS3 : ∀ a b, RS r (e'.nodeN t) c2 ((st3.give a).give b) := fun a b => by rw [hN1]; exact gS2.mono (St.le_give (St.le_give (St.le.refl _) _) _)
            have gK3 : ∀ a b, KeepR c st c2 ((st3.give a).give b) := fun a b => (gK.trans gK2).mono (St.le_give (St.le_give (St.le.refl _) _) _)
            refine W.loopN (fun m fr st' => ∃ (i : Nat) (c2 : Nat → Option Nat) (ow2 : Own) (z2 : Nat), RS r ((e'.nodeN t).lvs (t.ls.take i)) c2 st' ∧ KeepR c st c2 st' ∧ i + m = t.ls.length ∧ ((t.ls.take i).flatMap (fun l => num (pos (e'.node t).levels l))).length ≤ 10 * i ∧
              fr 9 = .int .i64 i ∧ fr 8 = .sl ow2 z2 (byD (nodeHd (e'.nodeN t) t ++ (t.ls.take i).flatMap (fun l => num (pos (e'.node t).levels l)))) ∧ fr 3 = .eptr t.d 0 ∧ fr 0 = .ptr r 0 ∧ fr 6 = .sl ow z ((t.ts.map (pos e'.terms)).map fun n => .int .u64 (n : Nat))) ?_ t.ls.length _ _
              ⟨0, c2, .tok j, 1, gS3 _ _, gK3 _ _, by simp, by simp, by simp only [go_sem, ↓reduceIte, zA, zB, zC, zD, zE, zF, zG, zL, zM, zN, reduceCtorEq]; rfl, (by (try simp only [go_sem, ↓reduceIte, zA, zB, zC, zD, zE, zF, zG, zL, zM, zN, reduceCtorEq]); (try simp only [f8]); simp [hh]), by simp only [go_sem, ↓reduceIte, zA, zB, zC, zD, zE, zF, zG, zL, zM, zN, reduceCtorEq, f3]; try rw [ea], by simp only [go_sem, ↓reduceIte, zA, zB, zC, zD, zE, zF, zG, zL, zM, zN, reduceCtorEq, f0], by simp only [go_sem, ↓reduceIte, zA, zB, zC, zD, zE, zF, zG, zL, zM, zN, reduceCtorEq, f6]⟩
            clear gS3 gS2 gK2 gS gK f8 f0 f3 f6 hh
            rintro m N' ih fr st' ⟨i, c2, ow2, z2, gS, gK, hi, hbl, f9, f8, f3, f0, f6⟩
            rw [ea] at f3
            rcases Nat.lt_or_ge i t.ls.length with hlt | hge
            · have hg : (t.ls.map Lv.d).getD i .any = (t.ls.getD i Lv.z).d := getD_map _ _ _ hlt
              have h4 : (i : Int) < t.ls.length := by omega
              have hmx := getD_mem t.ls Lv.z hlt
              have hpf := pos_lv_final (e := e'.nodeN t) hlt
              have htk := take_succ_getD t.ls Lv.z hlt
              have hsz := lvs_sz (e := e'.nodeN t) (n := 0) (ls := t.ls.take i) (fun l hl => hlv l (List.mem_of_mem_take hl))
              have htl : (t.ls.take i).length ≤ 4 := by rw [List.length_take]; omega
              have hple := pos_le ((e'.nodeN t).lvs (t.ls.take i)).levels (t.ls.getD i Lv.z)
              have hnl := num_len64 (n := pos ((e'.nodeN t).lvs (t.ls.take i)).levels (t.ls.getD i Lv.z)) (by omega)
              have hbb : (nodeHd (e'.nodeN t) t ++ (t.ls.take i).flatMap (fun l => num (pos (e'.node t).levels l))).length < 1000000000 := by rw [List.length_append]; omega
              repeat' first | refine yj fun N hN => ?_ | refine yk ?_ | refine yl [] ?_ | ((first | refine ya rfl rfl fun N hN => ?_ | refine ym ?_); simp only [go_sem, ↓reduceIte, zA, zB, zC, zD, zE, zF, zG, zL, zM, zN, reduceCtorEq, f9, f8, f3, f0, f6, hg, hlt, h4, Tryz.results57]) | ((first | refine yg rfl ?_ | refine yn ?_); try simp only [go_sem]) | ((first | refine yx hN _ _ ?_ | refine yz hN _ _ ?_); clear hN N) | (refine sem94 _ r _ c2 _ gS (by omega) _ (fun c3 st3 vS vK => ?_); try simp only [go_sem, ↓reduceIte, zA, zB, zC, zD, zE, zF, zG, zL, zM, zN, reduceCtorEq, f9, f8, f3, f0, f6, hg, hlt, h4]) | (refine sem21 _ _ _ _ _ _ hbb (by omega) fun j hj => ?_; try simp only [go_sem, ↓reduceIte, zA, zB, zC, zD, zE, zF, zG, zL, zM, zN, reduceCtorEq, f9, f8, f3, f0, f6, hg, hlt, h4]) | (refine And.intro ?_ ?_; · omega) | clear hN N | fail
              refine ih.back (m - 1) (by omega) _ _ ⟨i + 1, c3, .tok j, 1, ?_, (gK.trans vK).mono (St.le_give (St.le.refl _) _), by omega, ?_, ?_, ?_, ?_, ?_, ?_⟩
              · rw [lvs_take hlt]; exact vS.mono (St.le_give (St.le.refl _) _)
              · rw [htk, List.flatMap_append, List.length_append]
                simp only [List.flatMap_cons, List.flatMap_nil, List.append_nil]
                rw [show (e'.node t).levels = ((e'.nodeN t).lvs t.ls).levels from rfl, hpf] at *
                omega
              · simp only [go_sem, ↓reduceIte, zA, zB, zC, zD, zE, zF, zG, zL, zM, zN, reduceCtorEq]; rfl
              · simp only [go_sem, ↓reduceIte, zA, zB, zC, zD, zE, zF, zG, zL, zM, zN, reduceCtorEq]
                rw [htk, List.flatMap_append, ← List.append_assoc]
                simp only [List.flatMap_cons, List.flatMap_nil, List.append_nil]
                rw [show (e'.node t).levels = ((e'.nodeN t).lvs t.ls).levels from rfl, hpf]
              · simp only [go_sem, ↓reduceIte, zA, zB, zC, zD, zE, zF, zG, zL, zM, zN, reduceCtorEq, f3]; try rw [ea]
              · simp only [go_sem, ↓reduceIte, zA, zB, zC, zD, zE, zF, zG, zL, zM, zN, reduceCtorEq, f0]
              · simp only [go_sem, ↓reduceIte, zA, zB, zC, zD, zE, zF, zG, zL, zM, zN, reduceCtorEq, f6]
            · have h4 : ¬ (i : Int) < t.ls.length := by omega
              rw [List.take_of_length_le hge] at f8 gS hbl
              repeat' first | refine yj fun N hN => ?_ | refine yk ?_ | refine yl [] ?_ | ((first | refine ya rfl rfl fun N hN => ?_ | refine ym ?_ | refine yp ?_); simp only [go_sem, ↓reduceIte, zA, zB, zC, zD, zE, zF, zG, zL, zM, zN, reduceCtorEq, f9, f8, f3, f0, f6, h4, Tryz.results57]) | (refine yg rfl ?_; try simp only [go_sem]) | ((first | refine yx hN _ _ ?_ | refine yz hN _ _ ?_); clear hN N) | clear hN N | fail
              have hbl3 : (t.ls.flatMap (fun l => num (pos (e'.node t).levels l))).length ≤ 40 := by omega
              rw [← ea] at f3
              refine W.loopN (fun m fr st' => ∃ (i : Nat) (ow2 : Own) (z2 : Nat), RS r (e'.node t) c2 st' ∧ KeepR c st c2 st' ∧ i + m = t.ts.length ∧ ((t.ts.take i).flatMap (fun x => num (pos e'.terms x))).length ≤ 10 * i ∧
                fr 10 = .int .i64 i ∧ fr 6 = .sl ow z ((t.ts.map (pos e'.terms)).map fun n => .int .u64 (n : Nat)) ∧ fr 3 = .eptr t.d 0 ∧ fr 0 = .ptr r 0 ∧ fr 8 = .sl ow2 z2 (byD (nodeHd (e'.nodeN t) t ++ t.ls.flatMap (fun l => num (pos (e'.node t).levels l)) ++ (t.ts.take i).flatMap (fun x => num (pos e'.terms x))))) ?_ t.ts.length _ _
                ⟨0, ow2, z2, gS, gK, by simp, by simp, by simp only [go_sem, ↓reduceIte, zA, zB, zC, zD, zE, zF, zG, zL, zM, zN, reduceCtorEq]; rfl, by simp only [go_sem, ↓reduceIte, zA, zB, zC, zD, zE, zF, zG, zL, zM, zN, reduceCtorEq, f6], by simp only [go_sem, ↓reduceIte, zA, zB, zC, zD, zE, zF, zG, zL, zM, zN, reduceCtorEq, f3], by simp only [go_sem, ↓reduceIte, zA, zB, zC, zD, zE, zF, zG, zL, zM, zN, reduceCtorEq, f0], by simp only [go_sem, ↓reduceIte, zA, zB, zC, zD, zE, zF, zG, zL, zM, zN, reduceCtorEq, f8]; simp⟩
              clear gS gK f8 f6 f3 f0 f9 h4 hi hge ih
              rintro m N' ih fr st' ⟨i, ow2, z2, gS, gK, hi, hbl2, f10, f6, f3, f0, f8⟩
              have hlk : ((t.ts.map (pos e'.terms)).map fun n => D.int .u64 (n : Nat)).length = t.ts.length := by simp
              rcases Nat.lt_or_ge i t.ts.length with hlt | hge
              · have hz1' : z = 1 := by
                  rcases hzz with h | h
                  · rw [h] at hlt; simp at hlt
                  · exact h
                have hg : ((t.ts.map (pos e'.terms)).map fun n => D.int .u64 (n : Nat)).getD i .any = .int .u64 (pos e'.terms (t.ts.getD i Tm.z)) := by
                  rw [map_u64_getD _ (by simpa using hlt)]
                  simp [List.getD, hlt]
                have h4 : (i : Int) < t.ts.length := by omega
                have htk := take_succ_getD t.ts Tm.z hlt
                have hple := pos_le e'.terms (t.ts.getD i Tm.z)
                have hgt := gz.t
                have hnl := num_len64 (n := pos e'.terms (t.ts.getD i Tm.z)) (by omega)
                have hbb : (nodeHd (e'.nodeN t) t ++ t.ls.flatMap (fun l => num (pos (e'.node t).levels l)) ++ (t.ts.take i).flatMap (fun x => num (pos e'.terms x))).length < 1000000000 := by rw [List.length_append, List.length_append]; omega
                repeat' first | refine yj fun N hN => ?_ | refine yk ?_ | refine yl [] ?_ | ((first | refine ya rfl rfl fun N hN => ?_ | refine ym ?_); simp only [go_sem, ↓reduceIte, zA, zB, zC, zD, zE, zF, zG, zL, zM, zN, reduceCtorEq, f10, f6, f3, f0, f8, hg, hlt, h4, hz1', Tryz.results57]) | ((first | refine yg rfl ?_ | refine yn ?_); try simp only [go_sem]) | ((first | refine yx hN _ _ ?_ | refine yz hN _ _ ?_); clear hN N) | (refine sem21 _ _ _ _ _ _ hbb (by omega) fun j hj => ?_; try simp only [go_sem, ↓reduceIte, zA, zB, zC, zD, zE, zF, zG, zL, zM, zN, reduceCtorEq, f10, f6, f3, f0, f8, hg, hlt, h4, hz1']) | (refine And.intro ?_ ?_; · omega) | clear hN N | fail
                refine ih.back (m - 1) (by omega) _ _ ⟨i + 1, .tok j, 1, gS.mono (St.le_give (St.le.refl _) _), gK.mono (St.le_give (St.le.refl _) _), by omega, ?_, ?_, ?_, ?_, ?_, ?_⟩
                · rw [htk, List.flatMap_append, List.length_append]
                  simp only [List.flatMap_cons, List.flatMap_nil, List.append_nil]
                  omega
                · simp only [go_sem, ↓reduceIte, zA, zB, zC, zD, zE, zF, zG, zL, zM, zN, reduceCtorEq]; rfl
                · simp only [go_sem, ↓reduceIte, zA, zB, zC, zD, zE, zF, zG, zL, zM, zN, reduceCtorEq, f6, hz1']
                · simp only [go_sem, ↓reduceIte, zA, zB, zC, zD, zE, zF, zG, zL, zM, zN, reduceCtorEq, f3]
                · simp only [go_sem, ↓reduceIte, zA, zB, zC, zD, zE, zF, zG, zL, zM, zN, reduceCtorEq, f0]
                · simp only [go_sem, ↓reduceIte, zA, zB, zC, zD, zE, zF, zG, zL, zM, zN, reduceCtorEq]
                  rw [htk, List.flatMap_append, ← List.append_assoc]
                  simp only [List.flatMap_cons, List.flatMap_nil, List.append_nil]
              · have h4 : ¬ (i : Int) < t.ts.length := by omega
                rw [List.take_of_length_le hge, ← nodeBy_hd] at f8
                repeat' first | refine yj fun N hN => ?_ | refine yl [] ?_ | (refine ya rfl rfl fun N hN => ?_; simp only [go_sem, ↓reduceIte, zA, zB, zC, zD, zE, zF, zG, zL, zM, zN, reduceCtorEq, f10, f6, f3, f0, f8, h4, Tryz.results57]) | (refine yg rfl ?_; try simp only [go_sem]) | (refine yx hN _ _ ?_; clear hN N) | fail
                refine Goes.go hN _ _ ?_
                clear hN N
                repeat' first | ((first | refine ym ?_ | refine yp ?_); simp only [go_sem, ↓reduceIte, zA, zB, zC, zD, zE, zF, zG, zL, zM, zN, reduceCtorEq, f10, f6, f3, f0, f8, h4, Tryz.results57]) | clear hN N | fail
                have hw2 := gS.w
                rw [rCells] at hw2
                have hBne : byD (nodeBy (e'.node t) t) ≠ [] := by simp [nodeBy, byD]
                have hgt := gz.t
                have hBl := hpt.2
                obtain ⟨nt1, nt2, nt3⟩ := node_terms e' t
                rw [nt2] at hw2
                refine Goes.go hN _ _ ?_
                clear hN N
                refine W.seqG fun N hN => ?_
                have key5 : ∀ (fr : Fr) (st3 : St) (c3 : Nat → Option Nat), RS r { e'.node t with tb := e'.tb ++ nodeBy (e'.node t) t } c3 st3 → KeepR c st c3 st3 → fr 0 = .ptr r 0 → fr 3 = .eptr t.d 0 → N fr st3 := by
                  intro fr st3 c3 gS gK f0 f3
                  have hw3 := gS.w
                  rw [rCells] at hw3
                  have hwq : IntKind.u64.wrap (((e'.terms.length + 1 : Nat) : Int) - 1) = (e'.terms.length : Nat) := wrap_last (by omega)
                  have hwp : IntKind.u64.wrap (e'.terms.length : Int) = (e'.terms.length : Nat) := wrap_u64 (by omega)
                  refine Goes.go hN _ _ ?_
                  clear hN N
                  refine W.seqG fun N hN => ?_
                  have hmp : (e'.terms ++ [t]).map Tm.d = e'.terms.map Tm.d ++ [t.d] := by rw [List.map_append]; rfl
                  have hl2 : ∀ x, x ≠ 2 → rL (e'.putT t) x = rL { e'.node t with tb := e'.tb ++ nodeBy (e'.node t) t } x := fun x hx => by rcases x with _ | _ | _ | _ | _ | x <;> first | rfl | exact absurd rfl hx
                  refine W.late2 (id := 29) (c := 7) (tS := 31) (tE := 33) (tM := 74) (s0 := 127) (s3 := 130) (s4 := 131) (s5 := 132) (s6 := 133) (s7 := 134) (s8 := 135) (s10 := 136) (s11 := 137) (f := 2) (z := 5) (q := 2) (bs := 80) mixed [] (.rd 0 (.rd 1 (.rd 2 (.rd 3 (.rd 4 (.rd 5 (.act 6 [5, 4, 3, 2, 1, 0] (.nil)))))))) (by kernel_rfl) (by kernel_rfl) rfl
                    ⟨⟨_, rfl, rfl, rfl, rfl⟩, ⟨_, rfl, rfl, rfl, rfl⟩, ⟨_, rfl, rfl, rfl, rfl⟩, ⟨_, rfl, rfl, rfl, rfl⟩, ⟨_, rfl, rfl, rfl, rfl⟩, ⟨by kernel_rfl, by kernel_rfl, by kernel_rfl, by kernel_rfl⟩, by decide, by decide⟩ (by kernel_rfl) ⟨_, _, rfl, rfl, rfl, rfl, rfl, rfl, rfl⟩
                    (by kernel_rfl) (by kernel_rfl) ?_ ?_ ?_ (by decide) ?_
                  · intro i j hi hj
                    rcases (show i = 0 ∨ i = 1 ∨ i = 2 by omega) with rfl | rfl | rfl <;> rcases (show j = 0 ∨ j = 1 ∨ j = 2 ∨ j = 3 by omega) with rfl | rfl | rfl | rfl <;> kernel_rfl
                  · intro i j hi hj
                    rcases (show i = 0 ∨ i = 1 by omega) with rfl | rfl <;> rcases (show j = 0 ∨ j = 1 ∨ j = 2 ∨ j = 3 by omega) with rfl | rfl | rfl | rfl <;> kernel_rfl
                  · intro i j hi hj
                    rcases (show i = 0 ∨ i = 1 ∨ i = 2 by omega) with rfl | rfl | rfl <;> rcases (show j = 0 ∨ j = 1 ∨ j = 2 by omega) with rfl | rfl | rfl <;> kernel_rfl
                  rw [nt1] at hw3
                  cases hc4 : c3 2 with
                  | none =>
                    have h0 : (e'.node t).terms.map Tm.d = [] := gS.z 2 hc4
                    rw [nt1] at h0
                    have h0' : e'.terms = [] := by simpa using h0
                    rw [hc4, show oD none 5 (e'.terms.map Tm.d) = .sl .nil 0 [] from rfl] at hw3
                    repeat' first | ((first | refine yc rfl rfl fun N hN => ?_ | refine ye rfl rfl fun N hN => ?_ | (refine yw hN _ _ ?_; clear hN N)); simp only [go_sem, ↓reduceIte, zA, zB, zC, zD, zE, zF, zG, zL, zM, zN, reduceCtorEq, f0, f3, hw3, Tryz.results57]) | (refine yi ?_; try simp only [go_sem]) | (refine yy hN _ ?_; clear hN N) | fail
                    refine ⟨r, 0, 0, .nil, [], [.int .u8 t.k, .int .i64 t.n, .str t.s, .sl .frozen 5 (t.ls.map Lv.d), .sl .frozen 5 (t.ts.map Tm.d)], [oD (c3 0) 1 ((e'.node t).names.map .str), oD (c3 1) 5 ((e'.node t).levels.map Lv.d), .sl (.nil) 0 [], oD (c3 3) 1 (byD (e'.tb ++ nodeBy (e'.node t) t)), oD (c3 4) 1 (byD (e'.node t).db)], .agg [.int .u8 0, .int .i64 0, .str [], .sl .nil 0 [], .sl .nil 0 []], ⟨?_, ?_, ?_, ?_, ⟨.frozen, 5, ?_⟩, ⟨rfl, rfl⟩, trivial, ?_, ⟨hw3, by simp⟩, fun j hj => ?_⟩⟩
                    · simp only [go_sem, ↓reduceIte, zA, zB, zC, zD, zE, zF, zG, zL, zM, zN, reduceCtorEq]
                    · simp only [go_sem, ↓reduceIte, zA, zB, zC, zD, zE, zF, zG, zL, zM, zN, reduceCtorEq]
                    · simp only [go_sem, ↓reduceIte, zA, zB, zC, zD, zE, zF, zG, zL, zM, zN, reduceCtorEq]; try rw [ea]
                    · simp only [go_sem, ↓reduceIte, zA, zB, zC, zD, zE, zF, zG, zL, zM, zN, reduceCtorEq]; try simp
                    · simp only [go_sem, ↓reduceIte, zA, zB, zC, zD, zE, zF, zG, zL, zM, zN, reduceCtorEq]
                    · simp; try omega
                    · rw [← ea]
                      have e1 : ownSt st3 (.nil) j = st3.give j := rfl
                      rw [e1]
                      obtain ⟨u1, u2⟩ := gS.up (i := 2) (j := j) (e' := e'.putT t) (s := (st3.give j).set r (.cells (rCells (upR c3 2 j) (e'.putT t)))) (by rw [St.mem_set, if_pos rfl])
                        hl2 hj (by simp [St.tok_give, St.tok_set]) (fun i _ hi => by simp [St.tok_give, St.tok_set, hi]) (by omega)
                      have hfin := hk _ _ u1 (gK.trans u2)
                      have hce : rCells (upR c3 2 j) (e'.putT t) = splice [oD (c3 0) 1 ((e'.node t).names.map .str), oD (c3 1) 5 ((e'.node t).levels.map Lv.d), .sl (.nil) 0 [], oD (c3 3) 1 (byD (e'.tb ++ nodeBy (e'.node t) t)), oD (c3 4) 1 (byD (e'.node t).db)] (0 + 2) [.sl (.tok j) 5 ([] ++ [t.d])] := by
                        have h00 : (e'.putT t).terms = [t] := by show e'.terms ++ [t] = [t]; rw [h0']; rfl
                        rw [rCells, h00]
                        simp [splice, upR, oD, En.putT]
                      rw [hce] at hfin
                      simp only [go_sem, ↓reduceIte, zA, zB, zC, zD, zE, zF, zG, zL, zM, zN, reduceCtorEq]
                      refine Goes.go hN _ _ ?_
                      clear hN N
                      repeat' first | refine yj fun N hN => ?_ | refine yl [] ?_ | ((first | refine ya rfl rfl fun N hN => ?_ | refine yo ?_); simp only [go_sem, ↓reduceIte, zA, zB, zC, zD, zE, zF, zG, zL, zM, zN, reduceCtorEq, f0, f3, hwq, hwp, Tryz.results57]) | (refine yg rfl ?_; try simp only [go_sem]) | ((first | refine yx hN _ _ ?_ | refine yz hN _ _ ?_); clear hN N) | (refine And.intro ?_ ?_; · omega) | fail
                      rw [h0'] at hfin
                      exact hfin
                  | some j0 =>
                    have hj0 := gS.t 2 j0 (by omega) hc4
                    rw [hc4, show oD (some j0) 5 (e'.terms.map Tm.d) = .sl (.tok j0) 5 (e'.terms.map Tm.d) from rfl] at hw3
                    repeat' first | ((first | refine yc rfl rfl fun N hN => ?_ | refine ye rfl rfl fun N hN => ?_ | (refine yw hN _ _ ?_; clear hN N)); simp only [go_sem, ↓reduceIte, zA, zB, zC, zD, zE, zF, zG, zL, zM, zN, reduceCtorEq, f0, f3, hw3, Tryz.results57]) | (refine yi ?_; try simp only [go_sem]) | (refine yy hN _ ?_; clear hN N) | fail
                    refine ⟨r, 0, 5, .tok j0, (e'.terms.map Tm.d), [.int .u8 t.k, .int .i64 t.n, .str t.s, .sl .frozen 5 (t.ls.map Lv.d), .sl .frozen 5 (t.ts.map Tm.d)], [oD (c3 0) 1 ((e'.node t).names.map .str), oD (c3 1) 5 ((e'.node t).levels.map Lv.d), .sl (.tok j0) 5 (e'.terms.map Tm.d), oD (c3 3) 1 (byD (e'.tb ++ nodeBy (e'.node t) t)), oD (c3 4) 1 (byD (e'.node t).db)], .agg [.int .u8 0, .int .i64 0, .str [], .sl .nil 0 [], .sl .nil 0 []], ⟨?_, ?_, ?_, ?_, ⟨.frozen, 5, ?_⟩, ⟨rfl, rfl⟩, ⟨rfl, hj0⟩, ?_, ⟨hw3, by simp⟩, fun j hj => ?_⟩⟩
                    · simp only [go_sem, ↓reduceIte, zA, zB, zC, zD, zE, zF, zG, zL, zM, zN, reduceCtorEq]
                    · simp only [go_sem, ↓reduceIte, zA, zB, zC, zD, zE, zF, zG, zL, zM, zN, reduceCtorEq]
                    · simp only [go_sem, ↓reduceIte, zA, zB, zC, zD, zE, zF, zG, zL, zM, zN, reduceCtorEq]; try rw [ea]
                    · simp only [go_sem, ↓reduceIte, zA, zB, zC, zD, zE, zF, zG, zL, zM, zN, reduceCtorEq]; try simp
                    · simp only [go_sem, ↓reduceIte, zA, zB, zC, zD, zE, zF, zG, zL, zM, zN, reduceCtorEq]
                    · simp; try omega
                    · rw [← ea]
                      have e1 : ownSt st3 (.tok j0) j = (st3.take j0).give j := rfl
                      rw [e1]
                      obtain ⟨u1, u2⟩ := gS.up (i := 2) (j := j) (e' := e'.putT t) (s := ((st3.take j0).give j).set r (.cells (rCells (upR c3 2 j) (e'.putT t)))) (by rw [St.mem_set, if_pos rfl])
                        hl2 hj (by simp [St.tok_give, St.tok_set]) (fun i hi ht => by
                          have : i ≠ j0 := fun e => hi (by rw [hc4, e])
                          simp [St.tok_give, St.tok_set, St.tok_take, ht, this]) (by omega)
                      have hfin := hk _ _ u1 (gK.trans u2)
                      have hce : rCells (upR c3 2 j) (e'.putT t) = splice [oD (c3 0) 1 ((e'.node t).names.map .str), oD (c3 1) 5 ((e'.node t).levels.map Lv.d), .sl (.tok j0) 5 (e'.terms.map Tm.d), oD (c3 3) 1 (byD (e'.tb ++ nodeBy (e'.node t) t)), oD (c3 4) 1 (byD (e'.node t).db)] (0 + 2) [.sl (.tok j) 5 ((e'.terms.map Tm.d) ++ [t.d])] := by
                        have h00 : (e'.putT t).terms = e'.terms ++ [t] := rfl
                        rw [rCells, h00]
                        simp [splice, upR, oD, En.putT]
                      rw [hce] at hfin
                      simp only [go_sem, ↓reduceIte, zA, zB, zC, zD, zE, zF, zG, zL, zM, zN, reduceCtorEq]
                      refine Goes.go hN _ _ ?_
                      clear hN N
                      repeat' first | refine yj fun N hN => ?_ | refine yl [] ?_ | ((first | refine ya rfl rfl fun N hN => ?_ | refine yo ?_); simp only [go_sem, ↓reduceIte, zA, zB, zC, zD, zE, zF, zG, zL, zM, zN, reduceCtorEq, f0, f3, hwq, hwp, Tryz.results57]) | (refine yg rfl ?_; try simp only [go_sem]) | ((first | refine yx hN _ _ ?_ | refine yz hN _ _ ?_); clear hN N) | (refine And.intro ?_ ?_; · omega) | fail
                      exact hfin
                clear hN
                have hl1 : ∀ x, x ≠ 3 → rL { e'.node t with tb := e'.tb ++ nodeBy (e'.node t) t } x = rL (e'.node t) x := fun x hx => by rcases x with _ | _ | _ | _ | _ | x <;> first | rfl | exact absurd rfl hx
                have hap : byD e'.tb ++ byD (nodeBy (e'.node t) t) = byD (e'.tb ++ nodeBy (e'.node t) t) := (byD_append _ _).symm
                cases hc3 : c2 3 with
                | none =>
                  have h0 : byD (e'.node t).tb = [] := gS.z 3 hc3
                  rw [nt2] at h0
                  have h0' : e'.tb = [] := by simpa [byD] using h0
                  rw [hc3, show oD none 1 (byD e'.tb) = .sl .nil 0 [] from rfl] at hw2
                  repeat' first | refine yl [] ?_ | (refine ya rfl rfl fun N hN => ?_; simp only [go_sem, ↓reduceIte, zA, zB, zC, zD, zE, zF, zG, zL, zM, zN, reduceCtorEq, f3, f0, f8, hw2, hBne, Tryz.results57]) | (refine yg rfl ?_; try simp only [go_sem]) | (refine yx hN _ _ ?_; clear hN N) | ((refine yr fun j hj => ?_; (try have hj0 := St.tok_of_give hj)); try simp only [go_sem, ↓reduceIte, zA, zB, zC, zD, zE, zF, zG, zL, zM, zN, reduceCtorEq, f3, f0, f8, hw2, hBne]) | (refine And.intro ?_ ?_; · omega) | fail
                  obtain ⟨u1, u2⟩ := gS.up (i := 3) (j := j) (e' := { e'.node t with tb := e'.tb ++ nodeBy (e'.node t) t }) (s := (st'.give j).set r (.cells (rCells (upR c2 3 j) { e'.node t with tb := e'.tb ++ nodeBy (e'.node t) t }))) (by rw [St.mem_set, if_pos rfl])
                    hl1 hj (by simp [St.tok_give, St.tok_set]) (fun i _ hi => by simp [St.tok_give, St.tok_set, hi]) (by omega)
                  rw [h0', List.nil_append] at u1 u2 key5
                  refine key5 _ _ _ u1 (gK.trans u2) ?_ ?_
                  · simp only [go_sem, ↓reduceIte, zA, zB, zC, zD, zE, zF, zG, zL, zM, zN, reduceCtorEq, f0]
                  · simp only [go_sem, ↓reduceIte, zA, zB, zC, zD, zE, zF, zG, zL, zM, zN, reduceCtorEq, f3]
                | some j0 =>
                  have hj0 := gS.t 3 j0 (by omega) hc3
                  rw [hc3, show oD (some j0) 1 (byD e'.tb) = .sl (.tok j0) 1 (byD e'.tb) from rfl] at hw2
                  have hln : (byD e'.tb).length < 100000000 := by simp [byD]; omega
                  have hln2 : (byD (nodeBy (e'.node t) t)).length < 100000000 := by simp [byD]; omega
                  repeat' first | refine yl [] ?_ | (refine ya rfl rfl fun N hN => ?_; simp only [go_sem, ↓reduceIte, zA, zB, zC, zD, zE, zF, zG, zL, zM, zN, reduceCtorEq, f3, f0, f8, hw2, hBne, hj0, hap, Tryz.results57]) | (refine yg rfl ?_; try simp only [go_sem]) | (refine yx hN _ _ ?_; clear hN N) | ((refine yr fun j hj => ?_; (try have hj0 := St.tok_of_give hj)); try simp only [go_sem, ↓reduceIte, zA, zB, zC, zD, zE, zF, zG, zL, zM, zN, reduceCtorEq, f3, f0, f8, hw2, hBne, hj0, hap]) | (refine And.intro ?_ ?_; · omega) | fail
                  obtain ⟨u1, u2⟩ := gS.up (i := 3) (j := j) (e' := { e'.node t with tb := e'.tb ++ nodeBy (e'.node t) t }) (s := ((st'.take j0).give j).set r (.cells (rCells (upR c2 3 j) { e'.node t with tb := e'.tb ++ nodeBy (e'.node t) t }))) (by rw [St.mem_set, if_pos rfl])
                    hl1 hj (by simp [St.tok_give, St.tok_set]) (fun i hi ht => by
                      have : i ≠ j0 := fun e => hi (by rw [hc3, e])
                      simp [St.tok_give, St.tok_set, St.tok_take, ht, this]) (by omega)
                  refine key5 _ _ _ u1 (gK.trans u2) ?_ ?_
                  · simp only [go_sem, ↓reduceIte, zA, zB, zC, zD, zE, zF, zG, zL, zM, zN, reduceCtorEq, f0]
                  · simp only [go_sem, ↓reduceIte, zA, zB, zC, zD, zE, zF, zG, zL, zM, zN, reduceCtorEq, f3]
          · have e3 : ¬ (t.k : Int) = 3 := by omega
            have e8 : ¬ (t.k : Int) = 8 := by omega
            have hN1 : e'.nodeN t = e' := by rw [En.nodeN, if_neg (by omega)]
            have hh : nodeHd (e'.nodeN t) t = UInt8.ofNat t.k :: (if t.k = 2 then num t.n.toNat else []) := by rw [hN1, nodeHd, if_neg k3, if_neg k8]
            have gS2 := gS
            have gK2 := gK
            repeat' first | refine yj fun N hN => ?_ | refine yk ?_ | refine yl [] ?_ | ((first | refine ya rfl rfl fun N hN => ?_ | refine yb rfl rfl rfl rfl fun N hN => ?_ | refine ym ?_); simp only [go_sem, ↓reduceIte, zA, zB, zC, zD, zE, zF, zG, zL, zM, zN, reduceCtorEq, f8, f0, f3, f6, e3, e8, Tryz.results57]) | ((first | refine yg rfl ?_ | refine yn ?_); try simp only [go_sem]) | ((first | refine yx hN _ _ ?_ | refine yz hN _ _ ?_); clear hN N) | fail
            have gS3 : RS r (e'.nodeN t) c' st2 := by rw [hN1]; exact gS
            refine W.loopN (fun m fr st' => ∃ (i : Nat) (c2 : Nat → Option Nat) (ow2 : Own) (z2 : Nat), RS r ((e'.nodeN t).lvs (t.ls.take i)) c2 st' ∧ KeepR c st c2 st' ∧ i + m = t.ls.length ∧ ((t.ls.take i).flatMap (fun l => num (pos (e'.node t).levels l))).length ≤ 10 * i ∧
              fr 9 = .int .i64 i ∧ fr 8 = .sl ow2 z2 (byD (nodeHd (e'.nodeN t) t ++ (t.ls.take i).flatMap (fun l => num (pos (e'.node t).levels l)))) ∧ fr 3 = .eptr t.d 0 ∧ fr 0 = .ptr r 0 ∧ fr 6 = .sl ow z ((t.ts.map (pos e'.terms)).map fun n => .int .u64 (n : Nat))) ?_ t.ls.length _ _
              ⟨0, c', ow2, z2, gS3, gK2, by simp, by simp, by simp only [go_sem, ↓reduceIte, zA, zB, zC, zD, zE, zF, zG, zL, zM, zN, reduceCtorEq]; rfl, (by (try simp only [go_sem, ↓reduceIte, zA, zB, zC, zD, zE, zF, zG, zL, zM, zN, reduceCtorEq]); (try simp only [f8]); simp [hh]), by simp only [go_sem, ↓reduceIte, zA, zB, zC, zD, zE, zF, zG, zL, zM, zN, reduceCtorEq, f3]; try rw [ea], by simp only [go_sem, ↓reduceIte, zA, zB, zC, zD, zE, zF, zG, zL, zM, zN, reduceCtorEq, f0], by simp only [go_sem, ↓reduceIte, zA, zB, zC, zD, zE, zF, zG, zL, zM, zN, reduceCtorEq, f6]⟩
            clear gS3 gS2 gK2 gS gK f8 f0 f3 f6 hh
            rintro m N' ih fr st' ⟨i, c2, ow2, z2, gS, gK, hi, hbl, f9, f8, f3, f0, f6⟩
            rw [ea] at f3
            rcases Nat.lt_or_ge i t.ls.length with hlt | hge
            · have hg : (t.ls.map Lv.d).getD i .any = (t.ls.getD i Lv.z).d := getD_map _ _ _ hlt
              have h4 : (i : Int) < t.ls.length := by omega
              have hmx := getD_mem t.ls Lv.z hlt
              have hpf := pos_lv_final (e := e'.nodeN t) hlt
              have htk := take_succ_getD t.ls Lv.z hlt
              have hsz := lvs_sz (e := e'.nodeN t) (n := 0) (ls := t.ls.take i) (fun l hl => hlv l (List.mem_of_mem_take hl))
              have htl : (t.ls.take i).length ≤ 4 := by rw [List.length_take]; omega
              have hple := pos_le ((e'.nodeN t).lvs (t.ls.take i)).levels (t.ls.getD i Lv.z)
              have hnl := num_len64 (n := pos ((e'.nodeN t).lvs (t.ls.take i)).levels (t.ls.getD i Lv.z)) (by omega)
              have hbb : (nodeHd (e'.nodeN t) t ++ (t.ls.take i).flatMap (fun l => num (pos (e'.node t).levels l))).length < 1000000000 := by rw [List.length_append]; omega
              repeat' first | refine yj fun N hN => ?_ | refine yk ?_ | refine yl [] ?_ | ((first | refine ya rfl rfl fun N hN => ?_ | refine ym ?_); simp only [go_sem, ↓reduceIte, zA, zB, zC, zD, zE, zF, zG, zL, zM, zN, reduceCtorEq, f9, f8, f3, f0, f6, hg, hlt, h4, Tryz.results57]) | ((first | refine yg rfl ?_ | refine yn ?_); try simp only [go_sem]) | ((first | refine yx hN _ _ ?_ | refine yz hN _ _ ?_); clear hN N) | (refine sem94 _ r _ c2 _ gS (by omega) _ (fun c3 st3 vS vK => ?_); try simp only [go_sem, ↓reduceIte, zA, zB, zC, zD, zE, zF, zG, zL, zM, zN, reduceCtorEq, f9, f8, f3, f0, f6, hg, hlt, h4]) | (refine sem21 _ _ _ _ _ _ hbb (by omega) fun j hj => ?_; try simp only [go_sem, ↓reduceIte, zA, zB, zC, zD, zE, zF, zG, zL, zM, zN, reduceCtorEq, f9, f8, f3, f0, f6, hg, hlt, h4]) | (refine And.intro ?_ ?_; · omega) | clear hN N | fail
              refine ih.back (m - 1) (by omega) _ _ ⟨i + 1, c3, .tok j, 1, ?_, (gK.trans vK).mono (St.le_give (St.le.refl _) _), by omega, ?_, ?_, ?_, ?_, ?_, ?_⟩
              · rw [lvs_take hlt]; exact vS.mono (St.le_give (St.le.refl _) _)
              · rw [htk, List.flatMap_append, List.length_append]
                simp only [List.flatMap_cons, List.flatMap_nil, List.append_nil]
                rw [show (e'.node t).levels = ((e'.nodeN t).lvs t.ls).levels from rfl, hpf] at *
                omega
              · simp only [go_sem, ↓reduceIte, zA, zB, zC, zD, zE, zF, zG, zL, zM, zN, reduceCtorEq]; rfl
              · simp only [go_sem, ↓reduceIte, zA, zB, zC, zD, zE, zF, zG, zL, zM, zN, reduceCtorEq]
                rw [htk, List.flatMap_append, ← List.append_assoc]
                simp only [List.flatMap_cons, List.flatMap_nil, List.append_nil]
                rw [show (e'.node t).levels = ((e'.nodeN t).lvs t.ls).levels from rfl, hpf]
              · simp only [go_sem, ↓reduceIte, zA, zB, zC, zD, zE, zF, zG, zL, zM, zN, reduceCtorEq, f3]; try rw [ea]
              · simp only [go_sem, ↓reduceIte, zA, zB, zC, zD, zE, zF, zG, zL, zM, zN, reduceCtorEq, f0]
              · simp only [go_sem, ↓reduceIte, zA, zB, zC, zD, zE, zF, zG, zL, zM, zN, reduceCtorEq, f6]
            · have h4 : ¬ (i : Int) < t.ls.length := by omega
              rw [List.take_of_length_le hge] at f8 gS hbl
              repeat' first | refine yj fun N hN => ?_ | refine yk ?_ | refine yl [] ?_ | ((first | refine ya rfl rfl fun N hN => ?_ | refine ym ?_ | refine yp ?_); simp only [go_sem, ↓reduceIte, zA, zB, zC, zD, zE, zF, zG, zL, zM, zN, reduceCtorEq, f9, f8, f3, f0, f6, h4, Tryz.results57]) | (refine yg rfl ?_; try simp only [go_sem]) | ((first | refine yx hN _ _ ?_ | refine yz hN _ _ ?_); clear hN N) | clear hN N | fail
              have hbl3 : (t.ls.flatMap (fun l => num (pos (e'.node t).levels l))).length ≤ 40 := by omega
              rw [← ea] at f3
              refine W.loopN (fun m fr st' => ∃ (i : Nat) (ow2 : Own) (z2 : Nat), RS r (e'.node t) c2 st' ∧ KeepR c st c2 st' ∧ i + m = t.ts.length ∧ ((t.ts.take i).flatMap (fun x => num (pos e'.terms x))).length ≤ 10 * i ∧
                fr 10 = .int .i64 i ∧ fr 6 = .sl ow z ((t.ts.map (pos e'.terms)).map fun n => .int .u64 (n : Nat)) ∧ fr 3 = .eptr t.d 0 ∧ fr 0 = .ptr r 0 ∧ fr 8 = .sl ow2 z2 (byD (nodeHd (e'.nodeN t) t ++ t.ls.flatMap (fun l => num (pos (e'.node t).levels l)) ++ (t.ts.take i).flatMap (fun x => num (pos e'.terms x))))) ?_ t.ts.length _ _
                ⟨0, ow2, z2, gS, gK, by simp, by simp, by simp only [go_sem, ↓reduceIte, zA, zB, zC, zD, zE, zF, zG, zL, zM, zN, reduceCtorEq]; rfl, by simp only [go_sem, ↓reduceIte, zA, zB, zC, zD, zE, zF, zG, zL, zM, zN, reduceCtorEq, f6], by simp only [go_sem, ↓reduceIte, zA, zB, zC, zD, zE, zF, zG, zL, zM, zN, reduceCtorEq, f3], by simp only [go_sem, ↓reduceIte, zA, zB, zC, zD, zE, zF, zG, zL, zM, zN, reduceCtorEq, f0], by simp only [go_sem, ↓reduceIte, zA, zB, zC, zD, zE, zF, zG, zL, zM, zN, reduceCtorEq, f8]; simp⟩
              clear gS gK f8 f6 f3 f0 f9 h4 hi hge ih
              rintro m N' ih fr st' ⟨i, ow2, z2, gS, gK, hi, hbl2, f10, f6, f3, f0, f8⟩
              have hlk : ((t.ts.map (pos e'.terms)).map fun n => D.int .u64 (n : Nat)).length = t.ts.length := by simp
              rcases Nat.lt_or_ge i t.ts.length with hlt | hge
              · have hz1' : z = 1 := by
                  rcases hzz with h | h
                  · rw [h] at hlt; simp at hlt
                  · exact h
                have hg : ((t.ts.map (pos e'.terms)).map fun n => D.int .u64 (n : Nat)).getD i .any = .int .u64 (pos e'.terms (t.ts.getD i Tm.z)) := by
                  rw [map_u64_getD _ (by simpa using hlt)]
                  simp [List.getD, hlt]
                have h4 : (i : Int) < t.ts.length := by omega
                have htk := take_succ_getD t.ts Tm.z hlt
                have hple := pos_le e'.terms (t.ts.getD i Tm.z)
                have hgt := gz.t
                have hnl := num_len64 (n := pos e'.terms (t.ts.getD i Tm.z)) (by omega)
                have hbb : (nodeHd (e'.nodeN t) t ++ t.ls.flatMap (fun l => num (pos (e'.node t).levels l)) ++ (t.ts.take i).flatMap (fun x => num (pos e'.terms x))).length < 1000000000 := by rw [List.length_append, List.length_append]; omega
                repeat' first | refine yj fun N hN => ?_ | refine yk ?_ | refine yl [] ?_ | ((first | refine ya rfl rfl fun N hN => ?_ | refine ym ?_); simp only [go_sem, ↓reduceIte, zA, zB, zC, zD, zE, zF, zG, zL, zM, zN, reduceCtorEq, f10, f6, f3, f0, f8, hg, hlt, h4, hz1', Tryz.results57]) | ((first | refine yg rfl ?_ | refine yn ?_); try simp only [go_sem]) | ((first | refine yx hN _ _ ?_ | refine yz hN _ _ ?_); clear hN N) | (refine sem21 _ _ _ _ _ _ hbb (by omega) fun j hj => ?_; try simp only [go_sem, ↓reduceIte, zA, zB, zC, zD, zE, zF, zG, zL, zM, zN, reduceCtorEq, f10, f6, f3, f0, f8, hg, hlt, h4, hz1']) | (refine And.intro ?_ ?_; · omega) | clear hN N | fail
                refine ih.back (m - 1) (by omega) _ _ ⟨i + 1, .tok j, 1, gS.mono (St.le_give (St.le.refl _) _), gK.mono (St.le_give (St.le.refl _) _), by omega, ?_, ?_, ?_, ?_, ?_, ?_⟩
                · rw [htk, List.flatMap_append, List.length_append]
                  simp only [List.flatMap_cons, List.flatMap_nil, List.append_nil]
                  omega
                · simp only [go_sem, ↓reduceIte, zA, zB, zC, zD, zE, zF, zG, zL, zM, zN, reduceCtorEq]; rfl
                · simp only [go_sem, ↓reduceIte, zA, zB, zC, zD, zE, zF, zG, zL, zM, zN, reduceCtorEq, f6, hz1']
                · simp only [go_sem, ↓reduceIte, zA, zB, zC, zD, zE, zF, zG, zL, zM, zN, reduceCtorEq, f3]
                · simp only [go_sem, ↓reduceIte, zA, zB, zC, zD, zE, zF, zG, zL, zM, zN, reduceCtorEq, f0]
                · simp only [go_sem, ↓reduceIte, zA, zB, zC, zD, zE, zF, zG, zL, zM, zN, reduceCtorEq]
                  rw [htk, List.flatMap_append, ← List.append_assoc]
                  simp only [List.flatMap_cons, List.flatMap_nil, List.append_nil]
              · have h4 : ¬ (i : Int) < t.ts.length := by omega
                rw [List.take_of_length_le hge, ← nodeBy_hd] at f8
                repeat' first | refine yj fun N hN => ?_ | refine yl [] ?_ | (refine ya rfl rfl fun N hN => ?_; simp only [go_sem, ↓reduceIte, zA, zB, zC, zD, zE, zF, zG, zL, zM, zN, reduceCtorEq, f10, f6, f3, f0, f8, h4, Tryz.results57]) | (refine yg rfl ?_; try simp only [go_sem]) | (refine yx hN _ _ ?_; clear hN N) | fail
                refine Goes.go hN _ _ ?_
                clear hN N
                repeat' first | ((first | refine ym ?_ | refine yp ?_); simp only [go_sem, ↓reduceIte, zA, zB, zC, zD, zE, zF, zG, zL, zM, zN, reduceCtorEq, f10, f6, f3, f0, f8, h4, Tryz.results57]) | clear hN N | fail
                have hw2 := gS.w
                rw [rCells] at hw2
                have hBne : byD (nodeBy (e'.node t) t) ≠ [] := by simp [nodeBy, byD]
                have hgt := gz.t
                have hBl := hpt.2
                obtain ⟨nt1, nt2, nt3⟩ := node_terms e' t
                rw [nt2] at hw2
                refine Goes.go hN _ _ ?_
                clear hN N
                refine W.seqG fun N hN => ?_
                have key5 : ∀ (fr : Fr) (st3 : St) (c3 : Nat → Option Nat), RS r { e'.node t with tb := e'.tb ++ nodeBy (e'.node t) t } c3 st3 → KeepR c st c3 st3 → fr 0 = .ptr r 0 → fr 3 = .eptr t.d 0 → N fr st3 := by
                  intro fr st3 c3 gS gK f0 f3
                  have hw3 := gS.w
                  rw [rCells] at hw3
                  have hwq : IntKind.u64.wrap (((e'.terms.length + 1 : Nat) : Int) - 1) = (e'.terms.length : Nat) := wrap_last (by omega)
                  have hwp : IntKind.u64.wrap (e'.terms.length : Int) = (e'.terms.length : Nat) := wrap_u64 (by omega)
                  refine Goes.go hN _ _ ?_
                  clear hN N
                  refine W.seqG fun N hN => ?_
                  have hmp : (e'.terms ++ [t]).map Tm.d = e'.terms.map Tm.d ++ [t.d] := by rw [List.map_append]; rfl
                  have hl2 : ∀ x, x ≠ 2 → rL (e'.putT t) x = rL { e'.node t with tb := e'.tb ++ nodeBy (e'.node t) t } x := fun x hx => by rcases x with _ | _ | _ | _ | _ | x <;> first | rfl | exact absurd rfl hx
                  refine W.late2 (id := 29) (c := 7) (tS := 31) (tE := 33) (tM := 74) (s0 := 127) (s3 := 130) (s4 := 131) (s5 := 132) (s6 := 133) (s7 := 134) (s8 := 135) (s10 := 136) (s11 := 137) (f := 2) (z := 5) (q := 2) (bs := 80) mixed [] (.rd 0 (.rd 1 (.rd 2 (.rd 3 (.rd 4 (.rd 5 (.act 6 [5, 4, 3, 2, 1, 0] (.nil)))))))) (by kernel_rfl) (by kernel_rfl) rfl
                    ⟨⟨_, rfl, rfl, rfl, rfl⟩, ⟨_, rfl, rfl, rfl, rfl⟩, ⟨_, rfl, rfl, rfl, rfl⟩, ⟨_, rfl, rfl, rfl, rfl⟩, ⟨_, rfl, rfl, rfl, rfl⟩, ⟨by kernel_rfl, by kernel_rfl, by kernel_rfl, by kernel_rfl⟩, by decide, by decide⟩ (by kernel_rfl) ⟨_, _, rfl, rfl, rfl, rfl, rfl, rfl, rfl⟩
                    (by kernel_rfl) (by kernel_rfl) ?_ ?_ ?_ (by decide) ?_
                  · intro i j hi hj
                    rcases (show i = 0 ∨ i = 1 ∨ i = 2 by omega) with rfl | rfl | rfl <;> rcases (show j = 0 ∨ j = 1 ∨ j = 2 ∨ j = 3 by omega) with rfl | rfl | rfl | rfl <;> kernel_rfl
                  · intro i j hi hj
                    rcases (show i = 0 ∨ i = 1 by omega) with rfl | rfl <;> rcases (show j = 0 ∨ j = 1 ∨ j = 2 ∨ j = 3 by omega) with rfl | rfl | rfl | rfl <;> kernel_rfl
                  · intro i j hi hj
                    rcases (show i = 0 ∨ i = 1 ∨ i = 2 by omega) with rfl | rfl | rfl <;> rcases (show j = 0 ∨ j = 1 ∨ j = 2 by omega) with rfl | rfl | rfl <;> kernel_rfl
                  rw [nt1] at hw3
                  cases hc4 : c3 2 with
                  | none =>
                    have h0 : (e'.node t).terms.map Tm.d = [] := gS.z 2 hc4
                    rw [nt1] at h0
                    have h0' : e'.terms = [] := by simpa using h0
                    rw [hc4, show oD none 5 (e'.terms.map Tm.d) = .sl .nil 0 [] from rfl] at hw3
                    repeat' first | ((first | refine yc rfl rfl fun N hN => ?_ | refine ye rfl rfl fun N hN => ?_ | (refine yw hN _ _ ?_; clear hN N)); simp only [go_sem, ↓reduceIte, zA, zB, zC, zD, zE, zF, zG, zL, zM, zN, reduceCtorEq, f0, f3, hw3, Tryz.results57]) | (refine yi ?_; try simp only [go_sem]) | (refine yy hN _ ?_; clear hN N) | fail
                    refine ⟨r, 0, 0, .nil, [], [.int .u8 t.k, .int .i64 t.n, .str t.s, .sl .frozen 5 (t.ls.map Lv.d), .sl .frozen 5 (t.ts.map Tm.d)], [oD (c3 0) 1 ((e'.node t).names.map .str), oD (c3 1) 5 ((e'.node t).levels.map Lv.d), .sl (.nil) 0 [], oD (c3 3) 1 (byD (e'.tb ++ nodeBy (e'.node t) t)), oD (c3 4) 1 (byD (e'.node t).db)], .agg [.int .u8 0, .int .i64 0, .str [], .sl .nil 0 [], .sl .nil 0 []], ⟨?_, ?_, ?_, ?_, ⟨.frozen, 5, ?_⟩, ⟨rfl, rfl⟩, trivial, ?_, ⟨hw3, by simp⟩, fun j hj => ?_⟩⟩
                    · simp only [go_sem, ↓reduceIte, zA, zB, zC, zD, zE, zF, zG, zL, zM, zN, reduceCtorEq]
                    · simp only [go_sem, ↓reduceIte, zA, zB, zC, zD, zE, zF, zG, zL, zM, zN, reduceCtorEq]
                    · simp only [go_sem, ↓reduceIte, zA, zB, zC, zD, zE, zF, zG, zL, zM, zN, reduceCtorEq]; try rw [ea]
                    · simp only [go_sem, ↓reduceIte, zA, zB, zC, zD, zE, zF, zG, zL, zM, zN, reduceCtorEq]; try simp
                    · simp only [go_sem, ↓reduceIte, zA, zB, zC, zD, zE, zF, zG, zL, zM, zN, reduceCtorEq]
                    · simp; try omega
                    · rw [← ea]
                      have e1 : ownSt st3 (.nil) j = st3.give j := rfl
                      rw [e1]
                      obtain ⟨u1, u2⟩ := gS.up (i := 2) (j := j) (e' := e'.putT t) (s := (st3.give j).set r (.cells (rCells (upR c3 2 j) (e'.putT t)))) (by rw [St.mem_set, if_pos rfl])
                        hl2 hj (by simp [St.tok_give, St.tok_set]) (fun i _ hi => by simp [St.tok_give, St.tok_set, hi]) (by omega)
                      have hfin := hk _ _ u1 (gK.trans u2)
                      have hce : rCells (upR c3 2 j) (e'.putT t) = splice [oD (c3 0) 1 ((e'.node t).names.map .str), oD (c3 1) 5 ((e'.node t).levels.map Lv.d), .sl (.nil) 0 [], oD (c3 3) 1 (byD (e'.tb ++ nodeBy (e'.node t) t)), oD (c3 4) 1 (byD (e'.node t).db)] (0 + 2) [.sl (.tok j) 5 ([] ++ [t.d])] := by
                        have h00 : (e'.putT t).terms = [t] := by show e'.terms ++ [t] = [t]; rw [h0']; rfl
                        rw [rCells, h00]
                        simp [splice, upR, oD, En.putT]
                      rw [hce] at hfin
                      simp only [go_sem, ↓reduceIte, zA, zB, zC, zD, zE, zF, zG, zL, zM, zN, reduceCtorEq]
                      refine Goes.go hN _ _ ?_
                      clear hN N
                      repeat' first | refine yj fun N hN => ?_ | refine yl [] ?_ | ((first | refine ya rfl rfl fun N hN => ?_ | refine yo ?_); simp only [go_sem, ↓reduceIte, zA, zB, zC, zD, zE, zF, zG, zL, zM, zN, reduceCtorEq, f0, f3, hwq, hwp, Tryz.results57]) | (refine yg rfl ?_; try simp only [go_sem]) | ((first | refine yx hN _ _ ?_ | refine yz hN _ _ ?_); clear hN N) | (refine And.intro ?_ ?_; · omega) | fail
                      rw [h0'] at hfin
                      exact hfin
                  | some j0 =>
                    have hj0 := gS.t 2 j0 (by omega) hc4
                    rw [hc4, show oD (some j0) 5 (e'.terms.map Tm.d) = .sl (.tok j0) 5 (e'.terms.map Tm.d) from rfl] at hw3
                    repeat' first | ((first | refine yc rfl rfl fun N hN => ?_ | refine ye rfl rfl fun N hN => ?_ | (refine yw hN _ _ ?_; clear hN N)); simp only [go_sem, ↓reduceIte, zA, zB, zC, zD, zE, zF, zG, zL, zM, zN, reduceCtorEq, f0, f3, hw3, Tryz.results57]) | (refine yi ?_; try simp only [go_sem]) | (refine yy hN _ ?_; clear hN N) | fail
                    refine ⟨r, 0, 5, .tok j0, (e'.terms.map Tm.d), [.int .u8 t.k, .int .i64 t.n, .str t.s, .sl .frozen 5 (t.ls.map Lv.d), .sl .frozen 5 (t.ts.map Tm.d)], [oD (c3 0) 1 ((e'.node t).names.map .str), oD (c3 1) 5 ((e'.node t).levels.map Lv.d), .sl (.tok j0) 5 (e'.terms.map Tm.d), oD (c3 3) 1 (byD (e'.tb ++ nodeBy (e'.node t) t)), oD (c3 4) 1 (byD (e'.node t).db)], .agg [.int .u8 0, .int .i64 0, .str [], .sl .nil 0 [], .sl .nil 0 []], ⟨?_, ?_, ?_, ?_, ⟨.frozen, 5, ?_⟩, ⟨rfl, rfl⟩, ⟨rfl, hj0⟩, ?_, ⟨hw3, by simp⟩, fun j hj => ?_⟩⟩
                    · simp only [go_sem, ↓reduceIte, zA, zB, zC, zD, zE, zF, zG, zL, zM, zN, reduceCtorEq]
                    · simp only [go_sem, ↓reduceIte, zA, zB, zC, zD, zE, zF, zG, zL, zM, zN, reduceCtorEq]
                    · simp only [go_sem, ↓reduceIte, zA, zB, zC, zD, zE, zF, zG, zL, zM, zN, reduceCtorEq]; try rw [ea]
                    · simp only [go_sem, ↓reduceIte, zA, zB, zC, zD, zE, zF, zG, zL, zM, zN, reduceCtorEq]; try simp
                    · simp only [go_sem, ↓reduceIte, zA, zB, zC, zD, zE, zF, zG, zL, zM, zN, reduceCtorEq]
                    · simp; try omega
                    · rw [← ea]
                      have e1 : ownSt st3 (.tok j0) j = (st3.take j0).give j := rfl
                      rw [e1]
                      obtain ⟨u1, u2⟩ := gS.up (i := 2) (j := j) (e' := e'.putT t) (s := ((st3.take j0).give j).set r (.cells (rCells (upR c3 2 j) (e'.putT t)))) (by rw [St.mem_set, if_pos rfl])
                        hl2 hj (by simp [St.tok_give, St.tok_set]) (fun i hi ht => by
                          have : i ≠ j0 := fun e => hi (by rw [hc4, e])
                          simp [St.tok_give, St.tok_set, St.tok_take, ht, this]) (by omega)
                      have hfin := hk _ _ u1 (gK.trans u2)
                      have hce : rCells (upR c3 2 j) (e'.putT t) = splice [oD (c3 0) 1 ((e'.node t).names.map .str), oD (c3 1) 5 ((e'.node t).levels.map Lv.d), .sl (.tok j0) 5 (e'.terms.map Tm.d), oD (c3 3) 1 (byD (e'.tb ++ nodeBy (e'.node t) t)), oD (c3 4) 1 (byD (e'.node t).db)] (0 + 2) [.sl (.tok j) 5 ((e'.terms.map Tm.d) ++ [t.d])] := by
                        have h00 : (e'.putT t).terms = e'.terms ++ [t] := rfl
                        rw [rCells, h00]
                        simp [splice, upR, oD, En.putT]
                      rw [hce] at hfin
                      simp only [go_sem, ↓reduceIte, zA, zB, zC, zD, zE, zF, zG, zL, zM, zN, reduceCtorEq]
                      refine Goes.go hN _ _ ?_
                      clear hN N
                      repeat' first | refine yj fun N hN => ?_ | refine yl [] ?_ | ((first | refine ya rfl rfl fun N hN => ?_ | refine yo ?_); simp only [go_sem, ↓reduceIte, zA, zB, zC, zD, zE, zF, zG, zL, zM, zN, reduceCtorEq, f0, f3, hwq, hwp, Tryz.results57]) | (refine yg rfl ?_; try simp only [go_sem]) | ((first | refine yx hN _ _ ?_ | refine yz hN _ _ ?_); clear hN N) | (refine And.intro ?_ ?_; · omega) | fail
                      exact hfin
                clear hN
                have hl1 : ∀ x, x ≠ 3 → rL { e'.node t with tb := e'.tb ++ nodeBy (e'.node t) t } x = rL (e'.node t) x := fun x hx => by rcases x with _ | _ | _ | _ | _ | x <;> first | rfl | exact absurd rfl hx
                have hap : byD e'.tb ++ byD (nodeBy (e'.node t) t) = byD (e'.tb ++ nodeBy (e'.node t) t) := (byD_append _ _).symm
                cases hc3 : c2 3 with
                | none =>
                  have h0 : byD (e'.node t).tb = [] := gS.z 3 hc3
                  rw [nt2] at h0
                  have h0' : e'.tb = [] := by simpa [byD] using h0
                  rw [hc3, show oD none 1 (byD e'.tb) = .sl .nil 0 [] from rfl] at hw2
                  repeat' first | refine yl [] ?_ | (refine ya rfl rfl fun N hN => ?_; simp only [go_sem, ↓reduceIte, zA, zB, zC, zD, zE, zF, zG, zL, zM, zN, reduceCtorEq, f3, f0, f8, hw2, hBne, Tryz.results57]) | (refine yg rfl ?_; try simp only [go_sem]) | (refine yx hN _ _ ?_; clear hN N) | ((refine yr fun j hj => ?_; (try have hj0 := St.tok_of_give hj)); try simp only [go_sem, ↓reduceIte, zA, zB, zC, zD, zE, zF, zG, zL, zM, zN, reduceCtorEq, f3, f0, f8, hw2, hBne]) | (refine And.intro ?_ ?_; · omega) | fail
                  obtain ⟨u1, u2⟩ := gS.up (i := 3) (j := j) (e' := { e'.node t with tb := e'.tb ++ nodeBy (e'.node t) t }) (s := (st'.give j).set r (.cells (rCells (upR c2 3 j) { e'.node t with tb := e'.tb ++ nodeBy (e'.node t) t }))) (by rw [St.mem_set, if_pos rfl])
                    hl1 hj (by simp [St.tok_give, St.tok_set]) (fun i _ hi => by simp [St.tok_give, St.tok_set, hi]) (by omega)
                  rw [h0', List.nil_append] at u1 u2 key5
                  refine key5 _ _ _ u1 (gK.trans u2) ?_ ?_
                  · simp only [go_sem, ↓reduceIte, zA, zB, zC, zD, zE, zF, zG, zL, zM, zN, reduceCtorEq, f0]
                  · simp only [go_sem, ↓reduceIte, zA, zB, zC, zD, zE, zF, zG, zL, zM, zN, reduceCtorEq, f3]
                | some j0 =>
                  have hj0 := gS.t 3 j0 (by omega) hc3
                  rw [hc3, show oD (some j0) 1 (byD e'.tb) = .sl (.tok j0) 1 (byD e'.tb) from rfl] at hw2
                  have hln : (byD e'.tb).length < 100000000 := by simp [byD]; omega
                  have hln2 : (byD (nodeBy (e'.node t) t)).length < 100000000 := by simp [byD]; omega
                  repeat' first | refine yl [] ?_ | (refine ya rfl rfl fun N hN => ?_; simp only [go_sem, ↓reduceIte, zA, zB, zC, zD, zE, zF, zG, zL, zM, zN, reduceCtorEq, f3, f0, f8, hw2, hBne, hj0, hap, Tryz.results57]) | (refine yg rfl ?_; try simp only [go_sem]) | (refine yx hN _ _ ?_; clear hN N) | ((refine yr fun j hj => ?_; (try have hj0 := St.tok_of_give hj)); try simp only [go_sem, ↓reduceIte, zA, zB, zC, zD, zE, zF, zG, zL, zM, zN, reduceCtorEq, f3, f0, f8, hw2, hBne, hj0, hap]) | (refine And.intro ?_ ?_; · omega) | fail
                  obtain ⟨u1, u2⟩ := gS.up (i := 3) (j := j) (e' := { e'.node t with tb := e'.tb ++ nodeBy (e'.node t) t }) (s := ((st'.take j0).give j).set r (.cells (rCells (upR c2 3 j) { e'.node t with tb := e'.tb ++ nodeBy (e'.node t) t }))) (by rw [St.mem_set, if_pos rfl])
                    hl1 hj (by simp [St.tok_give, St.tok_set]) (fun i hi ht => by
                      have : i ≠ j0 := fun e => hi (by rw [hc3, e])
                      simp [St.tok_give, St.tok_set, St.tok_take, ht, this]) (by omega)
                  refine key5 _ _ _ u1 (gK.trans u2) ?_ ?_
                  · simp only [go_sem, ↓reduceIte, zA, zB, zC, zD, zE, zF, zG, zL, zM, zN, reduceCtorEq, f0]
                  · simp only [go_sem, ↓reduceIte, zA, zB, zC, zD, zE, zF, zG, zL, zM, zN, reduceCtorEq, f3]
        clear hN
        rw [hu8]
        by_cases k2 : t.k = 2
        · have e2 : (t.k : Int) = 2 := by omega
          rw [if_pos k2] at key1
          repeat' first | refine yl [] ?_ | ((first | refine ya rfl rfl fun N hN => ?_ | refine ym ?_); simp only [go_sem, ↓reduceIte, zA, zB, zC, zD, zE, zF, zG, zL, zM, zN, reduceCtorEq, f3, f0, f6, e2, hnw, Tryz.results57]) | (refine yg rfl ?_; try simp only [go_sem]) | (refine yx hN _ _ ?_; clear hN N) | (refine sem21 _ _ _ _ _ _ (by simp) (by omega) fun j hj => ?_; try simp only [go_sem, ↓reduceIte, zA, zB, zC, zD, zE, zF, zG, zL, zM, zN, reduceCtorEq, f3, f0, f6, e2, hnw]) | fail
          refine key1 _ _ (.tok j) 1 (gS.mono (St.le_give (St.le.refl _) _)) (gK.mono (St.le_give (St.le.refl _) _)) ?_ ?_ ?_ ?_
          · simp only [go_sem, ↓reduceIte, zA, zB, zC, zD, zE, zF, zG, zL, zM, zN, reduceCtorEq]; try rfl
          · simp only [go_sem, ↓reduceIte, zA, zB, zC, zD, zE, zF, zG, zL, zM, zN, reduceCtorEq, f0]
          · simp only [go_sem, ↓reduceIte, zA, zB, zC, zD, zE, zF, zG, zL, zM, zN, reduceCtorEq, f3]; try rw [ea]
          · simp only [go_sem, ↓reduceIte, zA, zB, zC, zD, zE, zF, zG, zL, zM, zN, reduceCtorEq, f6]
        · have e2 : ¬ (t.k : Int) = 2 := by omega
          rw [if_neg k2] at key1
          repeat' first | (refine ym ?_; simp only [go_sem, ↓reduceIte, zA, zB, zC, zD, zE, zF, zG, zL, zM, zN, reduceCtorEq, f3, f0, f6, e2, Tryz.results57]) | (refine yn ?_; try simp only [go_sem]) | fail
          refine key1 _ _ .frozen 1 gS gK ?_ ?_ ?_ ?_
          · simp only [go_sem, ↓reduceIte, zA, zB, zC, zD, zE, zF, zG, zL, zM, zN, reduceCtorEq]; try rfl
          · simp only [go_sem, ↓reduceIte, zA, zB, zC, zD, zE, zF, zG, zL, zM, zN, reduceCtorEq, f0]
          · simp only [go_sem, ↓reduceIte, zA, zB, zC, zD, zE, zF, zG, zL, zM, zN, reduceCtorEq, f3]; try rw [ea]
          · simp only [go_sem, ↓reduceIte, zA, zB, zC, zD, zE, zF, zG, zL, zM, zN, reduceCtorEq, f6]
end Go.Proofs.YtddbidoaolnegaaGreatDoor
