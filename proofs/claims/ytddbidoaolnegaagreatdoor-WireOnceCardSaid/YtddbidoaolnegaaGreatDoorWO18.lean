/-
PART OF A CLAIM: PJ. No statement of the seat is proved here; no condition. -/
import Derived.Test.YtddbidoaolnegaaGreatDoorWO17
set_option linter.all false
/- The writer: terms: the walk. No statement of the seat is proved here; no condition. -/
namespace Go.Proofs.YtddbidoaolnegaaGreatDoor
open Go Go.RowKit
open Nat renaming reduceLT → zA, reduceEqDiff → zB, reduceBEq → zC, reduceAdd → zD, reduceMul → zE, reduceSub → zF, reduceLeDiff → zG, mul_one → zH, zero_add → zI, add_zero → zJ
open Int renaming toNat_natCast → zK, reduceAdd → zL, reduceLE → zM, reduceLT → zN, natCast_nonneg → zO
open Go.Proofs.YtddbidoaolnegaaGreatDoor renaming evI_plain → ya, evI_guard → yb, evT_rd → yc, evT_rdg → yd, evT_act → ye, evT_actg → yf, evI_done → yg, evT_two → yh, evT_nil → yi, W.seqG → yj, W.block → yk, W.regionI → yl, W.cond → ym, W.skip → yn, W.ret → yo, W.exit → yp, gdD_split → yq, newT_intro → yr, newB_intro → ys, W.draw → yt, St.set_del → yu, St.give_take → yv, AGo.go → yw, IGo.go → yx, TGo.go → yy, Goes.go → yz
attribute [local go_sem] zK zP zQ zH zI zJ zO
attribute [local irreducible] W evI evT evL evOp evBin gdD Sem newT newB fillD bldOf
set_option maxRecDepth 10000
set_option maxHeartbeats 4000000

theorem putA_old : ∀ (t : Tm) {A : List Tm}, AV A → t ∈ A → putA t A = A := by
  intro t
  induction t using Tm.ind with
  | h k n s ls ts ih =>
    intro A hv hm
    have hk : ∀ x ∈ ts, x ∈ A := hv.kids _ hm
    have : ∀ (l : List Tm), (∀ x ∈ l, x ∈ ts) → putAs l A = A := by
      intro l
      induction l with
      | nil => intro _; rw [putAs]
      | cons x l ihl =>
        intro h
        rw [putAs, ih x (h x (by simp)) hv (hk x (h x (by simp)))]
        exact ihl (fun y hy => h y (by simp [hy]))
    rw [putA, this ts (fun x h => h), addU_mem hm]

theorem node_terms (e : En) (t : Tm) : (e.node t).terms = e.terms ∧ (e.node t).tb = e.tb ∧ (e.node t).db = e.db := by
  unfold En.node En.lvs En.nodeN; split <;> exact ⟨rfl, rfl, rfl⟩
mutual
theorem termE_small : ∀ (t : Tm) (e : En) (y : Tm), y ∈ (termE t e).terms → y ∈ e.terms ∨ y.size ≤ t.size
  | .mk k n s ls ts, e, y, h => by
    by_cases hm : Tm.mk k n s ls ts ∈ e.terms
    · rw [termE_old hm] at h; exact .inl h
    · rw [termE_new hm] at h
      simp only [En.putT] at h
      rcases List.mem_append.1 h with h | h
      · rcases kidsE_small ts e y h with h | h
        · exact .inl h
        · right; rw [Tm.size]; omega
      · simp only [List.mem_singleton] at h; right; rw [h]; omega
theorem kidsE_small : ∀ (ts : List Tm) (e : En) (y : Tm), y ∈ (kidsE ts e).terms → y ∈ e.terms ∨ y.size ≤ Tm.sizes ts
  | [], e, y, h => by rw [kidsE] at h; exact .inl h
  | t :: ts, e, y, h => by
    rw [kidsE] at h
    rw [Tm.sizes]
    rcases kidsE_small ts _ y h with h | h
    · rcases termE_small t e y h with h | h
      · exact .inl h
      · right; omega
    · right; omega
end
mutual
theorem termE_ext : ∀ (t : Tm) (e : En), ∃ m, (termE t e).terms = e.terms ++ m
  | .mk k n s ls ts, e => by
    by_cases hm : Tm.mk k n s ls ts ∈ e.terms
    · exact ⟨[], by rw [termE_old hm]; simp⟩
    · obtain ⟨m, h⟩ := kidsE_ext ts e
      refine ⟨m ++ [.mk k n s ls ts], ?_⟩
      rw [termE_new hm]
      show (kidsE ts e).terms ++ _ = _
      rw [h, List.append_assoc]
theorem kidsE_ext : ∀ (ts : List Tm) (e : En), ∃ m, (kidsE ts e).terms = e.terms ++ m
  | [], e => ⟨[], by rw [kidsE]; simp⟩
  | t :: ts, e => by
    obtain ⟨m, h⟩ := termE_ext t e
    obtain ⟨m', h'⟩ := kidsE_ext ts (termE t e)
    exact ⟨m ++ m', by rw [kidsE, h', h, List.append_assoc]⟩
end
theorem termE_mem (t : Tm) (e : En) : t ∈ (termE t e).terms := by
  by_cases hm : t ∈ e.terms
  · rw [termE_old hm]; exact hm
  · rw [termE_new hm]; simp [En.putT]

theorem EOk.node {e : En} {A : List Tm} (h : EOk e A) {t : Tm} (hn : nodeB t = true) (hw : t.wf) : EOk (e.node t) A := by
  unfold En.node
  refine EOk.lvs ?_ hw.to.lv
  unfold En.nodeN
  split
  · rename_i hk; exact h.name ((NodeB.of hn).name hk)
  · exact h
theorem EOk.put {e : En} {A : List Tm} (h : EOk e A) {t : Tm} (hn : nodeB t = true) (hw : t.wf) (hA : t ∈ A) : EOk (e.putT t) A := by
  have := h.node hn hw
  refine ⟨this.names, this.levels, fun x hx => ?_⟩
  simp only [En.putT] at hx
  rcases List.mem_append.1 hx with hx | hx
  · exact h.terms x hx
  · simp only [List.mem_singleton] at hx; rw [hx]; exact hA
mutual
theorem EOk.term {A : List Tm} (hv : AV A) : ∀ (t : Tm) {e : En}, EOk e A → t ∈ A → EOk (termE t e) A
  | .mk k n s ls ts, e, h, hA => by
    by_cases hm : Tm.mk k n s ls ts ∈ e.terms
    · rw [termE_old hm]; exact h
    · rw [termE_new hm]
      exact (EOk.kids hv ts h (hv.kids _ hA)).put (all_node (hv.ok _ hA)) (hv.wf _ hA) hA
theorem EOk.kids {A : List Tm} (hv : AV A) : ∀ (ts : List Tm) {e : En}, EOk e A → (∀ x ∈ ts, x ∈ A) → EOk (kidsE ts e) A
  | [], _, h, _ => by rw [kidsE]; exact h
  | t :: ts, _, h, hA => by
    rw [kidsE]
    exact EOk.kids hv ts (EOk.term hv t h (hA t (by simp))) (fun x hx => hA x (by simp [hx]))
end

theorem flat_le {α : Type} (f : α → List UInt8) (b : Nat) : ∀ (l : List α), (∀ x ∈ l, (f x).length ≤ b) → (l.flatMap f).length ≤ b * l.length
  | [], _ => by simp
  | a :: l, h => by
    have h1 := h a (by simp)
    have h2 := flat_le f b l (fun x hx => h x (by simp [hx]))
    rw [List.flatMap_cons, List.length_append, List.length_cons, Nat.mul_add]; omega
theorem ESz.put {e : En} {n : Nat} (h : ESz e n) (hn : n ≤ 20000) {t : Tm} (hnb : nodeB t = true) : ESz (e.putT t) (n + 1) ∧ (nodeBy (e.node t) t).length ≤ 91 := by
  have nt := NodeB.of hnb
  have h1 := h.nm
  have h2 := h.l
  have h3 := h.t
  have h4 := h.d
  have hlv : ∀ l ∈ t.ls, lvB l = true := by have := nt.lv; rwa [List.all_eq_true] at this
  have hls4 := nt.ls
  have hts3 : t.ts.length ≤ 3 := by have := nt.kids; have := kidsN_le t.k; omega
  have hNn : (e.nodeN t).names.length ≤ e.names.length + 1 ∧ (nmB (e.nodeN t).names).length ≤ (nmB e.names).length + 42 := by
    unfold En.nodeN
    split
    · rename_i h; exact nmB_len (nt.name h)
    · omega
  have hNl : (e.nodeN t).levels = e.levels := by unfold En.nodeN; split <;> rfl
  have hsz := lvs_sz (e := e.nodeN t) (n := 0) (ls := t.ls) hlv
  rw [hNl] at hsz
  have hlen : (nodeBy (e.node t) t).length ≤ 91 := by
    rw [nodeBy_hd, List.length_append, List.length_append]
    have a1 : (nodeHd (e.nodeN t) t).length ≤ 21 := by
      have hp2 := pos_le (e.nodeN t).names t.s
      have a1 := num_len64 (n := t.n.toNat) (by have := nt.n; omega)
      have a2 := num_len64 (n := pos (e.nodeN t).names t.s) (by omega)
      have a3 := num_len64 (n := t.ls.length) (by omega)
      unfold nodeHd
      rw [List.length_cons]
      split
      · omega
      · split
        · rw [List.length_append]; omega
        · split
          · rw [List.length_append]; omega
          · simp
    have a2 := flat_le (fun l => num (pos (e.node t).levels l)) 10 t.ls (fun x _ => num_len64 (by have := pos_le (e.node t).levels x; have : (e.node t).levels.length ≤ e.levels.length + t.ls.length := hsz.1; omega))
    have a3 := flat_le (fun x => num (pos e.terms x)) 10 t.ts (fun x _ => num_len64 (by have := pos_le e.terms x; omega))
    omega
  refine ⟨⟨?_, ?_, ?_, ?_⟩, hlen⟩
  · show (e.nodeN t).names.length ≤ _ ∧ (nmB (e.nodeN t).names).length ≤ _; omega
  · show ((e.nodeN t).lvs t.ls).levels.length ≤ _ ∧ (lvBs ((e.nodeN t).lvs t.ls).levels).length ≤ _; omega
  · simp only [En.putT, List.length_append, List.length_cons, List.length_nil]; omega
  · show (e.node t).db.length ≤ _; rw [(node_terms e t).2.2]; omega
mutual
theorem ESz.term : ∀ (t : Tm) {e : En} {n : Nat}, ESz e n → n + t.size ≤ 20000 → t.all nodeB = true → ESz (termE t e) (n + t.size)
  | .mk k m s ls ts, e, n, h, hn, hA => by
    by_cases hm : Tm.mk k m s ls ts ∈ e.terms
    · rw [termE_old hm]; exact h.le (by omega)
    · rw [termE_new hm]
      rw [Tm.size] at hn ⊢
      have := (ESz.kids ts h (by omega) (fun x hx => all_kid hA hx)).put (by omega) (all_node hA)
      exact this.1.le (by omega)
theorem ESz.kids : ∀ (ts : List Tm) {e : En} {n : Nat}, ESz e n → n + Tm.sizes ts ≤ 20000 → (∀ x ∈ ts, x.all nodeB = true) → ESz (kidsE ts e) (n + Tm.sizes ts)
  | [], _, _, h, _, _ => by rw [kidsE]; exact h.le (by omega)
  | t :: ts, _, _, h, hn, hA => by
    rw [kidsE]
    rw [Tm.sizes] at hn ⊢
    have := ESz.kids ts (ESz.term t h (by omega) (hA t (by simp))) (by omega) (fun x hx => hA x (by simp [hx]))
    exact this.le (by omega)
end

theorem okT3_kid {t x : Tm} (h : okT3 t = true) (hx : x ∈ t.ts) : okT3 x = true := by
  obtain ⟨h1, h2, h3⟩ := okT3_all h
  rw [Tm.size_eq] at h2
  rw [Tm.deep_eq] at h3
  have := Tm.sizes_mem hx
  have := Tm.deep_mem hx
  simp only [okT3, Bool.and_eq_true, decide_eq_true_eq]
  exact ⟨⟨all_kid h1 hx, by omega⟩, by omega⟩
theorem WS.take {rw ra rm : Nat} {e : En} {A : List Tm} {c : WC} {st : St} (h : WS rw ra rm e A c st) {q : Nat} (hq : ¬ c.own q) : WS rw ra rm e A c (st.take q) := by
  have k : ∀ j, c.own j → st.tok j = true → (st.take q).tok j = true := fun j a b => by
    rw [St.tok_take, if_neg (fun e : j = q => hq (by rw [← e]; exact a))]; exact b
  exact ⟨h.w, h.ar.same rfl rfl (fun j hj => k j (.inr (.inr hj)) (h.tokA hj)), h.n0, h.n1, h.l0, h.l1, h.t0, h.t1, h.b0, fun j hj => k j (.inl hj) (h.b1 j hj), h.d0, fun j hj => k j (.inr (.inl hj)) (h.d1 j hj), h.td, h.od⟩
theorem KeepW.take {c c' : WC} {st st' : St} (h : KeepW c st c' st') {q : Nat} (hq : st.tok q = true → c.own q) : KeepW c st c' (st'.take q) :=
  ⟨fun j a b => ⟨by rw [St.tok_take, if_neg (fun e : j = q => a (by rw [e]; exact hq (by rw [← e]; exact b)))]; exact (h.tok j a b).1, (h.tok j a b).2⟩⟩
theorem KeepW.fresh {c c' : WC} {st st' : St} (h : KeepW c st c' st') {q : Nat} (hq : st'.tok q = false) : st.tok q = true → c.own q := fun ht => by
  cases Classical.em (c.own q) with
  | inl h => exact h
  | inr hn => have := (h.tok q hn ht).1; rw [hq] at this; cases this
theorem u64_fine (l : List Nat) : (∀ y ∈ l.map (fun n => D.int .u64 (n : Nat)), y.fine = true ∧ y.cells.length = 1) ↔ True := by
  simp only [iff_true]; intro y hy; obtain ⟨c, _, rfl⟩ := List.mem_map.1 hy; exact ⟨rfl, rfl⟩
attribute [go_sem] u64_fine

theorem sem54 : ∀ (t : Tm), t.wf → okT3 t = true → ∀ (rw ra rm : Nat) (e : En) (A : List Tm) (c : WC) (st : St) (n : Nat), WS rw ra rm e A c st → EOk e A → AV A → ESz e n → n + t.size ≤ 20000 → (putA t A).length + t.size < 100000 →
    ∀ (k : D → St → Prop), (∀ c' st', WS rw ra rm (termE t e) (putA t A) c' st' → KeepW c st c' st' → k (.int .u64 (pos (termE t e).terms t)) st') → Sem P 54 [.ptr rw 0, t.d] st k := by
  intro t
  induction t using Tm.ind with
  | h kk m0 s ls ts ihT =>
    intro hw ho rw ra rm e A c st n hS hE hv hz hn hlen k hk
    have wt := hw.to
    generalize he : Tm.mk kk m0 s ls ts = t at *
    have hts : ts = t.ts := by rw [← he]; rfl
    rw [hts] at ihT
    clear he hts
    obtain ⟨oA, oS, oD⟩ := okT3_all ho
    have hnb := all_node oA
    have nt := NodeB.of hnb
    have hts3 : t.ts.length ≤ 3 := by have := nt.kids; have := kidsN_le t.k; omega
    obtain ⟨mA, hmA, hmA2⟩ := putA_ext t A
    have hlenA : A.length + t.size < 100000 := by rw [hmA, List.length_append] at hlen; omega
    have hv' := putA_av t A hv oA hw
    have htA := putA_mem t A
    have hkA : ∀ x ∈ t.ts, x ∈ putA t A := hv'.kids t htA
    have hpA := pos_lt htA
    have hE' : EOk e (putA t A) := ⟨hE.names, hE.levels, fun x hx => putA_sub (hE.terms x hx)⟩
    have hw0 := hS.w
    rw [wCells] at hw0
    have hwp : ∀ x : Tm, IntKind.u64.wrap ((pos e.terms x : Nat) : Int) = (pos e.terms x : Nat) := fun x => wrap_u64 (by have := pos_le e.terms x; have := hz.t; omega)
    have hKo : KeyOk P 3 (iv (pos (putA t A) t)) := keyOk3 (by omega) (by omega)
    have hVo : keyV (.int .i64 (pos (putA t A) t)) = some (iv (pos (putA t A) t)) := rfl
    have hE1 := tent_ok (A := putA t A) (l := e.terms) (by omega)
    refine Sem.of_body Tryz.call54 Tryz.func54 rfl Tryz.ntmps54 (by simp) ?_
    repeat' first | refine yj fun N hN => ?_ | refine yl [] ?_ | ((first | refine ya rfl rfl fun N hN => ?_ | refine yc rfl rfl fun N hN => ?_ | refine ye rfl rfl fun N hN => ?_ | (refine yw hN _ _ ?_; clear hN N)); simp only [go_sem, ↓reduceIte, zA, zB, zC, zD, zE, zF, zG, zL, zM, zN, reduceCtorEq, hw0, Tryz.results54]) | (refine yg rfl ?_; try simp only [go_sem]) | ((first | refine yx hN _ _ ?_ | refine yz hN _ _ ?_ | refine yy hN _ ?_); clear hN N) | refine yt (id := 1) mixed [] (.rd 0 (.rd 1 (.rd 2 (.rd 3 (.act 4 [3, 2, 1, 0] (.act 5 [] (.act 6 [] (.rd 7 (.rd 8 (.act 9 [8] (.act 10 [] (.nil)))))))))))) (by kernel_rfl) ?_ | fail
    refine sem90 t hw ho A hv hlenA ra rm c.o st hS.ar _ (fun o' st1 uS uK => ?_)
    obtain ⟨hS1, hK1⟩ := hS.upArena uS uK ⟨mA, hmA⟩ hE.terms
    have hw1 := hS1.w
    rw [wCells] at hw1
    cases hrt : c.rt with
    | none =>
      have h0 := hS.t0 hrt
      rw [show ({ c with o := o' } : WC).rt = none from hrt, show mapD none = .nilmap from rfl] at hw1
      have hm : t ∉ e.terms := by rw [h0]; simp
      repeat' first | refine yj fun N hN => ?_ | refine yk ?_ | refine yl [] ?_ | ((first | refine ya rfl rfl fun N hN => ?_ | refine yc rfl rfl fun N hN => ?_ | refine ye rfl rfl fun N hN => ?_ | (refine yw hN _ _ ?_; clear hN N) | refine ym ?_); simp only [go_sem, ↓reduceIte, zA, zB, zC, zD, zE, zF, zG, zL, zM, zN, reduceCtorEq, hw1, hKo, hVo, Tryz.results54]) | ((first | refine yg rfl ?_ | refine yn ?_ | refine yi ?_); try simp only [go_sem]) | ((first | refine yx hN _ _ ?_ | refine yz hN _ _ ?_ | refine yy hN _ ?_); clear hN N) | fail
      refine W.loopN (fun m fr st' => ∃ (i : Nat) (e' : En) (c' : WC), WS rw ra rm e' (putA t A) c' st' ∧ KeepW c st c' st' ∧ EOk e' (putA t A) ∧ ESz e' (n + Tm.sizes (t.ts.take i)) ∧ kidsE (t.ts.drop i) e' = kidsE t.ts e ∧ i + m = t.ts.length ∧
        (∀ y ∈ e'.terms, y ∈ e.terms ∨ y.size < t.size) ∧ (∀ x ∈ t.ts.take i, x ∈ e'.terms) ∧ fr 43 = .int .i64 i ∧ fr 42 = .int .i64 t.ts.length ∧ fr 41 = .sl .frozen 5 (t.ts.map Tm.d) ∧ fr 3 = .eptr t.d 0 ∧ fr 0 = .ptr rw 0 ∧ fr 5 = .int .i64 (pos (putA t A) t) ∧
        ((i = 0 ∧ fr 9 = .sl .nil 0 []) ∨ ∃ q, 0 < i ∧ fr 9 = .sl (.tok q) 1 (((t.ts.take i).map (pos e'.terms)).map fun n => .int .u64 (n : Nat)) ∧ st'.tok q = true ∧ ¬ c'.own q ∧ (st.tok q = true → c.own q))) ?_ t.ts.length _ _
        ⟨0, e, _, hS1, hK1, hE', hz.le (by omega), by simp, by simp, fun y hy => .inl hy, by simp, by simp only [go_sem, ↓reduceIte, zA, zB, zC, zD, zE, zF, zG, zL, zM, zN, reduceCtorEq]; rfl, by simp only [go_sem, ↓reduceIte, zA, zB, zC, zD, zE, zF, zG, zL, zM, zN, reduceCtorEq], by simp only [go_sem, ↓reduceIte, zA, zB, zC, zD, zE, zF, zG, zL, zM, zN, reduceCtorEq], by simp only [go_sem, ↓reduceIte, zA, zB, zC, zD, zE, zF, zG, zL, zM, zN, reduceCtorEq], by simp only [go_sem, ↓reduceIte, zA, zB, zC, zD, zE, zF, zG, zL, zM, zN, reduceCtorEq], by simp only [go_sem, ↓reduceIte, zA, zB, zC, zD, zE, zF, zG, zL, zM, zN, reduceCtorEq], .inl ⟨rfl, by simp only [go_sem, ↓reduceIte, zA, zB, zC, zD, zE, zF, zG, zL, zM, zN, reduceCtorEq]⟩⟩
      rintro m N' ih fr st' ⟨i, e', c', gS, gK, gE, gz, gk, hi, gsm, gm, f43, f42, f41, f3, f0, f5, gq⟩
      have hsz := Tm.size_eq t
      rcases Nat.lt_or_ge i t.ts.length with hlt | hge
      · have hg : (t.ts.map Tm.d).getD i .any = (t.ts.getD i Tm.z).d := getD_map _ _ _ hlt
        have h4 : (i : Int) < t.ts.length := by omega
        have hmx := getD_mem t.ts Tm.z hlt
        have hms := Tm.sizes_mem hmx
        have htk := take_succ_getD t.ts Tm.z hlt
        have hdr := drop_getD t.ts Tm.z hlt
        rw [hdr, kidsE] at gk
        have hss : Tm.sizes (t.ts.take i) + (t.ts.getD i Tm.z).size = Tm.sizes (t.ts.take (i + 1)) ∧ Tm.sizes (t.ts.take (i + 1)) ≤ Tm.sizes t.ts := by
          have app : ∀ a b : List Tm, Tm.sizes (a ++ b) = Tm.sizes a + Tm.sizes b := by
            intro a; induction a with
            | nil => intro b; simp [Tm.sizes]
            | cons x a ih => intro b; rw [List.cons_append, Tm.sizes, Tm.sizes, ih]; omega
          refine ⟨by rw [htk, app]; simp [Tm.sizes], ?_⟩
          conv => rhs; rw [← List.take_append_drop (i + 1) t.ts, app]
          omega
        have hxw := wt.tm _ hmx
        have hxo := okT3_kid ho hmx
        have hxA := hkA _ hmx
        generalize t.ts.getD i Tm.z = x at *
        have hpo := putA_old x hv' hxA
        have hlx : (putA x (putA t A)).length + x.size < 100000 := by rw [hpo]; omega
        have hpos : ∀ z ∈ t.ts.take i, pos (termE x e').terms z = pos e'.terms z := fun z hz => by
          obtain ⟨mm, h⟩ := termE_ext x e'; rw [h, pos_app mm (gm z hz)]
        have hmapp : (t.ts.take i).map (pos e'.terms) = (t.ts.take i).map (pos (termE x e').terms) := List.map_congr_left fun z hz => (hpos z hz).symm
        have hnew : ((t.ts.take (i + 1)).map (pos (termE x e').terms)).map (fun n => D.int .u64 (n : Nat)) = ((t.ts.take i).map (pos e'.terms)).map (fun n => D.int .u64 (n : Nat)) ++ [.int .u64 (pos (termE x e').terms x)] := by
          rw [htk, List.map_append, List.map_append, hmapp]; rfl
        have hmem2 : ∀ z ∈ t.ts.take (i + 1), z ∈ (termE x e').terms := by
          intro z hz
          rw [htk] at hz
          rcases List.mem_append.1 hz with hz | hz
          · obtain ⟨mm, h⟩ := termE_ext x e'; rw [h]; exact List.mem_append_left _ (gm z hz)
          · simp only [List.mem_singleton] at hz; rw [hz]; exact termE_mem _ _
        have hsm2 : ∀ y ∈ (termE x e').terms, y ∈ e.terms ∨ y.size < t.size := fun y hy => by
          rcases termE_small x e' y hy with h | h
          · exact gsm y h
          · right; omega
        have hz2 : ESz (termE x e') (n + Tm.sizes (t.ts.take (i + 1))) := by
          have := ESz.term x gz (by omega) (okT3_all hxo).1
          exact this.le (by omega)
        have hln : (t.ts.take i).length ≤ 3 := by rw [List.length_take]; omega
        rcases gq with ⟨hi0, f9⟩ | ⟨q, hi0, f9, gt, gn, gf⟩
        · have ht0 : t.ts.take i = [] := by rw [hi0]; simp
          rw [ht0] at hnew
          repeat' first | rw [yu hr] | refine yj fun N hN => ?_ | refine yk ?_ | refine yl [] ?_ | ((first | refine ya rfl rfl fun N hN => ?_ | refine ym ?_); simp only [go_sem, ↓reduceIte, zA, zB, zC, zD, zE, zF, zG, zL, zM, zN, reduceCtorEq, f43, f42, f41, f3, f0, f5, f9, hg, hlt, h4, Tryz.results54]) | ((first | refine yg rfl ?_ | refine yn ?_); try simp only [go_sem]) | ((first | refine yx hN _ _ ?_ | refine yz hN _ _ ?_); clear hN N) | (refine ihT x hmx hxw hxo rw ra rm e' _ c' st' _ gS gE hv' gz (by omega) hlx _ (fun c2 st2 vS vK => ?_); rw [hpo] at vS; try simp only [go_sem, ↓reduceIte, zA, zB, zC, zD, zE, zF, zG, zL, zM, zN, reduceCtorEq, f43, f42, f41, f3, f0, f5, f9, hg, hlt, h4]) | ((first | (refine yr fun j hj => ?_; (try have hj0 := St.tok_of_give hj)) | (refine ys fun r hr => ?_; (try have hrn := (St.set_none hr).1); (try have hrn2 := Ne.symm (St.set_none hr).1))); try simp only [go_sem, ↓reduceIte, zA, zB, zC, zD, zE, zF, zG, zL, zM, zN, reduceCtorEq, f43, f42, f41, f3, f0, f5, f9, hg, hlt, h4]) | (refine And.intro ?_ ?_; · omega) | clear hN N | fail
          refine ih.back (m - 1) (by omega) _ _ ⟨i + 1, termE x e', c2, vS.mono (St.le_give (St.le.refl _) _), (gK.trans vK).mono (St.le_give (St.le.refl _) _), EOk.term hv' x gE hxA, hz2, gk, by omega, hsm2, hmem2, ?_, ?_, ?_, ?_, ?_, ?_, .inr ⟨j, by omega, ?_, by simp [St.tok_give], fun ho => ?_, (gK.trans vK).fresh hj⟩⟩
          · simp only [go_sem, ↓reduceIte, zA, zB, zC, zD, zE, zF, zG, zL, zM, zN, reduceCtorEq]; rfl
          · simp only [go_sem, ↓reduceIte, zA, zB, zC, zD, zE, zF, zG, zL, zM, zN, reduceCtorEq, f42]
          · simp only [go_sem, ↓reduceIte, zA, zB, zC, zD, zE, zF, zG, zL, zM, zN, reduceCtorEq, f41]
          · simp only [go_sem, ↓reduceIte, zA, zB, zC, zD, zE, zF, zG, zL, zM, zN, reduceCtorEq, f3]
          · simp only [go_sem, ↓reduceIte, zA, zB, zC, zD, zE, zF, zG, zL, zM, zN, reduceCtorEq, f0]
          · simp only [go_sem, ↓reduceIte, zA, zB, zC, zD, zE, zF, zG, zL, zM, zN, reduceCtorEq, f5]
          · simp only [go_sem, ↓reduceIte, zA, zB, zC, zD, zE, zF, zG, zL, zM, zN, reduceCtorEq]; rw [hnew]; rfl
          · have := vS.ownT ho; rw [hj] at this; cases this
        · repeat' first | rw [yu hr] | refine yj fun N hN => ?_ | refine yk ?_ | refine yl [] ?_ | ((first | refine ya rfl rfl fun N hN => ?_ | refine ym ?_); simp only [go_sem, ↓reduceIte, zA, zB, zC, zD, zE, zF, zG, zL, zM, zN, reduceCtorEq, f43, f42, f41, f3, f0, f5, f9, hg, hlt, h4, Tryz.results54]) | ((first | refine yg rfl ?_ | refine yn ?_); try simp only [go_sem]) | ((first | refine yx hN _ _ ?_ | refine yz hN _ _ ?_); clear hN N) | ((refine ys fun r hr => ?_; (try have hrn := (St.set_none hr).1); (try have hrn2 := Ne.symm (St.set_none hr).1)); try simp only [go_sem, ↓reduceIte, zA, zB, zC, zD, zE, zF, zG, zL, zM, zN, reduceCtorEq, f43, f42, f41, f3, f0, f5, f9, hg, hlt, h4]) | fail
          refine ihT x hmx hxw hxo rw ra rm e' _ c' st' _ gS gE hv' gz (by omega) hlx _ (fun c2 st2 vS vK => ?_)
          rw [hpo] at vS
          obtain ⟨v1, v2⟩ := vK.tok q gn gt
          repeat' first | refine yl [] ?_ | (refine ya rfl rfl fun N hN => ?_; simp only [go_sem, ↓reduceIte, zA, zB, zC, zD, zE, zF, zG, zL, zM, zN, reduceCtorEq, f43, f42, f41, f3, f0, f5, f9, hg, hlt, h4, v1, Tryz.results54]) | (refine yg rfl ?_; try simp only [go_sem]) | ((first | refine yx hN _ _ ?_ | refine yz hN _ _ ?_); clear hN N) | ((refine yr fun j hj => ?_; (try have hj0 := St.tok_of_give hj)); try simp only [go_sem, ↓reduceIte, zA, zB, zC, zD, zE, zF, zG, zL, zM, zN, reduceCtorEq, f43, f42, f41, f3, f0, f5, f9, hg, hlt, h4, v1]) | (refine And.intro ?_ ?_; · omega) | clear hN N | fail
          refine ih.back (m - 1) (by omega) _ _ ⟨i + 1, termE x e', c2, (vS.take v2).mono (St.le_give (St.le.refl _) _), ((gK.trans vK).take gf).mono (St.le_give (St.le.refl _) _), EOk.term hv' x gE hxA, hz2, gk, by omega, hsm2, hmem2, ?_, ?_, ?_, ?_, ?_, ?_, .inr ⟨j, by omega, ?_, by simp [St.tok_give], fun ho => ?_, (gK.trans vK).fresh hj⟩⟩
          · simp only [go_sem, ↓reduceIte, zA, zB, zC, zD, zE, zF, zG, zL, zM, zN, reduceCtorEq]; rfl
          · simp only [go_sem, ↓reduceIte, zA, zB, zC, zD, zE, zF, zG, zL, zM, zN, reduceCtorEq, f42]
          · simp only [go_sem, ↓reduceIte, zA, zB, zC, zD, zE, zF, zG, zL, zM, zN, reduceCtorEq, f41]
          · simp only [go_sem, ↓reduceIte, zA, zB, zC, zD, zE, zF, zG, zL, zM, zN, reduceCtorEq, f3]
          · simp only [go_sem, ↓reduceIte, zA, zB, zC, zD, zE, zF, zG, zL, zM, zN, reduceCtorEq, f0]
          · simp only [go_sem, ↓reduceIte, zA, zB, zC, zD, zE, zF, zG, zL, zM, zN, reduceCtorEq, f5]
          · simp only [go_sem, ↓reduceIte, zA, zB, zC, zD, zE, zF, zG, zL, zM, zN, reduceCtorEq]; rw [hnew]
          · have := vS.ownT ho; rw [hj] at this; cases this
      · have h4 : ¬ (i : Int) < t.ts.length := by omega
        rw [List.drop_of_length_le hge, kidsE] at gk
        rw [List.take_of_length_le hge] at gz gq
        have hnt : t ∉ e'.terms := fun h => by
          rcases gsm t h with h | h
          · exact hm h
          · omega
        obtain ⟨ow, z, f9, hzz⟩ : ∃ ow z, fr 9 = .sl ow z ((t.ts.map (pos e'.terms)).map fun n => .int .u64 (n : Nat)) ∧ (t.ts = [] ∨ z = 1) := by
          rcases gq with ⟨h0, f9⟩ | ⟨q, _, f9, _⟩
          · have : t.ts = [] := List.eq_nil_of_length_eq_zero (by omega)
            exact ⟨.nil, 0, by rw [f9, this]; rfl, .inl this⟩
          · exact ⟨.tok q, 1, f9, .inr rfl⟩
        have hpt := gz.put (by omega) hnb
        have hT : termE t e = e'.putT t := by rw [termE_new hm, ← gk]
        obtain ⟨nt1, nt2, nt3⟩ := node_terms e' t
        have hMn : ESm (e'.node t) := ⟨(hpt.1.sm (by omega)).n, (hpt.1.sm (by omega)).l, by rw [nt1, nt2]; have := gz.t; omega, by rw [nt3]; have := gz.d; omega⟩
        rw [hT] at hk
        have hpp : pos (e'.putT t).terms t = e'.terms.length := by
          have := pos_addU e'.terms t
          rw [addU_new hnt, pos_not hnt] at this
          exact this
        rw [hpp] at hk
        repeat' first | refine yj fun N hN => ?_ | refine yl [] ?_ | ((first | refine ya rfl rfl fun N hN => ?_ | refine ym ?_ | refine yp ?_); simp only [go_sem, ↓reduceIte, zA, zB, zC, zD, zE, zF, zG, zL, zM, zN, reduceCtorEq, f43, f42, f41, f3, f0, f5, f9, h4, Tryz.results54]) | (refine yg rfl ?_; try simp only [go_sem]) | ((first | refine yx hN _ _ ?_ | refine yz hN _ _ ?_); clear hN N) | clear hN N | fail
        refine sem91 t hw hnb ow z rw ra rm e' _ c' st' gS gE _ gz (by omega) hzz _ (fun c2 st2 ow2 z2 vS vK => ?_)
        repeat' first | rw [yu hr] | refine yj fun N hN => ?_ | refine yl [] ?_ | (refine ya rfl rfl fun N hN => ?_; simp only [go_sem, ↓reduceIte, zA, zB, zC, zD, zE, zF, zG, zL, zM, zN, reduceCtorEq, f43, f42, f41, f3, f0, f5, f9, h4, Tryz.results54]) | (refine yg rfl ?_; try simp only [go_sem]) | ((first | refine yx hN _ _ ?_ | refine yz hN _ _ ?_); clear hN N) | ((refine ys fun r hr => ?_; (try have hrn := (St.set_none hr).1); (try have hrn2 := Ne.symm (St.set_none hr).1)); try simp only [go_sem, ↓reduceIte, zA, zB, zC, zD, zE, zF, zG, zL, zM, zN, reduceCtorEq, f43, f42, f41, f3, f0, f5, f9, h4]) | fail
        refine sem92 t (nodeBy (e'.node t) t) ow2 z2 rw ra rm (e'.node t) _ c2 st2 vS (gE.node hnb hw) hMn htA (by omega) (by rw [nt1]; exact hnt) (by simp [nodeBy]) (by have := hpt.2; omega) _ (fun c3 st3 xS xK => ?_)
        rw [nt1, nt2] at xS
        rw [nt1]
        repeat' first | ((first | refine ya rfl rfl fun N hN => ?_ | refine yo ?_); simp only [go_sem, ↓reduceIte, zA, zB, zC, zD, zE, zF, zG, zL, zM, zN, reduceCtorEq, Tryz.results54]) | (refine yg rfl ?_; try simp only [go_sem]) | ((first | refine yx hN _ _ ?_ | refine yz hN _ _ ?_); clear hN N) | fail
        exact hk c3 st3 xS ((gK.trans vK).trans xK)
    | some rt =>
      have h1 := hS1.t1 rt hrt
      rw [show ({ c with o := o' } : WC).rt = some rt from hrt, show mapD (some rt) = .map rt from rfl] at hw1
      by_cases hm : t ∈ e.terms
      · have hF : find (tent (putA t A) e.terms) (iv (pos (putA t A) t)) = some (.int .i64 (pos e.terms t)) :=
          find_mem (f := fun x => iv (pos (putA t A) x)) (g := fun x => .int .i64 (pos e.terms x)) hm (fun a ha b hb h => pos_inj (hE'.terms a ha) (hE'.terms b hb) (by have := iv_inj h; omega))
        have hwp1 := hwp t
        rw [termE_old hm] at hk
        repeat' first | refine yj fun N hN => ?_ | refine yl [] ?_ | ((first | refine ya rfl rfl fun N hN => ?_ | refine yc rfl rfl fun N hN => ?_ | refine ye rfl rfl fun N hN => ?_ | (refine yw hN _ _ ?_; clear hN N) | refine ym ?_ | refine yo ?_); simp only [go_sem, ↓reduceIte, zA, zB, zC, zD, zE, zF, zG, zL, zM, zN, reduceCtorEq, hw1, h1, hKo, hVo, hE1, hF, hwp1, Tryz.results54]) | ((first | refine yg rfl ?_ | refine yn ?_ | refine yi ?_); try simp only [go_sem]) | ((first | refine yx hN _ _ ?_ | refine yz hN _ _ ?_ | refine yy hN _ ?_); clear hN N) | (refine And.intro ?_ ?_; · omega) | clear hN N | fail
        exact hk _ _ hS1 hK1
      · have hmiss : ∀ x ∈ tent (putA t A) e.terms, x.1 ≠ iv (pos (putA t A) t) := by
          intro x hx e2
          obtain ⟨a, ha, rfl⟩ := List.mem_map.1 hx
          have := iv_inj e2
          exact hm (pos_inj (hE'.terms a ha) htA (by omega) ▸ ha)
        have hF : find (tent (putA t A) e.terms) (iv (pos (putA t A) t)) = none := find_none hmiss
        repeat' first | refine yj fun N hN => ?_ | refine yk ?_ | refine yl [] ?_ | ((first | refine ya rfl rfl fun N hN => ?_ | refine yc rfl rfl fun N hN => ?_ | refine ye rfl rfl fun N hN => ?_ | (refine yw hN _ _ ?_; clear hN N) | refine ym ?_); simp only [go_sem, ↓reduceIte, zA, zB, zC, zD, zE, zF, zG, zL, zM, zN, reduceCtorEq, hw1, h1, hKo, hVo, hE1, hF, Tryz.results54]) | ((first | refine yg rfl ?_ | refine yn ?_ | refine yi ?_); try simp only [go_sem]) | ((first | refine yx hN _ _ ?_ | refine yz hN _ _ ?_ | refine yy hN _ ?_); clear hN N) | (refine And.intro ?_ ?_; · omega) | fail
        refine W.loopN (fun m fr st' => ∃ (i : Nat) (e' : En) (c' : WC), WS rw ra rm e' (putA t A) c' st' ∧ KeepW c st c' st' ∧ EOk e' (putA t A) ∧ ESz e' (n + Tm.sizes (t.ts.take i)) ∧ kidsE (t.ts.drop i) e' = kidsE t.ts e ∧ i + m = t.ts.length ∧
          (∀ y ∈ e'.terms, y ∈ e.terms ∨ y.size < t.size) ∧ (∀ x ∈ t.ts.take i, x ∈ e'.terms) ∧ fr 43 = .int .i64 i ∧ fr 42 = .int .i64 t.ts.length ∧ fr 41 = .sl .frozen 5 (t.ts.map Tm.d) ∧ fr 3 = .eptr t.d 0 ∧ fr 0 = .ptr rw 0 ∧ fr 5 = .int .i64 (pos (putA t A) t) ∧
          ((i = 0 ∧ fr 9 = .sl .nil 0 []) ∨ ∃ q, 0 < i ∧ fr 9 = .sl (.tok q) 1 (((t.ts.take i).map (pos e'.terms)).map fun n => .int .u64 (n : Nat)) ∧ st'.tok q = true ∧ ¬ c'.own q ∧ (st.tok q = true → c.own q))) ?_ t.ts.length _ _
          ⟨0, e, _, hS1, hK1, hE', hz.le (by omega), by simp, by simp, fun y hy => .inl hy, by simp, by simp only [go_sem, ↓reduceIte, zA, zB, zC, zD, zE, zF, zG, zL, zM, zN, reduceCtorEq]; rfl, by simp only [go_sem, ↓reduceIte, zA, zB, zC, zD, zE, zF, zG, zL, zM, zN, reduceCtorEq], by simp only [go_sem, ↓reduceIte, zA, zB, zC, zD, zE, zF, zG, zL, zM, zN, reduceCtorEq], by simp only [go_sem, ↓reduceIte, zA, zB, zC, zD, zE, zF, zG, zL, zM, zN, reduceCtorEq], by simp only [go_sem, ↓reduceIte, zA, zB, zC, zD, zE, zF, zG, zL, zM, zN, reduceCtorEq], by simp only [go_sem, ↓reduceIte, zA, zB, zC, zD, zE, zF, zG, zL, zM, zN, reduceCtorEq], .inl ⟨rfl, by simp only [go_sem, ↓reduceIte, zA, zB, zC, zD, zE, zF, zG, zL, zM, zN, reduceCtorEq]⟩⟩
        rintro m N' ih fr st' ⟨i, e', c', gS, gK, gE, gz, gk, hi, gsm, gm, f43, f42, f41, f3, f0, f5, gq⟩
        have hsz := Tm.size_eq t
        rcases Nat.lt_or_ge i t.ts.length with hlt | hge
        · have hg : (t.ts.map Tm.d).getD i .any = (t.ts.getD i Tm.z).d := getD_map _ _ _ hlt
          have h4 : (i : Int) < t.ts.length := by omega
          have hmx := getD_mem t.ts Tm.z hlt
          have hms := Tm.sizes_mem hmx
          have htk := take_succ_getD t.ts Tm.z hlt
          have hdr := drop_getD t.ts Tm.z hlt
          rw [hdr, kidsE] at gk
          have hss : Tm.sizes (t.ts.take i) + (t.ts.getD i Tm.z).size = Tm.sizes (t.ts.take (i + 1)) ∧ Tm.sizes (t.ts.take (i + 1)) ≤ Tm.sizes t.ts := by
            have app : ∀ a b : List Tm, Tm.sizes (a ++ b) = Tm.sizes a + Tm.sizes b := by
              intro a; induction a with
              | nil => intro b; simp [Tm.sizes]
              | cons x a ih => intro b; rw [List.cons_append, Tm.sizes, Tm.sizes, ih]; omega
            refine ⟨by rw [htk, app]; simp [Tm.sizes], ?_⟩
            conv => rhs; rw [← List.take_append_drop (i + 1) t.ts, app]
            omega
          have hxw := wt.tm _ hmx
          have hxo := okT3_kid ho hmx
          have hxA := hkA _ hmx
          generalize t.ts.getD i Tm.z = x at *
          have hpo := putA_old x hv' hxA
          have hlx : (putA x (putA t A)).length + x.size < 100000 := by rw [hpo]; omega
          have hpos : ∀ z ∈ t.ts.take i, pos (termE x e').terms z = pos e'.terms z := fun z hz => by
            obtain ⟨mm, h⟩ := termE_ext x e'; rw [h, pos_app mm (gm z hz)]
          have hmapp : (t.ts.take i).map (pos e'.terms) = (t.ts.take i).map (pos (termE x e').terms) := List.map_congr_left fun z hz => (hpos z hz).symm
          have hnew : ((t.ts.take (i + 1)).map (pos (termE x e').terms)).map (fun n => D.int .u64 (n : Nat)) = ((t.ts.take i).map (pos e'.terms)).map (fun n => D.int .u64 (n : Nat)) ++ [.int .u64 (pos (termE x e').terms x)] := by
            rw [htk, List.map_append, List.map_append, hmapp]; rfl
          have hmem2 : ∀ z ∈ t.ts.take (i + 1), z ∈ (termE x e').terms := by
            intro z hz
            rw [htk] at hz
            rcases List.mem_append.1 hz with hz | hz
            · obtain ⟨mm, h⟩ := termE_ext x e'; rw [h]; exact List.mem_append_left _ (gm z hz)
            · simp only [List.mem_singleton] at hz; rw [hz]; exact termE_mem _ _
          have hsm2 : ∀ y ∈ (termE x e').terms, y ∈ e.terms ∨ y.size < t.size := fun y hy => by
            rcases termE_small x e' y hy with h | h
            · exact gsm y h
            · right; omega
          have hz2 : ESz (termE x e') (n + Tm.sizes (t.ts.take (i + 1))) := by
            have := ESz.term x gz (by omega) (okT3_all hxo).1
            exact this.le (by omega)
          have hln : (t.ts.take i).length ≤ 3 := by rw [List.length_take]; omega
          rcases gq with ⟨hi0, f9⟩ | ⟨q, hi0, f9, gt, gn, gf⟩
          · have ht0 : t.ts.take i = [] := by rw [hi0]; simp
            rw [ht0] at hnew
            repeat' first | rw [yu hr] | refine yj fun N hN => ?_ | refine yk ?_ | refine yl [] ?_ | ((first | refine ya rfl rfl fun N hN => ?_ | refine ym ?_); simp only [go_sem, ↓reduceIte, zA, zB, zC, zD, zE, zF, zG, zL, zM, zN, reduceCtorEq, f43, f42, f41, f3, f0, f5, f9, hg, hlt, h4, Tryz.results54]) | ((first | refine yg rfl ?_ | refine yn ?_); try simp only [go_sem]) | ((first | refine yx hN _ _ ?_ | refine yz hN _ _ ?_); clear hN N) | (refine ihT x hmx hxw hxo rw ra rm e' _ c' st' _ gS gE hv' gz (by omega) hlx _ (fun c2 st2 vS vK => ?_); rw [hpo] at vS; try simp only [go_sem, ↓reduceIte, zA, zB, zC, zD, zE, zF, zG, zL, zM, zN, reduceCtorEq, f43, f42, f41, f3, f0, f5, f9, hg, hlt, h4]) | ((first | (refine yr fun j hj => ?_; (try have hj0 := St.tok_of_give hj)) | (refine ys fun r hr => ?_; (try have hrn := (St.set_none hr).1); (try have hrn2 := Ne.symm (St.set_none hr).1))); try simp only [go_sem, ↓reduceIte, zA, zB, zC, zD, zE, zF, zG, zL, zM, zN, reduceCtorEq, f43, f42, f41, f3, f0, f5, f9, hg, hlt, h4]) | (refine And.intro ?_ ?_; · omega) | clear hN N | fail
            refine ih.back (m - 1) (by omega) _ _ ⟨i + 1, termE x e', c2, vS.mono (St.le_give (St.le.refl _) _), (gK.trans vK).mono (St.le_give (St.le.refl _) _), EOk.term hv' x gE hxA, hz2, gk, by omega, hsm2, hmem2, ?_, ?_, ?_, ?_, ?_, ?_, .inr ⟨j, by omega, ?_, by simp [St.tok_give], fun ho => ?_, (gK.trans vK).fresh hj⟩⟩
            · simp only [go_sem, ↓reduceIte, zA, zB, zC, zD, zE, zF, zG, zL, zM, zN, reduceCtorEq]; rfl
            · simp only [go_sem, ↓reduceIte, zA, zB, zC, zD, zE, zF, zG, zL, zM, zN, reduceCtorEq, f42]
            · simp only [go_sem, ↓reduceIte, zA, zB, zC, zD, zE, zF, zG, zL, zM, zN, reduceCtorEq, f41]
            · simp only [go_sem, ↓reduceIte, zA, zB, zC, zD, zE, zF, zG, zL, zM, zN, reduceCtorEq, f3]
            · simp only [go_sem, ↓reduceIte, zA, zB, zC, zD, zE, zF, zG, zL, zM, zN, reduceCtorEq, f0]
            · simp only [go_sem, ↓reduceIte, zA, zB, zC, zD, zE, zF, zG, zL, zM, zN, reduceCtorEq, f5]
            · simp only [go_sem, ↓reduceIte, zA, zB, zC, zD, zE, zF, zG, zL, zM, zN, reduceCtorEq]; rw [hnew]; rfl
            · have := vS.ownT ho; rw [hj] at this; cases this
          · repeat' first | rw [yu hr] | refine yj fun N hN => ?_ | refine yk ?_ | refine yl [] ?_ | ((first | refine ya rfl rfl fun N hN => ?_ | refine ym ?_); simp only [go_sem, ↓reduceIte, zA, zB, zC, zD, zE, zF, zG, zL, zM, zN, reduceCtorEq, f43, f42, f41, f3, f0, f5, f9, hg, hlt, h4, Tryz.results54]) | ((first | refine yg rfl ?_ | refine yn ?_); try simp only [go_sem]) | ((first | refine yx hN _ _ ?_ | refine yz hN _ _ ?_); clear hN N) | ((refine ys fun r hr => ?_; (try have hrn := (St.set_none hr).1); (try have hrn2 := Ne.symm (St.set_none hr).1)); try simp only [go_sem, ↓reduceIte, zA, zB, zC, zD, zE, zF, zG, zL, zM, zN, reduceCtorEq, f43, f42, f41, f3, f0, f5, f9, hg, hlt, h4]) | fail
            refine ihT x hmx hxw hxo rw ra rm e' _ c' st' _ gS gE hv' gz (by omega) hlx _ (fun c2 st2 vS vK => ?_)
            rw [hpo] at vS
            obtain ⟨v1, v2⟩ := vK.tok q gn gt
            repeat' first | refine yl [] ?_ | (refine ya rfl rfl fun N hN => ?_; simp only [go_sem, ↓reduceIte, zA, zB, zC, zD, zE, zF, zG, zL, zM, zN, reduceCtorEq, f43, f42, f41, f3, f0, f5, f9, hg, hlt, h4, v1, Tryz.results54]) | (refine yg rfl ?_; try simp only [go_sem]) | ((first | refine yx hN _ _ ?_ | refine yz hN _ _ ?_); clear hN N) | ((refine yr fun j hj => ?_; (try have hj0 := St.tok_of_give hj)); try simp only [go_sem, ↓reduceIte, zA, zB, zC, zD, zE, zF, zG, zL, zM, zN, reduceCtorEq, f43, f42, f41, f3, f0, f5, f9, hg, hlt, h4, v1]) | (refine And.intro ?_ ?_; · omega) | clear hN N | fail
            refine ih.back (m - 1) (by omega) _ _ ⟨i + 1, termE x e', c2, (vS.take v2).mono (St.le_give (St.le.refl _) _), ((gK.trans vK).take gf).mono (St.le_give (St.le.refl _) _), EOk.term hv' x gE hxA, hz2, gk, by omega, hsm2, hmem2, ?_, ?_, ?_, ?_, ?_, ?_, .inr ⟨j, by omega, ?_, by simp [St.tok_give], fun ho => ?_, (gK.trans vK).fresh hj⟩⟩
            · simp only [go_sem, ↓reduceIte, zA, zB, zC, zD, zE, zF, zG, zL, zM, zN, reduceCtorEq]; rfl
            · simp only [go_sem, ↓reduceIte, zA, zB, zC, zD, zE, zF, zG, zL, zM, zN, reduceCtorEq, f42]
            · simp only [go_sem, ↓reduceIte, zA, zB, zC, zD, zE, zF, zG, zL, zM, zN, reduceCtorEq, f41]
            · simp only [go_sem, ↓reduceIte, zA, zB, zC, zD, zE, zF, zG, zL, zM, zN, reduceCtorEq, f3]
            · simp only [go_sem, ↓reduceIte, zA, zB, zC, zD, zE, zF, zG, zL, zM, zN, reduceCtorEq, f0]
            · simp only [go_sem, ↓reduceIte, zA, zB, zC, zD, zE, zF, zG, zL, zM, zN, reduceCtorEq, f5]
            · simp only [go_sem, ↓reduceIte, zA, zB, zC, zD, zE, zF, zG, zL, zM, zN, reduceCtorEq]; rw [hnew]
            · have := vS.ownT ho; rw [hj] at this; cases this
        · have h4 : ¬ (i : Int) < t.ts.length := by omega
          rw [List.drop_of_length_le hge, kidsE] at gk
          rw [List.take_of_length_le hge] at gz gq
          have hnt : t ∉ e'.terms := fun h => by
            rcases gsm t h with h | h
            · exact hm h
            · omega
          obtain ⟨ow, z, f9, hzz⟩ : ∃ ow z, fr 9 = .sl ow z ((t.ts.map (pos e'.terms)).map fun n => .int .u64 (n : Nat)) ∧ (t.ts = [] ∨ z = 1) := by
            rcases gq with ⟨h0, f9⟩ | ⟨q, _, f9, _⟩
            · have : t.ts = [] := List.eq_nil_of_length_eq_zero (by omega)
              exact ⟨.nil, 0, by rw [f9, this]; rfl, .inl this⟩
            · exact ⟨.tok q, 1, f9, .inr rfl⟩
          have hpt := gz.put (by omega) hnb
          have hT : termE t e = e'.putT t := by rw [termE_new hm, ← gk]
          obtain ⟨nt1, nt2, nt3⟩ := node_terms e' t
          have hMn : ESm (e'.node t) := ⟨(hpt.1.sm (by omega)).n, (hpt.1.sm (by omega)).l, by rw [nt1, nt2]; have := gz.t; omega, by rw [nt3]; have := gz.d; omega⟩
          rw [hT] at hk
          have hpp : pos (e'.putT t).terms t = e'.terms.length := by
            have := pos_addU e'.terms t
            rw [addU_new hnt, pos_not hnt] at this
            exact this
          rw [hpp] at hk
          repeat' first | refine yj fun N hN => ?_ | refine yl [] ?_ | ((first | refine ya rfl rfl fun N hN => ?_ | refine ym ?_ | refine yp ?_); simp only [go_sem, ↓reduceIte, zA, zB, zC, zD, zE, zF, zG, zL, zM, zN, reduceCtorEq, f43, f42, f41, f3, f0, f5, f9, h4, Tryz.results54]) | (refine yg rfl ?_; try simp only [go_sem]) | ((first | refine yx hN _ _ ?_ | refine yz hN _ _ ?_); clear hN N) | clear hN N | fail
          refine sem91 t hw hnb ow z rw ra rm e' _ c' st' gS gE _ gz (by omega) hzz _ (fun c2 st2 ow2 z2 vS vK => ?_)
          repeat' first | rw [yu hr] | refine yj fun N hN => ?_ | refine yl [] ?_ | (refine ya rfl rfl fun N hN => ?_; simp only [go_sem, ↓reduceIte, zA, zB, zC, zD, zE, zF, zG, zL, zM, zN, reduceCtorEq, f43, f42, f41, f3, f0, f5, f9, h4, Tryz.results54]) | (refine yg rfl ?_; try simp only [go_sem]) | ((first | refine yx hN _ _ ?_ | refine yz hN _ _ ?_); clear hN N) | ((refine ys fun r hr => ?_; (try have hrn := (St.set_none hr).1); (try have hrn2 := Ne.symm (St.set_none hr).1)); try simp only [go_sem, ↓reduceIte, zA, zB, zC, zD, zE, zF, zG, zL, zM, zN, reduceCtorEq, f43, f42, f41, f3, f0, f5, f9, h4]) | fail
          refine sem92 t (nodeBy (e'.node t) t) ow2 z2 rw ra rm (e'.node t) _ c2 st2 vS (gE.node hnb hw) hMn htA (by omega) (by rw [nt1]; exact hnt) (by simp [nodeBy]) (by have := hpt.2; omega) _ (fun c3 st3 xS xK => ?_)
          rw [nt1, nt2] at xS
          rw [nt1]
          repeat' first | ((first | refine ya rfl rfl fun N hN => ?_ | refine yo ?_); simp only [go_sem, ↓reduceIte, zA, zB, zC, zD, zE, zF, zG, zL, zM, zN, reduceCtorEq, Tryz.results54]) | (refine yg rfl ?_; try simp only [go_sem]) | ((first | refine yx hN _ _ ?_ | refine yz hN _ _ ?_); clear hN N) | fail
          exact hk c3 st3 xS ((gK.trans vK).trans xK)
end Go.Proofs.YtddbidoaolnegaaGreatDoor
