/-
PART OF A CLAIM: PI. No statement of the seat is proved here; no condition. -/
import Derived.Test.YtddbidoaolnegaaGreatDoorWO16
set_option linter.all false
/- The writer: nodes: the walks. No statement of the seat is proved here; no condition. -/
namespace Go.Proofs.YtddbidoaolnegaaGreatDoor
open Go Go.RowKit
open Nat renaming reduceLT → zA, reduceEqDiff → zB, reduceBEq → zC, reduceAdd → zD, reduceMul → zE, reduceSub → zF, reduceLeDiff → zG, mul_one → zH, zero_add → zI, add_zero → zJ
open Int renaming toNat_natCast → zK, reduceAdd → zL, reduceLE → zM, reduceLT → zN, natCast_nonneg → zO
open Go.Proofs.YtddbidoaolnegaaGreatDoor renaming evI_plain → ya, evI_guard → yb, evT_rd → yc, evT_rdg → yd, evT_act → ye, evT_actg → yf, evI_done → yg, evT_two → yh, evT_nil → yi, W.seqG → yj, W.block → yk, W.regionI → yl, W.cond → ym, W.skip → yn, W.ret → yo, W.exit → yp, gdD_split → yq, newT_intro → yr, newB_intro → ys, W.draw → yt, St.set_del → yu, St.give_take → yv, AGo.go → yw, IGo.go → yx, TGo.go → yy, Goes.go → yz
attribute [local go_sem] zK zP zQ zH zI zJ zO
attribute [local irreducible] W evI evT evL evOp evBin gdD Sem newT newB fillD bldOf
set_option maxRecDepth 10000
set_option maxHeartbeats 4000000

theorem AS.mono {ra rm : Nat} {A : List Tm} {o : Option Nat} {st st' : St} (h : AS ra rm A o st) (l : st.le st') : AS ra rm A o st' :=
  ⟨l.mem _ _ h.ra, l.mem _ _ h.rm, by cases o with
    | none => have := h.tok; exact this
    | some j => exact l.tok j h.tok1⟩
theorem WS.mono {rw ra rm : Nat} {e : En} {A : List Tm} {c : WC} {st st' : St} (h : WS rw ra rm e A c st) (l : st.le st') : WS rw ra rm e A c st' :=
  ⟨l.mem _ _ h.w, h.ar.mono l, h.n0, fun r x => l.mem _ _ (h.n1 r x), h.l0, fun r x => l.mem _ _ (h.l1 r x), h.t0, fun r x => l.mem _ _ (h.t1 r x), h.b0, fun r x => l.tok _ (h.b1 r x), h.d0, fun r x => l.tok _ (h.d1 r x), h.td, h.od⟩
theorem KeepW.mono {c c' : WC} {st st' st'' : St} (h : KeepW c st c' st') (l : st'.le st'') : KeepW c st c' st'' :=
  ⟨fun j a b => ⟨l.tok j (h.tok j a b).1, (h.tok j a b).2⟩⟩

/-- How much a writer has: by how many things. -/
structure ESz (e : En) (n : Nat) : Prop where
  nm : e.names.length ≤ n ∧ (nmB e.names).length ≤ 42 * n
  l : e.levels.length ≤ 4 * n ∧ (lvBs e.levels).length ≤ 200 * n
  t : e.terms.length ≤ n ∧ e.tb.length ≤ 100 * n
  d : e.db.length ≤ 50 * n
theorem ESz.sm {e : En} {n : Nat} (h : ESz e n) (hn : n ≤ 20000) : ESm e := ⟨by have := h.nm; omega, by have := h.l; omega, by have := h.t; omega, by have := h.d; omega⟩
theorem ESz.le {e : En} {n m : Nat} (h : ESz e n) (hn : n ≤ m) : ESz e m := ⟨by have := h.nm; omega, by have := h.l; omega, by have := h.t; omega, by have := h.d; omega⟩
theorem nmB_len {l : List (List UInt8)} {s : List UInt8} (hs : nameB s = true) : (addU l s).length ≤ l.length + 1 ∧ (nmB (addU l s)).length ≤ (nmB l).length + 42 := by
  by_cases h : s ∈ l
  · rw [addU_mem h]; omega
  · have h1 := nameB_len hs
    have h2 := num_len64 (n := s.length) (by omega)
    refine ⟨by rw [addU_new h]; simp, ?_⟩
    rw [nmB_add h, List.length_append, List.length_append]; omega
theorem lvNum_len {l : Lv} (h : lvB l = true) : (lvNum l).length ≤ 50 := by
  obtain ⟨h1, h2, _⟩ := wf_of_lvB h
  have hc := num_len64 (n := l.c.toNat) (by omega)
  have hp : ∀ (p : List Int), (∀ x ∈ p, -1 ≤ x ∧ x ≤ 1099511627776) → (p.flatMap fun n => num (n + 1).toNat).length ≤ 10 * p.length := by
    intro p
    induction p with
    | nil => simp
    | cons a p ih =>
      intro hh
      have := ih (fun x hx => hh x (by simp [hx]))
      have h3 := hh a (by simp)
      have := num_len64 (n := (a + 1).toNat) (by omega)
      rw [List.flatMap_cons, List.length_append, List.length_cons]; omega
  have := hp l.p (fun x hx => by
    obtain ⟨j, hj, rfl⟩ := List.getElem_of_mem hx
    have := h2 j (by have := l.n; omega)
    simpa [List.getD, hj] using this)
  rw [lvNum, List.length_append]
  have := l.n
  omega
theorem lvBs_len {l : List Lv} {s : Lv} (hs : lvB s = true) : (addU l s).length ≤ l.length + 1 ∧ (lvBs (addU l s)).length ≤ (lvBs l).length + 50 := by
  by_cases h : s ∈ l
  · rw [addU_mem h]; omega
  · have h1 := lvNum_len hs
    refine ⟨by rw [addU_new h]; simp, ?_⟩
    rw [lvBs_add h, List.length_append]; omega

theorem EOk.name {e : En} {A : List Tm} (h : EOk e A) {s : List UInt8} (hs : nameB s = true) : EOk (e.name s) A := by
  refine ⟨fun x hx => ?_, h.levels, h.terms⟩
  by_cases hm : s ∈ e.names
  · rw [En.name, addU_mem hm] at hx; exact h.names x hx
  · simp only [En.name, addU_new hm] at hx
    rcases List.mem_append.1 hx with hx | hx
    · exact h.names x hx
    · simp only [List.mem_singleton] at hx; rw [hx]; exact hs
theorem EOk.level {e : En} {A : List Tm} (h : EOk e A) {s : Lv} (hs : s.wf) : EOk (e.level s) A := by
  refine ⟨h.names, fun x hx => ?_, h.terms⟩
  by_cases hm : s ∈ e.levels
  · rw [En.level, addU_mem hm] at hx; exact h.levels x hx
  · simp only [En.level, addU_new hm] at hx
    rcases List.mem_append.1 hx with hx | hx
    · exact h.levels x hx
    · simp only [List.mem_singleton] at hx; rw [hx]; exact hs

theorem byD_ne {b : List UInt8} (h : b ≠ []) : byD b ≠ [] := by
  cases b with
  | nil => exact absurd rfl h
  | cons => simp [byD]

theorem sem93 (o : Option Nat) (b own : List UInt8) (ow2 : Own) (z2 : Nat) (st : St) (k : D → St → Prop) (ho : o = none → b = []) (ht : ∀ j, o = some j → st.tok j = true) (hne : own ≠ []) (hb : b.length < 100000000) (hb2 : own.length < 100000000)
    (hk : ∀ j s, st.tok j = false → s.tok j = true → (∀ r x, st.mem r = some x → s.mem r = some x) → (∀ i, o ≠ some i → st.tok i = true → s.tok i = true) → k (.sl (.tok j) 1 (byD (b ++ own))) s) :
    Sem P 93 [bD o b, .eptr (.sl ow2 z2 (byD own)) 0] st k := by
  have hne2 := byD_ne hne
  cases o with
  | none =>
    rw [ho rfl] at hk
    simp only [bD, List.nil_append] at hk ⊢
    refine Sem.of_body Tryz.call93 Tryz.func93 rfl Tryz.ntmps93 (by simp) ?_
    repeat' first | refine yj fun N hN => ?_ | refine yl [] ?_ | ((first | refine ya rfl rfl fun N hN => ?_ | refine yo ?_); simp only [go_sem, ↓reduceIte, zA, zB, zC, zD, zE, zF, zG, zL, zM, zN, reduceCtorEq, hne2, Tryz.results93]) | (refine yg rfl ?_; try simp only [go_sem]) | ((first | refine yx hN _ _ ?_ | refine yz hN _ _ ?_); clear hN N) | ((refine yr fun j hj => ?_; (try have hj0 := St.tok_of_give hj)); try simp only [go_sem, ↓reduceIte, zA, zB, zC, zD, zE, zF, zG, zL, zM, zN, reduceCtorEq, hne2]) | (refine And.intro ?_ ?_; · omega) | fail
    exact hk j (st.give j) hj (by simp [St.tok_give]) (fun r x h => h) (fun i _ h => by simp [St.tok_give, h])
  | some i0 =>
    have ht0 := ht i0 rfl
    simp only [bD]
    refine Sem.of_body Tryz.call93 Tryz.func93 rfl Tryz.ntmps93 (by simp) ?_
    repeat' first | refine yj fun N hN => ?_ | refine yl [] ?_ | ((first | refine ya rfl rfl fun N hN => ?_ | refine yo ?_); simp only [go_sem, ↓reduceIte, zA, zB, zC, zD, zE, zF, zG, zL, zM, zN, reduceCtorEq, ht0, Tryz.results93]) | (refine yg rfl ?_; try simp only [go_sem]) | ((first | refine yx hN _ _ ?_ | refine yz hN _ _ ?_); clear hN N) | ((refine yr fun j hj => ?_; (try have hj0 := St.tok_of_give hj)); try simp only [go_sem, ↓reduceIte, zA, zB, zC, zD, zE, zF, zG, zL, zM, zN, reduceCtorEq, ht0]) | (refine And.intro ?_ ?_; · omega) | fail
    rw [← byD_append]
    exact hk j _ hj (by simp [St.tok_give]) (fun r x h => h) (fun i hi h => by
      have : i ≠ i0 := fun e => hi (by rw [e])
      simp [St.tok_give, St.tok_take, h, this])

theorem tent_ok {A l : List Tm} (hA : A.length < 100000000) : ∀ e ∈ tent A l, KeyOk P 3 e.1 ∧ e.2.flat = true := by
  intro e he
  obtain ⟨t, ht, rfl⟩ := List.mem_map.1 he
  have := pos_le A t
  exact ⟨keyOk3 (by omega) (by omega), rfl⟩
theorem ent_addT {A : List Tm} (l : List Tm) {x : Tm} (h : x ∉ l) : tent A (l ++ [x]) = tent A l ++ [(iv (pos A x), .int .i64 l.length)] := by
  have := ent_add (fun t => iv (pos A t)) l h
  rw [addU_new h] at this
  exact this

theorem WS.upTerm2 {rw ra rm : Nat} {e : En} {A : List Tm} {c : WC} {st s : St} {k : D → St → Prop} {d : D} (h : WS rw ra rm e A c st) {rt j : Nat} {x : Tm} {own : List UInt8}
    (hk : ∀ c' st', WS rw ra rm { e with terms := e.terms ++ [x], tb := e.tb ++ own } A c' st' → KeepW c st c' st' → k d st') (hx : x ∉ e.terms)
    (hm : s.mem rt = some (.map 3 (tent A e.terms ++ [(iv (pos A x), .int .i64 e.terms.length)])))
    (hw : s.mem rw = some (.cells [mapD c.rn, .sl c.nw c.nz (byD (nmB e.names)), mapD c.rl, .sl c.lw c.lz (byD (lvBs e.levels)), .map rt, .sl (.tok j) 1 (byD (e.tb ++ own)), .ptr ra 0, bD c.dj e.db, .bool false]))
    (hf : ∀ y, st.mem rt = some y → ∃ es, y = .map 3 es) (hs : ∀ r y, r ≠ rw → r ≠ rt → st.mem r = some y → s.mem r = some y) (hj : st.tok j = false) (hj2 : s.tok j = true) (ht : ∀ i, c.tj ≠ some i → st.tok i = true → s.tok i = true) : k d s := by
  have u := h.upTerm (s := s) (rt := rt) (j := j) (l := e.terms ++ [x]) (tb := e.tb ++ own) (by rw [hm, ent_addT _ hx]) (by rw [hw, wCells]; rfl) hf hs hj hj2 ht
  exact hk _ _ u.1 u.2

theorem sem92 (t : Tm) (own : List UInt8) (ow2 : Own) (z2 : Nat) (rw ra rm : Nat) (e : En) (A : List Tm) (c : WC) (st : St) (hS : WS rw ra rm e A c st) (hE : EOk e A) (hM : ESm e) (htA : t ∈ A) (hA : A.length < 100000000) (hm : t ∉ e.terms)
    (hne : own ≠ []) (hb2 : own.length < 1000000) (k : D → St → Prop)
    (hk : ∀ c' st', WS rw ra rm { e with terms := e.terms ++ [t], tb := e.tb ++ own } A c' st' → KeepW c st c' st' → k (.int .u64 e.terms.length) st') : Sem P 92 [.ptr rw 4, .int .i64 (pos A t), .fn 93 [] [.eptr (.sl ow2 z2 (byD own)) 0]] st k := by
  obtain ⟨hn1, hn2⟩ := hM.t
  have hpA := pos_lt htA
  have hK : KeyOk P 3 (iv (pos A t)) := keyOk3 (by omega) (by omega)
  have hV : keyV (.int .i64 (pos A t)) = some (iv (pos A t)) := rfl
  have hE1 := tent_ok (l := e.terms) hA
  have hE2 : ∀ e_1 ∈ tent A e.terms, KeyOk P 3 e_1.1 := fun x hx => (hE1 x hx).1
  have hwp : IntKind.u64.wrap ((e.terms.length : Nat) : Int) = (e.terms.length : Nat) := wrap_u64 (by omega)
  have hel : ((tent A e.terms).length : Int) = e.terms.length := by simp [tent]
  have hw := hS.w
  have hflat : (bD c.tj e.tb).flat = true := by cases c.tj <;> rfl
  have hfine : (bD c.tj e.tb).fine = true := by cases c.tj <;> rfl
  rw [wCells] at hw
  have nb : True := trivial
  cases hrn : c.rt with
  | none =>
    have h0 := hS.t0 hrn
    rw [hrn, show mapD none = .nilmap from rfl] at hw
    have hF : find [] (iv (pos A t)) = none := rfl
    have hU : ∀ d, upd [] (iv (pos A t)) d = [(iv (pos A t), d)] := fun d => by rw [upd_new (by simp)]; rfl
    have hl0 : e.terms.length = 0 := by rw [h0]; rfl
    rw [hl0] at hk hwp
    refine Sem.of_body Tryz.call92 Tryz.func92 rfl Tryz.ntmps92 (by simp) ?_
    repeat' first | refine yj fun N hN => ?_ | refine yl [] ?_ | ((first | refine ya rfl rfl fun N hN => ?_ | refine ym ?_); simp only [go_sem, ↓reduceIte, zA, zB, zC, zD, zE, zF, zG, zL, zM, zN, reduceCtorEq, hw, hK, hV, hF, hU, List.not_mem_nil, implies_true, hwp, hflat, hfine, nb, Tryz.results92]) | (refine yg rfl ?_; try simp only [go_sem]) | ((first | refine yx hN _ _ ?_ | refine yz hN _ _ ?_); clear hN N) | ((refine ys fun r hr => ?_; (have hr1 := hr; try simp only [St.set_none_iff, St.mem_give, St.mem_take] at hr1); (first | have nbq := mem_ne hw hr1 | have nbq := mem_ne hw hr1.2 | have nbq := mem_ne hw hr1.2.2 | have nbq := mem_ne hw hr1.2.2.2 | have nbq := mem_ne hw hr1.2.2.2.2); have nb := And.intro nb nbq; have nb := And.intro nb hr1); try simp only [go_sem, ↓reduceIte, zA, zB, zC, zD, zE, zF, zG, zL, zM, zN, reduceCtorEq, hw, hK, hV, hF, hU, List.not_mem_nil, implies_true, hwp, hflat, hfine, nb]) | fail
    have hrw : r ≠ rw := (mem_ne hw hr).2
    have hrw2 := hrw.symm
    refine sem93 c.tj e.tb own ow2 z2 _ _ hS.b0 (fun j hj => by simp only [go_sem]; exact hS.b1 j hj) hne (by omega) (by omega) (fun j s hj hs2 hs3 hs4 => ?_)
    have u1 := hs3 rw _ (by rw [St.mem_set, if_neg hrw2, St.mem_set, if_pos rfl])
    have u2 := hs3 r _ (by rw [St.mem_set, if_pos rfl])
    repeat' first | refine yj fun N hN => ?_ | refine yl [] ?_ | ((first | refine ya rfl rfl fun N hN => ?_ | refine yo ?_); simp only [go_sem, ↓reduceIte, zA, zB, zC, zD, zE, zF, zG, zL, zM, zN, reduceCtorEq, u1, u2, hwp, hrw, hrw2, Tryz.results92]) | (refine yg rfl ?_; try simp only [go_sem]) | ((first | refine yx hN _ _ ?_ | refine yz hN _ _ ?_); clear hN N) | fail
    have hm0 : t ∉ e.terms := hm
    refine hS.upTerm2 (rt := r) (j := j) hk hm0 ?_ (by rw [St.mem_set, if_pos rfl]) (fun y hy => by rw [hr] at hy; cases hy) ?_ hj (by rw [St.tok_set]; exact hs2) ?_
    · rw [St.mem_set, if_neg hrw, u2, h0]; rfl
    · intro q y a1 a2 a3
      rw [St.mem_set, if_neg a1]
      exact hs3 q y (by simp [St.mem_set, a1, a2, a3])
    · intro i hi1 hi2
      rw [St.tok_set]
      exact hs4 i hi1 hi2
  | some rn =>
    have h1 := hS.t1 rn hrn
    rw [hrn, show mapD (some rn) = .map rn from rfl] at hw
    have hmiss : ∀ x ∈ tent A e.terms, x.1 ≠ iv (pos A t) := by
      intro x hx e2
      obtain ⟨a, ha, rfl⟩ := List.mem_map.1 hx
      have := iv_inj e2
      exact hm (pos_inj (hE.terms a ha) htA (by omega) ▸ ha)
    have hF : find (tent A e.terms) (iv (pos A t)) = none := find_none hmiss
    have hU : ∀ d, upd (tent A e.terms) (iv (pos A t)) d = tent A e.terms ++ [(iv (pos A t), d)] := fun d => upd_new hmiss
    have hrr : rn ≠ rw := fun h => by rw [h, hS.w] at h1; cases h1
    have hrr2 := hrr.symm
    refine Sem.of_body Tryz.call92 Tryz.func92 rfl Tryz.ntmps92 (by simp) ?_
    repeat' first | refine yj fun N hN => ?_ | refine yl [] ?_ | ((first | refine ya rfl rfl fun N hN => ?_ | refine ym ?_); simp only [go_sem, ↓reduceIte, zA, zB, zC, zD, zE, zF, zG, zL, zM, zN, reduceCtorEq, hw, h1, hK, hV, hE1, hE2, hF, hU, hwp, hel, hrr, hrr2, hflat, hfine, Tryz.results92]) | ((first | refine yg rfl ?_ | refine yn ?_); try simp only [go_sem]) | ((first | refine yx hN _ _ ?_ | refine yz hN _ _ ?_); clear hN N) | (refine And.intro ?_ ?_; · omega) | fail
    refine sem93 c.tj e.tb own ow2 z2 _ _ hS.b0 (fun j hj => by simp only [go_sem]; exact hS.b1 j hj) hne (by omega) (by omega) (fun j s hj hs2 hs3 hs4 => ?_)
    have u1 := hs3 rw _ (by rw [St.mem_set, if_neg hrr2]; exact hw)
    have u2 := hs3 rn _ (by rw [St.mem_set, if_pos rfl])
    repeat' first | refine yj fun N hN => ?_ | refine yl [] ?_ | ((first | refine ya rfl rfl fun N hN => ?_ | refine yo ?_); simp only [go_sem, ↓reduceIte, zA, zB, zC, zD, zE, zF, zG, zL, zM, zN, reduceCtorEq, u1, u2, hwp, hrr, hrr2, Tryz.results92]) | (refine yg rfl ?_; try simp only [go_sem]) | ((first | refine yx hN _ _ ?_ | refine yz hN _ _ ?_); clear hN N) | fail
    refine hS.upTerm2 (rt := rn) (j := j) hk hm ?_ (by rw [St.mem_set, if_pos rfl]) (fun y hy => by rw [h1] at hy; cases hy; exact ⟨_, rfl⟩) ?_ hj (by rw [St.tok_set]; exact hs2) ?_
    · rw [St.mem_set, if_neg hrr, u2]
    · intro q y a1 a2 a3
      rw [St.mem_set, if_neg a1]
      exact hs3 q y (by simp [St.mem_set, a2, a3])
    · intro i hi1 hi2
      rw [St.tok_set]
      exact hs4 i hi1 hi2

/-- A level more, in a list of them. -/
theorem lvs_take {e : En} {ls : List Lv} {i : Nat} (h : i < ls.length) : e.lvs (ls.take (i + 1)) = (e.lvs (ls.take i)).level (ls.getD i Lv.z) := by
  simp only [En.lvs, En.level, take_succ_getD ls Lv.z h, List.foldl_append, List.foldl_cons, List.foldl_nil]
theorem foldl_sub : ∀ {ls : List Lv} {l : List Lv} {x : Lv}, x ∈ l → x ∈ ls.foldl addU l
  | [], _, _, h => h
  | a :: ls, l, x, h => by
    rw [List.foldl_cons]
    refine foldl_sub (ls := ls) ?_
    obtain ⟨m, e, _⟩ := addU_ext l a
    rw [e]; exact List.mem_append_left _ h
theorem foldl_ext : ∀ (ls l : List Lv), ∃ m, ls.foldl addU l = l ++ m
  | [], l => ⟨[], by simp⟩
  | a :: ls, l => by
    obtain ⟨m, e, _⟩ := addU_ext l a
    obtain ⟨m', e'⟩ := foldl_ext ls (addU l a)
    exact ⟨m ++ m', by rw [List.foldl_cons, e', e, List.append_assoc]⟩
theorem foldl_mem : ∀ {ls : List Lv} {l : List Lv} {x : Lv}, x ∈ ls → x ∈ ls.foldl addU l
  | [], _, _, h => by simp at h
  | a :: ls, l, x, h => by
    rw [List.foldl_cons]
    rcases List.mem_cons.1 h with rfl | h
    · exact foldl_sub (mem_addU _ _)
    · exact foldl_mem h

theorem pos_lvs {l : List Lv} {ls : List Lv} {x : Lv} (h : x ∈ l) : pos (ls.foldl addU l) x = pos l x := by
  obtain ⟨m, e⟩ := foldl_ext ls l; rw [e, pos_app m h]

theorem lvs_sz {e : En} {n : Nat} : ∀ {ls : List Lv}, (∀ l ∈ ls, lvB l = true) → (e.lvs ls).levels.length ≤ e.levels.length + ls.length ∧ (lvBs (e.lvs ls).levels).length ≤ (lvBs e.levels).length + 50 * ls.length := by
  have key : ∀ (ls l : List Lv), (∀ x ∈ ls, lvB x = true) → (ls.foldl addU l).length ≤ l.length + ls.length ∧ (lvBs (ls.foldl addU l)).length ≤ (lvBs l).length + 50 * ls.length := by
    intro ls
    induction ls with
    | nil => intro l _; simp
    | cons a ls ih =>
      intro l h
      have h1 := ih (addU l a) (fun x hx => h x (by simp [hx]))
      have h2 := lvBs_len (l := l) (h a (by simp))
      rw [List.foldl_cons, List.length_cons]
      omega
  intro ls h
  exact key ls e.levels h

theorem map_u64_getD (l : List Nat) {i : Nat} (h : i < l.length) : (l.map fun n => D.int .u64 (n : Nat)).getD i .any = .int .u64 (l.getD i 0) := by
  simp [List.getD, h]

theorem ESm.of {e : En} {n : Nat} (hz : ESz e n) (hn : n ≤ 20000) {e2 : En} (h1 : e2.names.length ≤ e.names.length + 1 ∧ (nmB e2.names).length ≤ (nmB e.names).length + 42) (h2 : e2.levels.length ≤ e.levels.length + 4 ∧ (lvBs e2.levels).length ≤ (lvBs e.levels).length + 200)
    (h3 : e2.terms = e.terms) (h4 : e2.tb = e.tb) (h5 : e2.db = e.db) : ESm e2 := by
  have a := hz.nm
  have b := hz.l
  have c := hz.t
  have d := hz.d
  refine ⟨by omega, by omega, by rw [h3, h4]; omega, by rw [h5]; omega⟩

/-- A node's bytes, as far as the levels. -/
noncomputable def nodeHd (e : En) (t : Tm) : List UInt8 :=
  UInt8.ofNat t.k :: (if t.k = 2 then num t.n.toNat else if t.k = 3 then num (pos e.names t.s) ++ num t.ls.length else if t.k = 8 then num (pos e.names t.s) ++ num t.n.toNat else [])
theorem nodeHd_len {e : En} {t : Tm} {n : Nat} (hz : ESz e n) (hn : n ≤ 20000) (hnb : nodeB t = true) : (nodeHd e t).length ≤ 21 := by
  have nt := NodeB.of hnb
  have h1 := pos_le e.names t.s
  have h0 := hz.nm
  have a1 := num_len64 (n := t.n.toNat) (by have := nt.n; omega)
  have a2 := num_len64 (n := pos e.names t.s) (by omega)
  have a3 := num_len64 (n := t.ls.length) (by have := nt.ls; omega)
  unfold nodeHd
  rw [List.length_cons]
  split
  · omega
  · split
    · rw [List.length_append]; omega
    · split
      · rw [List.length_append]; omega
      · simp
theorem nodeBy_hd (e : En) (t : Tm) : nodeBy (e.node t) t = nodeHd (e.nodeN t) t ++ t.ls.flatMap (fun l => num (pos (e.node t).levels l)) ++ t.ts.flatMap (fun x => num (pos e.terms x)) := by
  have h1 : (e.node t).names = (e.nodeN t).names := rfl
  have h2 : (e.node t).terms = e.terms := by unfold En.node En.lvs En.nodeN; split <;> rfl
  simp only [nodeBy, nodeHd, h1, h2, List.cons_append, List.append_assoc]

theorem u8_k (k : Nat) (h : k < 256) : [D.int .u8 (k : Int)] = byD [UInt8.ofNat k] := by
  simp [byD]; omega

theorem EOk.lvs {A : List Tm} : ∀ {ls : List Lv} {e : En}, EOk e A → (∀ l ∈ ls, l.wf) → EOk (e.lvs ls) A
  | [], _, h, _ => h
  | a :: ls, e, h, hl => EOk.lvs (e := e.level a) (h.level (hl a (by simp))) (fun x hx => hl x (by simp [hx]))
theorem pos_lv_final {e : En} {ls : List Lv} {i : Nat} (h : i < ls.length) : pos (e.lvs ls).levels (ls.getD i Lv.z) = pos (e.lvs (ls.take i)).levels (ls.getD i Lv.z) := by
  have e1 : (e.lvs ls).levels = (ls.drop (i + 1)).foldl addU (addU (e.lvs (ls.take i)).levels (ls.getD i Lv.z)) := by
    show ls.foldl addU e.levels = _
    conv => lhs; rw [← List.take_append_drop (i + 1) ls]
    rw [List.foldl_append, take_succ_getD ls Lv.z h, List.foldl_append]; rfl
  rw [e1, pos_lvs (mem_addU _ _), pos_addU]

theorem sem91 (t : Tm) (hw : t.wf) (hnb : nodeB t = true) (ow : Own) (z : Nat) (rw ra rm : Nat) (e : En) (A : List Tm) (c : WC) (st : St) (hS : WS rw ra rm e A c st) (hE : EOk e A) (n : Nat) (hz : ESz e n) (hn : n ≤ 20000)
    (hzz : t.ts = [] ∨ z = 1) (k : D → St → Prop)
    (hk : ∀ c' st' ow2 z2, WS rw ra rm (e.node t) A c' st' → KeepW c st c' st' → k (.sl ow2 z2 (byD (nodeBy (e.node t) t))) st') :
    Sem P 91 [.ptr rw 0, t.d, .sl ow z ((t.ts.map (pos e.terms)).map fun n => .int .u64 (n : Nat))] st k := by
  have nt := NodeB.of hnb
  have wt := hw.to
  have hn0 := nt.n
  have hls4 := nt.ls
  have hk256 := wt.k
  have hts3 : t.ts.length ≤ 3 := by have := nt.kids; have := kidsN_le t.k; omega
  have hlv : ∀ l ∈ t.ls, lvB l = true := by have := nt.lv; rwa [List.all_eq_true] at this
  have hz1 := hz.nm
  have hz2 := hz.l
  have hz3 := hz.t
  have hz4 := hz.d
  have hpn := pos_le e.names t.s
  have hu8 := u8_k t.k hk256
  have hwn := wrap_u64i hn0.1 (by omega)
  have hwl := wrap_u64 (n := t.ls.length) (by omega)
  have hhl := nodeHd_len hz hn hnb
  rw [nodeBy_hd] at hk
  refine Sem.of_body Tryz.call91 Tryz.func91 rfl Tryz.ntmps91 (by simp) ?_
  repeat' first | refine yj fun N hN => ?_ | refine yl [] ?_ | (refine ya rfl rfl fun N hN => ?_; simp only [go_sem, ↓reduceIte, zA, zB, zC, zD, zE, zF, zG, zL, zM, zN, reduceCtorEq, hu8, Tryz.results91]) | (refine yg rfl ?_; try simp only [go_sem]) | ((first | refine yx hN _ _ ?_ | refine yz hN _ _ ?_); clear hN N) | fail
  have key : ∀ (fr : Fr) (st' : St) (c' : WC) (ow' : Own) (z' : Nat), WS rw ra rm (e.nodeN t) A c' st' → KeepW c st c' st' → fr 7 = .sl ow' z' (byD (nodeHd (e.nodeN t) t)) → fr 4 = .eptr t.d 0 → fr 0 = .ptr rw 0 →
      fr 2 = .sl ow z ((t.ts.map (pos e.terms)).map fun n => .int .u64 (n : Nat)) → N fr st' := by
    intro fr st' c' ow' z' uS uK f7 f4 f0 f2
    refine Goes.go hN _ _ ?_
    clear hN N
    have hNn : (e.nodeN t).names.length ≤ e.names.length + 1 ∧ (nmB (e.nodeN t).names).length ≤ (nmB e.names).length + 42 := by
      unfold En.nodeN
      split
      · rename_i h; exact nmB_len (nt.name h)
      · omega
    have hNl : (e.nodeN t).levels = e.levels := by unfold En.nodeN; split <;> rfl
    have hNt : (e.nodeN t).terms = e.terms := by unfold En.nodeN; split <;> rfl
    have hNb : (e.nodeN t).tb = e.tb := by unfold En.nodeN; split <;> rfl
    have hNd : (e.nodeN t).db = e.db := by unfold En.nodeN; split <;> rfl
    have hEn : EOk (e.nodeN t) A := by
      unfold En.nodeN
      split
      · rename_i h; exact hE.name (nt.name h)
      · exact hE
    have hhl2 : (nodeHd (e.nodeN t) t).length ≤ 21 := by
      have hp2 := pos_le (e.nodeN t).names t.s
      have a1 := num_len64 (n := t.n.toNat) (by omega)
      have a2 := num_len64 (n := pos (e.nodeN t).names t.s) (by omega)
      have a3 := num_len64 (n := t.ls.length) (by omega)
      unfold nodeHd
      rw [List.length_cons]
      split
      · omega
      · split
        · rw [List.length_append]; omega
        · split
          · rw [List.length_append]; omega
          · simp
    repeat' first | refine yj fun N hN => ?_ | refine yk ?_ | refine yl [] ?_ | (refine ya rfl rfl fun N hN => ?_; simp only [go_sem, ↓reduceIte, zA, zB, zC, zD, zE, zF, zG, zL, zM, zN, reduceCtorEq, f7, f4, f0, f2, Tryz.results91]) | (refine yg rfl ?_; try simp only [go_sem]) | ((first | refine yx hN _ _ ?_ | refine yz hN _ _ ?_); clear hN N) | fail
    refine W.loopN (fun m fr st' => ∃ (i : Nat) (c' : WC) (ow' : Own) (z' : Nat), WS rw ra rm ((e.nodeN t).lvs (t.ls.take i)) A c' st' ∧ KeepW c st c' st' ∧ i + m = t.ls.length ∧ ((t.ls.take i).flatMap (fun l => num (pos (e.node t).levels l))).length ≤ 10 * i ∧
      fr 54 = .int .i64 i ∧ fr 53 = .int .i64 t.ls.length ∧ fr 52 = .sl .frozen 5 (t.ls.map Lv.d) ∧ fr 7 = .sl ow' z' (byD (nodeHd (e.nodeN t) t ++ (t.ls.take i).flatMap (fun l => num (pos (e.node t).levels l)))) ∧ fr 4 = .eptr t.d 0 ∧ fr 0 = .ptr rw 0 ∧
      fr 2 = .sl ow z ((t.ts.map (pos e.terms)).map fun n => .int .u64 (n : Nat))) ?_ t.ls.length _ _
      ⟨0, c', ow', z', by simpa [En.lvs] using uS, uK, by simp, by simp, by simp only [go_sem, ↓reduceIte, zA, zB, zC, zD, zE, zF, zG, zL, zM, zN, reduceCtorEq]; rfl, by simp only [go_sem, ↓reduceIte, zA, zB, zC, zD, zE, zF, zG, zL, zM, zN, reduceCtorEq], by simp only [go_sem, ↓reduceIte, zA, zB, zC, zD, zE, zF, zG, zL, zM, zN, reduceCtorEq], by simp only [go_sem, ↓reduceIte, zA, zB, zC, zD, zE, zF, zG, zL, zM, zN, reduceCtorEq, f7]; simp, by simp only [go_sem, ↓reduceIte, zA, zB, zC, zD, zE, zF, zG, zL, zM, zN, reduceCtorEq, f4], by simp only [go_sem, ↓reduceIte, zA, zB, zC, zD, zE, zF, zG, zL, zM, zN, reduceCtorEq, f0], by simp only [go_sem, ↓reduceIte, zA, zB, zC, zD, zE, zF, zG, zL, zM, zN, reduceCtorEq, f2]⟩
    clear uS uK f7 f4 f0 f2
    rintro m N' ih fr st' ⟨i, c', ow', z', uS, uK, hi, hbl, f54, f53, f52, f7, f4, f0, f2⟩
    rcases Nat.lt_or_ge i t.ls.length with hlt | hge
    · have hg : (t.ls.map Lv.d).getD i .any = (t.ls.getD i Lv.z).d := getD_map _ _ _ hlt
      have h4 : (i : Int) < t.ls.length := by omega
      have hm := getD_mem t.ls Lv.z hlt
      have hlx := hlv _ hm
      have hpf := pos_lv_final (e := e.nodeN t) hlt
      have htk := take_succ_getD t.ls Lv.z hlt
      have hsz := lvs_sz (e := e.nodeN t) (n := 0) (ls := t.ls.take i) (fun l hl => hlv l (List.mem_of_mem_take hl))
      have htl : (t.ls.take i).length ≤ 4 := by rw [List.length_take]; omega
      rw [hNl] at hsz
      have hM2 : ESm ((e.nodeN t).lvs (t.ls.take i)) := ESm.of hz hn hNn (by omega) hNt hNb hNd
      have hE2 : EOk ((e.nodeN t).lvs (t.ls.take i)) A := hEn.lvs (fun l hl => wt.lv l (List.mem_of_mem_take hl))
      have hple := pos_le ((e.nodeN t).lvs (t.ls.take i)).levels (t.ls.getD i Lv.z)
      have hnl := num_len64 (n := pos ((e.nodeN t).lvs (t.ls.take i)).levels (t.ls.getD i Lv.z)) (by omega)
      have hbb : (nodeHd (e.nodeN t) t ++ (t.ls.take i).flatMap (fun l => num (pos (e.node t).levels l))).length < 1000000000 := by rw [List.length_append]; omega
      repeat' first | rw [yu hr] | refine yj fun N hN => ?_ | refine yk ?_ | refine yl [] ?_ | ((first | refine ya rfl rfl fun N hN => ?_ | refine ym ?_); simp only [go_sem, ↓reduceIte, zA, zB, zC, zD, zE, zF, zG, zL, zM, zN, reduceCtorEq, f54, f53, f52, f7, f4, f0, f2, hg, hlt, h4, Tryz.results91]) | ((first | refine yg rfl ?_ | refine yn ?_); try simp only [go_sem]) | ((first | refine yx hN _ _ ?_ | refine yz hN _ _ ?_); clear hN N) | (refine sem107 _ hlx rw ra rm _ A c' _ uS hE2 hM2 _ (fun c2 st2 vS vK => ?_); try simp only [go_sem, ↓reduceIte, zA, zB, zC, zD, zE, zF, zG, zL, zM, zN, reduceCtorEq, f54, f53, f52, f7, f4, f0, f2, hg, hlt, h4]) | (refine sem19 _ _ _ _ _ _ hbb (by omega) fun j hj => ?_; try simp only [go_sem, ↓reduceIte, zA, zB, zC, zD, zE, zF, zG, zL, zM, zN, reduceCtorEq, f54, f53, f52, f7, f4, f0, f2, hg, hlt, h4]) | ((refine ys fun r hr => ?_; (try have hrn := (St.set_none hr).1); (try have hrn2 := Ne.symm (St.set_none hr).1)); try simp only [go_sem, ↓reduceIte, zA, zB, zC, zD, zE, zF, zG, zL, zM, zN, reduceCtorEq, f54, f53, f52, f7, f4, f0, f2, hg, hlt, h4]) | (refine And.intro ?_ ?_; · omega) | clear hN N | fail
      refine ih.back (m - 1) (by omega) _ _ ⟨i + 1, c2, .tok j, 1, ?_, (uK.trans vK).mono (St.le_give (St.le.refl _) _), by omega, ?_, ?_, ?_, ?_, ?_, ?_, ?_, ?_⟩
      · rw [lvs_take hlt]; exact vS.mono (St.le_give (St.le.refl _) _)
      · rw [htk, List.flatMap_append, List.length_append]
        simp only [List.flatMap_cons, List.flatMap_nil, List.append_nil]
        rw [show (e.node t).levels = ((e.nodeN t).lvs t.ls).levels from rfl, hpf] at *
        omega
      · simp only [go_sem, ↓reduceIte, zA, zB, zC, zD, zE, zF, zG, zL, zM, zN, reduceCtorEq]; rfl
      · simp only [go_sem, ↓reduceIte, zA, zB, zC, zD, zE, zF, zG, zL, zM, zN, reduceCtorEq, f53]
      · simp only [go_sem, ↓reduceIte, zA, zB, zC, zD, zE, zF, zG, zL, zM, zN, reduceCtorEq, f52]
      · simp only [go_sem, ↓reduceIte, zA, zB, zC, zD, zE, zF, zG, zL, zM, zN, reduceCtorEq]
        rw [htk, List.flatMap_append, ← List.append_assoc]
        simp only [List.flatMap_cons, List.flatMap_nil, List.append_nil]
        rw [show (e.node t).levels = ((e.nodeN t).lvs t.ls).levels from rfl, hpf]
      · simp only [go_sem, ↓reduceIte, zA, zB, zC, zD, zE, zF, zG, zL, zM, zN, reduceCtorEq, f4]
      · simp only [go_sem, ↓reduceIte, zA, zB, zC, zD, zE, zF, zG, zL, zM, zN, reduceCtorEq, f0]
      · simp only [go_sem, ↓reduceIte, zA, zB, zC, zD, zE, zF, zG, zL, zM, zN, reduceCtorEq, f2]
    · have h4 : ¬ (i : Int) < t.ls.length := by omega
      rw [List.take_of_length_le hge] at f7 uS hbl
      repeat' first | refine yj fun N hN => ?_ | refine yk ?_ | refine yl [] ?_ | ((first | refine ya rfl rfl fun N hN => ?_ | refine ym ?_ | refine yp ?_); simp only [go_sem, ↓reduceIte, zA, zB, zC, zD, zE, zF, zG, zL, zM, zN, reduceCtorEq, f54, f53, f52, f7, f4, f0, f2, h4, Tryz.results91]) | (refine yg rfl ?_; try simp only [go_sem]) | ((first | refine yx hN _ _ ?_ | refine yz hN _ _ ?_); clear hN N) | clear hN N | fail
      have hbl3 : (t.ls.flatMap (fun l => num (pos (e.node t).levels l))).length ≤ 40 := by omega
      refine W.loopN (fun m fr st' => ∃ (i : Nat) (ow' : Own) (z' : Nat), WS rw ra rm (e.node t) A c' st' ∧ KeepW c st c' st' ∧ i + m = t.ts.length ∧ ((t.ts.take i).flatMap (fun x => num (pos e.terms x))).length ≤ 10 * i ∧
        fr 66 = .int .i64 i ∧ fr 65 = .int .i64 t.ts.length ∧ fr 64 = .sl ow z ((t.ts.map (pos e.terms)).map fun n => .int .u64 (n : Nat)) ∧ fr 7 = .sl ow' z' (byD (nodeHd (e.nodeN t) t ++ t.ls.flatMap (fun l => num (pos (e.node t).levels l)) ++ (t.ts.take i).flatMap (fun x => num (pos e.terms x))))) ?_ t.ts.length _ _
        ⟨0, ow', z', uS, uK, by simp, by simp, by simp only [go_sem, ↓reduceIte, zA, zB, zC, zD, zE, zF, zG, zL, zM, zN, reduceCtorEq]; rfl, by simp only [go_sem, ↓reduceIte, zA, zB, zC, zD, zE, zF, zG, zL, zM, zN, reduceCtorEq] <;> simp, by simp only [go_sem, ↓reduceIte, zA, zB, zC, zD, zE, zF, zG, zL, zM, zN, reduceCtorEq], by simp only [go_sem, ↓reduceIte, zA, zB, zC, zD, zE, zF, zG, zL, zM, zN, reduceCtorEq, f7]; simp⟩
      clear uS uK f7 f4 f0 f2 ih f54 f53 f52 hi hge h4
      rintro m N' ih fr st' ⟨i, ow', z', uS, uK, hi, hbl2, f66, f65, f64, f7⟩
      rcases Nat.lt_or_ge i t.ts.length with hlt | hge
      · have hz1' : z = 1 := by
          rcases hzz with h | h
          · rw [h] at hlt; simp at hlt
          · exact h
        have hg : ((t.ts.map (pos e.terms)).map fun n => D.int .u64 (n : Nat)).getD i .any = .int .u64 (pos e.terms (t.ts.getD i Tm.z)) := by
          rw [map_u64_getD _ (by simpa using hlt)]
          simp [List.getD, hlt]
        have h4 : (i : Int) < t.ts.length := by omega
        have htk := take_succ_getD t.ts Tm.z hlt
        have hple := pos_le e.terms (t.ts.getD i Tm.z)
        have hnl := num_len64 (n := pos e.terms (t.ts.getD i Tm.z)) (by omega)
        have hbb : (nodeHd (e.nodeN t) t ++ t.ls.flatMap (fun l => num (pos (e.node t).levels l)) ++ (t.ts.take i).flatMap (fun x => num (pos e.terms x))).length < 1000000000 := by rw [List.length_append, List.length_append]; omega
        repeat' first | refine yj fun N hN => ?_ | refine yk ?_ | refine yl [] ?_ | ((first | refine ya rfl rfl fun N hN => ?_ | refine ym ?_); simp only [go_sem, ↓reduceIte, zA, zB, zC, zD, zE, zF, zG, zL, zM, zN, reduceCtorEq, f66, f65, f64, f7, hg, hlt, h4, hz1', Tryz.results91]) | ((first | refine yg rfl ?_ | refine yn ?_); try simp only [go_sem]) | ((first | refine yx hN _ _ ?_ | refine yz hN _ _ ?_); clear hN N) | (refine sem19 _ _ _ _ _ _ hbb (by omega) fun j hj => ?_; try simp only [go_sem, ↓reduceIte, zA, zB, zC, zD, zE, zF, zG, zL, zM, zN, reduceCtorEq, f66, f65, f64, f7, hg, hlt, h4, hz1']) | (refine And.intro ?_ ?_; · omega) | clear hN N | fail
        refine ih.back (m - 1) (by omega) _ _ ⟨i + 1, .tok j, 1, uS.mono (St.le_give (St.le.refl _) _), uK.mono (St.le_give (St.le.refl _) _), by omega, ?_, ?_, ?_, ?_, ?_⟩
        · rw [htk, List.flatMap_append, List.length_append]
          simp only [List.flatMap_cons, List.flatMap_nil, List.append_nil]
          omega
        · simp only [go_sem, ↓reduceIte, zA, zB, zC, zD, zE, zF, zG, zL, zM, zN, reduceCtorEq]; rfl
        · simp only [go_sem, ↓reduceIte, zA, zB, zC, zD, zE, zF, zG, zL, zM, zN, reduceCtorEq, f65]
        · simp only [go_sem, ↓reduceIte, zA, zB, zC, zD, zE, zF, zG, zL, zM, zN, reduceCtorEq, f64, hz1']
        · simp only [go_sem, ↓reduceIte, zA, zB, zC, zD, zE, zF, zG, zL, zM, zN, reduceCtorEq]
          rw [htk, List.flatMap_append, ← List.append_assoc]
          simp only [List.flatMap_cons, List.flatMap_nil, List.append_nil]
      · have h4 : ¬ (i : Int) < t.ts.length := by omega
        rw [List.take_of_length_le hge] at f7
        repeat' first | refine yj fun N hN => ?_ | refine yl [] ?_ | ((first | refine ya rfl rfl fun N hN => ?_ | refine ym ?_ | refine yo ?_ | refine yp ?_); simp only [go_sem, ↓reduceIte, zA, zB, zC, zD, zE, zF, zG, zL, zM, zN, reduceCtorEq, f66, f65, f64, f7, h4, Tryz.results91]) | (refine yg rfl ?_; try simp only [go_sem]) | ((first | refine yx hN _ _ ?_ | refine yz hN _ _ ?_); clear hN N) | clear hN N | fail
        all_goals exact hk _ _ _ _ uS uK
  clear hN
  have n2 : (t.k : Int) = 2 ↔ t.k = 2 := by omega
  by_cases k2 : t.k = 2
  · have ei : (t.k : Int) = 2 := by omega
    have hN1 : e.nodeN t = e := by rw [En.nodeN, if_neg (by omega)]
    have hh : nodeHd e t = [UInt8.ofNat t.k] ++ num t.n.toNat := by rw [nodeHd, if_pos k2]; rfl
    rw [hN1, hh] at key
    repeat' first | refine yj fun N hN => ?_ | refine yk ?_ | refine yl [] ?_ | ((first | refine ya rfl rfl fun N hN => ?_ | refine ym ?_); simp only [go_sem, ↓reduceIte, zA, zB, zC, zD, zE, zF, zG, zL, zM, zN, reduceCtorEq, ei, hwn, Tryz.results91]) | (refine yg rfl ?_; try simp only [go_sem]) | ((first | refine yx hN _ _ ?_ | refine yz hN _ _ ?_); clear hN N) | (refine sem19 _ _ _ _ _ _ (by simp) (by omega) fun j hj => ?_; try simp only [go_sem, ↓reduceIte, zA, zB, zC, zD, zE, zF, zG, zL, zM, zN, reduceCtorEq, ei, hwn]) | fail
    exact key _ _ c (.tok j) 1 (hS.mono (St.le_give (St.le.refl _) _)) ((KeepW.refl c st).mono (St.le_give (St.le.refl _) _)) (by simp only [go_sem, ↓reduceIte, zA, zB, zC, zD, zE, zF, zG, zL, zM, zN, reduceCtorEq]) (by simp only [go_sem, ↓reduceIte, zA, zB, zC, zD, zE, zF, zG, zL, zM, zN, reduceCtorEq]) (by simp only [go_sem, ↓reduceIte, zA, zB, zC, zD, zE, zF, zG, zL, zM, zN, reduceCtorEq]) (by simp only [go_sem, ↓reduceIte, zA, zB, zC, zD, zE, zF, zG, zL, zM, zN, reduceCtorEq])
  by_cases k3 : t.k = 3
  · have ei : (t.k : Int) = 3 := by omega
    have hN1 : e.nodeN t = e.name t.s := by rw [En.nodeN, if_pos (.inl k3)]
    have hps : pos (e.name t.s).names t.s = pos e.names t.s := pos_addU _ _
    have hh : nodeHd (e.name t.s) t = UInt8.ofNat t.k :: (num (pos e.names t.s) ++ num t.ls.length) := by rw [nodeHd, if_neg k2, if_pos k3, hps]
    rw [hN1, hh] at key
    have hb1 := num_len64 (n := pos e.names t.s) (by omega)
    repeat' first | refine yj fun N hN => ?_ | refine yk ?_ | refine yl [] ?_ | ((first | refine ya rfl rfl fun N hN => ?_ | refine ym ?_); simp only [go_sem, ↓reduceIte, zA, zB, zC, zD, zE, zF, zG, zL, zM, zN, reduceCtorEq, ei, hwl, Tryz.results91]) | (refine yg rfl ?_; try simp only [go_sem]) | ((first | refine yx hN _ _ ?_ | refine yz hN _ _ ?_); clear hN N) | (refine sem53 t.s (nt.name (.inl k3)) rw ra rm e A c st hS hE (hz.sm hn) _ (fun c2 st2 vS vK => ?_); try simp only [go_sem, ↓reduceIte, zA, zB, zC, zD, zE, zF, zG, zL, zM, zN, reduceCtorEq, ei, hwl]) | (refine sem19 _ _ _ _ _ _ (by simp <;> omega) (by omega) fun j hj => ?_; try simp only [go_sem, ↓reduceIte, zA, zB, zC, zD, zE, zF, zG, zL, zM, zN, reduceCtorEq, ei, hwl]) | ((apply And.intro <;> intro h) <;> (try simp only [zS, zT, zU, zV, Bool.not_true, Bool.not_false] at h) <;> (first | (exfalso; omega) | simp only [go_sem, ↓reduceIte, zA, zB, zC, zD, zE, zF, zG, zL, zM, zN, reduceCtorEq, ei, hwl, h] | skip)) | fail
    exact key _ _ c2 (.tok j) 1 (vS.mono (St.le_give (St.le_give (St.le.refl _) _) _)) (vK.mono (St.le_give (St.le_give (St.le.refl _) _) _)) (by simp only [go_sem, ↓reduceIte, zA, zB, zC, zD, zE, zF, zG, zL, zM, zN, reduceCtorEq]) (by simp only [go_sem, ↓reduceIte, zA, zB, zC, zD, zE, zF, zG, zL, zM, zN, reduceCtorEq]) (by simp only [go_sem, ↓reduceIte, zA, zB, zC, zD, zE, zF, zG, zL, zM, zN, reduceCtorEq]) (by simp only [go_sem, ↓reduceIte, zA, zB, zC, zD, zE, zF, zG, zL, zM, zN, reduceCtorEq])
  by_cases k8 : t.k = 8
  · have ei : (t.k : Int) = 8 := by omega
    have hN1 : e.nodeN t = e.name t.s := by rw [En.nodeN, if_pos (.inr k8)]
    have hps : pos (e.name t.s).names t.s = pos e.names t.s := pos_addU _ _
    have hh : nodeHd (e.name t.s) t = UInt8.ofNat t.k :: (num (pos e.names t.s) ++ num t.n.toNat) := by rw [nodeHd, if_neg k2, if_neg k3, if_pos k8, hps]
    rw [hN1, hh] at key
    have hb1 := num_len64 (n := pos e.names t.s) (by omega)
    repeat' first | refine yj fun N hN => ?_ | refine yk ?_ | refine yl [] ?_ | ((first | refine ya rfl rfl fun N hN => ?_ | refine ym ?_); simp only [go_sem, ↓reduceIte, zA, zB, zC, zD, zE, zF, zG, zL, zM, zN, reduceCtorEq, ei, hwn, Tryz.results91]) | (refine yg rfl ?_; try simp only [go_sem]) | ((first | refine yx hN _ _ ?_ | refine yz hN _ _ ?_); clear hN N) | (refine sem53 t.s (nt.name (.inr k8)) rw ra rm e A c st hS hE (hz.sm hn) _ (fun c2 st2 vS vK => ?_); try simp only [go_sem, ↓reduceIte, zA, zB, zC, zD, zE, zF, zG, zL, zM, zN, reduceCtorEq, ei, hwn]) | (refine sem19 _ _ _ _ _ _ (by simp <;> omega) (by omega) fun j hj => ?_; try simp only [go_sem, ↓reduceIte, zA, zB, zC, zD, zE, zF, zG, zL, zM, zN, reduceCtorEq, ei, hwn]) | ((apply And.intro <;> intro h) <;> (try simp only [zS, zT, zU, zV, Bool.not_true, Bool.not_false] at h) <;> (first | (exfalso; omega) | simp only [go_sem, ↓reduceIte, zA, zB, zC, zD, zE, zF, zG, zL, zM, zN, reduceCtorEq, ei, hwn, h] | skip)) | fail
    exact key _ _ c2 (.tok j) 1 (vS.mono (St.le_give (St.le_give (St.le.refl _) _) _)) (vK.mono (St.le_give (St.le_give (St.le.refl _) _) _)) (by simp only [go_sem, ↓reduceIte, zA, zB, zC, zD, zE, zF, zG, zL, zM, zN, reduceCtorEq]) (by simp only [go_sem, ↓reduceIte, zA, zB, zC, zD, zE, zF, zG, zL, zM, zN, reduceCtorEq]) (by simp only [go_sem, ↓reduceIte, zA, zB, zC, zD, zE, zF, zG, zL, zM, zN, reduceCtorEq]) (by simp only [go_sem, ↓reduceIte, zA, zB, zC, zD, zE, zF, zG, zL, zM, zN, reduceCtorEq])
  · have e2 : ¬ (t.k : Int) = 2 := by omega
    have e3 : ¬ (t.k : Int) = 3 := by omega
    have e8 : ¬ (t.k : Int) = 8 := by omega
    have hN1 : e.nodeN t = e := by rw [En.nodeN, if_neg (by omega)]
    have hh : nodeHd e t = [UInt8.ofNat t.k] := by rw [nodeHd, if_neg k2, if_neg k3, if_neg k8]
    rw [hN1, hh] at key
    repeat' first | refine yj fun N hN => ?_ | refine yk ?_ | refine yl [] ?_ | ((first | refine ya rfl rfl fun N hN => ?_ | refine ym ?_); simp only [go_sem, ↓reduceIte, zA, zB, zC, zD, zE, zF, zG, zL, zM, zN, reduceCtorEq, e2, e3, e8, Tryz.results91]) | ((first | refine yg rfl ?_ | refine yn ?_); try simp only [go_sem]) | ((first | refine yx hN _ _ ?_ | refine yz hN _ _ ?_); clear hN N) | fail
    exact key _ _ c .frozen 1 hS (KeepW.refl c st) (by simp only [go_sem, ↓reduceIte, zA, zB, zC, zD, zE, zF, zG, zL, zM, zN, reduceCtorEq]) (by simp only [go_sem, ↓reduceIte, zA, zB, zC, zD, zE, zF, zG, zL, zM, zN, reduceCtorEq]) (by simp only [go_sem, ↓reduceIte, zA, zB, zC, zD, zE, zF, zG, zL, zM, zN, reduceCtorEq]) (by simp only [go_sem, ↓reduceIte, zA, zB, zC, zD, zE, zF, zG, zL, zM, zN, reduceCtorEq])
end Go.Proofs.YtddbidoaolnegaaGreatDoor
