/-
PART OF A CLAIM: PE, PF. No statement of the seat is proved here; no condition. -/
import Derived.Test.YtddbidoaolnegaaGreatDoorWO14
set_option linter.all false
/- The arena: the walks. No statement of the seat is proved here; no condition. -/
namespace Go.Proofs.YtddbidoaolnegaaGreatDoor
open Go Go.RowKit
open Nat renaming reduceLT → zA, reduceEqDiff → zB, reduceBEq → zC, reduceAdd → zD, reduceMul → zE, reduceSub → zF, reduceLeDiff → zG, mul_one → zH, zero_add → zI, add_zero → zJ
open Int renaming toNat_natCast → zK, reduceAdd → zL, reduceLE → zM, reduceLT → zN, natCast_nonneg → zO
open Go.Proofs.YtddbidoaolnegaaGreatDoor renaming evI_plain → ya, evI_guard → yb, evT_rd → yc, evT_rdg → yd, evT_act → ye, evT_actg → yf, evI_done → yg, evT_two → yh, evT_nil → yi, W.seqG → yj, W.block → yk, W.regionI → yl, W.cond → ym, W.skip → yn, W.ret → yo, W.exit → yp, gdD_split → yq, newT_intro → yr, newB_intro → ys, W.draw → yt, St.set_del → yu, St.give_take → yv, AGo.go → yw, IGo.go → yx, TGo.go → yy, Goes.go → yz
attribute [local go_sem] zK zP zQ zH zI zJ zO
attribute [local irreducible] W evI evT evL evOp evBin gdD Sem newT newB fillD bldOf
set_option maxRecDepth 10000
set_option maxHeartbeats 4000000

theorem sem123 (c : Nat) (i : Nat) (st : St) (k : D → St → Prop) (hk : k (.int .i64 (bnd c i)) st) : Sem P 123 [.int .u8 c, .int .i64 i] st k := by
  refine Sem.of_body Tryz.call123 Tryz.func123 rfl Tryz.ntmps123 (by simp) ?_
  repeat' first | refine yj fun N hN => ?_ | refine yk ?_ | refine yl [] ?_ | ((first | refine ya rfl rfl fun N hN => ?_ | refine yb rfl rfl rfl rfl fun N hN => ?_ | refine ym ?_ | refine yo ?_); simp only [go_sem, ↓reduceIte, zA, zB, zC, zD, zE, zF, zG, zL, zM, zN, reduceCtorEq, Tryz.results123]) | ((first | refine yg rfl ?_ | refine yn ?_); try simp only [go_sem]) | ((first | refine yx hN _ _ ?_ | refine yz hN _ _ ?_); clear hN N) | ((first | refine yq (fun h => ?_) (fun h => ?_) | (apply And.intro <;> intro h)) <;> (try simp only [zS, zT, zU, zV, Bool.not_true, Bool.not_false] at h) <;> (first | (exfalso; omega) | simp only [go_sem, ↓reduceIte, zA, zB, zC, zD, zE, zF, zG, zL, zM, zN, reduceCtorEq, h] | skip)) | clear hN N | fail
  all_goals (
    unfold bnd at hk
    first
      | (rw [if_pos (by omega)] at hk; exact hk)
      | (rw [if_neg (by omega)] at hk; exact hk))

noncomputable def nodeD (A : List Tm) (t : Tm) : D := .agg (kyC t (kidNs A t) ++ [.int .i64 t.ts.length, .int .i64 t.size, .int .i64 t.deep, .int .i64 t.fr])
noncomputable def aent (A : List Tm) : List (Value × D) := A.map fun t => (kyV t (kidNs A t), .int .i64 (pos A t))
noncomputable def ndD (A : List Tm) (o : Option Nat) : D := match o with
  | none => .sl .nil 0 []
  | some j => .sl (.tok j) 31 (A.map (nodeD A))
structure AS (ra rm : Nat) (A : List Tm) (o : Option Nat) (st : St) : Prop where
  ra : st.mem ra = some (.cells [ndD A o, .map rm])
  rm : st.mem rm = some (.map 177 (aent A))
  tok : match o with
    | none => A = []
    | some j => st.tok j = true
structure KeepA (ra rm : Nat) (o : Option Nat) (st : St) (o' : Option Nat) (st' : St) : Prop where
  mem : ∀ r x, r ≠ ra → r ≠ rm → st.mem r = some x → st'.mem r = some x
  tok : ∀ j, o ≠ some j → st.tok j = true → st'.tok j = true ∧ o' ≠ some j
theorem KeepA.refl (ra rm : Nat) (o : Option Nat) (st : St) : KeepA ra rm o st o st := ⟨fun _ _ _ _ h => h, fun _ h1 h2 => ⟨h2, h1⟩⟩
theorem KeepA.trans {ra rm : Nat} {o o' o'' : Option Nat} {a b c : St} (h : KeepA ra rm o a o' b) (h' : KeepA ra rm o' b o'' c) : KeepA ra rm o a o'' c :=
  ⟨fun r x h1 h2 h3 => h'.mem r x h1 h2 (h.mem r x h1 h2 h3), fun j h1 h2 => h'.tok j (h.tok j h1 h2).2 (h.tok j h1 h2).1⟩

theorem St.le_del {a b : St} (h : a.le b) {r : Nat} (hr : a.mem r = none) : a.le (b.del r) := by
  refine ⟨fun x y hx => ?_, h.tok⟩
  rw [St.mem_del]
  split
  · subst x; rw [hr] at hx; cases hx
  · exact h.mem _ _ hx

theorem sem17 (st : St) (k : D → St → Prop) (hk : ∀ m a, st.mem m = none → st.mem a = none → m ≠ a → k (.ptr a 0) ((st.set m (.map 177 [])).set a (.cells [.sl .nil 0 [], .map m]))) : Sem P 17 [] st k := by
  refine Sem.of_body Tryz.call17 Tryz.func17 rfl Tryz.ntmps17 (by simp) ?_
  repeat' first | refine yj fun N hN => ?_ | refine yl [3] ?_ | ((first | refine ya rfl rfl fun N hN => ?_ | refine yo ?_); simp only [go_sem, ↓reduceIte, zA, zB, zC, zD, zE, zF, zG, zL, zM, zN, reduceCtorEq, Tryz.results17]) | (refine yg rfl ?_; try simp only [go_sem]) | ((first | refine yx hN _ _ ?_ | refine yz hN _ _ ?_); clear hN N) | ((refine ys fun r hr => ?_; (try have hrn := (St.set_none hr).1); (try have hrn2 := Ne.symm (St.set_none hr).1)); try simp only [go_sem, ↓reduceIte, zA, zB, zC, zD, zE, zF, zG, zL, zM, zN, reduceCtorEq]) | fail
  rename_i m hm
  rw [St.mem_set] at hr
  have hne : r ≠ m := fun h => by rw [if_pos h] at hr; cases hr
  rw [if_neg hne] at hr
  exact hk m r hm hr (fun h => hne h.symm)

theorem Ky.take27 (y : Ky) : List.take 27 y.cs = y.cs := List.take_of_length_le (by rw [y.n]; omega)
attribute [go_sem] Ky.take27
theorem Lv.map_fine2 (ts : List Lv) : (∀ y ∈ ts.map Lv.d, y.cells.length = 5 ∧ y.fine = true) ↔ True := by
  simp only [iff_true]; intro y hy; obtain ⟨c, _, rfl⟩ := List.mem_map.1 hy; exact ⟨Lv.d_len c, Lv.d_fine c⟩
attribute [go_sem] Lv.map_fine2
theorem flat_cells : ∀ ls : List Lv, (ls.map Lv.d).flatMap D.cells = (ls.flatMap (fun l => l.c :: l.p)).map (D.int .i64)
  | [] => rfl
  | l :: ls => by rw [List.map_cons, List.flatMap_cons, List.flatMap_cons, List.map_append, flat_cells ls]; rfl
theorem copied (ls : List Lv) (h : ls.length ≤ 4) (a b c : Int) :
    splice [.int .i64 0, .int .i64 0, .int .i64 0, .int .i64 0, .int .i64 0, .int .i64 0, .int .i64 0, .int .i64 0, .int .i64 0, .int .i64 0, .int .i64 0, .int .i64 0, .int .i64 0, .int .i64 0, .int .i64 0, .int .i64 0, .int .i64 0, .int .i64 0, .int .i64 0, .int .i64 0, .int .i64 a, .int .i64 b, .int .i64 c] 0
      (List.flatMap D.cells (List.take 4 (List.map Lv.d ls))) = (lsI ls ++ [a, b, c]).map (D.int .i64) := by
  rw [List.take_of_length_le (by rw [List.length_map]; omega), flat_cells, splice, List.length_map, flatLen]
  have hn : ls.length = 0 ∨ ls.length = 1 ∨ ls.length = 2 ∨ ls.length = 3 ∨ ls.length = 4 := by omega
  simp only [lsI, List.map_append, List.append_assoc, List.take_zero, List.nil_append]
  rcases hn with e | e | e | e | e <;> (rw [e]; rfl)

theorem sem122 (t : Tm) (a b c : Int) (st : St) (k : D → St → Prop) (hl : t.ls.length ≤ 4) (hk : k (.agg (kyC t [a, b, c])) st) : Sem P 122 [t.d, .agg [.int .i64 a, .int .i64 b, .int .i64 c]] st k := by
  obtain ⟨y, hy⟩ : ∃ y : Ky, y.cs = kyC t [a, b, c] := ⟨⟨_, kyC_len hl rfl⟩, rfl⟩
  rw [← hy] at hk
  have hc := copied t.ls hl a b c
  have e : (D.int .u8 t.k :: .int .i64 t.n :: .str t.s :: .int .i64 t.ls.length :: ((lsI t.ls ++ [a, b, c]).map (D.int .i64))) = y.cs := by rw [hy, kyC, kyI, List.map_cons]
  refine Sem.drop ?_
  refine Sem.of_body Tryz.call122 Tryz.func122 rfl Tryz.ntmps122 (by simp) ?_
  repeat' first | refine yj fun N hN => ?_ | refine yl [5] ?_ | ((first | refine ya rfl rfl fun N hN => ?_ | refine yc rfl rfl fun N hN => ?_ | refine ye rfl rfl fun N hN => ?_ | (refine yw hN _ _ ?_; clear hN N) | refine yo ?_); simp only [go_sem, ↓reduceIte, zA, zB, zC, zD, zE, zF, zG, zL, zM, zN, reduceCtorEq, hc, e, Tryz.results122]) | ((first | refine yg rfl ?_ | refine yi ?_); try simp only [go_sem]) | ((first | refine yx hN _ _ ?_ | refine yz hN _ _ ?_ | refine yy hN _ ?_); clear hN N) | refine yt (id := 2) mixed [5] (.rd 0 (.rd 1 (.act 2 [1, 0] (.act 3 [1, 0] (.act 4 [] (.nil)))))) (by kernel_rfl) ?_ | ((first | (refine ys fun r hr => ?_; (try have hrn := (St.set_none hr).1); (try have hrn2 := Ne.symm (St.set_none hr).1)) | rw [if_neg hrn2]); try simp only [go_sem, ↓reduceIte, zA, zB, zC, zD, zE, zF, zG, zL, zM, zN, reduceCtorEq, hc, e]) | (refine And.intro ?_ ?_; · omega) | fail
  rename_i r0 hr0
  exact ⟨st, St.le_del (St.le_set (St.le_set (St.le.refl _) _ hr0) _ (St.set_none hr).2) hr0, hk⟩

theorem nodeD_ky {A : List Tm} {x : Tm} (h : nodeB x = true) : ∃ y : Ky, nodeD A x = .agg (nodeC y x.ts.length x.size x.deep x.fr) :=
  ⟨⟨kyC x (kidNs A x), kyC_len (NodeB.of h).ls (kidNs_len h)⟩, rfl⟩
theorem nodeD_ext {A : List Tm} {t : Tm} (m : List Tm) (h : ∀ x ∈ t.ts, x ∈ A) : nodeD (A ++ m) t = nodeD A t := by
  unfold nodeD; rw [kidNs_ext m h]
theorem nodes_add {A : List Tm} (hv : AV A) {t : Tm} (hk : ∀ x ∈ t.ts, x ∈ A) : (A ++ [t]).map (nodeD (A ++ [t])) = A.map (nodeD A) ++ [nodeD A t] := by
  rw [List.map_append, List.map_cons, List.map_nil, nodeD_ext [t] hk]
  congr 1
  exact List.map_congr_left fun x hx => nodeD_ext [t] (hv.kids x hx)
theorem aent_add {A : List Tm} (hv : AV A) {t : Tm} (hn : t ∉ A) (hk : ∀ x ∈ t.ts, x ∈ A) : aent (A ++ [t]) = aent A ++ [(kyV t (kidNs A t), .int .i64 A.length)] := by
  unfold aent
  rw [List.map_append, List.map_cons, List.map_nil, kidNs_ext [t] hk]
  have : pos (A ++ [t]) t = A.length := by have := pos_addU A t; rw [addU_new hn] at this; rw [this, pos_not hn]
  rw [this]
  congr 1
  exact List.map_congr_left fun x hx => by rw [kidNs_ext [t] (hv.kids x hx), pos_app [t] hx]
theorem kid_fits {A : List Tm} {t : Tm} (hA : A.length < 9223372036854775807) : ∀ x ∈ kidNs A t, fits x := by
  intro x hx
  simp only [kidNs, List.mem_append, List.mem_map, List.mem_replicate] at hx
  rcases hx with ⟨y, _, rfl⟩ | ⟨_, rfl⟩
  · have := pos_le A y; exact ⟨by omega, by omega⟩
  · exact ⟨by omega, by omega⟩
theorem ky_ok {A : List Tm} {t : Tm} (hn : nodeB t = true) (hw : t.wf) (hA : A.length < 9223372036854775807) : KeyOk P 177 (kyV t (kidNs A t)) :=
  keyOkKy hw (NodeB.of hn).ls (kidNs_len hn) (kid_fits hA)
theorem aent_ok {A : List Tm} (hv : AV A) (hA : A.length < 9223372036854775807) : ∀ e ∈ aent A, KeyOk P 177 e.1 ∧ e.2.flat = true := by
  intro e he
  obtain ⟨t, ht, rfl⟩ := List.mem_map.1 he
  exact ⟨ky_ok (all_node (hv.ok t ht)) (hv.wf t ht) hA, rfl⟩
theorem find_aent {A : List Tm} (hv : AV A) {t : Tm} (hn : nodeB t = true) (hk : ∀ x ∈ t.ts, x ∈ A) :
    (t ∈ A → find (aent A) (kyV t (kidNs A t)) = some (.int .i64 (pos A t))) ∧ (t ∉ A → ∀ e ∈ aent A, e.1 ≠ kyV t (kidNs A t)) := by
  have inj : ∀ a ∈ A, ∀ b, nodeB b = true → (∀ x ∈ b.ts, x ∈ A) → kyV a (kidNs A a) = kyV b (kidNs A b) → a = b := fun a ha b hb hbk e =>
    ky_inj (all_node (hv.ok a ha)) hb (hv.kids a ha) hbk e
  refine ⟨fun h => ?_, fun h e he e2 => ?_⟩
  · exact find_mem (f := fun t => kyV t (kidNs A t)) (g := fun t => .int .i64 (pos A t)) h (fun a ha b hb => inj a ha b (all_node (hv.ok b hb)) (hv.kids b hb))
  · obtain ⟨a, ha, rfl⟩ := List.mem_map.1 he
    exact h (inj a ha t hn hk e2 ▸ ha)

/-- What is left behind an added node. -/
theorem add_fin {t : Tm} {A : List Tm} (hv : AV A) (hm : t ∉ A) (hkids : ∀ x ∈ t.ts, x ∈ A) {ra rm : Nat} {o : Option Nat} {st : St} (hra : st.mem ra = some (.cells [ndD A o, .map rm])) (hrm : st.mem rm = some (.map 177 (aent A)))
    {ks : List Int} (hks : kidNs A t = ks) {s : St} {j : Nat} (hj : st.tok j = false)
    (h1 : s.mem ra = some (.cells [.sl (.tok j) 31 (A.map (nodeD A) ++ [nodeD A t]), .map rm])) (h2 : s.mem rm = some (.map 177 (aent A ++ [(kyV t ks, .int .i64 A.length)])))
    (h3 : ∀ r x, r ≠ ra → r ≠ rm → st.mem r = some x → s.mem r = some x) (h4 : s.tok j = true) (h5 : ∀ i, o ≠ some i → st.tok i = true → s.tok i = true) :
    AS ra rm (addU A t) (some j) s ∧ KeepA ra rm o st (some j) s := by
  rw [addU_new hm]
  refine ⟨⟨?_, ?_, h4⟩, ⟨h3, fun i hi ht => ⟨h5 i hi ht, fun e => ?_⟩⟩⟩
  · rw [h1, ndD, nodes_add hv hkids]
  · rw [h2, aent_add hv hm hkids, hks]
  · cases e; rw [hj] at ht; cases ht

theorem add_fin2 {t : Tm} {A : List Tm} {k : D → St → Prop} {d : D} {ra rm : Nat} {o : Option Nat} {st : St} (hk : ∀ o' st', AS ra rm (addU A t) o' st' → KeepA ra rm o st o' st' → k d st')
    (hv : AV A) (hm : t ∉ A) (hkids : ∀ x ∈ t.ts, x ∈ A) (hra : st.mem ra = some (.cells [ndD A o, .map rm])) (hrm : st.mem rm = some (.map 177 (aent A)))
    {ks : List Int} (hks : kidNs A t = ks) {s : St} {j : Nat} (hj : st.tok j = false)
    (h1 : s.mem ra = some (.cells [.sl (.tok j) 31 (A.map (nodeD A) ++ [nodeD A t]), .map rm])) (h2 : s.mem rm = some (.map 177 (aent A ++ [(kyV t ks, .int .i64 A.length)])))
    (h3 : ∀ r x, r ≠ ra → r ≠ rm → st.mem r = some x → s.mem r = some x) (h4 : s.tok j = true) (h5 : ∀ i, o ≠ some i → st.tok i = true → s.tok i = true) : k d s :=
  have u := add_fin hv hm hkids hra hrm hks hj h1 h2 h3 h4 h5
  hk _ _ u.1 u.2

theorem sem116 (t : Tm) (hw : t.wf) (hA : t.all nodeB = true) (hsz : t.size ≤ 65536) (A : List Tm) (hv : AV A) (hlen : A.length < 100000) (hkids : ∀ x ∈ t.ts, x ∈ A) (ra rm : Nat) (o : Option Nat) (st : St) (hS : AS ra rm A o st)
    (a b c : Int) (hks : kidNs A t = [a, b, c]) (k : D → St → Prop) (hk : ∀ o' st', AS ra rm (addU A t) o' st' → KeepA ra rm o st o' st' → k (.int .i64 (pos A t)) st') :
    Sem P 116 [.ptr ra 0, t.d, .agg [.int .i64 a, .int .i64 b, .int .i64 c]] st k := by
  have hn := all_node hA
  have nt := NodeB.of hn
  have wt := hw.to
  have hV := keyV_ky t [a, b, c]
  have hK : KeyOk P 177 (kyV t [a, b, c]) := by rw [← hks]; exact ky_ok hn hw (by omega)
  have hE := aent_ok hv (by omega)
  obtain ⟨hF1, hF2⟩ := find_aent hv hn hkids
  rw [hks] at hF1 hF2
  obtain ⟨y, hy⟩ : ∃ y : Ky, y.cs = kyC t [a, b, c] := ⟨⟨_, kyC_len nt.ls rfl⟩, rfl⟩
  rw [← hy] at hV
  have hra := hS.ra
  have hrm := hS.rm
  have hms := hS.tok
  obtain ⟨ow, z, hnd, hcase⟩ : ∃ ow z, ndD A o = .sl ow z (A.map (nodeD A)) ∧ ((ow = .nil ∧ A = [] ∧ o = none) ∨ ∃ j, ow = .tok j ∧ z = 31 ∧ o = some j ∧ st.tok j = true) := by
    cases o with
    | none => simp only at hms; subst hms; exact ⟨.nil, 0, rfl, .inl ⟨rfl, rfl, rfl⟩⟩
    | some j => exact ⟨.tok j, 31, rfl, .inr ⟨j, rfl, rfl, rfl, hms⟩⟩
  rw [hnd] at hra
  have nb : True := trivial
  refine Sem.drop ?_
  have hn2 := nt.n
  have hk3 : (t.ts.length : Int) ≤ 3 := by have := nt.kids; have := kidsN_le t.k; omega
  have hk3' : t.ts.length ≤ 3 := by omega
  have hfr := Tm.fr_bound t hA
  have hds := Tm.deep_le_size t
  by_cases hm : t ∈ A
  · have hF := hF1 hm
    rw [addU_mem hm] at hk
    refine Sem.of_body Tryz.call116 Tryz.func116 rfl Tryz.ntmps116 (by simp) ?_
    repeat' first | rw [yu hr] | refine yj fun N hN => ?_ | refine yl [5, 10] ?_ | ((first | refine ya rfl rfl fun N hN => ?_ | refine yc rfl rfl fun N hN => ?_ | refine ye rfl rfl fun N hN => ?_ | (refine yw hN _ _ ?_; clear hN N) | refine ym ?_ | refine yo ?_); simp only [go_sem, ↓reduceIte, zA, zB, zC, zD, zE, zF, zG, zL, zM, zN, reduceCtorEq, hra, hrm, hV, hK, hE, hF, nb, Tryz.results116]) | ((first | refine yg rfl ?_ | refine yi ?_); try simp only [go_sem]) | ((first | refine yx hN _ _ ?_ | refine yz hN _ _ ?_ | refine yy hN _ ?_); clear hN N) | refine yt (id := 2) mixed [5, 10] (.rd 0 (.rd 1 (.rd 2 (.rd 3 (.act 4 [3, 2, 1, 0] (.act 5 [] (.act 6 [] (.rd 7 (.rd 8 (.act 9 [8] (.act 10 [] (.nil)))))))))))) (by kernel_rfl) ?_ | (refine sem122 t a b c _ _ nt.ls ?_; rw [← hy]; try simp only [go_sem, ↓reduceIte, zA, zB, zC, zD, zE, zF, zG, zL, zM, zN, reduceCtorEq, hra, hrm, hV, hK, hE, hF, nb]) | ((refine ys fun r hr => ?_; (have hr1 := hr; try simp only [St.set_none_iff, St.mem_give, St.mem_take] at hr1); (first | have nbq := mem_ne hra hr1 | have nbq := mem_ne hra hr1.2 | have nbq := mem_ne hra hr1.2.2 | have nbq := mem_ne hra hr1.2.2.2 | have nbq := mem_ne hra hr1.2.2.2.2); have nb := And.intro nb nbq; (first | have nbq := mem_ne hrm hr1 | have nbq := mem_ne hrm hr1.2 | have nbq := mem_ne hrm hr1.2.2 | have nbq := mem_ne hrm hr1.2.2.2 | have nbq := mem_ne hrm hr1.2.2.2.2); have nb := And.intro nb nbq; have nb := And.intro nb hr1); try simp only [go_sem, ↓reduceIte, zA, zB, zC, zD, zE, zF, zG, zL, zM, zN, reduceCtorEq, hra, hrm, hV, hK, hE, hF, nb]) | (refine And.intro ?_ ?_; · omega) | clear hN N | fail
    exact ⟨st, St.le_set (St.le.refl _) _ (by assumption), hk o st hS (KeepA.refl ra rm o st)⟩
  · have hF := find_none (hF2 hm)
    have fin : ∀ fr0 : Int, fr0 = (if t.k = 2 then t.n + 1 else 0) → True := fun _ _ => trivial
    by_cases c2 : t.k = 2
    · have e2 : (t.k : Int) = 2 := by omega
      have hts0 : t.ts = [] := by
        have := nt.kids
        rw [c2] at this
        have : t.ts.length = 0 := by have h : kidsN 2 = 0 := rfl; omega
        exact List.eq_nil_of_length_eq_zero this
      refine Sem.of_body Tryz.call116 Tryz.func116 rfl Tryz.ntmps116 (by simp) ?_
      repeat' first | rw [yu hr] | refine yj fun N hN => ?_ | refine yk ?_ | refine yl [5, 10] ?_ | ((first | refine ya rfl rfl fun N hN => ?_ | refine yc rfl rfl fun N hN => ?_ | refine ye rfl rfl fun N hN => ?_ | (refine yw hN _ _ ?_; clear hN N) | refine ym ?_); simp only [go_sem, ↓reduceIte, zA, zB, zC, zD, zE, zF, zG, zL, zM, zN, reduceCtorEq, hra, hrm, hV, hK, hE, hF, e2, nb, Tryz.results116]) | ((first | refine yg rfl ?_ | refine yn ?_ | refine yi ?_); try simp only [go_sem]) | ((first | refine yx hN _ _ ?_ | refine yz hN _ _ ?_ | refine yy hN _ ?_); clear hN N) | refine yt (id := 2) mixed [5, 10] (.rd 0 (.rd 1 (.rd 2 (.rd 3 (.act 4 [3, 2, 1, 0] (.act 5 [] (.act 6 [] (.rd 7 (.rd 8 (.act 9 [8] (.act 10 [] (.nil)))))))))))) (by kernel_rfl) ?_ | (refine sem122 t a b c _ _ nt.ls ?_; rw [← hy]; try simp only [go_sem, ↓reduceIte, zA, zB, zC, zD, zE, zF, zG, zL, zM, zN, reduceCtorEq, hra, hrm, hV, hK, hE, hF, e2, nb]) | ((apply And.intro <;> intro h) <;> (try simp only [zS, zT, zU, zV, Bool.not_true, Bool.not_false] at h) <;> (first | (exfalso; omega) | simp only [go_sem, ↓reduceIte, zA, zB, zC, zD, zE, zF, zG, zL, zM, zN, reduceCtorEq, hra, hrm, hV, hK, hE, hF, e2, nb, h] | skip)) | ((refine ys fun r hr => ?_; (have hr1 := hr; try simp only [St.set_none_iff, St.mem_give, St.mem_take] at hr1); (first | have nbq := mem_ne hra hr1 | have nbq := mem_ne hra hr1.2 | have nbq := mem_ne hra hr1.2.2 | have nbq := mem_ne hra hr1.2.2.2 | have nbq := mem_ne hra hr1.2.2.2.2); have nb := And.intro nb nbq; (first | have nbq := mem_ne hrm hr1 | have nbq := mem_ne hrm hr1.2 | have nbq := mem_ne hrm hr1.2.2 | have nbq := mem_ne hrm hr1.2.2.2 | have nbq := mem_ne hrm hr1.2.2.2.2); have nb := And.intro nb nbq; have nb := And.intro nb hr1); try simp only [go_sem, ↓reduceIte, zA, zB, zC, zD, zE, zF, zG, zL, zM, zN, reduceCtorEq, hra, hrm, hV, hK, hE, hF, e2, nb]) | (refine And.intro ?_ ?_; · omega) | fail
      refine W.loopN (fun m fr st' => ∃ (r5 r i : Nat) (sz dp f : Int), st' = (st.set r5 (.cells [.int .i64 a, .int .i64 b, .int .i64 c])).set r (.cells (nodeC y t.ts.length sz dp f)) ∧ (st.mem r5 = none ∧ (st.set r5 (.cells [.int .i64 a, .int .i64 b, .int .i64 c])).mem r = none) ∧ i + m = t.ts.length ∧
        sz + Tm.sizes (t.ts.drop i) = 1 + Tm.sizes t.ts ∧ 1 ≤ sz ∧ 0 ≤ dp ∧ max dp (Tm.deeps (t.ts.drop i)) = Tm.deeps t.ts ∧ Tm.frs t.k (t.ts.drop i) i f = t.fr ∧ 0 ≤ f ∧ f ≤ 1048577 ∧
        fr 51 = .int .i64 i ∧ fr 50 = .int .i64 t.ts.length ∧ fr 49 = .msl r5 0 t.ts.length 1 ∧ fr 10 = .ptr r 0 ∧ fr 4 = .eptr t.d 0 ∧ fr 7 = .eptr (.agg y.cs) 0 ∧ fr 0 = .ptr ra 0) ?_ t.ts.length _ _
        ⟨_, _, 0, 1, 0, (t.n + 1), rfl, ⟨by assumption, by assumption⟩, by simp, by simp, by omega, by omega, by simp, by rw [Tm.fr_eq, if_pos c2]; simp, by omega, by omega, by simp only [go_sem, ↓reduceIte, zA, zB, zC, zD, zE, zF, zG, zL, zM, zN, reduceCtorEq]; rfl, by simp only [go_sem, ↓reduceIte, zA, zB, zC, zD, zE, zF, zG, zL, zM, zN, reduceCtorEq], by simp only [go_sem, ↓reduceIte, zA, zB, zC, zD, zE, zF, zG, zL, zM, zN, reduceCtorEq], by simp only [go_sem, ↓reduceIte, zA, zB, zC, zD, zE, zF, zG, zL, zM, zN, reduceCtorEq], by simp only [go_sem, ↓reduceIte, zA, zB, zC, zD, zE, zF, zG, zL, zM, zN, reduceCtorEq], by simp only [go_sem, ↓reduceIte, zA, zB, zC, zD, zE, zF, zG, zL, zM, zN, reduceCtorEq], by simp only [go_sem, ↓reduceIte, zA, zB, zC, zD, zE, zF, zG, zL, zM, zN, reduceCtorEq]⟩
      rintro m N' ih fr _ ⟨r5, r0, i, sz, dp, f, rfl, ⟨hr5, hr0⟩, hi, g1, g2, g3, g4, g5, g6, g7, f51, f50, f49, f10, f4, f7, f0⟩
      clear nb
      have nb : True := trivial
      have hrn := hr0
      rw [St.mem_set] at hrn
      have e510 : r0 ≠ r5 := fun h => by rw [if_pos h] at hrn; cases hrn
      rw [if_neg e510] at hrn
      have e51 : (r0 = r5) = False := eq_false e510
      have e15 : (r5 = r0) = False := eq_false e510.symm
      have q1 := mem_ne hra hr5
      have q2 := mem_ne hrm hr5
      have q3 := mem_ne hra hrn
      have q4 := mem_ne hrm hrn
      have hmr : ra ≠ rm := fun h => by rw [h, hrm] at hra; cases hra
      have hrmr : rm ≠ ra := hmr.symm
      rw [Tm.size_eq] at hsz
      rw [Tm.deep_eq, Tm.size_eq] at hds
      rcases Nat.lt_or_ge i t.ts.length with hlt | hge
      · exfalso; rw [hts0] at hlt; simp at hlt
      · have h4 : ¬ (i : Int) < t.ts.length := by omega
        rw [List.drop_of_length_le hge] at g1 g4 g5
        rw [Tm.sizes] at g1
        rw [Tm.deeps] at g4
        rw [Tm.frs] at g5
        have hsz2 : sz = t.size := by rw [Tm.size_eq]; omega
        have hdp2 : dp + 1 = t.deep := by rw [Tm.deep_eq]; omega
        have hU : ∀ d, upd (aent A) (kyV t [a, b, c]) d = aent A ++ [(kyV t [a, b, c], d)] := fun d => upd_new (hF2 hm)
        have hE1 : (∀ e ∈ aent A, KeyOk P 177 e.1) := fun e he => (hE e he).1
        have hnd2 : nodeD A t = .agg (nodeC y t.ts.length t.size t.deep t.fr) := by simp only [nodeD, hks, nodeC, hy]
        have hlen0 : ((A.map (nodeD A)).length : Int) = A.length := by simp
        rcases hcase with ⟨c1, c3, c4⟩ | ⟨j0, c1, c3, c4, c5⟩
        · subst c1 c3 c4
          repeat' first | refine yj fun N hN => ?_ | refine yl [5, 10] ?_ | ((first | refine ya rfl rfl fun N hN => ?_ | refine yc rfl rfl fun N hN => ?_ | refine ye rfl rfl fun N hN => ?_ | (refine yw hN _ _ ?_; clear hN N) | refine ym ?_ | refine yo ?_ | refine yp ?_); simp only [go_sem, ↓reduceIte, zA, zB, zC, zD, zE, zF, zG, zL, zM, zN, reduceCtorEq, f51, f50, f49, f10, f4, f7, f0, hra, hrm, h4, e51, e15, q1, q2, q3, q4, hK, hV, hU, hE1, hmr, hrmr, nb, Tryz.results116]) | ((first | refine yg rfl ?_ | refine yi ?_); try simp only [go_sem]) | ((first | refine yx hN _ _ ?_ | refine yz hN _ _ ?_ | refine yy hN _ ?_); clear hN N) | refine yt (id := 19) mixed [5, 10] (.rd 0 (.rd 1 (.rd 2 (.rd 3 (.rd 4 (.act 5 [4, 3, 2, 1, 0] (.act 6 [4, 3, 2, 1, 0] (.act 7 [4, 3, 2, 1, 0] (.act 8 [4, 3, 2, 1, 0] (.act 9 [4, 3, 2, 1, 0] (.act 10 [] (.nil)))))))))))) (by kernel_rfl) ?_ | refine yt (id := 20) mixed [5, 10] (.rd 0 (.rd 1 (.rd 2 (.rd 3 (.rd 4 (.act 5 [4, 3, 2, 1, 0] (.act 6 [4, 3, 2, 1, 0] (.act 7 [0] (.act 8 [] (.act 9 [] (.act 10 [] (.nil)))))))))))) (by kernel_rfl) ?_ | ((refine yr fun j hj => ?_; (try have hj0 := St.tok_of_give hj)); try simp only [go_sem, ↓reduceIte, zA, zB, zC, zD, zE, zF, zG, zL, zM, zN, reduceCtorEq, f51, f50, f49, f10, f4, f7, f0, hra, hrm, h4, e51, e15, q1, q2, q3, q4, hK, hV, hU, hE1, hmr, hrmr, nb]) | (refine And.intro ?_ ?_; · omega) | clear hN N | fail
          rw [hsz2, hdp2]
          have hj' : st.tok j = false := hj
          refine ⟨_, St.le.refl _, ?_⟩
          have e0 : ((1 : Nat) : Int) - 1 = (pos [] t : Nat) := by rw [pos_not hm]; rfl
          rw [e0]
          refine add_fin2 hk hv hm hkids hS.ra hS.rm hks (j := j) hj' ?_ ?_ ?_ ?_ ?_
          · simp [St.mem_set, St.mem_give, hnd2, g5]
          · simp [St.mem_set, St.mem_give, St.mem_take, hrmr]
          · intro r1 x a1 a2 a3
            simp [St.mem_set, St.mem_give, a1, a2, a3, (mem_ne a3 hr5).1, (mem_ne a3 hrn).1]
          · simp [St.tok_give, St.tok_set]
          · intro i _ ht
            simp [St.tok_give, St.tok_set, ht]
        · subst c1 c3 c4
          repeat' first | refine yj fun N hN => ?_ | refine yl [5, 10] ?_ | ((first | refine ya rfl rfl fun N hN => ?_ | refine yc rfl rfl fun N hN => ?_ | refine ye rfl rfl fun N hN => ?_ | (refine yw hN _ _ ?_; clear hN N) | refine ym ?_ | refine yo ?_ | refine yp ?_); simp only [go_sem, ↓reduceIte, zA, zB, zC, zD, zE, zF, zG, zL, zM, zN, reduceCtorEq, f51, f50, f49, f10, f4, f7, f0, hra, hrm, h4, e51, e15, q1, q2, q3, q4, hK, hV, hU, hE1, hmr, hrmr, c5, nb, Tryz.results116]) | ((first | refine yg rfl ?_ | refine yi ?_); try simp only [go_sem]) | ((first | refine yx hN _ _ ?_ | refine yz hN _ _ ?_ | refine yy hN _ ?_); clear hN N) | refine yt (id := 19) mixed [5, 10] (.rd 0 (.rd 1 (.rd 2 (.rd 3 (.rd 4 (.act 5 [4, 3, 2, 1, 0] (.act 6 [4, 3, 2, 1, 0] (.act 7 [4, 3, 2, 1, 0] (.act 8 [4, 3, 2, 1, 0] (.act 9 [4, 3, 2, 1, 0] (.act 10 [] (.nil)))))))))))) (by kernel_rfl) ?_ | refine yt (id := 20) mixed [5, 10] (.rd 0 (.rd 1 (.rd 2 (.rd 3 (.rd 4 (.act 5 [4, 3, 2, 1, 0] (.act 6 [4, 3, 2, 1, 0] (.act 7 [0] (.act 8 [] (.act 9 [] (.act 10 [] (.nil)))))))))))) (by kernel_rfl) ?_ | ((refine yr fun j hj => ?_; (try have hj0 := St.tok_of_give hj)); try simp only [go_sem, ↓reduceIte, zA, zB, zC, zD, zE, zF, zG, zL, zM, zN, reduceCtorEq, f51, f50, f49, f10, f4, f7, f0, hra, hrm, h4, e51, e15, q1, q2, q3, q4, hK, hV, hU, hE1, hmr, hrmr, c5, nb]) | (refine And.intro ?_ ?_; · omega) | clear hN N | fail
          rw [hsz2, hdp2]
          have hj' : st.tok j = false := hj
          refine ⟨_, St.le.refl _, ?_⟩
          have e0 : ((A.length + 1 : Nat) : Int) - 1 = (pos A t : Nat) := by rw [pos_not hm]; omega
          rw [e0]
          refine add_fin2 hk hv hm hkids hS.ra hS.rm hks (j := j) hj' ?_ ?_ ?_ ?_ ?_
          · simp [St.mem_set, St.mem_give, hnd2, g5]
          · simp [St.mem_set, St.mem_give, St.mem_take, hrmr]
          · intro r1 x a1 a2 a3
            simp [St.mem_set, St.mem_give, St.mem_take, a1, a2, a3, (mem_ne a3 hr5).1, (mem_ne a3 hrn).1]
          · simp [St.tok_give, St.tok_set]
          · intro i hi ht
            have : i ≠ j0 := fun e => hi (by rw [e])
            simp [St.tok_give, St.tok_set, St.tok_take, ht, this]
    · have e2 : ¬ (t.k : Int) = 2 := by omega
      refine Sem.of_body Tryz.call116 Tryz.func116 rfl Tryz.ntmps116 (by simp) ?_
      repeat' first | rw [yu hr] | refine yj fun N hN => ?_ | refine yk ?_ | refine yl [5, 10] ?_ | ((first | refine ya rfl rfl fun N hN => ?_ | refine yc rfl rfl fun N hN => ?_ | refine ye rfl rfl fun N hN => ?_ | (refine yw hN _ _ ?_; clear hN N) | refine ym ?_); simp only [go_sem, ↓reduceIte, zA, zB, zC, zD, zE, zF, zG, zL, zM, zN, reduceCtorEq, hra, hrm, hV, hK, hE, hF, e2, nb, Tryz.results116]) | ((first | refine yg rfl ?_ | refine yn ?_ | refine yi ?_); try simp only [go_sem]) | ((first | refine yx hN _ _ ?_ | refine yz hN _ _ ?_ | refine yy hN _ ?_); clear hN N) | refine yt (id := 2) mixed [5, 10] (.rd 0 (.rd 1 (.rd 2 (.rd 3 (.act 4 [3, 2, 1, 0] (.act 5 [] (.act 6 [] (.rd 7 (.rd 8 (.act 9 [8] (.act 10 [] (.nil)))))))))))) (by kernel_rfl) ?_ | (refine sem122 t a b c _ _ nt.ls ?_; rw [← hy]; try simp only [go_sem, ↓reduceIte, zA, zB, zC, zD, zE, zF, zG, zL, zM, zN, reduceCtorEq, hra, hrm, hV, hK, hE, hF, e2, nb]) | ((apply And.intro <;> intro h) <;> (try simp only [zS, zT, zU, zV, Bool.not_true, Bool.not_false] at h) <;> (first | (exfalso; omega) | simp only [go_sem, ↓reduceIte, zA, zB, zC, zD, zE, zF, zG, zL, zM, zN, reduceCtorEq, hra, hrm, hV, hK, hE, hF, e2, nb, h] | skip)) | ((refine ys fun r hr => ?_; (have hr1 := hr; try simp only [St.set_none_iff, St.mem_give, St.mem_take] at hr1); (first | have nbq := mem_ne hra hr1 | have nbq := mem_ne hra hr1.2 | have nbq := mem_ne hra hr1.2.2 | have nbq := mem_ne hra hr1.2.2.2 | have nbq := mem_ne hra hr1.2.2.2.2); have nb := And.intro nb nbq; (first | have nbq := mem_ne hrm hr1 | have nbq := mem_ne hrm hr1.2 | have nbq := mem_ne hrm hr1.2.2 | have nbq := mem_ne hrm hr1.2.2.2 | have nbq := mem_ne hrm hr1.2.2.2.2); have nb := And.intro nb nbq; have nb := And.intro nb hr1); try simp only [go_sem, ↓reduceIte, zA, zB, zC, zD, zE, zF, zG, zL, zM, zN, reduceCtorEq, hra, hrm, hV, hK, hE, hF, e2, nb]) | (refine And.intro ?_ ?_; · omega) | fail
      refine W.loopN (fun m fr st' => ∃ (r5 r i : Nat) (sz dp f : Int), st' = (st.set r5 (.cells [.int .i64 a, .int .i64 b, .int .i64 c])).set r (.cells (nodeC y t.ts.length sz dp f)) ∧ (st.mem r5 = none ∧ (st.set r5 (.cells [.int .i64 a, .int .i64 b, .int .i64 c])).mem r = none) ∧ i + m = t.ts.length ∧
        sz + Tm.sizes (t.ts.drop i) = 1 + Tm.sizes t.ts ∧ 1 ≤ sz ∧ 0 ≤ dp ∧ max dp (Tm.deeps (t.ts.drop i)) = Tm.deeps t.ts ∧ Tm.frs t.k (t.ts.drop i) i f = t.fr ∧ 0 ≤ f ∧ f ≤ 1048577 ∧
        fr 51 = .int .i64 i ∧ fr 50 = .int .i64 t.ts.length ∧ fr 49 = .msl r5 0 t.ts.length 1 ∧ fr 10 = .ptr r 0 ∧ fr 4 = .eptr t.d 0 ∧ fr 7 = .eptr (.agg y.cs) 0 ∧ fr 0 = .ptr ra 0) ?_ t.ts.length _ _
        ⟨_, _, 0, 1, 0, 0, rfl, ⟨by assumption, by assumption⟩, by simp, by simp, by omega, by omega, by simp, by rw [Tm.fr_eq, if_neg c2]; simp, by omega, by omega, by simp only [go_sem, ↓reduceIte, zA, zB, zC, zD, zE, zF, zG, zL, zM, zN, reduceCtorEq]; rfl, by simp only [go_sem, ↓reduceIte, zA, zB, zC, zD, zE, zF, zG, zL, zM, zN, reduceCtorEq], by simp only [go_sem, ↓reduceIte, zA, zB, zC, zD, zE, zF, zG, zL, zM, zN, reduceCtorEq], by simp only [go_sem, ↓reduceIte, zA, zB, zC, zD, zE, zF, zG, zL, zM, zN, reduceCtorEq], by simp only [go_sem, ↓reduceIte, zA, zB, zC, zD, zE, zF, zG, zL, zM, zN, reduceCtorEq], by simp only [go_sem, ↓reduceIte, zA, zB, zC, zD, zE, zF, zG, zL, zM, zN, reduceCtorEq], by simp only [go_sem, ↓reduceIte, zA, zB, zC, zD, zE, zF, zG, zL, zM, zN, reduceCtorEq]⟩
      rintro m N' ih fr _ ⟨r5, r0, i, sz, dp, f, rfl, ⟨hr5, hr0⟩, hi, g1, g2, g3, g4, g5, g6, g7, f51, f50, f49, f10, f4, f7, f0⟩
      clear nb
      have nb : True := trivial
      have hrn := hr0
      rw [St.mem_set] at hrn
      have e510 : r0 ≠ r5 := fun h => by rw [if_pos h] at hrn; cases hrn
      rw [if_neg e510] at hrn
      have e51 : (r0 = r5) = False := eq_false e510
      have e15 : (r5 = r0) = False := eq_false e510.symm
      have q1 := mem_ne hra hr5
      have q2 := mem_ne hrm hr5
      have q3 := mem_ne hra hrn
      have q4 := mem_ne hrm hrn
      have hmr : ra ≠ rm := fun h => by rw [h, hrm] at hra; cases hra
      have hrmr : rm ≠ ra := hmr.symm
      rw [Tm.size_eq] at hsz
      rw [Tm.deep_eq, Tm.size_eq] at hds
      rcases Nat.lt_or_ge i t.ts.length with hlt | hge
      · have h4 : (i : Int) < t.ts.length := by omega
        have hmem := getD_mem t.ts Tm.z hlt
        have hxA := hkids _ hmem
        have hxall := hv.ok _ hxA
        have hpl := pos_lt hxA
        have hpl2 : ((pos A (t.ts.getD i Tm.z) : Nat) : Int) < A.length := by omega
        have hz : z = 31 := by
          rcases hcase with ⟨_, h, _⟩ | ⟨_, _, h, _⟩
          · rw [h] at hxA; simp at hxA
          · exact h
        have hgk : [D.int .i64 a, D.int .i64 b, D.int .i64 c].getD i .any = .int .i64 (pos A (t.ts.getD i Tm.z)) := by
          have h1 : [D.int .i64 a, D.int .i64 b, D.int .i64 c] = (kidNs A t).map (D.int .i64) := by rw [hks]; rfl
          rw [h1, getD_map _ _ 0 (by rw [hks]; simp; omega)]
          congr 1
          rw [kidNs, List.getD, List.getElem?_append_left (by simpa using hlt)]
          simp [List.getD, hlt]
        obtain ⟨y2, hy2⟩ := nodeD_ky (A := A) (all_node hxall)
        have hgn : (A.map (nodeD A)).getD (pos A (t.ts.getD i Tm.z)) .any = .agg (nodeC y2 (t.ts.getD i Tm.z).ts.length (t.ts.getD i Tm.z).size (t.ts.getD i Tm.z).deep (t.ts.getD i Tm.z).fr) := by
          rw [getD_map _ _ Tm.z hpl, pos_getD Tm.z hxA, hy2]
        have hfr2 := Tm.fr_bound _ hxall
        have hb1 : bnd t.k i ≤ 1 := by unfold bnd; split <;> omega
        rw [drop_getD _ Tm.z hlt] at g1 g4 g5
        rw [Tm.sizes] at g1
        rw [Tm.deeps] at g4
        rw [Tm.frs] at g5
        have hi3 : i < 3 := by omega
        repeat' first | rw [yu hr] | refine yj fun N hN => ?_ | refine yk ?_ | refine yl [5, 10] ?_ | ((first | refine ya rfl rfl fun N hN => ?_ | refine yc rfl rfl fun N hN => ?_ | refine ye rfl rfl fun N hN => ?_ | (refine yw hN _ _ ?_; clear hN N) | refine ym ?_); simp only [go_sem, ↓reduceIte, zA, zB, zC, zD, zE, zF, zG, zL, zM, zN, reduceCtorEq, f51, f50, f49, f10, f4, f7, f0, hra, hrm, hgk, hgn, hz, hlt, h4, hpl, hpl2, hi3, e51, e15, q1, q2, q3, q4, nb, Tryz.results116]) | ((first | refine yg rfl ?_ | refine yn ?_ | refine yi ?_); try simp only [go_sem]) | ((first | refine yx hN _ _ ?_ | refine yz hN _ _ ?_ | refine yy hN _ ?_); clear hN N) | refine yt (id := 16) mixed [5, 10] (.rd 0 (.rd 1 (.rd 2 (.rd 3 (.rd 4 (.rd 5 (.act 6 [5, 4, 3, 2, 1, 0] (.act 7 [3, 2, 1, 0] (.act 8 [1, 0] (.act 9 [] (.act 10 [] (.act 11 [] (.nil))))))))))))) (by kernel_rfl) ?_ | (refine sem123 _ _ _ _ ?_; try simp only [go_sem, ↓reduceIte, zA, zB, zC, zD, zE, zF, zG, zL, zM, zN, reduceCtorEq, f51, f50, f49, f10, f4, f7, f0, hra, hrm, hgk, hgn, hz, hlt, h4, hpl, hpl2, hi3, e51, e15, q1, q2, q3, q4, nb]) | ((refine ys fun r hr => ?_; (have hr1 := hr; try simp only [St.set_none_iff, St.mem_give, St.mem_take] at hr1); (first | have nbq := mem_ne hra hr1 | have nbq := mem_ne hra hr1.2 | have nbq := mem_ne hra hr1.2.2 | have nbq := mem_ne hra hr1.2.2.2 | have nbq := mem_ne hra hr1.2.2.2.2); have nb := And.intro nb nbq; (first | have nbq := mem_ne hrm hr1 | have nbq := mem_ne hrm hr1.2 | have nbq := mem_ne hrm hr1.2.2 | have nbq := mem_ne hrm hr1.2.2.2 | have nbq := mem_ne hrm hr1.2.2.2.2); have nb := And.intro nb nbq; have nb := And.intro nb hr1); try simp only [go_sem, ↓reduceIte, zA, zB, zC, zD, zE, zF, zG, zL, zM, zN, reduceCtorEq, f51, f50, f49, f10, f4, f7, f0, hra, hrm, hgk, hgn, hz, hlt, h4, hpl, hpl2, hi3, e51, e15, q1, q2, q3, q4, nb]) | (refine And.intro ?_ ?_; · omega) | clear hN N | fail
        refine ih.back (m - 1) (by omega) _ _ ⟨r5, r0, i + 1, _, _, _, rfl, ⟨hr5, hr0⟩, by omega, by omega, by omega, by omega, by omega, g5, by omega, by omega, ?_, ?_, ?_, ?_, ?_, ?_, ?_⟩
        · simp only [go_sem, ↓reduceIte, zA, zB, zC, zD, zE, zF, zG, zL, zM, zN, reduceCtorEq]; rfl
        · simp only [go_sem, ↓reduceIte, zA, zB, zC, zD, zE, zF, zG, zL, zM, zN, reduceCtorEq, f50]
        · simp only [go_sem, ↓reduceIte, zA, zB, zC, zD, zE, zF, zG, zL, zM, zN, reduceCtorEq, f49]
        · simp only [go_sem, ↓reduceIte, zA, zB, zC, zD, zE, zF, zG, zL, zM, zN, reduceCtorEq, f10]
        · simp only [go_sem, ↓reduceIte, zA, zB, zC, zD, zE, zF, zG, zL, zM, zN, reduceCtorEq, f4]
        · simp only [go_sem, ↓reduceIte, zA, zB, zC, zD, zE, zF, zG, zL, zM, zN, reduceCtorEq, f7]
        · simp only [go_sem, ↓reduceIte, zA, zB, zC, zD, zE, zF, zG, zL, zM, zN, reduceCtorEq, f0]
      · have h4 : ¬ (i : Int) < t.ts.length := by omega
        rw [List.drop_of_length_le hge] at g1 g4 g5
        rw [Tm.sizes] at g1
        rw [Tm.deeps] at g4
        rw [Tm.frs] at g5
        have hsz2 : sz = t.size := by rw [Tm.size_eq]; omega
        have hdp2 : dp + 1 = t.deep := by rw [Tm.deep_eq]; omega
        have hU : ∀ d, upd (aent A) (kyV t [a, b, c]) d = aent A ++ [(kyV t [a, b, c], d)] := fun d => upd_new (hF2 hm)
        have hE1 : (∀ e ∈ aent A, KeyOk P 177 e.1) := fun e he => (hE e he).1
        have hnd2 : nodeD A t = .agg (nodeC y t.ts.length t.size t.deep t.fr) := by simp only [nodeD, hks, nodeC, hy]
        have hlen0 : ((A.map (nodeD A)).length : Int) = A.length := by simp
        rcases hcase with ⟨c1, c3, c4⟩ | ⟨j0, c1, c3, c4, c5⟩
        · subst c1 c3 c4
          repeat' first | refine yj fun N hN => ?_ | refine yl [5, 10] ?_ | ((first | refine ya rfl rfl fun N hN => ?_ | refine yc rfl rfl fun N hN => ?_ | refine ye rfl rfl fun N hN => ?_ | (refine yw hN _ _ ?_; clear hN N) | refine ym ?_ | refine yo ?_ | refine yp ?_); simp only [go_sem, ↓reduceIte, zA, zB, zC, zD, zE, zF, zG, zL, zM, zN, reduceCtorEq, f51, f50, f49, f10, f4, f7, f0, hra, hrm, h4, e51, e15, q1, q2, q3, q4, hK, hV, hU, hE1, hmr, hrmr, nb, Tryz.results116]) | ((first | refine yg rfl ?_ | refine yi ?_); try simp only [go_sem]) | ((first | refine yx hN _ _ ?_ | refine yz hN _ _ ?_ | refine yy hN _ ?_); clear hN N) | refine yt (id := 19) mixed [5, 10] (.rd 0 (.rd 1 (.rd 2 (.rd 3 (.rd 4 (.act 5 [4, 3, 2, 1, 0] (.act 6 [4, 3, 2, 1, 0] (.act 7 [4, 3, 2, 1, 0] (.act 8 [4, 3, 2, 1, 0] (.act 9 [4, 3, 2, 1, 0] (.act 10 [] (.nil)))))))))))) (by kernel_rfl) ?_ | refine yt (id := 20) mixed [5, 10] (.rd 0 (.rd 1 (.rd 2 (.rd 3 (.rd 4 (.act 5 [4, 3, 2, 1, 0] (.act 6 [4, 3, 2, 1, 0] (.act 7 [0] (.act 8 [] (.act 9 [] (.act 10 [] (.nil)))))))))))) (by kernel_rfl) ?_ | ((refine yr fun j hj => ?_; (try have hj0 := St.tok_of_give hj)); try simp only [go_sem, ↓reduceIte, zA, zB, zC, zD, zE, zF, zG, zL, zM, zN, reduceCtorEq, f51, f50, f49, f10, f4, f7, f0, hra, hrm, h4, e51, e15, q1, q2, q3, q4, hK, hV, hU, hE1, hmr, hrmr, nb]) | (refine And.intro ?_ ?_; · omega) | clear hN N | fail
          rw [hsz2, hdp2]
          have hj' : st.tok j = false := hj
          refine ⟨_, St.le.refl _, ?_⟩
          have e0 : ((1 : Nat) : Int) - 1 = (pos [] t : Nat) := by rw [pos_not hm]; rfl
          rw [e0]
          refine add_fin2 hk hv hm hkids hS.ra hS.rm hks (j := j) hj' ?_ ?_ ?_ ?_ ?_
          · simp [St.mem_set, St.mem_give, hnd2, g5]
          · simp [St.mem_set, St.mem_give, St.mem_take, hrmr]
          · intro r1 x a1 a2 a3
            simp [St.mem_set, St.mem_give, a1, a2, a3, (mem_ne a3 hr5).1, (mem_ne a3 hrn).1]
          · simp [St.tok_give, St.tok_set]
          · intro i _ ht
            simp [St.tok_give, St.tok_set, ht]
        · subst c1 c3 c4
          repeat' first | refine yj fun N hN => ?_ | refine yl [5, 10] ?_ | ((first | refine ya rfl rfl fun N hN => ?_ | refine yc rfl rfl fun N hN => ?_ | refine ye rfl rfl fun N hN => ?_ | (refine yw hN _ _ ?_; clear hN N) | refine ym ?_ | refine yo ?_ | refine yp ?_); simp only [go_sem, ↓reduceIte, zA, zB, zC, zD, zE, zF, zG, zL, zM, zN, reduceCtorEq, f51, f50, f49, f10, f4, f7, f0, hra, hrm, h4, e51, e15, q1, q2, q3, q4, hK, hV, hU, hE1, hmr, hrmr, c5, nb, Tryz.results116]) | ((first | refine yg rfl ?_ | refine yi ?_); try simp only [go_sem]) | ((first | refine yx hN _ _ ?_ | refine yz hN _ _ ?_ | refine yy hN _ ?_); clear hN N) | refine yt (id := 19) mixed [5, 10] (.rd 0 (.rd 1 (.rd 2 (.rd 3 (.rd 4 (.act 5 [4, 3, 2, 1, 0] (.act 6 [4, 3, 2, 1, 0] (.act 7 [4, 3, 2, 1, 0] (.act 8 [4, 3, 2, 1, 0] (.act 9 [4, 3, 2, 1, 0] (.act 10 [] (.nil)))))))))))) (by kernel_rfl) ?_ | refine yt (id := 20) mixed [5, 10] (.rd 0 (.rd 1 (.rd 2 (.rd 3 (.rd 4 (.act 5 [4, 3, 2, 1, 0] (.act 6 [4, 3, 2, 1, 0] (.act 7 [0] (.act 8 [] (.act 9 [] (.act 10 [] (.nil)))))))))))) (by kernel_rfl) ?_ | ((refine yr fun j hj => ?_; (try have hj0 := St.tok_of_give hj)); try simp only [go_sem, ↓reduceIte, zA, zB, zC, zD, zE, zF, zG, zL, zM, zN, reduceCtorEq, f51, f50, f49, f10, f4, f7, f0, hra, hrm, h4, e51, e15, q1, q2, q3, q4, hK, hV, hU, hE1, hmr, hrmr, c5, nb]) | (refine And.intro ?_ ?_; · omega) | clear hN N | fail
          rw [hsz2, hdp2]
          have hj' : st.tok j = false := hj
          refine ⟨_, St.le.refl _, ?_⟩
          have e0 : ((A.length + 1 : Nat) : Int) - 1 = (pos A t : Nat) := by rw [pos_not hm]; omega
          rw [e0]
          refine add_fin2 hk hv hm hkids hS.ra hS.rm hks (j := j) hj' ?_ ?_ ?_ ?_ ?_
          · simp [St.mem_set, St.mem_give, hnd2, g5]
          · simp [St.mem_set, St.mem_give, St.mem_take, hrmr]
          · intro r1 x a1 a2 a3
            simp [St.mem_set, St.mem_give, St.mem_take, a1, a2, a3, (mem_ne a3 hr5).1, (mem_ne a3 hrn).1]
          · simp [St.tok_give, St.tok_set]
          · intro i hi ht
            have : i ≠ j0 := fun e => hi (by rw [e])
            simp [St.tok_give, St.tok_set, St.tok_take, ht, this]
end Go.Proofs.YtddbidoaolnegaaGreatDoor
/- The arena: putting terms: the walks. No statement of the seat is proved here; no condition. -/
namespace Go.Proofs.YtddbidoaolnegaaGreatDoor
open Go Go.RowKit
open Nat renaming reduceLT → zA, reduceEqDiff → zB, reduceBEq → zC, reduceAdd → zD, reduceMul → zE, reduceSub → zF, reduceLeDiff → zG, mul_one → zH, zero_add → zI, add_zero → zJ
open Int renaming toNat_natCast → zK, reduceAdd → zL, reduceLE → zM, reduceLT → zN, natCast_nonneg → zO
open Go.Proofs.YtddbidoaolnegaaGreatDoor renaming evI_plain → ya, evI_guard → yb, evT_rd → yc, evT_rdg → yd, evT_act → ye, evT_actg → yf, evI_done → yg, evT_two → yh, evT_nil → yi, W.seqG → yj, W.block → yk, W.regionI → yl, W.cond → ym, W.skip → yn, W.ret → yo, W.exit → yp, gdD_split → yq, newT_intro → yr, newB_intro → ys, W.draw → yt, St.set_del → yu, St.give_take → yv, AGo.go → yw, IGo.go → yx, TGo.go → yy, Goes.go → yz
attribute [local go_sem] zK zP zQ zH zI zJ zO
attribute [local irreducible] W evI evT evL evOp evBin gdD Sem newT newB fillD bldOf
set_option maxRecDepth 10000
set_option maxHeartbeats 4000000

mutual
noncomputable def putA : Tm → List Tm → List Tm
  | .mk k n s ls ts, A => addU (putAs ts A) (.mk k n s ls ts)
noncomputable def putAs : List Tm → List Tm → List Tm
  | [], A => A
  | t :: ts, A => putAs ts (putA t A)
end
theorem putA_eq (t : Tm) (A : List Tm) : putA t A = addU (putAs t.ts A) t := by cases t; rw [putA]; rfl
theorem addU_ext {α : Type} (A : List α) (t : α) : ∃ m, addU A t = A ++ m ∧ m.length ≤ 1 := by
  by_cases h : t ∈ A
  · exact ⟨[], by rw [addU_mem h]; simp, by simp⟩
  · exact ⟨[t], addU_new h, by simp⟩
mutual
theorem putA_ext : ∀ (t : Tm) (A : List Tm), ∃ m, putA t A = A ++ m ∧ m.length ≤ t.size
  | .mk k n s ls ts, A => by
    obtain ⟨m, h1, h2⟩ := putAs_ext ts A
    obtain ⟨m', h3, h4⟩ := addU_ext (putAs ts A) (.mk k n s ls ts)
    refine ⟨m ++ m', by rw [putA, h3, h1, List.append_assoc], ?_⟩
    rw [Tm.size, List.length_append]; omega
theorem putAs_ext : ∀ (ts : List Tm) (A : List Tm), ∃ m, putAs ts A = A ++ m ∧ m.length ≤ Tm.sizes ts
  | [], A => ⟨[], by rw [putAs]; simp, by simp⟩
  | t :: ts, A => by
    obtain ⟨m, h1, h2⟩ := putA_ext t A
    obtain ⟨m', h3, h4⟩ := putAs_ext ts (putA t A)
    refine ⟨m ++ m', by rw [putAs, h3, h1, List.append_assoc], ?_⟩
    rw [Tm.sizes, List.length_append]; omega
end
theorem putA_sub {t : Tm} {A : List Tm} {x : Tm} (h : x ∈ A) : x ∈ putA t A := by
  obtain ⟨m, h1, _⟩ := putA_ext t A; rw [h1]; exact List.mem_append_left _ h
theorem putAs_sub {ts : List Tm} {A : List Tm} {x : Tm} (h : x ∈ A) : x ∈ putAs ts A := by
  obtain ⟨m, h1, _⟩ := putAs_ext ts A; rw [h1]; exact List.mem_append_left _ h
theorem putA_mem (t : Tm) (A : List Tm) : t ∈ putA t A := by rw [putA_eq]; exact mem_addU _ _
theorem putAs_mem : ∀ {ts : List Tm} {A : List Tm} {x : Tm}, x ∈ ts → x ∈ putAs ts A
  | [], _, _, h => by simp at h
  | t :: ts, A, x, h => by
    rw [putAs]
    rcases List.mem_cons.1 h with rfl | h
    · exact putAs_sub (putA_mem _ _)
    · exact putAs_mem h
mutual
theorem putA_av : ∀ (t : Tm) (A : List Tm), AV A → t.all nodeB = true → t.wf → AV (putA t A)
  | .mk k n s ls ts, A, h, hA, hw => by
    rw [putA]
    have ha : ∀ x ∈ ts, x.all nodeB = true := fun x hx => all_kid hA hx
    have hb : ∀ x ∈ ts, x.wf := hw.to.tm
    exact (putAs_av ts A h ha hb).add hA hw (fun x hx => putAs_mem hx)
theorem putAs_av : ∀ (ts : List Tm) (A : List Tm), AV A → (∀ x ∈ ts, x.all nodeB = true) → (∀ x ∈ ts, x.wf) → AV (putAs ts A)
  | [], A, h, _, _ => by rw [putAs]; exact h
  | t :: ts, A, h, hA, hw => by
    rw [putAs]
    exact putAs_av ts _ (putA_av t A h (hA t (by simp)) (hw t (by simp))) (fun x hx => hA x (by simp [hx])) (fun x hx => hw x (by simp [hx]))
end
theorem pos_putAs {ts : List Tm} {A : List Tm} {x : Tm} (h : x ∈ A) : pos (putAs ts A) x = pos A x := by
  obtain ⟨m, h1, _⟩ := putAs_ext ts A; rw [h1, pos_app m h]

theorem three {l : List Int} (h : l.length = 3) : ∃ x y z, l = [x, y, z] := by
  match l, h with
  | [x, y, z], _ => exact ⟨x, y, z, rfl⟩

theorem AS.set {ra rm : Nat} {A : List Tm} {o : Option Nat} {st : St} (h : AS ra rm A o st) {r : Nat} (h1 : r ≠ ra) (h2 : r ≠ rm) (x : Ob) : AS ra rm A o (st.set r x) :=
  ⟨by rw [St.mem_set, if_neg h1.symm]; exact h.ra, by rw [St.mem_set, if_neg h2.symm]; exact h.rm, by have := h.tok; cases o <;> exact this⟩
theorem KeepA.set {ra rm : Nat} {o o' : Option Nat} {st st' : St} (h : KeepA ra rm o st o' st') {r : Nat} (hr : st.mem r = none) (x : Ob) : KeepA ra rm o st o' (st'.set r x) :=
  ⟨fun q y a b c => by rw [St.mem_set, if_neg (fun e => by rw [e, hr] at c; cases c)]; exact h.mem q y a b c, h.tok⟩
theorem set_kid {pre : List Int} {i : Nat} (hi : pre.length = i) (h3 : i < 3) (p : Int) : (pre ++ List.replicate (3 - i) 0).set i p = pre ++ [p] ++ List.replicate (3 - (i + 1)) 0 := by
  rw [show 3 - i = (3 - (i + 1)) + 1 by omega, List.replicate_succ, List.set_append_right _ _ (by omega), hi, Nat.sub_self]
  simp

theorem sem106 : ∀ (t : Tm), t.wf → t.all nodeB = true → t.size ≤ 65536 → ∀ (A : List Tm), AV A → A.length + t.size < 100000 → ∀ (ra rm : Nat) (o : Option Nat) (st : St), AS ra rm A o st → ∀ (k : D → St → Prop),
    (∀ o' st', AS ra rm (putA t A) o' st' → KeepA ra rm o st o' st' → k (.int .i64 (pos (putA t A) t)) st') → Sem P 106 [.ptr ra 0, t.d] st k := by
  intro t
  induction t using Tm.ind with
  | h kk n s ls ts ihT =>
    intro hw hA hsz A hv hlen ra rm o st hS k hk
    have wt := hw.to
    generalize he : Tm.mk kk n s ls ts = t at *
    have hts : ts = t.ts := by rw [← he]; rfl
    rw [hts] at ihT
    clear he hts
    have nt := NodeB.of (all_node hA)
    have hk3 : t.ts.length ≤ 3 := by have := nt.kids; have := kidsN_le t.k; omega
    have hra := hS.ra
    have hrm := hS.rm
    rw [Tm.size_eq] at hlen
    have nb : True := trivial
    refine Sem.of_body Tryz.call106 Tryz.func106 rfl Tryz.ntmps106 (by simp) ?_
    repeat' first | refine yj fun N hN => ?_ | refine yk ?_ | refine yl [5] ?_ | (refine ya rfl rfl fun N hN => ?_; simp only [go_sem, ↓reduceIte, zA, zB, zC, zD, zE, zF, zG, zL, zM, zN, reduceCtorEq, hra, hrm, nb, Tryz.results106]) | (refine yg rfl ?_; try simp only [go_sem]) | ((first | refine yx hN _ _ ?_ | refine yz hN _ _ ?_); clear hN N) | ((refine ys fun r hr => ?_; (have hr1 := hr; try simp only [St.set_none_iff, St.mem_give, St.mem_take] at hr1); (first | have nbq := mem_ne hra hr1 | have nbq := mem_ne hra hr1.2 | have nbq := mem_ne hra hr1.2.2 | have nbq := mem_ne hra hr1.2.2.2 | have nbq := mem_ne hra hr1.2.2.2.2); have nb := And.intro nb nbq; (first | have nbq := mem_ne hrm hr1 | have nbq := mem_ne hrm hr1.2 | have nbq := mem_ne hrm hr1.2.2 | have nbq := mem_ne hrm hr1.2.2.2 | have nbq := mem_ne hrm hr1.2.2.2.2); have nb := And.intro nb nbq; have nb := And.intro nb hr1); try simp only [go_sem, ↓reduceIte, zA, zB, zC, zD, zE, zF, zG, zL, zM, zN, reduceCtorEq, hra, hrm, nb]) | fail
    refine W.loopN (fun m fr st' => ∃ (i : Nat) (A' : List Tm) (o' : Option Nat) (r5 : Nat) (a b c : Int), AS ra rm A' o' st' ∧ KeepA ra rm o st o' st' ∧ AV A' ∧ r5 ≠ ra ∧ r5 ≠ rm ∧ st.mem r5 = none ∧ st'.mem r5 = some (.cells [.int .i64 a, .int .i64 b, .int .i64 c]) ∧
      [a, b, c] = (t.ts.take i).map (fun x => (pos A' x : Int)) ++ List.replicate (3 - i) 0 ∧ (∀ x ∈ t.ts.take i, x ∈ A') ∧ putAs (t.ts.drop i) A' = putAs t.ts A ∧ A'.length + Tm.sizes (t.ts.drop i) ≤ A.length + Tm.sizes t.ts ∧ i + m = t.ts.length ∧
      fr 11 = .int .i64 i ∧ fr 10 = .int .i64 t.ts.length ∧ fr 9 = .sl .frozen 5 (t.ts.map Tm.d) ∧ fr 5 = .ptr r5 0 ∧ fr 3 = .eptr t.d 0 ∧ fr 0 = .ptr ra 0) ?_ t.ts.length _ _
      ⟨0, A, o, r, 0, 0, 0, hS.set (mem_ne hra hr).2 (mem_ne hrm hr).2 _, (KeepA.refl ra rm o st).set hr _, hv, (mem_ne hra hr).2, (mem_ne hrm hr).2, hr, by rw [St.mem_set, if_pos rfl], by simp <;> rfl, by simp, by simp, by simp, by simp,
        by simp only [go_sem, ↓reduceIte, zA, zB, zC, zD, zE, zF, zG, zL, zM, zN, reduceCtorEq]; rfl, by simp only [go_sem, ↓reduceIte, zA, zB, zC, zD, zE, zF, zG, zL, zM, zN, reduceCtorEq], by simp only [go_sem, ↓reduceIte, zA, zB, zC, zD, zE, zF, zG, zL, zM, zN, reduceCtorEq], by simp only [go_sem, ↓reduceIte, zA, zB, zC, zD, zE, zF, zG, zL, zM, zN, reduceCtorEq], by simp only [go_sem, ↓reduceIte, zA, zB, zC, zD, zE, zF, zG, zL, zM, zN, reduceCtorEq], by simp only [go_sem, ↓reduceIte, zA, zB, zC, zD, zE, zF, zG, zL, zM, zN, reduceCtorEq]⟩
    clear nb
    rintro m N' ih fr st' ⟨i, A', o', r5, a, b, c, gS, gK, gv, n1, n2, n0, g5, gk, gm, gp, gl, hi, f11, f10, f9, f5, f3, f0⟩
    have nb : True := trivial
    have gra := gS.ra
    have grm := gS.rm
    rw [Tm.size_eq] at hsz
    rcases Nat.lt_or_ge i t.ts.length with hlt | hge
    · have hg : (t.ts.map Tm.d).getD i .any = (t.ts.getD i Tm.z).d := getD_map _ _ _ hlt
      have h4 : (i : Int) < t.ts.length := by omega
      have hm := getD_mem t.ts Tm.z hlt
      have hms := Tm.sizes_mem hm
      have htk := take_succ_getD t.ts Tm.z hlt
      rw [drop_getD _ Tm.z hlt, putAs] at gp
      rw [drop_getD _ Tm.z hlt, Tm.sizes] at gl
      have hxw := wt.tm _ hm
      have hxA := all_kid hA hm
      generalize t.ts.getD i Tm.z = x at *
      have hset := set_kid (pre := (t.ts.take i).map (fun x => (pos (putA x A') x : Int))) (i := i) (by simp; omega) (by omega) (pos (putA x A') x)
      have hi3 : i < 3 := by omega
      repeat' first | rw [yu hr] | refine yj fun N hN => ?_ | refine yk ?_ | refine yl [5] ?_ | ((first | refine ya rfl rfl fun N hN => ?_ | refine ym ?_); simp only [go_sem, ↓reduceIte, zA, zB, zC, zD, zE, zF, zG, zL, zM, zN, reduceCtorEq, f11, f10, f9, f5, f3, f0, gra, grm, g5, hg, hlt, h4, nb, Tryz.results106]) | ((first | refine yg rfl ?_ | refine yn ?_); try simp only [go_sem]) | ((first | refine yx hN _ _ ?_ | refine yz hN _ _ ?_); clear hN N) | ((refine ys fun r hr => ?_; (have hr1 := hr; try simp only [St.set_none_iff, St.mem_give, St.mem_take] at hr1); (first | have nbq := mem_ne gra hr1 | have nbq := mem_ne gra hr1.2 | have nbq := mem_ne gra hr1.2.2 | have nbq := mem_ne gra hr1.2.2.2 | have nbq := mem_ne gra hr1.2.2.2.2); have nb := And.intro nb nbq; (first | have nbq := mem_ne grm hr1 | have nbq := mem_ne grm hr1.2 | have nbq := mem_ne grm hr1.2.2 | have nbq := mem_ne grm hr1.2.2.2 | have nbq := mem_ne grm hr1.2.2.2.2); have nb := And.intro nb nbq; (first | have nbq := mem_ne g5 hr1 | have nbq := mem_ne g5 hr1.2 | have nbq := mem_ne g5 hr1.2.2 | have nbq := mem_ne g5 hr1.2.2.2 | have nbq := mem_ne g5 hr1.2.2.2.2); have nb := And.intro nb nbq; have nb := And.intro nb hr1); try simp only [go_sem, ↓reduceIte, zA, zB, zC, zD, zE, zF, zG, zL, zM, zN, reduceCtorEq, f11, f10, f9, f5, f3, f0, gra, grm, g5, hg, hlt, h4, nb]) | fail
      refine ihT x hm hxw hxA (by omega) A' gv (by omega) ra rm o' st' gS _ (fun o2 st2 uS uK => ?_)
      have u5 := uK.mem r5 _ n1 n2 g5
      have hp0 : 0 ≤ ((pos (putA x A') x : Nat) : Int) := by omega
      have hnew : ∀ a' b' c' : Int, [a', b', c'] = [a, b, c].set i (pos (putA x A') x) → [a', b', c'] = (t.ts.take (i + 1)).map (fun z => (pos (putA x A') z : Int)) ++ List.replicate (3 - (i + 1)) 0 := by
        intro a' b' c' e
        rw [e, gk, htk, List.map_append, List.map_cons, List.map_nil]
        rw [show (t.ts.take i).map (fun z => (pos A' z : Int)) = (t.ts.take i).map (fun z => (pos (putA x A') z : Int)) from List.map_congr_left fun z hz => by
          obtain ⟨mm, e1, _⟩ := putA_ext x A'
          rw [e1, pos_app mm (gm z hz)]]
        exact set_kid (by simp; omega) (by omega) _
      have hmem2 : ∀ z ∈ t.ts.take (i + 1), z ∈ putA x A' := by
        intro z hz
        rw [htk] at hz
        rcases List.mem_append.1 hz with hz | hz
        · exact putA_sub (gm z hz)
        · simp only [List.mem_singleton] at hz; rw [hz]; exact putA_mem _ _
      have hl2 : (putA x A').length + Tm.sizes (t.ts.drop (i + 1)) ≤ A.length + Tm.sizes t.ts := by
        obtain ⟨mm, e1, e2⟩ := putA_ext x A'
        rw [e1, List.length_append]; omega
      rcases (show i = 0 ∨ i = 1 ∨ i = 2 by omega) with e | e | e
      all_goals (
        subst e
        repeat' first | refine yj fun N hN => ?_ | refine yl [5] ?_ | ((first | refine ya rfl rfl fun N hN => ?_ | refine ym ?_); simp only [go_sem, ↓reduceIte, zA, zB, zC, zD, zE, zF, zG, zL, zM, zN, reduceCtorEq, f11, f10, f9, f5, f3, f0, u5, hg, hlt, h4, nb, Tryz.results106]) | ((first | refine yg rfl ?_ | refine yn ?_); try simp only [go_sem]) | ((first | refine yx hN _ _ ?_ | refine yz hN _ _ ?_); clear hN N) | ((apply And.intro <;> intro h) <;> (try simp only [zS, zT, zU, zV, Bool.not_true, Bool.not_false] at h) <;> (first | (exfalso; omega) | simp only [go_sem, ↓reduceIte, zA, zB, zC, zD, zE, zF, zG, zL, zM, zN, reduceCtorEq, f11, f10, f9, f5, f3, f0, u5, hg, hlt, h4, nb, h] | skip)) | (refine And.intro ?_ ?_; · omega) | clear hN N | fail
        refine ih.back (m - 1) (by omega) _ _ ⟨_ + 1, putA x A', o2, r5, _, _, _, uS.set n1 n2 _, (gK.trans uK).set n0 _, putA_av x A' gv hxA hxw, n1, n2, n0, by rw [St.mem_set, if_pos rfl], hnew _ _ _ rfl, hmem2, gp, hl2, by omega, ?_, ?_, ?_, ?_, ?_, ?_⟩
        · simp only [go_sem, ↓reduceIte, zA, zB, zC, zD, zE, zF, zG, zL, zM, zN, reduceCtorEq]; rfl
        · simp only [go_sem, ↓reduceIte, zA, zB, zC, zD, zE, zF, zG, zL, zM, zN, reduceCtorEq, f10]
        · simp only [go_sem, ↓reduceIte, zA, zB, zC, zD, zE, zF, zG, zL, zM, zN, reduceCtorEq, f9]
        · simp only [go_sem, ↓reduceIte, zA, zB, zC, zD, zE, zF, zG, zL, zM, zN, reduceCtorEq, f5]
        · simp only [go_sem, ↓reduceIte, zA, zB, zC, zD, zE, zF, zG, zL, zM, zN, reduceCtorEq, f3]
        · simp only [go_sem, ↓reduceIte, zA, zB, zC, zD, zE, zF, zG, zL, zM, zN, reduceCtorEq, f0])
    · have h4 : ¬ (i : Int) < t.ts.length := by omega
      have hil : i = t.ts.length := by omega
      rw [List.drop_of_length_le hge, putAs] at gp
      rw [List.drop_of_length_le hge, Tm.sizes] at gl
      rw [List.take_of_length_le hge] at gk gm
      have hkn : kidNs A' t = [a, b, c] := by rw [gk, kidNs, hil]
      rw [putA_eq, ← gp, pos_addU] at hk
      repeat' first | refine yj fun N hN => ?_ | refine yl [5] ?_ | ((first | refine ya rfl rfl fun N hN => ?_ | refine ym ?_ | refine yo ?_ | refine yp ?_); simp only [go_sem, ↓reduceIte, zA, zB, zC, zD, zE, zF, zG, zL, zM, zN, reduceCtorEq, f11, f10, f9, f5, f3, f0, gra, grm, g5, h4, Tryz.results106]) | (refine yg rfl ?_; try simp only [go_sem]) | ((first | refine yx hN _ _ ?_ | refine yz hN _ _ ?_); clear hN N) | (refine sem116 t hw hA (by rw [Tm.size_eq]; omega) A' gv (by omega) gm ra rm o' st' gS a b c hkn _ (fun o2 st2 uS uK => ?_); try simp only [go_sem, ↓reduceIte, zA, zB, zC, zD, zE, zF, zG, zL, zM, zN, reduceCtorEq, f11, f10, f9, f5, f3, f0, gra, grm, g5, h4]) | clear hN N | fail
      all_goals exact hk o2 st2 uS (gK.trans uK)

theorem okT3_all {t : Tm} (h : okT3 t = true) : t.all nodeB = true ∧ t.size ≤ 65536 ∧ t.deep ≤ 4096 := by
  simp only [okT3, Bool.and_eq_true, decide_eq_true_eq] at h; exact ⟨h.1.1, h.1.2, h.2⟩

theorem sem90 (t : Tm) (hw : t.wf) (ho : okT3 t = true) (A : List Tm) (hv : AV A) (hlen : A.length + t.size < 100000) (ra rm : Nat) (o : Option Nat) (st : St) (hS : AS ra rm A o st) (k : D → St → Prop)
    (hk : ∀ o' st', AS ra rm (putA t A) o' st' → KeepA ra rm o st o' st' → k (.tup [.int .i64 (pos (putA t A) t), .int .i64 0]) st') : Sem P 90 [.ptr ra 0, t.d] st k := by
  obtain ⟨h1, h2, h3⟩ := okT3_all ho
  have hra := hS.ra
  have hrm := hS.rm
  have hms := hS.tok
  have hfl : (ndD A o).flat = true := by cases o <;> rfl
  have hp0 : 0 ≤ ((pos (putA t A) t : Nat) : Int) := by omega
  cases o with
  | none =>
    simp only [ndD] at hra
    refine Sem.of_body Tryz.call90 Tryz.func90 rfl Tryz.ntmps90 (by simp) ?_
    repeat' first | refine yj fun N hN => ?_ | refine yk ?_ | refine yl [] ?_ | ((first | refine ya rfl rfl fun N hN => ?_ | refine ym ?_ | refine yo ?_); simp only [go_sem, ↓reduceIte, zA, zB, zC, zD, zE, zF, zG, zL, zM, zN, reduceCtorEq, hra, hrm, ho, Tryz.results90]) | ((first | refine yg rfl ?_ | refine yn ?_); try simp only [go_sem]) | ((first | refine yx hN _ _ ?_ | refine yz hN _ _ ?_); clear hN N) | (refine sem60 t hw _ _ ?_; try simp only [go_sem, ↓reduceIte, zA, zB, zC, zD, zE, zF, zG, zL, zM, zN, reduceCtorEq, hra, hrm, ho]) | (refine sem106 t hw h1 h2 A hv hlen ra rm none st hS _ (fun o2 st2 uS uK => ?_); try simp only [go_sem, ↓reduceIte, zA, zB, zC, zD, zE, zF, zG, zL, zM, zN, reduceCtorEq, hra, hrm, ho]) | ((apply And.intro <;> intro h) <;> (try simp only [zS, zT, zU, zV, Bool.not_true, Bool.not_false] at h) <;> (first | (exfalso; omega) | simp only [go_sem, ↓reduceIte, zA, zB, zC, zD, zE, zF, zG, zL, zM, zN, reduceCtorEq, hra, hrm, ho, h] | skip)) | fail
    all_goals exact hk o2 st2 uS uK
  | some j =>
    simp only [ndD] at hra
    refine Sem.of_body Tryz.call90 Tryz.func90 rfl Tryz.ntmps90 (by simp) ?_
    repeat' first | refine yj fun N hN => ?_ | refine yk ?_ | refine yl [] ?_ | ((first | refine ya rfl rfl fun N hN => ?_ | refine ym ?_ | refine yo ?_); simp only [go_sem, ↓reduceIte, zA, zB, zC, zD, zE, zF, zG, zL, zM, zN, reduceCtorEq, hra, hrm, ho, Tryz.results90]) | ((first | refine yg rfl ?_ | refine yn ?_); try simp only [go_sem]) | ((first | refine yx hN _ _ ?_ | refine yz hN _ _ ?_); clear hN N) | (refine sem60 t hw _ _ ?_; try simp only [go_sem, ↓reduceIte, zA, zB, zC, zD, zE, zF, zG, zL, zM, zN, reduceCtorEq, hra, hrm, ho]) | (refine sem106 t hw h1 h2 A hv hlen ra rm (some j) st hS _ (fun o2 st2 uS uK => ?_); try simp only [go_sem, ↓reduceIte, zA, zB, zC, zD, zE, zF, zG, zL, zM, zN, reduceCtorEq, hra, hrm, ho]) | ((apply And.intro <;> intro h) <;> (try simp only [zS, zT, zU, zV, Bool.not_true, Bool.not_false] at h) <;> (first | (exfalso; omega) | simp only [go_sem, ↓reduceIte, zA, zB, zC, zD, zE, zF, zG, zL, zM, zN, reduceCtorEq, hra, hrm, ho, h] | skip)) | fail
    all_goals exact hk o2 st2 uS uK
end Go.Proofs.YtddbidoaolnegaaGreatDoor
