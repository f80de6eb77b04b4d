/-
PART OF A CLAIM: PD. No statement of the seat is proved here; no condition. -/
import Derived.Test.YtddbidoaolnegaaGreatDoorWO8
import Derived.Test.YtddbidoaolnegaaGreatDoorWO13
set_option linter.all false
/- Tables as lists: plain laws; the arena's nodes. No statement of the seat is proved here; no condition. -/
namespace Go.Proofs.YtddbidoaolnegaaGreatDoor
open Go Go.RowKit
open Nat renaming reduceLT → zA, reduceEqDiff → zB, reduceBEq → zC, reduceAdd → zD, reduceMul → zE, reduceSub → zF, reduceLeDiff → zG, mul_one → zH, zero_add → zI, add_zero → zJ
open Int renaming toNat_natCast → zK, reduceAdd → zL, reduceLE → zM, reduceLT → zN, natCast_nonneg → zO
open Go.Proofs.YtddbidoaolnegaaGreatDoor renaming evI_plain → ya, evI_guard → yb, evT_rd → yc, evT_rdg → yd, evT_act → ye, evT_actg → yf, evI_done → yg, evT_two → yh, evT_nil → yi, W.seqG → yj, W.block → yk, W.regionI → yl, W.cond → ym, W.skip → yn, W.ret → yo, W.exit → yp, gdD_split → yq, newT_intro → yr, newB_intro → ys, W.draw → yt, St.set_del → yu, St.give_take → yv, AGo.go → yw, IGo.go → yx, TGo.go → yy, Goes.go → yz
attribute [local go_sem] zK zP zQ zH zI zJ zO
attribute [local irreducible] W evI evT evL evOp evBin gdD Sem newT newB fillD bldOf
set_option maxRecDepth 10000
set_option maxHeartbeats 1000000

theorem St.set_none {st : St} {q r : Nat} {o : Ob} (h : (st.set q o).mem r = none) : r ≠ q ∧ st.mem r = none := by
  rw [St.mem_set] at h
  split at h
  · cases h
  · rename_i hne; exact ⟨hne, h⟩
theorem St.set_none_iff {st : St} {q r : Nat} {o : Ob} : (st.set q o).mem r = none ↔ (r ≠ q ∧ q ≠ r) ∧ st.mem r = none :=
  ⟨fun h => ⟨⟨(St.set_none h).1, (St.set_none h).1.symm⟩, (St.set_none h).2⟩, fun h => by rw [St.mem_set, if_neg h.1.1]; exact h.2⟩
theorem mem_ne {st : St} {q r : Nat} {o : Ob} (h : st.mem q = some o) (hr : st.mem r = none) : q ≠ r ∧ r ≠ q := by
  have : q ≠ r := fun e => by rw [e, hr] at h; cases h
  exact ⟨this, this.symm⟩
theorem fillD_nil (offs : Nat → Option Nat) (cs : List D) : fillD offs cs [] = some cs := by unfold fillD; rfl
theorem fillD_cons (offs : Nat → Option Nat) (cs : List D) (i : Nat) (d : D) (r : List (Nat × D)) : fillD offs cs ((i, d) :: r) = (offs i).bind fun o => if o + d.cells.length ≤ cs.length then fillD offs (splice cs o d.cells) r else none := by
  rw [fillD.eq_def]
attribute [go_sem] fillD_nil fillD_cons

section pos
variable {α : Type}
open Classical in
/-- Where something stands in a list; the list's length: nowhere. -/
noncomputable def pos : List α → α → Nat
  | [], _ => 0
  | y :: l, x => if y = x then 0 else pos l x + 1
open Classical in
noncomputable def addU (l : List α) (x : α) : List α := if x ∈ l then l else l ++ [x]

theorem pos_lt : ∀ {l : List α} {x : α}, x ∈ l → pos l x < l.length
  | [], _, h => by simp at h
  | y :: l, x, h => by
    rw [pos]
    split
    · simp
    · rename_i hne
      rcases List.mem_cons.1 h with rfl | h
      · exact absurd rfl hne
      · have := pos_lt h; simp; omega
theorem pos_not : ∀ {l : List α} {x : α}, x ∉ l → pos l x = l.length
  | [], _, _ => rfl
  | y :: l, x, h => by
    simp only [List.mem_cons, not_or] at h
    rw [pos, if_neg (fun e => h.1 e.symm), pos_not h.2]; rfl
theorem pos_le (l : List α) (x : α) : pos l x ≤ l.length := by
  by_cases h : x ∈ l
  · exact Nat.le_of_lt (pos_lt h)
  · rw [pos_not h]; exact Nat.le_refl _
theorem pos_getD : ∀ {l : List α} {x : α} (z : α), x ∈ l → l.getD (pos l x) z = x
  | [], _, _, h => by simp at h
  | y :: l, x, z, h => by
    rw [pos]
    split
    · rename_i e; simp [e]
    · rename_i hne
      rcases List.mem_cons.1 h with rfl | h
      · exact absurd rfl hne
      · rw [List.getD_cons_succ]; exact pos_getD z h
theorem pos_app : ∀ {l : List α} {x : α} (m : List α), x ∈ l → pos (l ++ m) x = pos l x
  | [], _, _, h => by simp at h
  | y :: l, x, m, h => by
    rw [List.cons_append, pos, pos]
    split
    · rfl
    · rename_i hne
      rcases List.mem_cons.1 h with rfl | h
      · exact absurd rfl hne
      · rw [pos_app m h]
theorem pos_inj {l : List α} {x y : α} (hx : x ∈ l) (hy : y ∈ l) (h : pos l x = pos l y) : x = y := by
  rw [← pos_getD x hx, h, pos_getD x hy]
theorem addU_mem {l : List α} {x : α} (h : x ∈ l) : addU l x = l := by rw [addU, if_pos h]
theorem addU_new {l : List α} {x : α} (h : x ∉ l) : addU l x = l ++ [x] := by rw [addU, if_neg h]
theorem mem_addU (l : List α) (x : α) : x ∈ addU l x := by
  by_cases h : x ∈ l
  · rw [addU_mem h]; exact h
  · rw [addU_new h]; simp
theorem pos_addU (l : List α) (x : α) : pos (addU l x) x = pos l x := by
  by_cases h : x ∈ l
  · rw [addU_mem h]
  · rw [addU_new h, pos_not h]
    have := pos_getD x (show x ∈ l ++ [x] by simp)
    have h1 : ∀ {l : List α}, x ∉ l → pos (l ++ [x]) x = l.length := by
      intro l
      induction l with
      | nil => intro _; simp [pos]
      | cons y l ih =>
        intro h
        simp only [List.mem_cons, not_or] at h
        rw [List.cons_append, pos, if_neg (fun e => h.1 e.symm), ih h.2]; rfl
    exact h1 h
theorem addU_nodup {l : List α} {x : α} (h : l.Nodup) : (addU l x).Nodup := by
  by_cases hx : x ∈ l
  · rw [addU_mem hx]; exact h
  · rw [addU_new hx]
    exact List.nodup_append.2 ⟨h, by simp, by
      intro a ha b hb e
      simp only [List.mem_singleton] at hb
      rw [e, hb] at ha; exact hx ha⟩
end pos

section maps
variable {α : Type}
theorem find_mem {l : List α} {f : α → Value} {g : α → D} {x : α} (hx : x ∈ l) (hinj : ∀ a ∈ l, ∀ b ∈ l, f a = f b → a = b) : find (l.map fun t => (f t, g t)) (f x) = some (g x) := by
  unfold find
  induction l with
  | nil => simp at hx
  | cons y l ih =>
    rw [List.map_cons, List.find?_cons]
    by_cases e : f y = f x
    · have := hinj y (by simp) x hx e
      subst this
      simp
    · simp only [e, decide_false]
      rcases List.mem_cons.1 hx with rfl | hx
      · exact absurd rfl e
      · exact ih hx (fun a ha b hb => hinj a (by simp [ha]) b (by simp [hb]))
theorem find_miss {l : List α} {f : α → Value} {g : α → D} {v : Value} (h : ∀ a ∈ l, f a ≠ v) : find (l.map fun t => (f t, g t)) v = none :=
  find_none (by
    intro x hx
    obtain ⟨a, ha, rfl⟩ := List.mem_map.1 hx
    exact h a ha)
theorem upd_miss {l : List α} {f : α → Value} {g : α → D} {v : Value} {d : D} (h : ∀ a ∈ l, f a ≠ v) : upd (l.map fun t => (f t, g t)) v d = (l.map fun t => (f t, g t)) ++ [(v, d)] :=
  upd_new (by
    intro x hx
    obtain ⟨a, ha, rfl⟩ := List.mem_map.1 hx
    exact h a ha)
end maps

/-! Keys of nodes. -/
def lsI (ls : List Lv) : List Int := ls.flatMap (fun l => l.c :: l.p) ++ List.replicate (20 - 5 * ls.length) 0
def kyI (t : Tm) (ks : List Int) : List Int := (t.ls.length : Int) :: (lsI t.ls ++ ks)
def kyC (t : Tm) (ks : List Int) : List D := .int .u8 t.k :: .int .i64 t.n :: .str t.s :: (kyI t ks).map (.int .i64)
def kyV (t : Tm) (ks : List Int) : Value := .agg (.int .u8 (t.k : Int) :: iv t.n :: .string ⟨t.s.toArray⟩ :: (kyI t ks).map iv).toArray

theorem flatLen : ∀ (ls : List Lv), (ls.flatMap (fun l => l.c :: l.p)).length = 5 * ls.length
  | [] => rfl
  | l :: ls => by rw [List.flatMap_cons, List.length_append, flatLen ls]; simp [l.n]; omega
theorem lsI_len {ls : List Lv} (h : ls.length ≤ 4) : (lsI ls).length = 20 := by
  rw [lsI, List.length_append, flatLen, List.length_replicate]; omega
theorem kyC_len {t : Tm} {ks : List Int} (h : t.ls.length ≤ 4) (hk : ks.length = 3) : (kyC t ks).length = 27 := by
  simp only [kyC, kyI, List.length_cons, List.length_map, List.length_append, lsI_len h, hk]

theorem keyCs_ints : ∀ (l : List Int), keyCs (l.map (D.int .i64)) = some (l.map iv)
  | [] => rfl
  | a :: l => by simp only [List.map_cons, keyCs, keyC, keyCs_ints l]; rfl
theorem keyV_ky (t : Tm) (ks : List Int) : keyV (.agg (kyC t ks)) = some (kyV t ks) := by
  simp only [keyV, kyC, keyCs, keyC, keyCs_ints, Option.bind_some, Option.map_some, kyV]; rfl

theorem lsI_ok {ls : List Lv} (h : ls.length ≤ 4) (hw : ∀ l ∈ ls, l.wf) : ∀ i, i < 4 → LvC ((((lsI ls).map iv).drop (i * 5)).take 5) := by
  have z : LvC [iv 0, iv 0, iv 0, iv 0, iv 0] := ⟨0, [0, 0, 0, 0], rfl, rfl, by simp [fits], by simp [fits]⟩
  have one : ∀ l : Lv, l.wf → LvC (iv l.c :: l.p.map iv) := fun l hl => ⟨l.c, l.p, rfl, l.n, ⟨hl.1, hl.2.1⟩, fun x hx => by
    obtain ⟨j, hj, rfl⟩ := List.getElem_of_mem hx
    have := hl.2.2 j (by have := l.n; omega)
    simpa [List.getD, hj, fits] using this⟩
  have key : ∀ (ls : List Lv) (m : Nat), (∀ l ∈ ls, l.wf) → ∀ i, i < ls.length + m → LvC ((((ls.flatMap (fun l : Lv => l.c :: l.p) ++ List.replicate (5 * m) 0).map iv).drop (i * 5)).take 5) := by
    intro ls
    induction ls with
    | nil =>
      intro m _ i hi
      simp only [List.flatMap_nil, List.nil_append, List.map_replicate, List.drop_replicate, List.take_replicate]
      simp only [List.length_nil, Nat.zero_add] at hi
      rw [show min 5 (5 * m - i * 5) = 5 by omega]
      exact z
    | cons l ls ih =>
      intro m hw i hi
      cases i with
      | zero =>
        have e : (List.map iv (List.flatMap (fun l : Lv => l.c :: l.p) (l :: ls) ++ List.replicate (5 * m) 0)) = (iv l.c :: l.p.map iv) ++ List.map iv (List.flatMap (fun l : Lv => l.c :: l.p) ls ++ List.replicate (5 * m) 0) := by
          simp [List.flatMap_cons]
        rw [e, Nat.zero_mul, List.drop_zero, List.take_left' (by simp [l.n])]
        exact one l (hw l (by simp))
      | succ i =>
        have e : (List.map iv (List.flatMap (fun l : Lv => l.c :: l.p) (l :: ls) ++ List.replicate (5 * m) 0)) = (iv l.c :: l.p.map iv) ++ List.map iv (List.flatMap (fun l : Lv => l.c :: l.p) ls ++ List.replicate (5 * m) 0) := by
          simp [List.flatMap_cons]
        rw [e, show (i + 1) * 5 = 5 + i * 5 by omega, ← List.drop_drop, List.drop_left' (by simp [l.n])]
        exact ih m (fun x hx => hw x (by simp [hx])) i (by simp at hi; omega)
  intro i hi
  have := key ls (4 - ls.length) hw i (by omega)
  rw [show 5 * (4 - ls.length) = 20 - 5 * ls.length by omega] at this
  exact this

theorem keyOkKy {t : Tm} (hw : t.wf) (h : t.ls.length ≤ 4) {ks : List Int} (hk : ks.length = 3) (hf : ∀ x ∈ ks, fits x) : KeyOk P 177 (kyV t ks) := by
  have wt := hw.to
  have := keyOk177 (k := t.k) (n := t.n) (len := t.ls.length) (s := t.s) (ls := (lsI t.ls).map iv) (ks := ks) ⟨by omega, by have := wt.k; omega⟩ wt.n (by have := wt.s; omega) ⟨by omega, by omega⟩
    (by rw [List.length_map, lsI_len h]) (lsI_ok h wt.lv) hk hf
  have e : (Value.int .u8 (t.k : Int) :: iv t.n :: .string ⟨t.s.toArray⟩ :: iv t.ls.length :: (List.map iv (lsI t.ls) ++ List.map iv ks)) = (.int .u8 (t.k : Int) :: iv t.n :: .string ⟨t.s.toArray⟩ :: (kyI t ks).map iv) := by
    simp [kyI]
  rw [e] at this
  exact this

theorem iv_inj {a b : Int} (h : iv a = iv b) : a = b := by simpa [iv] using h
theorem map_iv_inj : ∀ {a b : List Int}, a.map iv = b.map iv → a = b
  | [], [], _ => rfl
  | [], _ :: _, h => by simp at h
  | _ :: _, [], h => by simp at h
  | x :: a, y :: b, h => by
    simp only [List.map_cons, List.cons.injEq] at h
    rw [iv_inj h.1, map_iv_inj h.2]
theorem flat_inj : ∀ {a b : List Lv}, a.length = b.length → a.flatMap (fun l => l.c :: l.p) = b.flatMap (fun l => l.c :: l.p) → a = b
  | [], [], _, _ => rfl
  | [], b :: bs, h, _ => by simp at h
  | a :: r, [], h, _ => by simp at h
  | a :: r, b :: bs, h, e => by
    simp only [List.flatMap_cons] at e
    obtain ⟨h1, h2⟩ := List.append_inj e (by simp [a.n, b.n])
    have : a = b := by
      cases a; cases b
      simp only [List.cons.injEq] at h1
      obtain ⟨rfl, rfl⟩ := h1
      rfl
    rw [this, flat_inj (by simpa using h) h2]
theorem kyV_inj {t u : Tm} {ks js : List Int} (ht : t.ls.length ≤ 4) (hu : u.ls.length ≤ 4) (e : kyV t ks = kyV u js) : t.k = u.k ∧ t.n = u.n ∧ t.s = u.s ∧ t.ls = u.ls ∧ ks = js := by
  have e0 := congrArg Array.toList (Value.agg.inj e)
  have a1 := List.cons.inj e0
  have a2 := List.cons.inj a1.2
  have a3 := List.cons.inj a2.2
  have e1 : (t.k : Int) = u.k := (Value.int.inj a1.1).2
  have e2 := a2.1
  have e3 : t.s = u.s := by
    have := ByteArray.mk.inj (Value.string.inj a3.1)
    exact congrArg Array.toList this
  have e4 := a3.2
  have e5 := map_iv_inj e4
  simp only [kyI, List.cons.injEq] at e5
  obtain ⟨h1, h2⟩ := List.append_inj e5.2 (by rw [lsI_len ht, lsI_len hu])
  have hl : t.ls.length = u.ls.length := by omega
  simp only [lsI, hl] at h1
  obtain ⟨h3, _⟩ := List.append_inj h1 (by rw [flatLen, flatLen, hl])
  exact ⟨by omega, iv_inj e2, e3, flat_inj hl h3, h2⟩

/-! The arena's list. -/
noncomputable def kidNs (A : List Tm) (t : Tm) : List Int := t.ts.map (fun x => (pos A x : Int)) ++ List.replicate (3 - t.ts.length) 0
theorem kidsN_le (k : Nat) : kidsN k ≤ 3 := by
  unfold kidsN; split
  · omega
  · split
    · omega
    · split
      · omega
      · split <;> omega
structure NodeB (t : Tm) : Prop where
  kids : (t.ts.length : Int) = kidsN t.k
  lv : t.ls.all lvB = true
  ls : t.ls.length ≤ 4
  n : 0 ≤ t.n ∧ t.n ≤ 1048576
  name : (t.k = 3 ∨ t.k = 8) → nameB t.s = true
  nons : ¬ (t.k = 3 ∨ t.k = 8) → t.s = []
theorem NodeB.of {t : Tm} (h : nodeB t = true) : NodeB t := by
  simp only [nodeB, Bool.and_eq_true, decide_eq_true_eq] at h
  obtain ⟨⟨⟨⟨⟨h0, h1⟩, h2⟩, h3⟩, h4⟩, h5⟩ := h
  refine ⟨h1, h2, ?_, ?_, fun h => ?_, fun h => ?_⟩
  · split at h5
    · simp only [decide_eq_true_eq] at h5; omega
    · split at h5 <;> simp only [decide_eq_true_eq] at h5 <;> omega
  · split at h4
    · simp only [Bool.and_eq_true, decide_eq_true_eq] at h4; exact h4
    · split at h4
      · simp only [Bool.and_eq_true, decide_eq_true_eq] at h4; omega
      · simp only [decide_eq_true_eq] at h4; omega
  · rw [if_pos h] at h3; exact h3
  · rw [if_neg h] at h3; simpa using h3
theorem kidNs_len {A : List Tm} {t : Tm} (h : nodeB t = true) : (kidNs A t).length = 3 := by
  have h1 := (NodeB.of h).kids
  have h2 := kidsN_le t.k
  rw [kidNs, List.length_append, List.length_map, List.length_replicate]; omega

/-- The arena's terms: each once, with what it is made of. -/
structure AV (A : List Tm) : Prop where
  nodup : A.Nodup
  ok : ∀ t ∈ A, t.all nodeB = true
  wf : ∀ t ∈ A, t.wf
  kids : ∀ t ∈ A, ∀ x ∈ t.ts, x ∈ A
theorem AV.nil : AV [] := ⟨List.nodup_nil, by simp, by simp, by simp⟩
theorem all_node {t : Tm} (h : t.all nodeB = true) : nodeB t = true := by rw [Tm.all_eq, Bool.and_eq_true] at h; exact h.1
theorem all_kid {q : Tm → Bool} {t x : Tm} (h : t.all q = true) (hx : x ∈ t.ts) : x.all q = true := by
  rw [Tm.all_eq, Bool.and_eq_true, Tm.alls_all, List.all_eq_true] at h
  exact h.2 x hx
theorem AV.add {A : List Tm} (h : AV A) {t : Tm} (ht : t.all nodeB = true) (hw : t.wf) (hk : ∀ x ∈ t.ts, x ∈ A) : AV (addU A t) := by
  by_cases hm : t ∈ A
  · rw [addU_mem hm]; exact h
  · refine ⟨addU_nodup h.nodup, ?_, ?_, ?_⟩ <;> rw [addU_new hm]
    · intro x hx; rcases List.mem_append.1 hx with hx | hx
      · exact h.ok x hx
      · simp only [List.mem_singleton] at hx; rw [hx]; exact ht
    · intro x hx; rcases List.mem_append.1 hx with hx | hx
      · exact h.wf x hx
      · simp only [List.mem_singleton] at hx; rw [hx]; exact hw
    · intro x hx y hy; rcases List.mem_append.1 hx with hx | hx
      · exact List.mem_append_left _ (h.kids x hx y hy)
      · simp only [List.mem_singleton] at hx; rw [hx] at hy; exact List.mem_append_left _ (hk y hy)

theorem Tm.ext' {t u : Tm} (h1 : t.k = u.k) (h2 : t.n = u.n) (h3 : t.s = u.s) (h4 : t.ls = u.ls) (h5 : t.ts = u.ts) : t = u := by
  cases t; cases u; simp only [Tm.k, Tm.n, Tm.s, Tm.ls, Tm.ts] at *; subst h1 h2 h3 h4 h5; rfl
theorem map_pos_inj {A : List Tm} : ∀ {a b : List Tm}, (∀ x ∈ a, x ∈ A) → (∀ x ∈ b, x ∈ A) → a.map (fun x => (pos A x : Int)) = b.map (fun x => (pos A x : Int)) → a = b
  | [], [], _, _, _ => rfl
  | [], b :: bs, _, _, e => by simp at e
  | a :: r, [], _, _, e => by simp at e
  | a :: r, b :: bs, ha, hb, e => by
    simp only [List.map_cons, List.cons.injEq] at e
    rw [pos_inj (ha a (by simp)) (hb b (by simp)) (by omega), map_pos_inj (fun x hx => ha x (by simp [hx])) (fun x hx => hb x (by simp [hx])) e.2]
/-- Terms that are made of the arena's are told by their keys. -/
theorem ky_inj {A : List Tm} {t u : Tm} (ht : nodeB t = true) (hu : nodeB u = true) (kt : ∀ x ∈ t.ts, x ∈ A) (ku : ∀ x ∈ u.ts, x ∈ A) (e : kyV t (kidNs A t) = kyV u (kidNs A u)) : t = u := by
  have nt := NodeB.of ht
  have nu := NodeB.of hu
  obtain ⟨h1, h2, h3, h4, h5⟩ := kyV_inj nt.ls nu.ls e
  have hl : t.ts.length = u.ts.length := by have a := nt.kids; have b := nu.kids; rw [h1] at a; omega
  simp only [kidNs, hl] at h5
  obtain ⟨h6, _⟩ := List.append_inj h5 (by simp [hl])
  exact Tm.ext' h1 h2 h3 h4 (map_pos_inj kt ku h6)
theorem kidNs_ext {A : List Tm} {t : Tm} (m : List Tm) (h : ∀ x ∈ t.ts, x ∈ A) : kidNs (A ++ m) t = kidNs A t := by
  unfold kidNs
  congr 1
  refine List.map_congr_left fun x hx => ?_
  rw [pos_app m (h x hx)]

/-- What each node has as the greatest free variable. -/
def bnd (k i : Nat) : Nat := if (k = 5 ∨ k = 6) ∧ i = 1 ∨ k = 7 ∧ i = 2 then 1 else 0
mutual
def Tm.fr : Tm → Int
  | .mk k n _ _ ts => Tm.frs k ts 0 (if k = 2 then n + 1 else 0)
def Tm.frs (k : Nat) : List Tm → Nat → Int → Int
  | [], _, a => a
  | t :: ts, i, a => Tm.frs k ts (i + 1) (max a (t.fr - bnd k i))
end
theorem Tm.fr_eq (t : Tm) : t.fr = Tm.frs t.k t.ts 0 (if t.k = 2 then t.n + 1 else 0) := by cases t; rw [Tm.fr]; rfl
theorem Tm.frs_bound {k : Nat} : ∀ {ts : List Tm} {i : Nat} {a : Int}, (∀ t ∈ ts, 0 ≤ t.fr ∧ t.fr ≤ 1048577) → 0 ≤ a → a ≤ 1048577 → 0 ≤ Tm.frs k ts i a ∧ Tm.frs k ts i a ≤ 1048577
  | [], _, _, _, h0, h1 => by rw [Tm.frs]; exact ⟨h0, h1⟩
  | t :: ts, i, a, h, h0, h1 => by
    rw [Tm.frs]
    have := h t (by simp)
    have hb : bnd k i ≤ 1 := by unfold bnd; split <;> omega
    exact Tm.frs_bound (fun x hx => h x (by simp [hx])) (by omega) (by omega)
theorem Tm.fr_bound : ∀ (t : Tm), t.all nodeB = true → 0 ≤ t.fr ∧ t.fr ≤ 1048577 := by
  intro t
  induction t using Tm.ind with
  | h k n s ls ts ih =>
    intro hA
    have hn := (NodeB.of (all_node hA)).n
    rw [Tm.fr]
    refine Tm.frs_bound (fun x hx => ih x hx (all_kid hA hx)) ?_ ?_
    · split
      · have := hn.1; simp only [Tm.n] at this; omega
      · omega
    · split
      · have := hn.2; simp only [Tm.n] at this; omega
      · omega

structure Ky where
  cs : List D
  n : cs.length = 27
def nodeC (y : Ky) (a b c d : Int) : List D := y.cs ++ [.int .i64 a, .int .i64 b, .int .i64 c, .int .i64 d]
theorem nodeC_len (y : Ky) (a b c d : Int) : (nodeC y a b c d).length = 31 := by simp [nodeC, y.n]
theorem nodeC_27 (y : Ky) (a b c d : Int) : (nodeC y a b c d).getD 27 .any = .int .i64 a := by simp [nodeC, List.getD, List.getElem?_append_right, y.n]
theorem nodeC_28 (y : Ky) (a b c d : Int) : (nodeC y a b c d).getD 28 .any = .int .i64 b := by simp [nodeC, List.getD, List.getElem?_append_right, y.n]
theorem nodeC_29 (y : Ky) (a b c d : Int) : (nodeC y a b c d).getD 29 .any = .int .i64 c := by simp [nodeC, List.getD, List.getElem?_append_right, y.n]
theorem nodeC_30 (y : Ky) (a b c d : Int) : (nodeC y a b c d).getD 30 .any = .int .i64 d := by simp [nodeC, List.getD, List.getElem?_append_right, y.n]
theorem nodeC_set (y : Ky) (a b c d v : Int) : splice (nodeC y a b c d) 28 [.int .i64 v] = nodeC y a v c d ∧ splice (nodeC y a b c d) 29 [.int .i64 v] = nodeC y a b v d ∧ splice (nodeC y a b c d) 30 [.int .i64 v] = nodeC y a b c v := by
  have e : ∀ n, (y.cs ++ [D.int .i64 a, D.int .i64 b, D.int .i64 c, D.int .i64 d]).take (27 + n) = y.cs ++ [D.int .i64 a, D.int .i64 b, D.int .i64 c, D.int .i64 d].take n := fun n => by
    rw [List.take_append, y.n, List.take_of_length_le (by rw [y.n]; omega), Nat.add_sub_cancel_left]
  have e2 : ∀ n, (y.cs ++ [D.int .i64 a, D.int .i64 b, D.int .i64 c, D.int .i64 d]).drop (27 + n) = [D.int .i64 a, D.int .i64 b, D.int .i64 c, D.int .i64 d].drop n := fun n => by
    rw [List.drop_append, y.n, List.drop_of_length_le (by rw [y.n]; omega), Nat.add_sub_cancel_left]; rfl
  refine ⟨?_, ?_, ?_⟩
  · show List.take (27 + 1) _ ++ _ ++ List.drop (27 + 2) _ = _
    rw [nodeC, e, e2]; simp [nodeC]
  · show List.take (27 + 2) _ ++ _ ++ List.drop (27 + 3) _ = _
    rw [nodeC, e, e2]; simp [nodeC]
  · show List.take (27 + 3) _ ++ _ ++ List.drop (27 + 4) _ = _
    rw [nodeC, e, e2]; simp [nodeC]
theorem nodeC_set28 (y : Ky) (a b c d v : Int) : splice (nodeC y a b c d) 28 [.int .i64 v] = nodeC y a v c d := (nodeC_set y a b c d v).1
theorem nodeC_set29 (y : Ky) (a b c d v : Int) : splice (nodeC y a b c d) 29 [.int .i64 v] = nodeC y a b v d := (nodeC_set y a b c d v).2.1
theorem nodeC_set30 (y : Ky) (a b c d v : Int) : splice (nodeC y a b c d) 30 [.int .i64 v] = nodeC y a b c v := (nodeC_set y a b c d v).2.2
theorem nodeC_set27 (y : Ky) (a b c d v : Int) : splice (nodeC y a b c d) 27 [.int .i64 v] = nodeC y v b c d := by
  rw [splice, nodeC, List.take_append_of_le_length (by rw [y.n]; omega), List.take_of_length_le (by rw [y.n]; omega)]
  show y.cs ++ [D.int .i64 v] ++ List.drop (27 + 1) _ = _
  rw [List.drop_append, y.n, List.drop_of_length_le (by rw [y.n]; omega)]
  simp [nodeC]
theorem splice_ky (y : Ky) (cs : List D) : splice cs 0 y.cs = y.cs ++ cs.drop 27 := by simp [splice, y.n]
theorem splice_node (y : Ky) (a b c d : Int) (cs : List D) : splice cs 0 (nodeC y a b c d) = nodeC y a b c d ++ cs.drop 31 := by simp [splice, nodeC_len]
theorem nodeC_take31 (y : Ky) (a b c d : Int) : List.take 31 (nodeC y a b c d) = nodeC y a b c d := List.take_of_length_le (by rw [nodeC_len]; omega)
theorem nodeC_fold (y : Ky) (a b c d : Int) : y.cs ++ [.int .i64 a, .int .i64 b, .int .i64 c, .int .i64 d] = nodeC y a b c d := rfl
attribute [go_sem] nodeC_len nodeC_27 nodeC_28 nodeC_29 nodeC_30 nodeC_fold Ky.n
attribute [go_sem] Option.isSome_some Option.isSome_none
attribute [go_sem] nodeC_take31 splice_ky splice_node Int.sub_zero Int.toNat_zero nodeC_set27 nodeC_set28 nodeC_set29 nodeC_set30
end Go.Proofs.YtddbidoaolnegaaGreatDoor
