/-
PART OF A CLAIM: C, E, F. No statement of the seat is proved here; no condition. -/
import Derived.Test.YtddbidoaolnegaaGreatDoorWO1
set_option linter.all false
/- That the reckoning on abstract values is right: reading. No statement of the seat is proved here; no condition. -/
namespace Go.Proofs.YtddbidoaolnegaaGreatDoor
open Go Go.RowKit

theorem Rs.length {g : Gh} : ∀ {cs : List D} {vs : List Value}, Rs g cs vs → vs.length = cs.length
  | [], vs, h => by simp [Rs] at h; simp [h]
  | c :: cs, vs, h => by
    simp only [Rs] at h
    obtain ⟨v, r, rfl, _, _, h⟩ := h
    simp [Rs.length h]

theorem Rs.get {g : Gh} : ∀ {cs : List D} {vs : List Value}, Rs g cs vs → ∀ {i : Nat} {c : D} {v : Value}, cs[i]? = some c → vs[i]? = some v → R g c [v] ∧ v.oneCell' = true
  | [], _, _, _, _, _, h, _ => by simp at h
  | c :: cs, vs, h, i, _, _, hc, hv => by
    simp only [Rs] at h
    obtain ⟨v, r, rfl, h1, h2, h⟩ := h
    cases i with
    | zero => simp at hc hv; subst hc; subst hv; exact ⟨h1, h2⟩
    | succ i => exact Rs.get h (by simpa using hc) (by simpa using hv)

theorem Rs.one {g : Gh} : ∀ {cs : List D} {vs : List Value}, Rs g cs vs → ∀ v ∈ vs, v.oneCell' = true
  | [], vs, h => by simp [Rs] at h; simp [h]
  | c :: cs, vs, h => by
    simp only [Rs] at h
    obtain ⟨v, r, rfl, _, h2, h⟩ := h
    intro x hx
    rcases List.mem_cons.1 hx with rfl | hx
    · exact h2
    · exact Rs.one h x hx

theorem Rs.append {g : Gh} : ∀ {cs ds : List D} {vs us : List Value}, Rs g cs vs → Rs g ds us → Rs g (cs ++ ds) (vs ++ us)
  | [], ds, vs, us, h, h' => by simp [Rs] at h; simpa [h] using h'
  | c :: cs, ds, vs, us, h, h' => by
    simp only [Rs] at h
    obtain ⟨v, r, rfl, h1, h2, h⟩ := h
    exact ⟨v, r ++ us, rfl, h1, h2, Rs.append h h'⟩

theorem Rs.take {g : Gh} : ∀ (n : Nat) {cs : List D} {vs : List Value}, Rs g cs vs → Rs g (cs.take n) (vs.take n)
  | 0, _, _, _ => by simp [Rs]
  | n + 1, [], vs, h => by simp [Rs] at h; simp [h, Rs]
  | n + 1, c :: cs, vs, h => by
    simp only [Rs] at h
    obtain ⟨v, r, rfl, h1, h2, h⟩ := h
    exact ⟨v, r.take n, rfl, h1, h2, Rs.take n h⟩

theorem Rs.drop {g : Gh} : ∀ (n : Nat) {cs : List D} {vs : List Value}, Rs g cs vs → Rs g (cs.drop n) (vs.drop n)
  | 0, _, _, h => by simpa using h
  | n + 1, [], vs, h => by simp [Rs] at h; simp [h, Rs]
  | n + 1, c :: cs, vs, h => by
    simp only [Rs] at h
    obtain ⟨v, r, rfl, h1, h2, h⟩ := h
    simpa using Rs.drop n h

/-- A value of one cell is one. -/
theorem R.one {g : Gh} {d : D} {v : Value} (h : R g d [v]) (hd : ∀ cs, d ≠ .agg cs) : v.oneCell' = true := by
  cases d with
  | agg cs => exact absurd rfl (hd cs)
  | any => simp only [R] at h; obtain ⟨u, hu, h1⟩ := h; cases hu; exact h1
  | eptr e o => simp only [R] at h; obtain ⟨b, p, us, hu, _⟩ := h; cases hu; rfl
  | sl ow sz es =>
    simp only [R] at h
    rcases h with ⟨_, _, _, _, hu⟩ | ⟨_, _, _, hu, _⟩ <;> (cases hu; rfl)
  | msl r o n sz => simp only [R] at h; obtain ⟨c, hu, _⟩ := h; cases hu; rfl
  | fn f a b => simp only [R] at h; obtain ⟨c, d, hu, _⟩ := h; cases hu; rfl
  | iface t x => simp only [R] at h; obtain ⟨u, hu, _⟩ := h; cases hu; rfl
  | tup l => simp [R] at h
  | _ => simp only [R] at h; cases h; rfl

theorem R.len {g : Gh} {d : D} {vs : List Value} (h : R g d vs) (hd : ∀ cs, d ≠ .agg cs) : ∃ v, vs = [v] := by
  cases d with
  | agg cs => exact absurd rfl (hd cs)
  | any => simp only [R] at h; obtain ⟨u, hu, _⟩ := h; exact ⟨_, hu⟩
  | eptr e o => simp only [R] at h; obtain ⟨b, p, us, hu, _⟩ := h; exact ⟨_, hu⟩
  | sl ow sz es =>
    simp only [R] at h
    rcases h with ⟨_, _, _, _, hu⟩ | ⟨_, _, _, hu, _⟩ <;> exact ⟨_, hu⟩
  | msl r o n sz => simp only [R] at h; obtain ⟨c, hu, _⟩ := h; exact ⟨_, hu⟩
  | fn f a b => simp only [R] at h; obtain ⟨c, d, hu, _⟩ := h; exact ⟨_, hu⟩
  | iface t x => simp only [R] at h; obtain ⟨u, hu, _⟩ := h; exact ⟨_, hu⟩
  | tup l => simp [R] at h
  | _ => simp only [R] at h; exact ⟨_, h⟩

/-- An element's cells, one by one. -/
theorem R.toRs {g : Gh} {d : D} {vs : List Value} (h : R g d vs) : Rs g d.cells vs := by
  by_cases hd : ∃ cs, d = .agg cs
  · obtain ⟨cs, rfl⟩ := hd; simpa [R, D.cells] using h
  · have hd' : ∀ cs, d ≠ .agg cs := fun cs e => hd ⟨cs, e⟩
    obtain ⟨v, rfl⟩ := R.len h hd'
    have h1 := R.one h hd'
    have hc : d.cells = [d] := by cases d <;> first | rfl | exact absurd rfl (hd' _)
    rw [hc]
    exact ⟨v, [], rfl, h, h1, by simp [Rs]⟩

theorem R.ofRs {g : Gh} {d : D} {vs : List Value} (h : Rs g d.cells vs) : R g d vs := by
  by_cases hd : ∃ cs, d = .agg cs
  · obtain ⟨cs, rfl⟩ := hd; simpa [R, D.cells] using h
  · have hd' : ∀ cs, d ≠ .agg cs := fun cs e => hd ⟨cs, e⟩
    have hc : d.cells = [d] := by cases d <;> first | rfl | exact absurd rfl (hd' _)
    rw [hc] at h
    simp only [Rs] at h
    obtain ⟨v, r, rfl, h1, _, h2⟩ := h
    subst h2
    exact h1

theorem V1.toRs {g : Gh} {d : D} {v : Value} (h : V1 g d v) : Rs g d.cells v.cells.toList := by
  unfold V1 at h
  split at h
  · obtain ⟨arr, rfl, h⟩ := h; simpa [Value.cells, D.cells] using h
  · rename_i hd
    have hc : v.cells = #[v] := by
      have := h.2
      cases v <;> first | rfl | simp [Value.oneCell'] at this
    rw [hc]
    exact R.toRs h.1

theorem V1.ofOne {g : Gh} {d : D} {v : Value} (h : R g d [v]) (h1 : v.oneCell' = true) (hd : ∀ cs, d ≠ .agg cs) : V1 g d v := by
  unfold V1
  split
  · exact absurd rfl (hd _)
  · exact ⟨h, h1⟩

theorem VT.ofV1 {g : Gh} {d : D} {v : Value} (h : V1 g d v) : VT g d v := by
  unfold VT
  split
  · trivial
  · unfold V1 at h; simp [R] at h
  · exact h

theorem VT.fine {g : Gh} {d : D} {v : Value} (h : VT g d v) (hd : d.fine = true) : V1 g d v := by
  unfold VT at h
  split at h
  · simp [D.fine] at hd
  · simp [D.fine] at hd
  · exact h

theorem D.flat_fine {d : D} (h : d.flat = true) : d.fine = true := by cases d <;> first | rfl | simp [D.flat] at h
theorem D.flat_agg {d : D} (h : d.flat = true) : ∀ cs, d ≠ .agg cs := by rintro cs rfl; simp [D.flat] at h
theorem D.flat_cells {d : D} (h : d.flat = true) : d.cells = [d] := by cases d <;> first | rfl | simp [D.flat] at h

theorem VT.flat {g : Gh} {d : D} {v : Value} (h : VT g d v) (hd : d.flat = true) : R g d [v] ∧ v.oneCell' = true := by
  have := h.fine (D.flat_fine hd)
  unfold V1 at this
  split at this
  · exact absurd rfl (D.flat_agg hd _)
  · exact this

/-! Constants, operands. -/
theorem ofC_ok (g : Gh) {v : Value} {d : D} (h : ofC v = some d) : R g d [v] ∧ v.oneCell' = true ∧ d.flat = true := by
  unfold ofC at h
  split at h <;> first
    | (cases h; done)
    | (cases h; simp [R, Value.oneCell', D.flat, Own.mayNil, Own.bare])

theorem ofCs_ok (g : Gh) : ∀ {vs : List Value} {ds : List D}, ofCs vs = some ds → Rs g ds vs
  | [], ds, h => by simp [ofCs] at h; subst h; simp [Rs]
  | v :: vs, ds, h => by
    unfold ofCs at h
    split at h
    · rename_i d ds' h1 h2
      cases h
      obtain ⟨a, b, _⟩ := ofC_ok g h1
      exact ⟨v, vs, rfl, a, b, ofCs_ok g h2⟩
    · cases h

theorem ofV_ok (g : Gh) (v : Value) : VT g (ofV v) v := by
  have one : ∀ v, VT g ((ofC v).getD .any) v := fun v => by
    cases h : ofC v with
    | none => simp [VT]
    | some d =>
      obtain ⟨a, b, c⟩ := ofC_ok g h
      exact VT.ofV1 (V1.ofOne a b (D.flat_agg c))
  unfold ofV
  split
  · rename_i cs
    split
    · rename_i l hl
      exact VT.ofV1 ⟨cs, rfl, ofCs_ok g hl⟩
    · simp [VT]
  · rename_i cs
    split
    · rename_i h
      have : cs = #[] := Array.eq_empty_of_size_eq_zero h
      subst this
      exact ⟨#[], rfl, rfl⟩
    · simp [VT]
  · exact one v

theorem ev_ok {g : Gh} {n : Nat} {fr : Fr} {a : Act} (h : FRel g n fr a) (x : Operand) : VT g (ev fr x) (a.eval x) := by
  cases x with
  | tmp t => exact h.slot t
  | const v => exact ofV_ok g v
  | global q => simp [ev, Act.eval, VT, V1, R, Value.oneCell']
  | func f => simp [ev, Act.eval, VT, V1, R, Rs, Value.oneCell']

/-! What a known shape says of the value. -/
section shapes
variable {g : Gh} {v : Value}
theorem VT.bool {b : Bool} (h : VT g (.bool b) v) : v = .bool b := by simpa [VT, V1, R] using (h : R g (.bool b) [v] ∧ _).1
theorem VT.int {k : IntKind} {n : Int} (h : VT g (.int k n) v) : v = .int k n := by simpa [VT, V1, R] using (h : R g (.int k n) [v] ∧ _).1
theorem VT.str {s : List UInt8} (h : VT g (.str s) v) : v = .string ⟨s.toArray⟩ := by simpa [VT, V1, R] using (h : R g (.str s) [v] ∧ _).1
theorem VT.ptr {r o : Nat} (h : VT g (.ptr r o) v) : v = .pointer (some ⟨r, o, none⟩) := by simpa [VT, V1, R] using (h : R g (.ptr r o) [v] ∧ _).1
theorem VT.nilptr (h : VT g .nilptr v) : v = .pointer none := by simpa [VT, V1, R] using (h : R g .nilptr [v] ∧ _).1
theorem VT.map {r : Nat} (h : VT g (.map r) v) : v = .map (some r) := by simpa [VT, V1, R] using (h : R g (.map r) [v] ∧ _).1
theorem VT.nilmap (h : VT g .nilmap v) : v = .map none := by simpa [VT, V1, R] using (h : R g .nilmap [v] ∧ _).1
theorem VT.niliface (h : VT g .niliface v) : v = .nilIface := by simpa [VT, V1, R] using (h : R g .niliface [v] ∧ _).1
theorem VT.iface {t : TypeId} {d : D} (h : VT g (.iface t d) v) : ∃ u, v = .iface t u ∧ R g d [u] := by
  have := (h : R g (.iface t d) [v] ∧ _).1
  simp only [R] at this
  obtain ⟨u, h1, h2⟩ := this
  exact ⟨u, by simpa using h1, h2⟩
theorem VT.eptr {e : D} {o : Nat} (h : VT g (.eptr e o) v) : ∃ b p us, v = .pointer (some ⟨b, p + o, none⟩) ∧ g.At b p us ∧ R g e us := by
  have := (h : R g (.eptr e o) [v] ∧ _).1
  simp only [R] at this
  obtain ⟨b, p, us, h1, h2⟩ := this
  exact ⟨b, p, us, by simpa using h1, h2⟩
theorem VT.sl {ow : Own} {sz : Nat} {es : List D} (h : VT g (.sl ow sz es) v) : (ow.mayNil ∧ es = [] ∧ ∃ oa, ow.bare oa ∧ v = .slice oa 0 0) ∨
    (∃ b p cap, v = .slice (some ⟨b, p, none⟩) es.length cap ∧ es.length ≤ cap ∧ ow.lies g b p es.length cap sz ∧ Re g sz es b p) := by
  have := (h : R g (.sl ow sz es) [v] ∧ _).1
  simp only [R] at this
  rcases this with ⟨h1, h2, oa, h0, h3⟩ | ⟨b, p, cap, h1, h2⟩
  · exact .inl ⟨h1, h2, oa, h0, by simpa using h3⟩
  · exact .inr ⟨b, p, cap, by simpa using h1, h2⟩
theorem VT.msl {r o n sz : Nat} (h : VT g (.msl r o n sz) v) : ∃ cap, v = .slice (some ⟨r, o, none⟩) n cap ∧ n ≤ cap ∧ 0 < sz := by
  have := (h : R g (.msl r o n sz) [v] ∧ _).1
  simp only [R] at this
  obtain ⟨cap, h1, h2⟩ := this
  exact ⟨cap, by simpa using h1, h2⟩
theorem VT.fn {f : FuncId} {a b : List D} (h : VT g (.fn f a b) v) : ∃ x y, v = .func (.func f) x y ∧ Rs g a x.toList ∧ Rs g b y.toList := by
  have := (h : R g (.fn f a b) [v] ∧ _).1
  simp only [R] at this
  obtain ⟨x, y, h1, h2⟩ := this
  exact ⟨x, y, by simpa using h1, h2⟩
theorem VT.agg {cs : List D} (h : VT g (.agg cs) v) : ∃ arr, v = .agg arr ∧ Rs g cs arr.toList := h
theorem VT.tup {ds : List D} (h : VT g (.tup ds) v) : ∃ arr, v = .tuple arr ∧ V1s g ds arr.toList := h

theorem VT.mkOne {d : D} (h : R g d [v]) (hd : ∀ cs, d ≠ .agg cs) : VT g d v := VT.ofV1 (V1.ofOne h (R.one h hd) hd)
theorem VT.mkBool (b : Bool) : VT g (.bool b) (.bool b) := VT.mkOne (by simp [R]) (by simp)
theorem VT.mkInt (k : IntKind) (n : Int) : VT g (.int k n) (.int k n) := VT.mkOne (by simp [R]) (by simp)
theorem VT.mkPtr (r o : Nat) : VT g (.ptr r o) (.pointer (some ⟨r, o, none⟩)) := VT.mkOne (by simp [R]) (by simp)
theorem VT.undef : VT g (.tup []) undef := ⟨#[], rfl, rfl⟩
end shapes

theorem V1s.get {g : Gh} : ∀ {ds : List D} {vs : List Value}, V1s g ds vs → ∀ {i : Nat} {d : D}, ds[i]? = some d → ∃ v, vs[i]? = some v ∧ V1 g d v
  | [], _, _, _, _, h => by simp at h
  | c :: cs, vs, h, i, d, hd => by
    obtain ⟨v, r, rfl, h1, h2⟩ := h
    cases i with
    | zero => simp at hd; subst hd; exact ⟨v, rfl, h1⟩
    | succ i => simpa using V1s.get h2 (by simpa using hd)

/-! Reading memory. -/
theorem Inv.at {g : Gh} {st : St} {w : World} (h : Inv g st w) {b p : Nat} {us : List Value} (x : g.At b p us) : ∀ j u, us[j]? = some u → w.cell? ⟨b, p + j, none⟩ = some u :=
  fun j u e => h.fz _ _ _ (x j u e)

theorem run_ldTy_agg {P : Program} {t : TypeId} {n : Nat} (h : ldTy P t = some (some n)) (w : World) : (isAgg t).run P w = .ok true w ∧ (sizeOf t).run P w = .ok n w := by
  unfold ldTy szOf at h
  split at h
  · rename_i fs hu
    cases hi : P.info? t with
    | none => simp [hi] at h
    | some i =>
      simp [hi] at h
      subst h
      constructor
      · simp [isAgg, run_underlying hu]
      · simp [sizeOf, typeInfo, hi]
  · rename_i m e hu
    cases hi : P.info? t with
    | none => simp [hi] at h
    | some i =>
      simp [hi] at h
      subst h
      constructor
      · simp [isAgg, run_underlying hu]
      · simp [sizeOf, typeInfo, hi]
  · split at h <;> simp at h
  · cases h

theorem run_ldTy_one {P : Program} {t : TypeId} (h : ldTy P t = some none) (w : World) : (isAgg t).run P w = .ok false w ∧ szOf P t = some 1 := by
  unfold ldTy at h
  split at h
  · cases hz : szOf P t <;> simp [hz] at h
  · cases hz : szOf P t <;> simp [hz] at h
  · rename_i d h1 h2 hu
    split at h
    · rename_i hz
      refine ⟨?_, hz⟩
      simp only [isAgg, Sem.run_bind, run_underlying hu, Result.andThen_ok]
      rfl
    · cases h
  · cases h

theorem load_ok {P : Program} {g : Gh} {w : World} {t : TypeId} {b q o : Nat} {vs : List Value} {cs : List D} {k : D → Prop} (hl : ldCs (ldTy P t) cs o k) (hr : Rs g cs vs)
    (hc : ∀ j u, vs[j]? = some u → w.cell? ⟨b, q + j, none⟩ = some u) : ∃ d v, k d ∧ (loadVar t ⟨b, q + o, none⟩).run P w = .ok v w ∧ VT g d v := by
  have hlen := hr.length
  cases hT : ldTy P t with
  | none => simp [hT, ldCs] at hl
  | some l =>
    cases l with
    | some n =>
      simp only [hT, ldCs] at hl
      obtain ⟨hn, hk⟩ := hl
      obtain ⟨h1, h2⟩ := run_ldTy_agg hT w
      have hus : ((vs.drop o).take n).length = n := by simp; omega
      have hcells := run_loadCells_list (P := P) w ⟨b, q + o, none⟩ ((vs.drop o).take n) (fun j v hj => by
        rw [Addr.add_lit]
        have hj' : vs[o + j]? = some v := by
          rw [List.getElem?_take] at hj
          split at hj
          · simpa [List.getElem?_drop] using hj
          · cases hj
        have := hc _ _ hj'
        rwa [← Nat.add_assoc] at this)
      rw [hus] at hcells
      refine ⟨_, .agg ((vs.drop o).take n).toArray, hk, ?_, VT.ofV1 ⟨_, rfl, ?_⟩⟩
      · simp [loadVar, h1, h2, hcells]
      · simpa using (hr.drop o).take n
    | none =>
      simp only [hT, ldCs] at hl
      obtain ⟨hn, hf, hk⟩ := hl
      obtain ⟨h1, _⟩ := run_ldTy_one hT w
      have hv : o < vs.length := by omega
      have hcell := hc o vs[o] (by simp [hv])
      have hg := hr.get (i := o) (c := cs[o]) (v := vs[o]) (by simp [hn]) (by simp [hv])
      have hcs : cs.getD o .any = cs[o] := by simp [List.getD, hn]
      rw [hcs] at hf hk
      refine ⟨_, vs[o], hk, ?_, VT.ofV1 (V1.ofOne hg.1 hg.2 (D.flat_agg hf))⟩
      simp [loadVar, h1, hcell]

theorem loadE_ok {P : Program} {g : Gh} {w : World} {t : TypeId} {b q o : Nat} {vs : List Value} {e : D} {k : D → Prop} (hl : ldE (ldTy P t) e o k) (hr : R g e vs)
    (hc : ∀ j u, vs[j]? = some u → w.cell? ⟨b, q + j, none⟩ = some u) : ∃ d v, k d ∧ (loadVar t ⟨b, q + o, none⟩).run P w = .ok v w ∧ VT g d v := by
  unfold ldE at hl
  split at hl
  · rename_i n hT
    split at hl
    · rename_i h0
      obtain ⟨rfl, ha⟩ := h0
      cases e <;> simp [D.isAgg] at ha
      rename_i cs
      refine load_ok (k := k) (cs := cs) ?_ (by simpa [R] using hr) hc
      rw [hT]
      simp only [ldCs]
      refine ⟨by omega, ?_⟩
      have : (cs.drop 0).take n = cs := by simp [ha ▸ List.take_length]
      rw [this]; exact hl
    · exact load_ok (by first | exact hl | (rw [hT]; exact hl)) hr.toRs hc
  · exact load_ok hl hr.toRs hc
end Go.Proofs.YtddbidoaolnegaaGreatDoor
/- That the reckoning on abstract values is right: new memory, stores, tokens. No statement of the seat is proved here; no condition. -/
namespace Go.Proofs.YtddbidoaolnegaaGreatDoor
open Go Go.RowKit

theorem fzOk_zero (n : Nat) : fzOk (0, 0) n := .inl rfl

theorem Inv.memSize {g : Gh} {st : St} {w : World} (h : Inv g st w) : st.mem w.heap.size = none := by
  cases hm : st.mem w.heap.size with
  | none => rfl
  | some o => exact absurd (h.lt hm) (by omega)
theorem Inv.fSize {g : Gh} {st : St} {w : World} (h : Inv g st w) (o : Nat) : g.F w.heap.size o = none := by
  cases hm : g.F w.heap.size o with
  | none => rfl
  | some v => exact absurd (h.ltF hm) (by omega)

theorem below_alloc (w : World) (o : Obj) : Below w.heap.size w (w.alloc o) := (Below.refl _ _).alloc (Nat.le_refl _) o

theorem heap_alloc_new (w : World) (o : Obj) : (w.alloc o).heap[w.heap.size]? = some o := by
  show (w.heap.push o)[w.heap.size]? = _
  simp

/-- A new block that may be written. -/
theorem Inv.newOb {g : Gh} {st : St} {w : World} (h : Inv g st w) (o : Obj) (ob : Ob) (hok : ob.ok g (w.alloc o) w.heap.size) : Inv g (st.set w.heap.size ob) (w.alloc o) := by
  have h' := h.ext (below_alloc w o)
  refine ⟨h'.below, h'.base, h'.fz, fun r ob' hr => ?_, fun i hi => ?_, h'.apart, h'.fin⟩
  · rw [St.mem_set] at hr
    split at hr
    · subst r; cases hr
      exact ⟨h.base, fun o => h.fSize o, hok⟩
    · exact h'.mem r ob' hr
  · obtain ⟨t, h1, h2⟩ := h'.tok i hi
    refine ⟨t, h1, h2.new, ?_, h2.room, h2.lies, h2.free⟩
    rw [St.mem_set, if_neg]
    · exact h2.clear
    · have := h.ltT hi h1; omega

theorem Inv.new {g : Gh} {st : St} {w : World} (h : Inv g st w) {cs : List D} {arr : Array Value} (el : TypeId) (hr : Rs g cs arr.toList) :
    Inv g (st.set w.heap.size (.cells cs)) (w.alloc (.cells arr el)) :=
  h.newOb _ _ ⟨arr, el, (0, 0), heap_alloc_new w _, fzOk_zero _, hr⟩

theorem Inv.newMap {g : Gh} {st : St} {w : World} (h : Inv g st w) (K : TypeId) :
    Inv g (st.set w.heap.size (.map K [])) (w.alloc (.map #[] 0)) :=
  h.newOb _ _ ⟨#[], 0, heap_alloc_new w _, rfl, by simp⟩

/-- More cells are frozen. -/
def Gh.more (g : Gh) (b p : Nat) (us : List Value) : Gh := { g with F := fun x o => if x = b ∧ p ≤ o ∧ o < p + us.length then us[o - p]? else g.F x o }
theorem Gh.more_le {g : Gh} {b p : Nat} {us : List Value} (h : ∀ o, p ≤ o → o < p + us.length → g.F b o = none) : g.le (g.more b p us) := by
  refine ⟨rfl, rfl, fun x o v hv => ?_, fun _ _ h => h⟩
  show (if _ then _ else _) = _
  split
  · rename_i hx
    obtain ⟨rfl, h1, h2⟩ := hx
    rw [h o h1 h2] at hv; cases hv
  · exact hv
theorem Gh.more_at (g : Gh) (b p : Nat) (us : List Value) : (g.more b p us).At b p us := by
  intro j u hj
  have hl : j < us.length := by
    rcases Nat.lt_or_ge j us.length with h | h
    · exact h
    · simp [List.getElem?_eq_none h] at hj
  show (if _ then _ else _) = _
  rw [if_pos ⟨rfl, by omega, by omega⟩]
  simpa using hj
theorem Gh.more_cases {g : Gh} {b p : Nat} {us : List Value} {x o : Nat} {v : Value} (h : (g.more b p us).F x o = some v) : (x = b ∧ p ≤ o ∧ us[o - p]? = some v) ∨ g.F x o = some v := by
  have : (if x = b ∧ p ≤ o ∧ o < p + us.length then us[o - p]? else g.F x o) = some v := h
  split at this
  · rename_i hx; exact .inl ⟨hx.1, hx.2.1, this⟩
  · exact .inr this
theorem Gh.more_none {g : Gh} {b p : Nat} {us : List Value} {x o : Nat} (h : g.F x o = none) (hx : x = b → p ≤ o → p + us.length ≤ o) : (g.more b p us).F x o = none := by
  show (if _ then _ else _) = _
  split
  · rename_i hc; obtain ⟨rfl, h1, h2⟩ := hc; have := hx rfl h1; omega
  · exact h
def Gh.tokd (g : Gh) (j : Nat) (t : Tok) : Gh := { g with G := fun i => if i = j then some t else g.G i }
theorem Gh.tokd_le {g : Gh} {j : Nat} {t : Tok} (h : g.G j = none) : g.le (g.tokd j t) := by
  refine ⟨rfl, rfl, fun _ _ _ h => h, fun i x hi => ?_⟩
  show (if _ then _ else _) = _
  split
  · subst i; rw [h] at hi; cases hi
  · exact hi
theorem Gh.tokd_same (g : Gh) (j : Nat) (t : Tok) : (g.tokd j t).G j = some t := by simp [Gh.tokd]

theorem St.set_del {st : St} {r : Nat} (h : st.mem r = none) (o : Ob) : (st.set r o).del r = st := by
  cases st with
  | mk m t =>
    simp only [St.set, St.del, St.mk.injEq, and_true]
    funext x
    split
    · subst x; exact h.symm
    · rfl

/-- A block that may be written becomes one that never changes any more. -/
theorem Inv.freeze {g : Gh} {st : St} {w : World} (h : Inv g st w) {r : Nat} {cs : List D} (hr : st.mem r = some (.cells cs)) :
    ∃ g' us, g.le g' ∧ Inv g' (st.del r) w ∧ g'.At r 0 us ∧ Rs g' cs us := by
  obtain ⟨hb, hF, arr, el, fz, hh, hfz, hcs⟩ := h.mem r _ hr
  have hle : g.le (g.more r 0 arr.toList) := Gh.more_le fun o _ _ => hF o
  refine ⟨g.more r 0 arr.toList, arr.toList, hle, ?_, Gh.more_at g r 0 _, hcs.mono hle⟩
  refine ⟨h.below, h.base, fun b o v hv => ?_, fun x ob hx => ?_, fun i hi => ?_, fun i j s t hi hj hne hs ht => h.apart i j s t hi hj hne hs ht, h.fin⟩
  · rcases Gh.more_cases hv with ⟨rfl, _, h3⟩ | h3
    · simp only [World.cell?, hh]
      simpa using h3
    · exact h.fz _ _ _ h3
  · rw [St.mem_del] at hx
    split at hx
    · cases hx
    · rename_i hne
      obtain ⟨h1, h2, h3⟩ := h.mem x ob hx
      exact ⟨h1, fun o => Gh.more_none (h2 o) (fun e => absurd e hne), Ob.ok_mono hle rfl h3⟩
  · obtain ⟨t, h1, h2⟩ := h.tok i hi
    have hne : t.b ≠ r := fun e => by have := h2.clear; rw [e, hr] at this; cases this
    refine ⟨t, h1, h2.new, ?_, h2.room, h2.lies, fun o ho => Gh.more_none (h2.free o ho) (fun e => absurd e hne)⟩
    rw [St.mem_del, if_neg hne]; exact h2.clear

/-! Stores. -/
theorem heap_setCells (b : Nat) : ∀ (vs : List Value) (o : Nat) (w : World) (arr : Array Value) (el : TypeId) (fz : Nat × Nat), w.heap[b]? = some (.cells arr el fz) → o + vs.length ≤ arr.size →
    ∃ arr' : Array Value, (w.setCells b o vs).heap[b]? = some (.cells arr' el fz) ∧ arr'.toList = arr.toList.take o ++ vs ++ arr.toList.drop (o + vs.length)
  | [], o, w, arr, el, fz, h, _ => ⟨arr, h, by simp⟩
  | v :: r, o, w, arr, el, fz, h, hl => by
    have h1 : (w.setCell ⟨b, o, none⟩ v).heap[b]? = some (.cells (arr.setIfInBounds o v) el fz) := by
      simp [World.setCell, Array.getElem?_modify, h]
    obtain ⟨arr', h2, h3⟩ := heap_setCells b r (o + 1) _ _ el fz h1 (by simp at hl ⊢; omega)
    refine ⟨arr', h2, ?_⟩
    rw [h3]
    simp only [List.length_cons] at hl
    have ho : o < arr.toList.length := by simp; omega
    simp only [Array.toList_setIfInBounds]
    have e1 : (arr.toList.set o v).take (o + 1) = arr.toList.take o ++ [v] := by
      rw [List.take_succ_eq_append_getElem (by simpa using ho), List.take_set_of_le (Nat.le_refl o)]
      simp
    have e2 : (arr.toList.set o v).drop (o + 1 + r.length) = arr.toList.drop (o + 1 + r.length) := by
      rw [List.drop_set_of_lt (by omega)]
    rw [e1, e2]
    simp [Nat.add_assoc, Nat.add_comm 1]
theorem heap_setCells_other (b : Nat) : ∀ (vs : List Value) (o : Nat) (w : World) (x : Nat), x ≠ b → (w.setCells b o vs).heap[x]? = w.heap[x]?
  | [], _, _, _, _ => rfl
  | v :: r, o, w, x, h => by
    rw [World.setCells, heap_setCells_other b r (o + 1) _ x h, Below.heap_setCell _ _ _ _ h]
theorem size_setCells (b : Nat) : ∀ (vs : List Value) (o : Nat) (w : World), (w.setCells b o vs).heap.size = w.heap.size
  | [], _, _ => rfl
  | v :: r, o, w => by rw [World.setCells, size_setCells b r, World.size_setCell]
theorem below_setCells {B b : Nat} (hB : B ≤ b) : ∀ (vs : List Value) (o : Nat) (w w' : World), Below B w w' → Below B w (w'.setCells b o vs)
  | [], _, _, _, h => h
  | v :: r, o, w, w', h => by
    rw [World.setCells]
    exact below_setCells hB r (o + 1) w _ (h.setCell (p := ⟨b, o, none⟩) hB v)

theorem Inv.store {g : Gh} {st : St} {w : World} (h : Inv g st w) {r o : Nat} {cs xs : List D} {us : List Value} (hr : st.mem r = some (.cells cs)) (hx : Rs g xs us) (hl : o + xs.length ≤ cs.length) :
    Inv g (st.set r (.cells (splice cs o xs))) (w.setCells r o us) := by
  obtain ⟨hb, hF, arr, el, fz, hh, hfz, hcs⟩ := h.mem r _ hr
  have h1 := hx.length
  have h2 := hcs.length
  simp only [Array.length_toList] at h2
  obtain ⟨arr', h3, h4⟩ := heap_setCells r us o w arr el fz hh (by omega)
  have hsz : arr'.size = arr.size := by
    have := congrArg List.length h4
    simp at this
    omega
  have other : ∀ x, x ≠ r → (w.setCells r o us).heap[x]? = w.heap[x]? := fun x hx => heap_setCells_other r us o w x hx
  refine ⟨below_setCells hb us o _ _ h.below, by rw [size_setCells]; exact h.base, fun b q v hv => ?_, fun x ob hx' => ?_, fun i hi => ?_, h.apart, h.fin⟩
  · have hne : b ≠ r := fun e => by rw [e, hF] at hv; cases hv
    rw [World.cell?_of_block (w := w) (other b hne)]
    exact h.fz _ _ _ hv
  · rw [St.mem_set] at hx'
    split at hx'
    · subst x; cases hx'
      refine ⟨hb, hF, arr', el, fz, h3, by rw [hsz]; exact hfz, ?_⟩
      rw [h4, splice, h1]
      exact ((hcs.take o).append hx).append (hcs.drop _)
    · rename_i hne
      obtain ⟨k1, k2, k3⟩ := h.mem x ob hx'
      exact ⟨k1, k2, Ob.ok_mono (Gh.le.refl g) (other x hne) k3⟩
  · obtain ⟨t, k1, k2⟩ := h.tok i hi
    have hne : t.b ≠ r := fun e => by have := k2.clear; rw [e, hr] at this; cases this
    refine ⟨t, k1, k2.new, ?_, k2.room, ?_, k2.free⟩
    · rw [St.mem_set, if_neg hne]; exact k2.clear
    · rw [other _ hne]; exact k2.lies

theorem Inv.cellsAt {g : Gh} {st : St} {w : World} (h : Inv g st w) {r : Nat} {cs : List D} (hr : st.mem r = some (.cells cs)) :
    ∃ vs, Rs g cs vs ∧ (∀ j u, vs[j]? = some u → w.cell? ⟨r, 0 + j, none⟩ = some u) ∧ (∀ j, j < cs.length → w.frozen? ⟨r, j, none⟩ = false) := by
  obtain ⟨hb, hF, arr, el, fz, hh, hfz, hcs⟩ := h.mem r _ hr
  refine ⟨arr.toList, hcs, fun j u hj => by simpa [World.cell?, hh] using hj, fun j hj => ?_⟩
  have h2 := hcs.length
  simp only [Array.length_toList] at h2
  have := hfz.off j (by omega)
  simp only [World.frozen?, hh]
  simpa using this

/-- The model's own store of cells. -/
theorem run_store_cells {P : Program} {g : Gh} {st : St} {w : World} (h : Inv g st w) {r o : Nat} {cs xs : List D} {us : List Value} (hr : st.mem r = some (.cells cs)) (hx : Rs g xs us) (hl : o + xs.length ≤ cs.length) :
    (storeCells ⟨r, o, none⟩ us).run P w = .ok () (w.setCells r o us) := by
  obtain ⟨vs, h1, h2, h3⟩ := h.cellsAt hr
  have hlen := h1.length
  have hx1 := hx.length
  have := run_storeCells_cells (P := P) r o us 0 w (fun j hj => by
    have hj' : o + j < vs.length := by omega
    have := h2 (o + j) vs[o + j] (by simp [hj'])
    simp only [Nat.zero_add] at this
    simp [this]) (fun j hj => by simpa using h3 (o + j) (by omega)) hx.one
  simpa using this

/-! New memory of which nothing is written any more, but for spare places. -/
theorem Inv.newTok {g : Gh} {st : St} {w : World} (h : Inv g st w) (el : TypeId) (fz : Nat × Nat) (us rest : List Value) (n cap sz : Nat) (hfz : fzOk fz (us ++ rest).length)
    (hn : us.length = n * sz) (hcap : n ≤ cap) (hroom : cap * sz ≤ (us ++ rest).length) :
    ∃ j g', st.tok j = false ∧ g.le g' ∧ g'.G j = some ⟨w.heap.size, 0, n, cap, sz⟩ ∧ g'.At w.heap.size 0 us ∧ Inv g' (st.give j) (w.alloc (.cells (us ++ rest).toArray el fz)) := by
  obtain ⟨N, hN⟩ := h.fin
  have hj : g.G N = none := hN N (Nat.le_refl _)
  have htok : st.tok N = false := by
    cases ht : st.tok N with
    | false => rfl
    | true => obtain ⟨t, h1, _⟩ := h.tok N ht; rw [hj] at h1; cases h1
  have l1 : g.le (g.more w.heap.size 0 us) := Gh.more_le fun o _ _ => h.fSize o
  have l2 : (g.more w.heap.size 0 us).le ((g.more w.heap.size 0 us).tokd N ⟨w.heap.size, 0, n, cap, sz⟩) := Gh.tokd_le hj
  have h' := h.ext (below_alloc w (.cells (us ++ rest).toArray el fz))
  have hnew := heap_alloc_new w (.cells (us ++ rest).toArray el fz)
  refine ⟨N, (g.more w.heap.size 0 us).tokd N ⟨w.heap.size, 0, n, cap, sz⟩, htok, l1.trans l2, Gh.tokd_same _ _ _, (Gh.more_at g _ 0 us).mono l2, ?_⟩
  refine ⟨h'.below, h'.base, fun b o v hv => ?_, fun x ob hx => ?_, fun i hi => ?_, fun i j s t hi hj hne hs ht => ?_, ?_⟩
  · rcases Gh.more_cases (g := g) hv with ⟨rfl, _, h3⟩ | h3
    · simp only [World.cell?, hnew]
      have hlt : o < us.length := by
        rcases Nat.lt_or_ge o us.length with h | h
        · exact h
        · simp [List.getElem?_eq_none h] at h3
      simp only [Nat.sub_zero] at h3
      simp [List.getElem?_append_left hlt, h3]
    · exact h'.fz _ _ _ h3
  · obtain ⟨k1, k2, k3⟩ := h'.mem x ob hx
    refine ⟨k1, fun o => Gh.more_none (g := g) (k2 o) (fun e => ?_), Ob.ok_mono (l1.trans l2) rfl k3⟩
    subst e
    rw [St.mem_give, h.memSize] at hx; cases hx
  · rw [St.tok_give] at hi
    split at hi
    · subst i
      refine ⟨_, Gh.tokd_same _ _ _, h.base, h.memSize, hcap, ⟨_, el, fz, hnew, by simpa using hfz, by simpa using hroom⟩, fun o ho => ?_⟩
      exact Gh.more_none (g := g) (h.fSize o) (fun _ _ => by simp at ho; omega)
    · rename_i hne
      obtain ⟨t, k1, k2⟩ := h'.tok i hi
      have hlt := h.ltT hi k1
      refine ⟨t, l2.G _ _ (l1.G _ _ k1), k2.new, k2.clear, k2.room, k2.lies, fun o ho => Gh.more_none (g := g) (k2.free o ho) (fun e => ?_)⟩
      omega
  · rw [St.tok_give] at hi hj
    have G1 : ∀ {x y}, ((g.more w.heap.size 0 us).tokd N ⟨w.heap.size, 0, n, cap, sz⟩).G x = some y → x ≠ N → g.G x = some y := fun {x y} hxy hne => by
      simpa [Gh.tokd, Gh.more, hne] using hxy
    by_cases ei : i = N
    · subst ei
      have ej : j ≠ i := fun e => hne e.symm
      rw [Gh.tokd_same] at hs; cases hs
      rw [if_neg ej] at hj
      have := h.ltT hj (G1 ht ej)
      show w.heap.size ≠ t.b
      omega
    · rw [if_neg ei] at hi
      by_cases ej : j = N
      · subst ej
        rw [Gh.tokd_same] at ht; cases ht
        have := h.ltT hi (G1 hs ei)
        show s.b ≠ w.heap.size
        omega
      · rw [if_neg ej] at hj
        exact h.apart i j s t hi hj hne (G1 hs ei) (G1 ht ej)
  · exact ⟨N + 1, fun i hi => by
      show (if i = N then _ else g.G i) = none
      rw [if_neg (by omega)]; exact hN i (by omega)⟩

/-- Appending in place: the token goes on. -/
theorem Inv.grow {g : Gh} {st : St} {w : World} (h : Inv g st w) {i : Nat} {t : Tok} (hi : st.tok i = true) (ht : g.G i = some t) (us : List Value) (m : Nat) (hm : us.length = m * t.sz) (hroom : t.n + m ≤ t.cap) :
    ∃ j g', st.tok j = false ∧ g.le g' ∧ g'.G j = some ⟨t.b, t.p, t.n + m, t.cap, t.sz⟩ ∧ g'.At t.b (t.p + t.n * t.sz) us ∧ Inv g' ((st.take i).give j) (w.setCells t.b (t.p + t.n * t.sz) us) := by
  obtain ⟨t', ht', ok⟩ := h.tok i hi
  rw [ht] at ht'; cases ht'
  obtain ⟨arr, el, fz, hh, hfz, hsz⟩ := ok.lies
  obtain ⟨N, hN⟩ := h.fin
  have hj : g.G N = none := hN N (Nat.le_refl _)
  have htok : st.tok N = false := by
    cases ht : st.tok N with
    | false => rfl
    | true => obtain ⟨t, h1, _⟩ := h.tok N ht; rw [hj] at h1; cases h1
  have hiN : i ≠ N := fun e => by rw [e, htok] at hi; cases hi
  have hmul : t.n * t.sz + m * t.sz ≤ t.cap * t.sz := by rw [← Nat.add_mul]; exact Nat.mul_le_mul_right _ hroom
  obtain ⟨arr', h3, h4⟩ := heap_setCells t.b us (t.p + t.n * t.sz) w arr el fz hh (by omega)
  have hsz' : arr'.size = arr.size := by
    have := congrArg List.length h4
    simp at this
    omega
  have other : ∀ x, x ≠ t.b → (w.setCells t.b (t.p + t.n * t.sz) us).heap[x]? = w.heap[x]? := fun x hx => heap_setCells_other t.b us _ w x hx
  have l1 : g.le (g.more t.b (t.p + t.n * t.sz) us) := Gh.more_le fun o ho _ => ok.free o ho
  have l2 : (g.more t.b (t.p + t.n * t.sz) us).le ((g.more t.b (t.p + t.n * t.sz) us).tokd N ⟨t.b, t.p, t.n + m, t.cap, t.sz⟩) := Gh.tokd_le hj
  refine ⟨N, (g.more t.b (t.p + t.n * t.sz) us).tokd N ⟨t.b, t.p, t.n + m, t.cap, t.sz⟩, htok, l1.trans l2, Gh.tokd_same _ _ _, (Gh.more_at g _ _ us).mono l2, ?_⟩
  refine ⟨below_setCells ok.new us _ _ _ h.below, by rw [size_setCells]; exact h.base, fun b o v hv => ?_, fun x ob hx => ?_, fun i' hi' => ?_, fun i1 i2 s1 s2 h1 h2 hne hs1 hs2 => ?_, ?_⟩
  · rcases Gh.more_cases (g := g) hv with ⟨rfl, h5, h6⟩ | h5
    · simp only [World.cell?, h3]
      have hlt : o - (t.p + t.n * t.sz) < us.length := by
        rcases Nat.lt_or_ge (o - (t.p + t.n * t.sz)) us.length with h | h
        · exact h
        · simp [List.getElem?_eq_none h] at h6
      have : arr'[o]? = some v := by
        rw [← Array.getElem?_toList, h4, List.append_assoc, List.getElem?_append_right (by simp; omega)]
        rw [List.getElem?_append_left (by simp; omega)]
        have : (arr.toList.take (t.p + t.n * t.sz)).length = t.p + t.n * t.sz := by simp; omega
        rw [this]; exact h6
      simpa using this
    · by_cases hb : b = t.b
      · subst hb
        have hlt : o < t.p + t.n * t.sz := by
          rcases Nat.lt_or_ge o (t.p + t.n * t.sz) with h | h
          · exact h
          · rw [ok.free o h] at h5; cases h5
        rw [World.cell?_setCells_out _ _ _ _ _ (fun _ _ => .inl hlt)]
        exact h.fz _ _ _ h5
      · rw [World.cell?_of_block (w := w) (other b hb)]
        exact h.fz _ _ _ h5
  · obtain ⟨k1, k2, k3⟩ := h.mem x ob hx
    have hne : x ≠ t.b := fun e => by
      have hx' : st.mem x = some ob := hx
      rw [e, ok.clear] at hx'; cases hx'
    exact ⟨k1, fun o => Gh.more_none (g := g) (k2 o) (fun e => absurd e hne), Ob.ok_mono (l1.trans l2) (other x hne) k3⟩
  · rw [St.tok_give] at hi'
    split at hi'
    · subst i'
      refine ⟨_, Gh.tokd_same _ _ _, ok.new, ok.clear, hroom, ⟨arr', el, fz, h3, by rw [hsz']; exact hfz, by rw [hsz']; exact hsz⟩, fun o ho => ?_⟩
      have ho' : t.p + t.n * t.sz + m * t.sz ≤ o := by
        have : t.p + (t.n + m) * t.sz ≤ o := ho
        rw [Nat.add_mul] at this; omega
      exact Gh.more_none (g := g) (ok.free o (by omega)) (fun _ _ => by omega)
    · rename_i hN'
      rw [St.tok_take] at hi'
      split at hi'
      · cases hi'
      · rename_i hi2
        obtain ⟨s, k1, k2⟩ := h.tok i' hi'
        have hne : s.b ≠ t.b := h.apart i' i s t hi' hi hi2 k1 ht
        refine ⟨s, l2.G _ _ (l1.G _ _ k1), k2.new, k2.clear, k2.room, ?_, fun o ho => Gh.more_none (g := g) (k2.free o ho) (fun e => absurd e hne)⟩
        rw [other _ hne]; exact k2.lies
  · have G1 : ∀ {x y}, ((g.more t.b (t.p + t.n * t.sz) us).tokd N ⟨t.b, t.p, t.n + m, t.cap, t.sz⟩).G x = some y → x ≠ N → g.G x = some y := fun {x y} hxy hne => by
      simpa [Gh.tokd, Gh.more, hne] using hxy
    have live : ∀ {x}, ((st.take i).give N).tok x = true → x ≠ N → st.tok x = true ∧ x ≠ i := fun {x} hx hne => by
      rw [St.tok_give, if_neg hne, St.tok_take] at hx
      split at hx
      · cases hx
      · rename_i h; exact ⟨hx, h⟩
    by_cases e1 : i1 = N
    · have e2 : i2 ≠ N := fun e => hne (e1.trans e.symm)
      subst e1
      rw [Gh.tokd_same] at hs1; cases hs1
      obtain ⟨a, b⟩ := live h2 e2
      have := h.apart i i2 t s2 hi a (Ne.symm b) ht (G1 hs2 e2)
      exact this
    · obtain ⟨a1, b1⟩ := live h1 e1
      by_cases e2 : i2 = N
      · subst e2
        rw [Gh.tokd_same] at hs2; cases hs2
        exact h.apart i1 i s1 t a1 hi b1 (G1 hs1 e1) ht
      · obtain ⟨a2, b2⟩ := live h2 e2
        exact h.apart i1 i2 s1 s2 a1 a2 hne (G1 hs1 e1) (G1 hs2 e2)
  · exact ⟨N + 1, fun i hi => by
      show (if i = N then _ else g.G i) = none
      rw [if_neg (by omega)]; exact hN i (by omega)⟩
end Go.Proofs.YtddbidoaolnegaaGreatDoor
/- That the reckoning on abstract values is right: operation by operation (numbers, tests, addresses, reading, writing). No statement of the seat is proved here; no condition. -/
namespace Go.Proofs.YtddbidoaolnegaaGreatDoor
open Go Go.RowKit

theorem Inv.setMap {g : Gh} {st : St} {w : World} (h : Inv g st w) {r : Nat} {K : TypeId} {es es' : List (Value × D)} (hr : st.mem r = some (.map K es)) (arr' : Array MapEntry) (clk' : Nat) (hm : MR g es' arr'.toList) (hnd : (es'.map (·.1)).Nodup) :
    Inv g (st.set r (.map K es')) { w with heap := w.heap.setIfInBounds r (.map arr' clk') } := by
  obtain ⟨hb, hF, arr, clk, hh, _⟩ := h.mem r _ hr
  have hlt := h.lt hr
  have same : ({ w with heap := w.heap.setIfInBounds r (.map arr' clk') } : World).heap[r]? = some (.map arr' clk') := by
    simp [hlt]
  have other : ∀ x, x ≠ r → ({ w with heap := w.heap.setIfInBounds r (.map arr' clk') } : World).heap[x]? = w.heap[x]? := fun x hx => by
    simp [Array.getElem?_setIfInBounds, Ne.symm hx]
  refine ⟨⟨h.below.os, h.below.tape, h.below.output, by simpa using h.below.size, fun k hk => (other k (by omega)).trans (h.below.block k hk)⟩, by simpa using h.base, fun b q v hv => ?_, fun x ob hx' => ?_, fun i hi => ?_, h.apart, h.fin⟩
  · have hne : b ≠ r := fun e => by rw [e, hF] at hv; cases hv
    rw [World.cell?_of_block (w := w) (other b hne)]
    exact h.fz _ _ _ hv
  · rw [St.mem_set] at hx'
    split at hx'
    · subst x; cases hx'
      exact ⟨hb, hF, arr', clk', same, hm, hnd⟩
    · rename_i hne
      obtain ⟨k1, k2, k3⟩ := h.mem x ob hx'
      exact ⟨k1, k2, Ob.ok_mono (Gh.le.refl g) (other x hne) k3⟩
  · obtain ⟨t, k1, k2⟩ := h.tok i hi
    have hne : t.b ≠ r := fun e => by have := k2.clear; rw [e, hr] at this; cases this
    refine ⟨t, k1, k2.new, ?_, k2.room, ?_, k2.free⟩
    · rw [St.mem_set, if_neg hne]; exact k2.clear
    · rw [other _ hne]; exact k2.lies

/-- What a run of an operation gives, abstractly. -/
def Out (P : Program) (n : Nat) (g : Gh) (a : Act) (r : Result Next) (k : D → Fr → St → Prop) : Prop :=
  (∃ g' v d fr' st' w', r = .ok (.value v) w' ∧ g.le g' ∧ Inv g' st' w' ∧ FRel g' n fr' a ∧ VT g' d v ∧ k d fr' st') ∨
  (∃ g' fr' st' w', r = .ok .skip w' ∧ g.le g' ∧ Inv g' st' w' ∧ FRel g' n fr' a ∧ k (.tup []) fr' st') ∨
  (∃ f args w', r = .ok (.enter f args) w' ∧ Calls P f args w' fun e w'' => ∃ g' v d st' fr', e = .returned v ∧ g.le g' ∧ Inv g' st' w'' ∧ FRel g' n fr' a ∧ VT g' d v ∧ k d fr' st')

theorem Out.upon {P : Program} {n : Nat} {g : Gh} {a : Act} {r : Result Next} {k : D → Fr → St → Prop} {o : Oper} {next : Act → World → Prop} {Q : Exit → Act → World → Prop} (h : Out P n g a r k)
    (hn : ∀ g' v d fr' st' w', g.le g' → Inv g' st' w' → FRel g' n fr' a → VT g' d v → k d fr' st' → next (a.put o.dst v) w') : o.upon P a next Q r := by
  rcases h with ⟨g', v, d, fr', st', w', rfl, h1, h2, h3, h4, h5⟩ | ⟨g', fr', st', w', rfl, h1, h2, h3, h5⟩ | ⟨f, args, w', rfl, h⟩
  · exact hn g' v d fr' st' w' h1 h2 h3 h4 h5
  · exact hn g' undef _ fr' st' w' h1 h2 h3 VT.undef h5
  · refine Calls.mono h ?_
    rintro e w'' ⟨g', v, d, st', fr', rfl, h1, h2, h3, h4, h5⟩
    exact hn g' v d fr' st' w'' h1 h2 h3 h4 h5

section ops
variable {P : Program} {M : List Tmp} {n : Nat} {g : Gh} {fr : Fr} {st : St} {w : World} {a : Act} {k : D → Fr → St → Prop}

/-- Nothing turns. -/
theorem Out.next (hi : Inv g st w) (hf : FRel g n fr a) {r : Result Next} {v : Value} {d : D} (hs : r = .ok (.value v) w) (hv : VT g d v) (hk : k d fr st) : Out P n g a r k :=
  .inl ⟨g, v, d, fr, st, w, hs, Gh.le.refl g, hi, hf, hv, hk⟩

theorem Out.mono {r : Result Next} {k' : D → Fr → St → Prop} (h : Out P n g a r k) (hk : ∀ d fr st, k d fr st → k' d fr st) : Out P n g a r k' := by
  rcases h with ⟨g', v, d, fr', st', w', h0, h1, h2, h3, h4, h5⟩ | ⟨g', fr', st', w', h0, h1, h2, h3, h5⟩ | ⟨f, args, w', h0, h⟩
  · exact .inl ⟨g', v, d, fr', st', w', h0, h1, h2, h3, h4, hk _ _ _ h5⟩
  · exact .inr (.inl ⟨g', fr', st', w', h0, h1, h2, h3, hk _ _ _ h5⟩)
  · refine .inr (.inr ⟨f, args, w', h0, h.mono ?_⟩)
    rintro e w'' ⟨g', v, d, st', fr', h0, h1, h2, h3, h4, h5⟩
    exact ⟨g', v, d, st', fr', h0, h1, h2, h3, h4, hk _ _ _ h5⟩

theorem asBool_of {d : D} {k : Bool → Prop} (h : d.asBool k) : ∃ b, d = .bool b ∧ k b := by
  cases d <;> first | exact ⟨_, rfl, h⟩ | exact h.elim
theorem asInt_of {d : D} {k : IntKind → Int → Prop} (h : d.asInt k) : ∃ t n, d = .int t n ∧ k t n := by
  cases d <;> first | exact ⟨_, _, rfl, h⟩ | exact h.elim
theorem asTup_of {d : D} {k : List D → Prop} (h : d.asTup k) : ∃ l, d = .tup l ∧ k l := by
  cases d <;> first | exact ⟨_, rfl, h⟩ | exact h.elim
theorem asCells_of {o : Option Ob} {k : List D → Prop} (h : asCells o k) : ∃ cs, o = some (.cells cs) ∧ k cs := by
  cases o with
  | none => exact h.elim
  | some x => cases x <;> first | exact ⟨_, rfl, h⟩ | exact h.elim
theorem asMap_of {o : Option Ob} {k : TypeId → List (Value × D) → Prop} (h : asMap o k) : ∃ K es, o = some (.map K es) ∧ k K es := by
  cases o with
  | none => exact h.elim
  | some x => cases x <;> first | exact ⟨_, _, rfl, h⟩ | exact h.elim

theorem VT.of_eq {d d' : D} {v : Value} (h : VT g d v) (e : d = d') : VT g d' v := e ▸ h

theorem sound_pick (hi : Inv g st w) (hf : FRel g n fr a) {c x y : Operand} (h : (ev fr c).asBool fun t => k (if t = true then ev fr x else ev fr y) fr st) (o : Oper) (ho : o.op = .pick c x y) :
    Out P n g a ((execOp a.eval o).run P w) k := by
  obtain ⟨b, hb, hk⟩ := asBool_of h
  have hc := ((ev_ok hf c).of_eq hb).bool
  cases b with
  | true => exact Out.next hi hf (v := a.eval x) (d := ev fr x) (by simp [execOp, ho, hc, asBool]) (ev_ok hf x) (by simpa using hk)
  | false => exact Out.next hi hf (v := a.eval y) (d := ev fr y) (by simp [execOp, ho, hc, asBool]) (ev_ok hf y) (by simpa using hk)

theorem sound_load (hi : Inv g st w) (hf : FRel g n fr a) {t : TypeId} {x : Operand} (h : match ev fr x with
    | .ptr r o => asCells (st.mem r) fun cs => ldCs (ldTy P t) cs o fun d => k d fr st
    | .eptr e o => ldE (ldTy P t) e o fun d => k d fr st
    | _ => False) (o : Oper) (ho : o.op = .load t x) : Out P n g a ((execOp a.eval o).run P w) k := by
  have hx := ev_ok hf x
  split at h
  · rename_i r q he
    rw [he] at hx
    obtain ⟨cs, hm, hl⟩ := asCells_of h
    obtain ⟨vs, h1, h2, _⟩ := hi.cellsAt hm
    obtain ⟨d, v, hk, hrun, hv⟩ := load_ok (P := P) (q := 0) hl h1 h2
    refine Out.next hi hf (v := v) (d := d) ?_ hv hk
    simp [execOp, ho, hx.ptr, Instr.loadAt, Instr.sureAddr, Nat.zero_add] at hrun ⊢
    simp [hrun]
  · rename_i e q he
    rw [he] at hx
    obtain ⟨b, p, us, hv, hA, hR⟩ := hx.eptr
    obtain ⟨d, v, hk, hrun, hv'⟩ := loadE_ok (P := P) (q := p) h hR (hi.at hA)
    refine Out.next hi hf (v := v) (d := d) ?_ hv' hk
    simp [execOp, ho, hv, Instr.loadAt, Instr.sureAddr, hrun]
  · exact h.elim

theorem run_sizeOf_some {t : TypeId} {z : Nat} (h : szOf P t = some z) (w : World) : (sizeOf t).run P w = .ok z w := by
  unfold szOf at h
  cases hi : P.info? t with
  | none => simp [hi] at h
  | some i => simp [hi] at h; simp [sizeOf, typeInfo, hi, h]

theorem run_storeVar {t : TypeId} {r o : Nat} {v : Value} {xs : List D} {cs : List D} (hi : Inv g st w) (hz : szOf P t = some xs.length) (hx : Rs g xs v.cells.toList) (hm : st.mem r = some (.cells cs)) (hl : o + xs.length ≤ cs.length) :
    (storeVar t ⟨r, o, none⟩ v).run P w = .ok () (w.setCells r o v.cells.toList) := by
  have h1 := hx.length
  have hs := run_sizeOf_some (P := P) hz w
  have hst := run_store_cells (P := P) hi hm hx hl
  simp only [Array.length_toList] at h1
  simp [storeVar, hs, h1, hst]

theorem sound_store (hi : Inv g st w) (hf : FRel g n fr a) {t : TypeId} {x y : Operand} (h : match ev fr x with
    | .ptr r o => szOf P t = some (ev fr y).cells.length ∧ (ev fr y).fine = true ∧ asCells (st.mem r) fun cs => o + (ev fr y).cells.length ≤ cs.length ∧
      match x with
      | .tmp s => if M.contains s = true ∨ ¬ (o = 0 ∧ cs.length = (ev fr y).cells.length) then k (.tup []) fr (st.set r (.cells (splice cs o (ev fr y).cells)))
        else k (.tup []) (fr.put s (.eptr (ev fr y) 0)) (st.del r)
      | _ => k (.tup []) fr (st.set r (.cells (splice cs o (ev fr y).cells)))
    | _ => False) (o : Oper) (ho : o.op = .store t x y) : Out P n g a ((execOp a.eval o).run P w) k := by
  have hx := ev_ok hf x
  split at h
  · rename_i r q he
    rw [he] at hx
    obtain ⟨hz, hfine, h⟩ := h
    obtain ⟨cs, hm, hl, h⟩ := asCells_of h
    have hy := ((ev_ok hf y).fine hfine).toRs
    have hrun := run_storeVar (P := P) hi hz hy hm hl
    have hI := hi.store hm hy hl
    have hrun' : (execOp a.eval o).run P w = .ok .skip (w.setCells r q (a.eval y).cells.toList) := by
      simp [execOp, ho, hx.ptr, Instr.storeAt, Instr.sureAddr, hrun]
    have plain : k (.tup []) fr (st.set r (.cells (splice cs q (ev fr y).cells))) → Out P n g a ((execOp a.eval o).run P w) k := fun hk =>
      .inr (.inl ⟨g, fr, _, _, hrun', Gh.le.refl g, hI, hf, hk⟩)
    split at h
    · rename_i s _
      split at h
      · exact plain h
      · rename_i hc
        have hk := h
        simp only [not_or, Decidable.not_not] at hc
        obtain ⟨_, rfl, hlen⟩ := hc
        have hsp : splice cs 0 (ev fr y).cells = (ev fr y).cells := by simp [splice, ← hlen]
        rw [hsp] at hI
        obtain ⟨g', us, l, hI', hAt, hRs⟩ := hI.freeze (by rw [St.mem_set, if_pos rfl])
        have hdel : (st.set r (.cells (ev fr y).cells)).del r = st.del r := by
          simp only [St.set, St.del, St.mk.injEq, and_true]
          funext x; split <;> rfl
        rw [hdel] at hI'
        refine .inr (.inl ⟨g', fr.put s (.eptr (ev fr y) 0), _, _, hrun', l, hI', ⟨hf.size, hf.defers, fun i => ?_⟩, hk⟩)
        unfold Fr.put
        split
        · subst i
          have : a.tmps.getD s undef = .pointer (some ⟨r, 0, none⟩) := hx.ptr
          rw [this]
          refine VT.mkOne ?_ (by simp)
          simp only [R]
          exact ⟨r, 0, us, rfl, hAt, R.ofRs hRs⟩
        · exact (hf.slot i).mono l
    · exact plain h
  · exact h.elim

theorem sound_nilCheck (hi : Inv g st w) (hf : FRel g n fr a) {x : Operand} (h : match ev fr x with
    | .ptr r o => k (.ptr r o) fr st
    | .eptr e o => k (.eptr e o) fr st
    | .fn f a b => k (.fn f a b) fr st
    | _ => False) (o : Oper) (ho : o.op = .nilCheck x) : Out P n g a ((execOp a.eval o).run P w) k := by
  have hx := ev_ok hf x
  split at h
  · rename_i he; rw [he] at hx
    exact Out.next hi hf (by simp [execOp, ho, hx.ptr]) (VT.mkPtr _ _) h
  · rename_i he; rw [he] at hx
    obtain ⟨b, p, us, hv, hA, hR⟩ := hx.eptr
    exact Out.next hi hf (by simp [execOp, ho, hv]) (hv ▸ hx) h
  · rename_i he; rw [he] at hx
    obtain ⟨u, v, hv, _⟩ := hx.fn
    exact Out.next hi hf (by simp [execOp, ho, hv]) (hv ▸ hx) h
  · exact h.elim

theorem run_fieldPlace {s : TypeId} {f q : Nat} (h : offOf P s f = some q) (b p : Nat) (w : World) :
    (Instr.fieldAt s (.pointer (some ⟨b, p, none⟩)) f).run P w = .ok (.pointer (some ⟨b, p + q, none⟩)) w := by
  unfold offOf at h
  split at h
  · rename_i fs hu
    cases hx : fs[f]? with
    | none => simp [hx] at h
    | some x =>
      simp only [hx, Option.bind_some] at h
      split at h
      · cases h
      · rename_i hz
        cases h
        cases hs : szOf P x.type with
        | none => simp [hs] at hz
        | some z =>
          simp only [hs, Option.getD_some] at hz
          have := run_sizeOf_some (P := P) hs w
          simp [Instr.fieldAt, run_underlying hu, hx, Instr.sureAddr, fieldPlace, this, hz, Addr.add_lit]
  · cases h

theorem sound_fieldAddr (hi : Inv g st w) (hf : FRel g n fr a) {s : TypeId} {x : Operand} {f : Nat} (h : match offOf P s f, ev fr x with
    | some o, .ptr r p => k (.ptr r (p + o)) fr st
    | some o, .eptr e p => k (.eptr e (p + o)) fr st
    | _, _ => False) (o : Oper) (ho : o.op = .fieldAddr s x f) : Out P n g a ((execOp a.eval o).run P w) k := by
  have hx := ev_ok hf x
  split at h
  · rename_i q r p hq he; rw [he] at hx
    have := run_fieldPlace hq r p w
    exact Out.next hi hf (v := .pointer (some ⟨r, p + q, none⟩)) (by simp [execOp, ho, hx.ptr, this]) (VT.mkPtr _ _) h
  · rename_i q e p hq he; rw [he] at hx
    obtain ⟨b, p', us, hv, hA, hR⟩ := hx.eptr
    have := run_fieldPlace hq b (p' + p) w
    refine Out.next hi hf (v := .pointer (some ⟨b, p' + p + q, none⟩)) (by simp [execOp, ho, hv, this]) (VT.mkOne ?_ (by simp)) h
    simp only [R]
    exact ⟨b, p', us, by simp [Nat.add_assoc], hA, hR⟩
  · exact h.elim

theorem Re.get {sz : Nat} : ∀ {es : List D} {b p : Nat}, Re g sz es b p → ∀ {i : Nat} {e : D}, es[i]? = some e → ∃ us, us.length = sz ∧ g.At b (p + i * sz) us ∧ R g e us
  | [], _, _, _, _, _, h => by simp at h
  | e :: es, b, p, h, i, e', he => by
    simp only [Re] at h
    cases i with
    | zero => simp at he; subst he; simpa using h.1
    | succ i =>
      have := Re.get h.2 (i := i) (e := e') (by simpa using he)
      simpa [Nat.add_mul, Nat.add_assoc, Nat.add_comm sz] using this

theorem slTy_of {t : TypeId} {z : Nat} (h : slTy P t = some z) : ∃ e, P.underlying t = some (.slice e) ∧ szOf P e = some z := by
  unfold slTy at h
  split at h
  · exact ⟨_, by assumption, h⟩
  · cases h
theorem arTy_of {t : TypeId} {m z : Nat} (h : arTy P t = some (m, z)) : ∃ e, P.underlying t = some (.array m e) ∧ szOf P e = some z := by
  unfold arTy at h
  split at h
  · rename_i e hu
    cases hs : szOf P e with
    | none => simp [hs] at h
    | some z' => simp [hs] at h; obtain ⟨rfl, rfl⟩ := h; exact ⟨_, hu, hs⟩
  · cases h

theorem sound_indexAddr (hi : Inv g st w) (hf : FRel g n fr a) {t : TypeId} {x y : Operand} (h : (ev fr y).asInt fun _ i => match ev fr x with
    | .sl _ sz es => slTy P t = some sz ∧ 0 ≤ i ∧ i.toNat < es.length ∧ k (.eptr (es.getD i.toNat .any) 0) fr st
    | .msl r o n sz => slTy P t = some sz ∧ 0 ≤ i ∧ i.toNat < n ∧ k (.ptr r (o + i.toNat * sz)) fr st
    | .ptr r o => match arTy P t with
      | some (n, sz) => 0 ≤ i ∧ i.toNat < n ∧ k (.ptr r (o + i.toNat * sz)) fr st
      | none => False
    | .eptr e o => match arTy P t with
      | some (n, sz) => 0 ≤ i ∧ i.toNat < n ∧ k (.eptr e (o + i.toNat * sz)) fr st
      | none => False
    | _ => False) (o : Oper) (ho : o.op = .indexAddr t x y) : Out P n g a ((execOp a.eval o).run P w) k := by
  have hx := ev_ok hf x
  have hy := ev_ok hf y
  obtain ⟨kd, i, hi', h⟩ := asInt_of h
  rw [hi'] at hy
  split at h
  · rename_i ow sz es he; rw [he] at hx
    obtain ⟨hT, h0, h1, hk⟩ := h
    obtain ⟨e, hu, hz⟩ := slTy_of hT
    have hs := run_sizeOf_some (P := P) hz w
    rcases hx.sl with ⟨_, rfl, _⟩ | ⟨b, p, cap, hv, hcap, _, hRe⟩
    · simp at h1
    · have hlt : i < (es.length : Int) := by omega
      have hge : es[i.toNat]? = some (es.getD i.toNat .any) := by simp [List.getD, h1]
      obtain ⟨us, hus, hAt, hR⟩ := Re.get hRe hge
      refine Out.next hi hf (v := .pointer (some ⟨b, p + i.toNat * sz, none⟩)) ?_ (VT.mkOne ?_ (by simp)) hk
      · simp [execOp, ho, hv, hy.int, Instr.indexAt, asIntOf, run_underlying hu, h0, hlt, hs, Addr.add_lit]
      · simp only [R]
        exact ⟨b, p + i.toNat * sz, us, by simp, hAt, hR⟩
  · rename_i r q m sz he; rw [he] at hx
    obtain ⟨hT, h0, h1, hk⟩ := h
    obtain ⟨e, hu, hz⟩ := slTy_of hT
    have hs := run_sizeOf_some (P := P) hz w
    obtain ⟨cap, hv, _⟩ := hx.msl
    have hlt : i < (m : Int) := by omega
    exact Out.next hi hf (v := .pointer (some ⟨r, q + i.toNat * sz, none⟩)) (by simp [execOp, ho, hv, hy.int, Instr.indexAt, asIntOf, run_underlying hu, h0, hlt, hs, Addr.add_lit]) (VT.mkPtr _ _) hk
  · rename_i r q he; rw [he] at hx
    split at h
    · rename_i m sz hT
      obtain ⟨h0, h1, hk⟩ := h
      obtain ⟨e, hu, hz⟩ := arTy_of hT
      have hs := run_sizeOf_some (P := P) hz w
      have hlt : i < (m : Int) := by omega
      exact Out.next hi hf (v := .pointer (some ⟨r, q + i.toNat * sz, none⟩)) (by simp [execOp, ho, hx.ptr, hy.int, Instr.indexAt, Instr.sureAddr, asIntOf, run_underlying hu, h0, hlt, hs, Addr.add_lit]) (VT.mkPtr _ _) hk
    · exact h.elim
  · rename_i e0 q he; rw [he] at hx
    split at h
    · rename_i m sz hT
      obtain ⟨h0, h1, hk⟩ := h
      obtain ⟨e, hu, hz⟩ := arTy_of hT
      have hs := run_sizeOf_some (P := P) hz w
      have hlt : i < (m : Int) := by omega
      obtain ⟨b, p, us, hv, hA, hR⟩ := hx.eptr
      refine Out.next hi hf (v := .pointer (some ⟨b, p + q + i.toNat * sz, none⟩)) (by simp [execOp, ho, hv, hy.int, Instr.indexAt, Instr.sureAddr, asIntOf, run_underlying hu, h0, hlt, hs, Addr.add_lit]) (VT.mkOne ?_ (by simp)) hk
      simp only [R]
      exact ⟨b, p, us, by simp [Nat.add_assoc], hA, hR⟩
    · exact h.elim
  · exact h.elim

theorem sound_extract (hi : Inv g st w) (hf : FRel g n fr a) {x : Operand} {i : Nat} (h : (ev fr x).asTup fun l => i < l.length ∧ k (l.getD i .any) fr st) (o : Oper) (ho : o.op = .extract x i) :
    Out P n g a ((execOp a.eval o).run P w) k := by
  have hx := ev_ok hf x
  obtain ⟨l, hl, h1, hk⟩ := asTup_of h
  rw [hl] at hx
  obtain ⟨arr, hv, hs⟩ := hx.tup
  obtain ⟨v, hv1, hv2⟩ := hs.get (i := i) (d := l.getD i .any) (by simp [List.getD, h1])
  have hv1' : arr[i]? = some v := by simpa using hv1
  exact Out.next hi hf (v := v) (by simp [execOp, ho, hv, Instr.extract, hv1']) (VT.ofV1 hv2) hk
end ops
end Go.Proofs.YtddbidoaolnegaaGreatDoor
