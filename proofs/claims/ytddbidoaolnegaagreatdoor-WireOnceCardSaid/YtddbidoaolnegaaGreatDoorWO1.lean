/-
PART OF A CLAIM: A, B. No statement of the seat is proved here; no condition. -/
import Derived.WalkKit
import Derived.Below
import Derived.Laws.IdiomCopy
import Derived.Orders
import Derived.Maps.Keyed
set_option linter.all false
/- An abstract view of the memory of one goroutine: slices as lists, mutable blocks, tokens for appending; and what it means that a call comes to an abstract result. No statement of the seat is proved here; no condition. -/
namespace Go.Proofs.YtddbidoaolnegaaGreatDoor
open Go Go.RowKit

/-- Who may append to a slice: nobody knows (frozen), it is the nil slice, or whoever holds the token. -/
inductive Own where
  | frozen
  | nil
  | tok (i : Nat)

/-- Abstract values. -/
inductive D where
  | any
  | bool (b : Bool)
  | int (k : IntKind) (n : Int)
  | str (s : List UInt8)
  | ptr (r o : Nat)
  | nilptr
  | eptr (e : D) (o : Nat)
  | sl (ow : Own) (sz : Nat) (es : List D)
  | msl (r o n sz : Nat)
  | map (r : Nat)
  | nilmap
  | fn (f : FuncId) (first cap : List D)
  | nilfn
  | iface (t : TypeId) (v : D)
  | niliface
  | agg (cs : List D)
  | tup (vs : List D)

/-- What an abstract value is made of, cell by cell. -/
def D.cells : D → List D
  | .agg cs => cs
  | d => [d]

structure Tok where
  b : Nat
  p : Nat
  n : Nat
  cap : Nat
  sz : Nat

/-- Ghosts: the cells that never change any more, with what they hold; where the tokens' slices lie; the world at the beginning, and what the one package-level variable, errors.errorType, holds there. -/
structure Gh where
  base : Nat
  w0 : World
  F : Nat → Nat → Option Value
  G : Nat → Option Tok
  glob : 0 < base ∧ w0.cell? ⟨0, 0, none⟩ = some (.iface 147 (.agg #[.pointer (some ⟨1, 39, none⟩)]))

structure Gh.le (g h : Gh) : Prop where
  base : h.base = g.base
  w0 : h.w0 = g.w0
  F : ∀ b o v, g.F b o = some v → h.F b o = some v
  G : ∀ i t, g.G i = some t → h.G i = some t

theorem Gh.le.refl (g : Gh) : g.le g := ⟨rfl, rfl, fun _ _ _ h => h, fun _ _ h => h⟩
theorem Gh.le.trans {a b c : Gh} (h : a.le b) (k : b.le c) : a.le c :=
  ⟨k.base.trans h.base, k.w0.trans h.w0, fun _ _ _ x => k.F _ _ _ (h.F _ _ _ x), fun _ _ x => k.G _ _ (h.G _ _ x)⟩

/-- The cells from a place on are frozen and hold these. -/
def Gh.At (g : Gh) (b p : Nat) (us : List Value) : Prop := ∀ j u, us[j]? = some u → g.F b (p + j) = some u

theorem Gh.At.mono {g h : Gh} (l : g.le h) {b p : Nat} {us : List Value} (x : g.At b p us) : h.At b p us := fun j u e => l.F _ _ _ (x j u e)

/-- Where a slice that is not nil lies, as far as its owner says. -/
def Own.lies (g : Gh) : Own → Nat → Nat → Nat → Nat → Nat → Prop
  | .frozen, _, _, _, _, _ => True
  | .nil, _, _, _, _, _ => False
  | .tok i, b, p, n, cap, sz => g.G i = some ⟨b, p, n, cap, sz⟩

theorem Own.lies_mono {g h : Gh} (l : g.le h) {ow : Own} {b p n cap sz : Nat} (x : ow.lies g b p n cap sz) : ow.lies h b p n cap sz := by
  cases ow with
  | frozen => trivial
  | nil => exact x
  | tok i => exact l.G _ _ x

def Own.mayNil : Own → Prop
  | .frozen => True
  | .nil => True
  | .tok _ => False

/-- What an empty slice without room may be. -/
def Own.bare : Own → Option Addr → Prop
  | .frozen, _ => True
  | .nil, oa => oa = none
  | .tok _, _ => False

mutual
/-- An abstract value against the cells that bear it. -/
def R (g : Gh) : D → List Value → Prop
  | .any, vs => ∃ v, vs = [v] ∧ v.oneCell' = true
  | .bool b, vs => vs = [.bool b]
  | .int k n, vs => vs = [.int k n]
  | .str s, vs => vs = [.string ⟨s.toArray⟩]
  | .ptr r o, vs => vs = [.pointer (some ⟨r, o, none⟩)]
  | .nilptr, vs => vs = [.pointer none]
  | .eptr e o, vs => ∃ b p us, vs = [.pointer (some ⟨b, p + o, none⟩)] ∧ g.At b p us ∧ R g e us
  | .sl ow sz es, vs => (ow.mayNil ∧ es = [] ∧ ∃ oa, ow.bare oa ∧ vs = [.slice oa 0 0]) ∨
      (∃ b p cap, vs = [.slice (some ⟨b, p, none⟩) es.length cap] ∧ es.length ≤ cap ∧ ow.lies g b p es.length cap sz ∧ Re g sz es b p)
  | .msl r o n sz, vs => ∃ cap, vs = [.slice (some ⟨r, o, none⟩) n cap] ∧ n ≤ cap ∧ 0 < sz
  | .map r, vs => vs = [.map (some r)]
  | .nilmap, vs => vs = [.map none]
  | .fn f first cap, vs => ∃ a b, vs = [.func (.func f) a b] ∧ Rs g first a.toList ∧ Rs g cap b.toList
  | .nilfn, vs => vs = [.nilFunc]
  | .iface t v, vs => ∃ u, vs = [.iface t u] ∧ R g v [u]
  | .niliface, vs => vs = [.nilIface]
  | .agg cs, vs => Rs g cs vs
  | .tup _, _ => False
/-- Cells one by one. -/
def Rs (g : Gh) : List D → List Value → Prop
  | [], vs => vs = []
  | c :: cs, vs => ∃ v r, vs = v :: r ∧ R g c [v] ∧ v.oneCell' = true ∧ Rs g cs r
/-- Elements of so many cells each, frozen, from a place on. -/
def Re (g : Gh) (sz : Nat) : List D → Nat → Nat → Prop
  | [], _, _ => True
  | e :: es, b, p => (∃ us, us.length = sz ∧ g.At b p us ∧ R g e us) ∧ Re g sz es b (p + sz)
end

mutual
theorem R.mono {g h : Gh} (l : g.le h) : ∀ (d : D) (vs : List Value), R g d vs → R h d vs
  | .any, _, x => by simpa [R] using x
  | .bool _, _, x => by simpa [R] using x
  | .int _ _, _, x => by simpa [R] using x
  | .str _, _, x => by simpa [R] using x
  | .ptr _ _, _, x => by simpa [R] using x
  | .nilptr, _, x => by simpa [R] using x
  | .eptr e o, vs, x => by
    simp only [R] at x ⊢
    obtain ⟨b, p, us, h1, h2, h3⟩ := x
    exact ⟨b, p, us, h1, h2.mono l, R.mono l e us h3⟩
  | .sl ow sz es, vs, x => by
    simp only [R] at x ⊢
    rcases x with x | ⟨b, p, cap, h1, h2, h3, h4⟩
    · exact .inl x
    · exact .inr ⟨b, p, cap, h1, h2, Own.lies_mono l h3, Re.mono l sz es b p h4⟩
  | .msl _ _ _ _, _, x => by simpa [R] using x
  | .map _, _, x => by simpa [R] using x
  | .nilmap, _, x => by simpa [R] using x
  | .fn f first cap, vs, x => by
    simp only [R] at x ⊢
    obtain ⟨a, b, h1, h2, h3⟩ := x
    exact ⟨a, b, h1, Rs.mono l first _ h2, Rs.mono l cap _ h3⟩
  | .nilfn, _, x => by simpa [R] using x
  | .iface t v, vs, x => by
    simp only [R] at x ⊢
    obtain ⟨u, h1, h2⟩ := x
    exact ⟨u, h1, R.mono l v _ h2⟩
  | .niliface, _, x => by simpa [R] using x
  | .agg cs, vs, x => by
    simp only [R] at x ⊢
    exact Rs.mono l cs vs x
  | .tup _, _, x => by simp [R] at x
theorem Rs.mono {g h : Gh} (l : g.le h) : ∀ (cs : List D) (vs : List Value), Rs g cs vs → Rs h cs vs
  | [], _, x => by simpa [Rs] using x
  | c :: cs, vs, x => by
    simp only [Rs] at x ⊢
    obtain ⟨v, r, h1, h2, h3, h4⟩ := x
    exact ⟨v, r, h1, R.mono l c _ h2, h3, Rs.mono l cs r h4⟩
theorem Re.mono {g h : Gh} (l : g.le h) (sz : Nat) : ∀ (es : List D) (b p : Nat), Re g sz es b p → Re h sz es b p
  | [], _, _, _ => by simp [Re]
  | e :: es, b, p, x => by
    simp only [Re] at x ⊢
    obtain ⟨⟨us, h1, h2, h3⟩, h4⟩ := x
    exact ⟨⟨us, h1, h2.mono l, R.mono l e us h3⟩, Re.mono l sz es b (p + sz) h4⟩
end

/-- An abstract value against a value. -/
def V1 (g : Gh) (d : D) (v : Value) : Prop :=
  match d with
  | .agg cs => ∃ arr, v = .agg arr ∧ Rs g cs arr.toList
  | d => R g d [v] ∧ v.oneCell' = true

def V1s (g : Gh) : List D → List Value → Prop
  | [], vs => vs = []
  | d :: ds, vs => ∃ v r, vs = v :: r ∧ V1 g d v ∧ V1s g ds r

/-- As it stands in a slot: nothing may be known. -/
def VT (g : Gh) (d : D) (v : Value) : Prop :=
  match d with
  | .any => True
  | .tup ds => ∃ arr, v = .tuple arr ∧ V1s g ds arr.toList
  | d => V1 g d v

theorem V1.mono {g h : Gh} (l : g.le h) {d : D} {v : Value} (x : V1 g d v) : V1 h d v := by
  unfold V1 at x ⊢
  split at x
  · obtain ⟨arr, h1, h2⟩ := x; exact ⟨arr, h1, h2.mono l⟩
  · exact ⟨R.mono l _ _ x.1, x.2⟩
theorem V1s.mono {g h : Gh} (l : g.le h) : ∀ {ds : List D} {vs : List Value}, V1s g ds vs → V1s h ds vs
  | [], _, x => x
  | _ :: _, _, ⟨v, r, h1, h2, h3⟩ => ⟨v, r, h1, h2.mono l, h3.mono l⟩
theorem VT.mono {g h : Gh} (l : g.le h) {d : D} {v : Value} (x : VT g d v) : VT h d v := by
  unfold VT at x ⊢
  split at x
  · trivial
  · obtain ⟨arr, h1, h2⟩ := x; exact ⟨arr, h1, h2.mono l⟩
  · exact x.mono l

/-- Mutable objects. -/
inductive Ob where
  | cells (cs : List D)
  | map (K : TypeId) (es : List (Value × D))
  | iter (s : List UInt8) (pos : Nat)

structure St where
  mem : Nat → Option Ob
  tok : Nat → Bool

def St.set (st : St) (r : Nat) (o : Ob) : St := { st with mem := fun x => if x = r then some o else st.mem x }
def St.del (st : St) (r : Nat) : St := { st with mem := fun x => if x = r then none else st.mem x }
def St.give (st : St) (j : Nat) : St := { st with tok := fun x => if x = j then true else st.tok x }
def St.take (st : St) (j : Nat) : St := { st with tok := fun x => if x = j then false else st.tok x }

theorem St.mem_set (st : St) (r x : Nat) (o : Ob) : (st.set r o).mem x = if x = r then some o else st.mem x := rfl
theorem St.mem_del (st : St) (r x : Nat) : (st.del r).mem x = if x = r then none else st.mem x := rfl
theorem St.mem_give (st : St) (j x : Nat) : (st.give j).mem x = st.mem x := rfl
theorem St.mem_take (st : St) (j x : Nat) : (st.take j).mem x = st.mem x := rfl
theorem St.tok_set (st : St) (r x : Nat) (o : Ob) : (st.set r o).tok x = st.tok x := rfl
theorem St.tok_del (st : St) (r x : Nat) : (st.del r).tok x = st.tok x := rfl
theorem St.tok_give (st : St) (j x : Nat) : (st.give j).tok x = if x = j then true else st.tok x := rfl
theorem St.tok_take (st : St) (j x : Nat) : (st.take j).tok x = if x = j then false else st.tok x := rfl

/-- A part of what is known. -/
structure St.le (a b : St) : Prop where
  mem : ∀ r o, a.mem r = some o → b.mem r = some o
  tok : ∀ i, a.tok i = true → b.tok i = true
theorem St.le.refl (a : St) : a.le a := ⟨fun _ _ h => h, fun _ h => h⟩
theorem St.le.trans {a b c : St} (h : a.le b) (k : b.le c) : a.le c := ⟨fun _ _ x => k.mem _ _ (h.mem _ _ x), fun _ x => k.tok _ (h.tok _ x)⟩
theorem St.le_set {a b : St} (h : a.le b) {r : Nat} (o : Ob) (hr : a.mem r = none) : a.le (b.set r o) := by
  refine ⟨fun x y hx => ?_, h.tok⟩
  rw [St.mem_set]
  split
  · subst x; rw [hr] at hx; cases hx
  · exact h.mem _ _ hx
theorem St.le_give {a b : St} (h : a.le b) (j : Nat) : a.le (b.give j) := by
  refine ⟨h.mem, fun i hi => ?_⟩
  rw [St.tok_give]; split
  · rfl
  · exact h.tok _ hi
theorem St.le_take {a b : St} (h : a.le b) {j : Nat} (hj : a.tok j = false) : a.le (b.take j) := by
  refine ⟨h.mem, fun i hi => ?_⟩
  rw [St.tok_take]; split
  · subst i; rw [hj] at hi; cases hi
  · exact h.tok _ hi

/-- No cell of a block is frozen by the model's own mark. -/
def fzOk (fz : Nat × Nat) (n : Nat) : Prop := fz.1 = fz.2 ∨ n ≤ fz.1
theorem fzOk.off {fz : Nat × Nat} {n : Nat} (h : fzOk fz n) : ∀ o, o < n → ¬ (fz.1 ≤ o ∧ o < fz.2) := fun o ho hc => by
  rcases h with h | h
  · rw [h] at hc; omega
  · omega

def MR (g : Gh) : List (Value × D) → List MapEntry → Prop
  | [], es => es = []
  | x :: xs, es => ∃ e r, es = e :: r ∧ e.key = x.1 ∧ R g x.2 [e.val] ∧ e.val.oneCell' = true ∧ MR g xs r

theorem MR.mono {g h : Gh} (l : g.le h) : ∀ {xs : List (Value × D)} {es : List MapEntry}, MR g xs es → MR h xs es
  | [], _, x => x
  | _ :: _, _, ⟨e, r, h1, h2, h3, h4, h5⟩ => ⟨e, r, h1, h2, R.mono l _ _ h3, h4, h5.mono l⟩

def Ob.ok (g : Gh) (w : World) (r : Nat) : Ob → Prop
  | .cells cs => ∃ arr el fz, w.heap[r]? = some (.cells arr el fz) ∧ fzOk fz arr.size ∧ Rs g cs arr.toList
  | .map _ es => ∃ arr clk, w.heap[r]? = some (.map arr clk) ∧ MR g es arr.toList ∧ (es.map (·.1)).Nodup
  | .iter s pos => w.heap[r]? = some (.stringIter ⟨s.toArray⟩ pos)

theorem Ob.ok_mono {g h : Gh} (l : g.le h) {w w' : World} {r : Nat} (hw : w'.heap[r]? = w.heap[r]?) {o : Ob} (x : o.ok g w r) : o.ok h w' r := by
  cases o with
  | cells cs => obtain ⟨arr, el, fz, h1, h2, h3⟩ := x; exact ⟨arr, el, fz, hw.trans h1, h2, h3.mono l⟩
  | map K es => obtain ⟨arr, clk, h1, h2, h3⟩ := x; exact ⟨arr, clk, hw.trans h1, h2.mono l, h3⟩
  | iter s pos => exact hw.trans x

/-- A token's slice has its spare cells, unseen. -/
structure TokOk (g : Gh) (st : St) (w : World) (t : Tok) : Prop where
  new : g.base ≤ t.b
  clear : st.mem t.b = none
  room : t.n ≤ t.cap
  lies : ∃ arr el fz, w.heap[t.b]? = some (.cells arr el fz) ∧ fzOk fz arr.size ∧ t.p + t.cap * t.sz ≤ arr.size
  free : ∀ o, t.p + t.n * t.sz ≤ o → g.F t.b o = none

/-- The abstract state is a view of the world. -/
structure Inv (g : Gh) (st : St) (w : World) : Prop where
  below : Below g.base g.w0 w
  base : g.base ≤ w.heap.size
  fz : ∀ b o v, g.F b o = some v → w.cell? ⟨b, o, none⟩ = some v
  mem : ∀ r ob, st.mem r = some ob → g.base ≤ r ∧ (∀ o, g.F r o = none) ∧ ob.ok g w r
  tok : ∀ i, st.tok i = true → ∃ t, g.G i = some t ∧ TokOk g st w t
  apart : ∀ i j s t, st.tok i = true → st.tok j = true → i ≠ j → g.G i = some s → g.G j = some t → s.b ≠ t.b
  fin : ∃ N, ∀ i, N ≤ i → g.G i = none

theorem Inv.lt {g : Gh} {st : St} {w : World} (h : Inv g st w) {r : Nat} {ob : Ob} (hr : st.mem r = some ob) : r < w.heap.size := by
  obtain ⟨_, _, x⟩ := h.mem r ob hr
  rcases Nat.lt_or_ge r w.heap.size with hl | hl
  · exact hl
  · cases ob <;> simp [Ob.ok, Array.getElem?_eq_none hl] at x
theorem Inv.ltF {g : Gh} {st : St} {w : World} (h : Inv g st w) {b o : Nat} {v : Value} (hb : g.F b o = some v) : b < w.heap.size :=
  World.block_lt_of_cell? (a := ⟨b, o, none⟩) _ (h.fz _ _ _ hb)
theorem Inv.ltT {g : Gh} {st : St} {w : World} (h : Inv g st w) {i : Nat} {t : Tok} (hi : st.tok i = true) (ht : g.G i = some t) : t.b < w.heap.size := by
  obtain ⟨t', h1, h2⟩ := h.tok i hi
  rw [ht] at h1; cases h1
  obtain ⟨arr, el, fz, h3, _⟩ := h2.lies
  rcases Nat.lt_or_ge t.b w.heap.size with hl | hl
  · exact hl
  · simp [Array.getElem?_eq_none hl] at h3

/-- What does not touch what was there. -/
theorem Inv.ext {g : Gh} {st : St} {w w' : World} (h : Inv g st w) (hb : Below w.heap.size w w') : Inv g st w' where
  below := h.below.trans (hb.mono h.base)
  base := Nat.le_trans h.base hb.size
  fz b o v hv := by rw [hb.cell (p := ⟨b, o, none⟩) (h.ltF hv)]; exact h.fz b o v hv
  mem r ob hr := by
    obtain ⟨h1, h2, h3⟩ := h.mem r ob hr
    exact ⟨h1, h2, Ob.ok_mono (Gh.le.refl g) (hb.block r (h.lt hr)) h3⟩
  tok i hi := by
    obtain ⟨t, h1, h2⟩ := h.tok i hi
    refine ⟨t, h1, h2.new, h2.clear, h2.room, ?_, h2.free⟩
    rw [hb.block t.b (h.ltT hi h1)]; exact h2.lies
  apart := h.apart
  fin := h.fin

theorem Inv.weak {g : Gh} {st st' : St} {w : World} (h : Inv g st w) (l : st'.le st) : Inv g st' w where
  below := h.below
  base := h.base
  fz := h.fz
  mem r ob hr := h.mem r ob (l.mem r ob hr)
  tok i hi := by
    obtain ⟨t, h1, h2⟩ := h.tok i (l.tok i hi)
    refine ⟨t, h1, h2.new, ?_, h2.room, h2.lies, h2.free⟩
    cases hm : st'.mem t.b with
    | none => rfl
    | some o => have := l.mem _ _ hm; rw [h2.clear] at this; cases this
  apart i j s t hi hj := h.apart i j s t (l.tok i hi) (l.tok j hj)
  fin := h.fin

/-- A call comes to an abstract result and an abstract state that meet k. -/
def Sem (P : Program) (f : FuncId) (args : List D) (st : St) (k : D → St → Prop) : Prop :=
  (∀ as w, (callFunc f as).run P w = .ok (.enter f as) w) ∧ ∀ (g : Gh) (w : World) (vs : List Value), Inv g st w → V1s g args vs →
    Calls P f vs.toArray w fun e w' => ∃ g' v d st', e = .returned v ∧ g.le g' ∧ Inv g' st' w' ∧ VT g' d v ∧ k d st'

theorem Sem.mono {P : Program} {f : FuncId} {args : List D} {st : St} {k k' : D → St → Prop} (h : Sem P f args st k) (hk : ∀ d st', k d st' → k' d st') : Sem P f args st k' :=
  ⟨h.1, fun g w vs hi hv => (h.2 g w vs hi hv).mono fun _ _ ⟨g', v, d, st', h1, h2, h3, h4, h5⟩ => ⟨g', v, d, st', h1, h2, h3, h4, hk d st' h5⟩⟩

abbrev Fr := Nat → D
def Fr.put (fr : Fr) (i : Nat) (d : D) : Fr := fun x => if x = i then d else fr x

structure FRel (g : Gh) (n : Nat) (fr : Fr) (a : Act) : Prop where
  size : a.tmps.size = n
  defers : a.defers = []
  slot : ∀ i, VT g (fr i) (a.tmps.getD i undef)

theorem FRel.mono {g h : Gh} (l : g.le h) {n : Nat} {fr : Fr} {a : Act} (x : FRel g n fr a) : FRel h n fr a := ⟨x.size, x.defers, fun i => (x.slot i).mono l⟩

theorem FRel.put {g : Gh} {n : Nat} {fr : Fr} {a : Act} (x : FRel g n fr a) {i : Nat} (hi : i < n) {d : D} {v : Value} (hv : VT g d v) : FRel g n (Fr.put fr i d) (a.put (some i) v) := by
  refine ⟨by simp [Act.put, x.size], x.defers, fun j => ?_⟩
  unfold Fr.put
  have hi' : i < a.tmps.size := by rw [x.size]; exact hi
  by_cases h : j = i
  · subst h
    rw [if_pos rfl]
    simpa [Act.put, Array.getD, hi'] using hv
  · rw [if_neg h]
    have := x.slot j
    simpa [Act.put, Array.getD_eq_getD_getElem?, Array.getElem?_setIfInBounds, Ne.symm h] using this

/-- The ends that the abstract reckoning knows. -/
def plainExit : Exit → Bool
  | .normal | .exit _ | .ret => true
  | _ => false

def lift (g : Gh) (n : Nat) (Q : Exit → Fr → St → Prop) (e : Exit) (a : Act) (w : World) : Prop :=
  plainExit e = true ∧ ∃ g' fr st, g.le g' ∧ Inv g' st w ∧ FRel g' n fr a ∧ Q e fr st

/-- Code comes, abstractly, to Q. -/
def W (P : Program) (n : Nat) (c : Code) (Q : Exit → Fr → St → Prop) (fr : Fr) (st : St) : Prop :=
  ∀ (g : Gh) (w : World) (a : Act), Inv g st w → FRel g n fr a → c.wp P (lift g n Q) a w

theorem lift.up {g g' : Gh} (l : g.le g') {n : Nat} {Q : Exit → Fr → St → Prop} {e : Exit} {a : Act} {w : World} (h : lift g' n Q e a w) : lift g n Q e a w := by
  obtain ⟨hp, g2, fr, st, h1, h2, h3, h4⟩ := h
  exact ⟨hp, g2, fr, st, l.trans h1, h2, h3, h4⟩

theorem exitTo_length {id : Nat} : ∀ {k k' : List Item}, exitTo id k = some k' → k'.length ≤ k.length
  | [], _, h => by simp [exitTo] at h
  | x :: k, k', h => by
    have go : ∀ {k'}, exitTo id k = some k' → k'.length ≤ (x :: k).length := fun h => by
      have := exitTo_length h
      simp; omega
    cases x with
    | inBlock id' =>
      simp only [exitTo] at h
      split at h
      · cases h; simp
      · exact go h
    | _ => exact go (by simpa [exitTo] using h)

theorem Steps.behind {P : Program} {m m1 m2 mf : Machine} (h : step P m1 = .next m2) (hs : Steps P m m2) (h1 : Steps P m1 mf) (hne : mf ≠ m1) : Steps P m mf := by
  obtain ⟨n, hn⟩ := h1
  cases n with
  | zero => simp only [runN, Stepped.next.injEq] at hn; exact absurd hn.symm hne
  | succ n =>
    simp only [runN, h] at hn
    exact hs.trans ⟨n, hn⟩

section rules
variable {P : Program} {n : Nat} {Q : Exit → Fr → St → Prop} {fr : Fr} {st : St}

theorem W.mono {c : Code} {Q' : Exit → Fr → St → Prop} (h : W P n c Q fr st) (hq : ∀ e fr st, Q e fr st → Q' e fr st) : W P n c Q' fr st :=
  fun g w a hi hf => wp_mono (h g w a hi hf) fun _ _ _ ⟨hp, g', fr', st', h1, h2, h3, h4⟩ => ⟨hp, g', fr', st', h1, h2, h3, hq _ _ _ h4⟩

/-- Fewer slots are known, fewer objects. -/
theorem W.weak {c : Code} {fr' : Fr} {st' : St} (h : W P n c Q fr' st') (hf : ∀ i, fr' i = .any ∨ fr' i = fr i) (hs : st'.le st) : W P n c Q fr st :=
  fun g w a hi hr => h g w a (hi.weak hs) ⟨hr.size, hr.defers, fun i => by
    rcases hf i with e | e
    · rw [e]; trivial
    · rw [e]; exact hr.slot i⟩

theorem W.skip (h : Q .normal fr st) : W P n .skip Q fr st :=
  fun g w a hi hf => wp_skip ⟨rfl, g, fr, st, Gh.le.refl g, hi, hf, h⟩
theorem W.label {l : Nat} (h : Q .normal fr st) : W P n (.label l) Q fr st :=
  fun g w a hi hf => wp_label ⟨rfl, g, fr, st, Gh.le.refl g, hi, hf, h⟩
theorem W.exit {i : Nat} (h : Q (.exit i) fr st) : W P n (.exit i) Q fr st :=
  fun g w a hi hf => wp_exit ⟨rfl, g, fr, st, Gh.le.refl g, hi, hf, h⟩
theorem W.ret (h : Q .ret fr st) : W P n .ret Q fr st :=
  fun g w a hi hf => wp_ret ⟨rfl, g, fr, st, Gh.le.refl g, hi, hf, h⟩

/-- On to what follows, or out. -/
def thenQ (next : Fr → St → Prop) (Q : Exit → Fr → St → Prop) : Exit → Fr → St → Prop
  | .normal, fr, st => next fr st
  | e, fr, st => Q e fr st

theorem W.seq {x y : Code} (h : W P n x (thenQ (W P n y Q) Q) fr st) : W P n (.seq x y) Q fr st := by
  intro g w a hi hf
  refine wp_seq (wp_mono (h g w a hi hf) fun e a' w' hl => ?_)
  obtain ⟨hp, g', fr', st', h1, h2, h3, h4⟩ := hl
  cases e with
  | normal =>
    exact wp_mono (h4 g' w' a' h2 h3) fun _ _ _ hx => hx.up h1
  | exit id => exact ⟨rfl, g', fr', st', h1, h2, h3, h4⟩
  | ret => exact ⟨rfl, g', fr', st', h1, h2, h3, h4⟩
  | goto l => cases hp
  | panic ch => cases hp
  | outgrown => cases hp

def blockQ (id : Nat) (Q : Exit → Fr → St → Prop) : Exit → Fr → St → Prop
  | .exit id', fr, st => if id' = id then Q .normal fr st else Q (.exit id') fr st
  | e, fr, st => Q e fr st

theorem W.block {id : Nat} {c : Code} (h : W P n c (blockQ id Q) fr st) : W P n (.block id c) Q fr st := by
  intro g w a hi hf
  refine wp_block (wp_mono (h g w a hi hf) fun e a' w' hl => ?_)
  obtain ⟨hp, g', fr', st', h1, h2, h3, h4⟩ := hl
  cases e with
  | exit id' =>
    simp only [blockQ] at h4
    simp only [Exit.inBlock]
    split
    · rename_i he; rw [if_pos he] at h4; exact ⟨rfl, g', fr', st', h1, h2, h3, h4⟩
    · rename_i he; rw [if_neg he] at h4; exact ⟨rfl, g', fr', st', h1, h2, h3, h4⟩
  | normal => exact ⟨rfl, g', fr', st', h1, h2, h3, h4⟩
  | ret => exact ⟨rfl, g', fr', st', h1, h2, h3, h4⟩
  | goto l => cases hp
  | panic ch => cases hp
  | outgrown => cases hp

/-- One more round. -/
theorem W.loop {c : Code} (h : W P n c (thenQ (W P n (.loop c) Q) Q) fr st) : W P n (.loop c) Q fr st := by
  intro g w a hi hf b k cs
  obtain ⟨e, a₁, w₁, ⟨hp, g', fr', st', h1, h2, h3, h4⟩, harr⟩ := h g w a hi hf b (.inLoop c :: k) cs
  have out : ∀ e, plainExit e = true → e ≠ .normal → Arrives P (lone (b.at a (.code c :: .inLoop c :: k)) cs w) b (.inLoop c :: k) cs e a₁ w₁ → Q e fr' st' → ∃ e a' w', lift g n Q e a' w' ∧ Arrives P (lone (b.at a (.code (.loop c) :: k)) cs w) b k cs e a' w' :=
    fun e hp hne harr hQ => ⟨e, a₁, w₁, ⟨hp, g', fr', st', h1, h2, h3, hQ⟩, .of_steps (.one step_loop) (.pass (x := .inLoop c) rfl (fun _ _ => .inl hne) harr)⟩
  cases e with
  | normal =>
    obtain ⟨e₂, a₂, w₂, hq₂, harr₂⟩ := h4 g' w₁ a₁ h2 h3 b k cs
    have hs : Steps P (lone (b.at a (.code (.loop c) :: k)) cs w) (lone (b.at a₁ (.code c :: .inLoop c :: k)) cs w₁) := (Steps.one step_loop).trans (Steps.trans harr (.one step_inLoop))
    have h5 : step P (lone (b.at a₁ (.code (.loop c) :: k)) cs w₁) = .next (lone (b.at a₁ (.code c :: .inLoop c :: k)) cs w₁) := step_loop
    have ne : ∀ (fr2 : Frame) (w2 : World), fr2.todo ≠ .code (.loop c) :: k ∨ ¬ (fr2.mode matches .run) → lone fr2 cs w2 ≠ lone (b.at a₁ (.code (.loop c) :: k)) cs w₁ := by
      intro fr2 w2 hd he
      simp only [lone, Machine.mk.injEq, Array.mk.injEq, List.cons.injEq, Goroutine.mk.injEq] at he
      have hfr : fr2 = b.at a₁ (.code (.loop c) :: k) := by simpa using he.2.1
      subst hfr
      rcases hd with hd | hd
      · exact hd rfl
      · exact hd rfl
    refine ⟨e₂, a₂, w₂, hq₂.up h1, ?_⟩
    have hp₂ := hq₂.1
    cases e₂ with
    | normal => exact Steps.behind h5 hs harr₂ (ne _ _ (.inl (by intro he; have := congrArg List.length he; simp [Frame.at] at this)))
    | exit id => exact fun k' hk => Steps.behind h5 hs (harr₂ k' hk) (ne _ _ (.inl (by intro he; have := congrArg List.length he; have := exitTo_length hk; simp [Frame.at] at *; omega)))
    | ret =>
      obtain ⟨todo, ht⟩ := harr₂
      exact ⟨todo, Steps.behind h5 hs ht (ne _ _ (.inr (by simp)))⟩
    | goto l => cases hp₂
    | panic ch => cases hp₂
    | outgrown => cases hp₂
  | exit id => exact out _ rfl (by simp) harr h4
  | ret => exact out _ rfl (by simp) harr h4
  | goto l => cases hp
  | panic ch => cases hp
  | outgrown => cases hp

theorem W.weakQ {c : Code} {fr' : Fr} {st' : St} (hf : ∀ i, fr' i = .any ∨ fr' i = fr i) (hs : st'.le st) (h : W P n c Q fr' st') : W P n c Q fr st := h.weak hf hs
end rules
end Go.Proofs.YtddbidoaolnegaaGreatDoor
/- The operations of the translated program, reckoned on abstract values: what each comes to ('evOp'). No statement of the seat is proved here; no condition. -/
namespace Go.Proofs.YtddbidoaolnegaaGreatDoor
open Go Go.RowKit

/-! What the program's tables say of types. -/
def szOf (P : Program) (t : TypeId) : Option Nat := (P.info? t).map (·.size)
/-- How a variable of a type is read: whole, of so many cells; or one cell. -/
def ldTy (P : Program) (t : TypeId) : Option (Option Nat) :=
  match P.underlying t with
  | some (.struct _) | some (.array _ _) => (szOf P t).map some
  | some _ => if szOf P t = some 1 then some none else none
  | none => none
def offOf (P : Program) (s : TypeId) (f : Nat) : Option Nat :=
  match P.underlying s with
  | some (.struct fs) => (fs[f]?).bind fun x => if (szOf P x.type).getD 0 = 0 then none else some x.offset
  | _ => none
/-- A field of a struct value: where it lies, how it is read. -/
def partOf (P : Program) (s : TypeId) (f : Nat) : Option (Nat × Option Nat) :=
  match P.underlying s with
  | some (.struct fs) => (fs[f]?).bind fun x => (ldTy P x.type).map fun l => (x.offset, l)
  | _ => none
def slTy (P : Program) (t : TypeId) : Option Nat :=
  match P.underlying t with
  | some (.slice e) => szOf P e
  | _ => none
def slBytes (P : Program) (t : TypeId) : Option Nat :=
  match P.underlying t with
  | some (.slice e) => (P.info? e).bind fun i => if i.zero.map (·.cells.size) = some i.size then some i.bytes else none
  | _ => none
def arTy (P : Program) (t : TypeId) : Option (Nat × Nat) :=
  match P.underlying t with
  | some (.array n e) => (szOf P e).map fun z => (n, z)
  | _ => none
/-- How an element of an array is read. -/
def arEl (P : Program) (t : TypeId) : Option (Option Nat) :=
  match P.underlying t with
  | some (.array _ e) => ldTy P e
  | _ => none
def mapTy (P : Program) (t : TypeId) : Option (TypeId × TypeId) :=
  match P.underlying t with
  | some (.map k e) => some (k, e)
  | _ => none
def isStr (P : Program) (t : TypeId) : Bool := P.underlying t matches some .string
def intTy (P : Program) (t : TypeId) : Option IntKind :=
  match P.underlying t with
  | some (.int k) => some k
  | _ => none
/-- Slices of bytes. -/
def isBytes (P : Program) (t : TypeId) : Bool :=
  match P.underlying t with
  | some (.slice e) => (P.underlying e matches some (.int .u8))
  | _ => false
def isPtrTy (P : Program) (t : TypeId) : Bool := P.underlying t matches some (.pointer _)
def isIfTy (P : Program) (t : TypeId) : Bool := P.underlying t matches some (.interface _)
def isMapTy (P : Program) (t : TypeId) : Bool := P.underlying t matches some (.map _ _)
def isBoolTy (P : Program) (t : TypeId) : Bool := P.underlying t matches some .bool
def isSlTy (P : Program) (t : TypeId) : Bool := P.underlying t matches some (.slice _)
def isFnTy (P : Program) (t : TypeId) : Bool := P.underlying t matches some (.func _ _ _)

/-- A constant of one cell. -/
def ofC : Value → Option D
  | .bool b => some (.bool b)
  | .int k n => some (.int k n)
  | .string s => some (.str s.data.toList)
  | .pointer none => some .nilptr
  | .slice none 0 0 => some (.sl .nil 0 [])
  | .map none => some .nilmap
  | .nilFunc => some .nilfn
  | .nilIface => some .niliface
  | _ => none
def ofCs : List Value → Option (List D)
  | [] => some []
  | v :: vs => match ofC v, ofCs vs with
    | some d, some ds => some (d :: ds)
    | _, _ => none
/-- A constant as an abstract value. -/
def ofV : Value → D
  | .agg cs => match ofCs cs.toList with
    | some l => .agg l
    | none => .any
  | .tuple cs => if cs.size = 0 then .tup [] else .any
  | v => (ofC v).getD .any

def ev (fr : Fr) : Operand → D
  | .tmp t => fr t
  | .const v => ofV v
  | .global g => .ptr g 0
  | .func f => .fn f [] []

/-- One cell's value: neither a struct nor several results, and something known. -/
def D.flat : D → Bool
  | .any | .agg _ | .tup _ => false
  | _ => true
/-- Captured values are single cells. -/
def flats : List D → Bool
  | [] => true
  | d :: ds => d.flat && flats ds
/-- It may be laid into memory. -/
def D.fine : D → Bool
  | .any | .tup _ => false
  | _ => true
def D.isAgg (n : Nat) : D → Bool
  | .agg cs => cs.length == n
  | _ => false

def D.asBool (d : D) (k : Bool → Prop) : Prop := match d with | .bool b => k b | _ => False
def D.asInt (d : D) (k : IntKind → Int → Prop) : Prop := match d with | .int t n => k t n | _ => False
def D.asTup (d : D) (k : List D → Prop) : Prop := match d with | .tup l => k l | _ => False
def asCells (o : Option Ob) (k : List D → Prop) : Prop := match o with | some (.cells cs) => k cs | _ => False
def asMap (o : Option Ob) (k : TypeId → List (Value × D) → Prop) : Prop := match o with | some (.map K es) => k K es | _ => False

/-- Read cells as a type. -/
def ldCs (l : Option (Option Nat)) (cs : List D) (o : Nat) (k : D → Prop) : Prop :=
  match l with
  | some (some n) => o + n ≤ cs.length ∧ k (.agg ((cs.drop o).take n))
  | some none => o < cs.length ∧ (cs.getD o .any).flat = true ∧ k (cs.getD o .any)
  | none => False
/-- Read an element, or a part of it. -/
def ldE (l : Option (Option Nat)) (e : D) (o : Nat) (k : D → Prop) : Prop :=
  match l with
  | some (some n) => if o = 0 ∧ e.isAgg n = true then k e else ldCs l e.cells o k
  | l => ldCs l e.cells o k

/-- Cells with others laid over them. -/
def splice (cs : List D) (o : Nat) (xs : List D) : List D := cs.take o ++ xs ++ cs.drop (o + xs.length)

/-- Numbers of a kind. -/
def lo : IntKind → Int
  | .i8 => -128 | .i16 => -32768 | .i32 => -2147483648 | .i64 => -9223372036854775808 | _ => 0
def hi : IntKind → Int
  | .i8 => 127 | .i16 => 32767 | .i32 => 2147483647 | .i64 => 9223372036854775807 | .u8 => 255 | .u16 => 65535 | .u32 => 4294967295 | .u64 => 18446744073709551615

/-- Arithmetic that stays in its kind; comparisons. -/
def evInt (op : BinOp) (k : IntKind) (a b : Int) (c : D → Prop) : Prop :=
  match op with
  | .add => lo k ≤ a + b ∧ a + b ≤ hi k ∧ c (.int k (a + b))
  | .sub => lo k ≤ a - b ∧ a - b ≤ hi k ∧ c (.int k (a - b))
  | .mul => lo k ≤ a * b ∧ a * b ≤ hi k ∧ c (.int k (a * b))
  | .quo => 0 ≤ a ∧ 0 < b ∧ a ≤ hi k ∧ c (.int k (a / b))
  | .rem => 0 ≤ a ∧ 0 < b ∧ a ≤ hi k ∧ c (.int k (a % b))
  | .or => c (.int k (bits .or k a b))
  | .andNot => c (.int k (bits .andNot k a b))
  | .eql => c (.bool (decide (a = b)))
  | .neq => c (.bool (!decide (a = b)))
  | .lss => c (.bool (decide (a < b)))
  | .leq => c (.bool (decide (a ≤ b)))
  | .gtr => c (.bool (decide (b < a)))
  | .geq => c (.bool (decide (b ≤ a)))
  | _ => False

/-- Structs of numbers, held against each other: number by number. -/
def intsOf : List D → Option (List Int)
  | [] => some []
  | .int .i64 n :: r => (intsOf r).map (n :: ·)
  | _ => none

/-- Two structs of so many ints, of a type, are the same just if their numbers are. -/
def EqI (P : Program) (t : TypeId) (n : Nat) : Prop :=
  ∀ (w : World) (x y : Operand) (a b : List Int), a.length = n → b.length = n →
    (eqGuard .eql t x y (.agg (a.map (Value.int .i64)).toArray) (.agg (b.map (Value.int .i64)).toArray)).run P w = .ok () w ∧
    (eqGuard .neq t x y (.agg (a.map (Value.int .i64)).toArray) (.agg (b.map (Value.int .i64)).toArray)).run P w = .ok () w ∧
    (Op.equal t (.agg (a.map (Value.int .i64)).toArray) (.agg (b.map (Value.int .i64)).toArray)).run P w = .ok (decide (a = b)) w

def evAgg (P : Program) (t : TypeId) (xs ys : List D) (c : Bool → Prop) : Prop :=
  match intsOf xs, intsOf ys with
  | some a, some b => EqI P t a.length ∧ b.length = a.length ∧ c (decide (a = b))
  | _, _ => False

def evBin (P : Program) (op : BinOp) (t : TypeId) (lit : Bool) (x y : D) (c : D → Prop) : Prop :=
  match op, x, y with
  | .eql, .agg xs, .agg ys => evAgg P t xs ys fun b => c (.bool b)
  | .neq, .agg xs, .agg ys => evAgg P t xs ys fun b => c (.bool (!b))
  | .eql, .niliface, .niliface => lit = true ∧ isIfTy P t = true ∧ c (.bool true)
  | .neq, .niliface, .niliface => lit = true ∧ isIfTy P t = true ∧ c (.bool false)
  | .eql, .iface _ _, .niliface => isIfTy P t = true ∧ c (.bool false)
  | .neq, .iface _ _, .niliface => isIfTy P t = true ∧ c (.bool true)
  | .shl, .int k a, .int _ b => 0 ≤ b ∧ b ≤ k.bits ∧ c (.int k (k.wrap (a * 2 ^ b.toNat)))
  | .shr, .int k a, .int _ b => 0 ≤ b ∧ b ≤ k.bits ∧ c (.int k (a / 2 ^ b.toNat))
  | op, .int k a, .int l b => k = l ∧ evInt op k a b c
  | .eql, .str a, .str b => c (.bool (decide (a = b)))
  | .neq, .str a, .str b => c (.bool (!decide (a = b)))
  | .eql, .nilptr, .nilptr => isPtrTy P t = true ∧ c (.bool true)
  | .eql, .ptr _ _, .nilptr => isPtrTy P t = true ∧ c (.bool false)
  | .eql, .eptr _ _, .nilptr => isPtrTy P t = true ∧ c (.bool false)
  | .neq, .nilptr, .nilptr => isPtrTy P t = true ∧ c (.bool false)
  | .neq, .ptr _ _, .nilptr => isPtrTy P t = true ∧ c (.bool true)
  | .neq, .eptr _ _, .nilptr => isPtrTy P t = true ∧ c (.bool true)
  | .eql, .map _, .nilmap => isMapTy P t = true ∧ c (.bool false)
  | .eql, .nilmap, .nilmap => isMapTy P t = true ∧ c (.bool true)
  | .eql, .sl _ _ es, .sl .nil _ [] => isSlTy P t = true ∧ ∀ b, (b = true → es = []) → c (.bool b)
  | .eql, .bool a, .bool b => isBoolTy P t = true ∧ c (.bool (decide (a = b)))
  | .neq, .bool a, .bool b => isBoolTy P t = true ∧ c (.bool (!decide (a = b)))
  | _, _, _ => False

/-- The bytes of a list of them. -/
def bytesOf : List D → Option (List UInt8)
  | [] => some []
  | .int .u8 n :: r => (bytesOf r).map (UInt8.ofNat n.toNat :: ·)
  | _ => none

/-- Laid part by part over the zero value. -/
def fillD (offs : Nat → Option Nat) (cs : List D) : List (Nat × D) → Option (List D)
  | [] => some cs
  | (i, d) :: r => (offs i).bind fun o => if o + d.cells.length ≤ cs.length then fillD offs (splice cs o d.cells) r else none

def zeroD (P : Program) (t : TypeId) : Option D := ((P.info? t).bind (·.zero)).map ofV

def isLit : Operand → Bool
  | .const _ => true
  | _ => false

def keyC : D → Option Value
  | .int k n => some (.int k n)
  | .str s => some (.string ⟨s.toArray⟩)
  | _ => none
def keyCs : List D → Option (List Value)
  | [] => some []
  | d :: r => (keyC d).bind fun v => (keyCs r).map (v :: ·)
/-- A key as it lies in a map. -/
def keyV : D → Option Value
  | .agg cs => (keyCs cs).map fun l => .agg l.toArray
  | d => keyC d

/-- It may be a key of a type: what the laws of maps ask. -/
def KeyOk (P : Program) (K : TypeId) (v : Value) : Prop := Maps.Keyed P K ∧ ∃ l, keyOf P K v = some l

open Classical in
noncomputable def find (es : List (Value × D)) (v : Value) : Option D := (es.find? fun x => decide (x.1 = v)).map (·.2)
open Classical in
noncomputable def upd (es : List (Value × D)) (v : Value) (d : D) : List (Value × D) :=
  if es.any (fun x => decide (x.1 = v)) then es.map fun x => if x.1 = v then (v, d) else x else es ++ [(v, d)]

/-- A struct type, all of whose fields have a size in the table; an array. -/
def structOk (P : Program) (t : TypeId) : Bool :=
  match P.underlying t with
  | some (.struct fs) => fs.toList.all fun f => (szOf P f.type).isSome
  | some (.array _ e) => (szOf P e).isSome
  | _ => false
/-- Where a part of a literal lies, and how many cells it has. -/
def bldOf (P : Program) (t : TypeId) (i : Nat) : Option (Nat × Nat) :=
  match P.underlying t with
  | some (.struct fs) => (fs[i]?).bind fun x => (szOf P x.type).map fun z => (x.offset, z)
  | some (.array _ e) => (szOf P e).map fun z => (i * z, z)
  | _ => none

/-- Something new: a block, a token. -/
def newB (st : St) (k : Nat → Prop) : Prop := ∀ r, st.mem r = none → k r
def newT (st : St) (k : Nat → Prop) : Prop := ∀ j, st.tok j = false → k j

def optB (fr : Fr) (o : Option Operand) (dflt : Int) (k : Int → Prop) : Prop :=
  match o with
  | some x => (ev fr x).asInt fun _ n => k n
  | none => k dflt

def evSlice (P : Program) (t : TypeId) (x : D) (fr : Fr) (lo hi : Option Operand) (k : D → Prop) : Prop :=
  match x with
  | .sl _ sz es => slTy P t = some sz ∧ optB fr lo 0 fun l => optB fr hi es.length fun h => 0 ≤ l ∧ l ≤ h ∧ h ≤ es.length ∧ k (.sl .frozen sz ((es.take h.toNat).drop l.toNat))
  | .ptr r o => match arTy P t with
    | some (n, sz) => 0 < sz ∧ optB fr lo 0 fun l => optB fr hi n fun h => 0 ≤ l ∧ l ≤ h ∧ h ≤ n ∧ l < n ∧ k (.msl r (o + l.toNat * sz) (h - l).toNat sz)
    | none => False
  | _ => False

def evConv (P : Program) (s d : TypeId) (x : D) (st : St) (k : D → St → Prop) : Prop :=
  match x with
  | .int _ n => match intTy P d with
    | some kd => (P.underlying s).isSome = true ∧ k (.int kd (kd.wrap n)) st
    | none => False
  | .str b => slTy P d = some 1 ∧ isBytes P d = true ∧ isStr P s = true ∧ newT st fun j => k (.sl (.tok j) 1 (b.map fun c => .int .u8 c.toNat)) (st.give j)
  | .sl (.tok i) sz es => if isStr P d then match bytesOf es with | some b => slTy P s = some sz ∧ isBytes P s = true ∧ k (.str b) st | none => False
    else s = d ∧ isBytes P s = true ∧ st.tok i = true ∧ k (.sl (.tok i) sz es) st
  | .sl _ sz es => isStr P d = true ∧ match bytesOf es with | some b => slTy P s = some sz ∧ isBytes P s = true ∧ k (.str b) st | none => False
  | _ => False

/-- append of elements to a slice. -/
def evAppend (P : Program) (t : TypeId) (x : D) (ys : List D) (st : St) (k : D → St → Prop) : Prop :=
  match x with
  | .sl ow sz es => match slTy P t, slBytes P t with
    | some z, some bs => (∀ y ∈ ys, y.fine = true ∧ y.cells.length = z) ∧ (es.length + ys.length) * (2 * bs + 2) ≤ 281474976710656 ∧
      match ow with
      | .tok i => sz = z ∧ st.tok i = true ∧ newT st fun j => k (.sl (.tok j) z (es ++ ys)) ((st.take i).give j)
      | .nil => ys ≠ [] ∧ newT st fun j => k (.sl (.tok j) z ys) (st.give j)
      | .frozen => False
    | _, _ => False
  | _ => False

def evCopy (P : Program) (t : TypeId) (x y : D) (st : St) (k : D → St → Prop) : Prop :=
  match x, y with
  | .msl r o n sz, .sl _ sz' es => slTy P t = some sz ∧ sz' = sz ∧ (∀ e ∈ es, e.cells.length = sz ∧ e.fine = true) ∧ asCells (st.mem r) fun cs => o + (min es.length n) * sz ≤ cs.length ∧
      k (.int .i64 (min es.length n : Nat)) (st.set r (.cells (splice cs o ((es.take n).flatMap D.cells))))
  | _, _ => False

def evLen (P : Program) (t : TypeId) (x : D) (st : St) (k : D → Prop) : Prop :=
  match x with
  | .sl _ _ es => isSlTy P t = true ∧ k (.int .i64 es.length)
  | .msl _ _ n _ => isSlTy P t = true ∧ k (.int .i64 n)
  | .str s => isStr P t = true ∧ k (.int .i64 s.length)
  | .nilmap => isMapTy P t = true ∧ k (.int .i64 0)
  | .map r => isMapTy P t = true ∧ asMap (st.mem r) fun _ es => k (.int .i64 es.length)
  | _ => False

def evBuiltin (P : Program) (b : Builtin) (ts : List TypeId) (xs : List D) (st : St) (k : D → St → Prop) : Prop :=
  match b, ts, xs with
  | .len, [t], [x] => evLen P t x st fun d => k d st
  | .append, [t, s], [x, .sl _ _ ys] => isSlTy P s = true ∧ evAppend P t x ys st k
  | .append, [t, s], [x, .str b] => isStr P s = true ∧ slTy P t = some 1 ∧ evAppend P t x (b.map fun c => .int .u8 c.toNat) st k
  | .copy, [t, _], [x, y] => evCopy P t x y st k
  | .max, _, [.int ka a, .int kb b] => ka = kb ∧ k (.int ka (max a b)) st
  | .min, _, [.int ka a, .int kb b] => ka = kb ∧ k (.int ka (min a b)) st
  | _, _, _ => False

/-- What an operation comes to. M: the slots whose variables stay open to writing. -/
noncomputable def evOp (P : Program) (M : List Tmp) (op : Op) (dst : Option Tmp) (fr : Fr) (st : St) (k : D → Fr → St → Prop) : Prop :=
  match op with
  | .move x => k (ev fr x) fr st
  | .assign x => k (ev fr x) fr st
  | .pick c a b => (ev fr c).asBool fun t => k (if t = true then ev fr a else ev fr b) fr st
  | .box _ x => (ev fr x).fine = true ∧ if dst.any (M.contains ·) = true then newB st fun r => k (.ptr r 0) fr (st.set r (.cells (ev fr x).cells)) else k (.eptr (ev fr x) 0) fr st
  | .alloc e => match zeroD P e with
    | some z => z.fine = true ∧ newB st fun r => k (.ptr r 0) fr (st.set r (.cells z.cells))
    | none => False
  | .load t a => match ev fr a with
    | .ptr r o => asCells (st.mem r) fun cs => ldCs (ldTy P t) cs o fun d => k d fr st
    | .eptr e o => ldE (ldTy P t) e o fun d => k d fr st
    | _ => False
  | .store t a x => match ev fr a with
    | .ptr r o => szOf P t = some (ev fr x).cells.length ∧ (ev fr x).fine = true ∧ asCells (st.mem r) fun cs => o + (ev fr x).cells.length ≤ cs.length ∧
      match a with
      | .tmp s => if M.contains s = true ∨ ¬ (o = 0 ∧ cs.length = (ev fr x).cells.length) then k (.tup []) fr (st.set r (.cells (splice cs o (ev fr x).cells)))
        else k (.tup []) (fr.put s (.eptr (ev fr x) 0)) (st.del r)
      | _ => k (.tup []) fr (st.set r (.cells (splice cs o (ev fr x).cells)))
    | _ => False
  | .nilCheck x => match ev fr x with
    | .ptr r o => k (.ptr r o) fr st
    | .eptr e o => k (.eptr e o) fr st
    | .fn f a b => k (.fn f a b) fr st
    | _ => False
  | .binOp op t x y _ => evBin P op t (isLit x || isLit y) (ev fr x) (ev fr y) fun d => k d fr st
  | .unOp .not _ x => (ev fr x).asBool fun b => k (.bool (!b)) fr st
  | .convert s d x => evConv P s d (ev fr x) st fun d st' => k d fr st'
  | .makeInterface t x => (ev fr x).flat = true ∧ isIfTy P t = false ∧ (P.underlying t).isSome = true ∧ k (.iface t (ev fr x)) fr st
  | .makeFunc (.func f) a b => (∀ x ∈ a.toList, (ev fr x).flat = true) ∧ (∀ x ∈ b.toList, (ev fr x).flat = true) ∧ k (.fn f (a.toList.map (ev fr)) (b.toList.map (ev fr))) fr st
  | .build t ps => match zeroD P t with
    | some z => structOk P t = true ∧ z.fine = true ∧ (∀ x ∈ ps.toList, (ev fr x.2).fine = true ∧ (bldOf P t x.1).map (·.2) = some (ev fr x.2).cells.length) ∧
      match fillD (fun i => (bldOf P t i).map (·.1)) z.cells (ps.toList.map fun x => (x.1, ev fr x.2)) with
      | some cs => k (.agg cs) fr st
      | none => False
    | none => False
  | .buildSlice t n ps => match slTy P t, slBytes P t with
    | some z, some _ => ps.toList.map (·.1) = List.range n ∧ n * z ≤ 16777216 ∧ (∀ x ∈ ps.toList, (ev fr x.2).fine = true ∧ (ev fr x.2).cells.length = z) ∧
      if dst.any (M.contains ·) = true then newT st fun j => k (.sl (.tok j) z (ps.toList.map fun x => ev fr x.2)) fr (st.give j) else k (.sl .frozen z (ps.toList.map fun x => ev fr x.2)) fr st
    | _, _ => False
  | .makeMap t none => match mapTy P t with
    | some (K, _) => newB st fun r => k (.map r) fr (st.set r (.map K []))
    | none => False
  | .makeSlice t l c => (ev fr l).asInt fun _ a => (ev fr c).asInt fun _ b => match slTy P t, slBytes P t with
    | some z, some bs => a = 0 ∧ 0 ≤ b ∧ b * (bs + 1) ≤ 281474976710656 ∧ newT st fun j => k (.sl (.tok j) z []) fr (st.give j)
    | _, _ => False
  | .slice t x lo hi none => evSlice P t (ev fr x) fr lo hi fun d => k d fr st
  | .fieldAddr s x f => match offOf P s f, ev fr x with
    | some o, .ptr r p => k (.ptr r (p + o)) fr st
    | some o, .eptr e p => k (.eptr e (p + o)) fr st
    | _, _ => False
  | .field s x f => match partOf P s f, ev fr x with
    | some (o, l), .agg cs => ldCs (some l) cs o fun d => k d fr st
    | _, _ => False
  | .indexAddr t x i => (ev fr i).asInt fun _ i => match ev fr x with
    | .sl _ sz es => slTy P t = some sz ∧ 0 ≤ i ∧ i.toNat < es.length ∧ k (.eptr (es.getD i.toNat .any) 0) fr st
    | .msl r o n sz => slTy P t = some sz ∧ 0 ≤ i ∧ i.toNat < n ∧ k (.ptr r (o + i.toNat * sz)) fr st
    | .ptr r o => match arTy P t with
      | some (n, sz) => 0 ≤ i ∧ i.toNat < n ∧ k (.ptr r (o + i.toNat * sz)) fr st
      | none => False
    | .eptr e o => match arTy P t with
      | some (n, sz) => 0 ≤ i ∧ i.toNat < n ∧ k (.eptr e (o + i.toNat * sz)) fr st
      | none => False
    | _ => False
  | .index t x i => (ev fr i).asInt fun _ i => match ev fr x with
    | .agg cs => arTy P t = some (cs.length, 1) ∧ 0 ≤ i ∧ i.toNat < cs.length ∧ (cs.getD i.toNat .any).flat = true ∧ arEl P t = some none ∧ k (cs.getD i.toNat .any) fr st
    | .str s => isStr P t = true ∧ 0 ≤ i ∧ i.toNat < s.length ∧ k (.int .u8 (s.getD i.toNat 0).toNat) fr st
    | _ => False
  | .lookup t x i true => match mapTy P t, keyV (ev fr i), zeroD P ((mapTy P t).getD (0, 0)).2 with
    | some (K, _), some v, some z => KeyOk P K v ∧ z.flat = true ∧ match ev fr x with
      | .nilmap => k (.tup [z, .bool false]) fr st
      | .map r => asMap (st.mem r) fun K' es => K' = K ∧ (∀ e ∈ es, KeyOk P K e.1 ∧ e.2.flat = true) ∧ k (.tup [(find es v).getD z, .bool (find es v).isSome]) fr st
      | _ => False
    | _, _, _ => False
  | .mapUpdate t x i y => match mapTy P t, keyV (ev fr i) with
    | some (K, _), some v => KeyOk P K v ∧ (ev fr y).flat = true ∧ match ev fr x with
      | .map r => asMap (st.mem r) fun K' es => K' = K ∧ (∀ e ∈ es, KeyOk P K e.1) ∧ k (.tup []) fr (st.set r (.map K (upd es v (ev fr y))))
      | _ => False
    | _, _ => False
  | .extract x i => (ev fr x).asTup fun l => i < l.length ∧ k (l.getD i .any) fr st
  | .call c => match c.callee with
    | .builtin b => evBuiltin P b c.argTypes.toList (c.args.toList.map (ev fr)) st fun d st' => k d fr st'
    | .value f => match ev fr f with
      | .fn g a b => flats a = true ∧ flats b = true ∧ (∀ x ∈ c.args.toList, (ev fr x).fine = true) ∧ Sem P g (a ++ c.args.toList.map (ev fr) ++ b) st fun d st' => k d fr st'
      | _ => False
    | _ => False
  | _ => False
end Go.Proofs.YtddbidoaolnegaaGreatDoor
