/-
PART OF A CLAIM: EN, RA. No statement of the seat is proved here; no condition. -/
import Derived.OpenShut
import Derived.DataShut
import Derived.Test.YtddbidoaolnegaaGreatDoorWO8
import Derived.Test.YtddbidoaolnegaaGreatDoorWO9
import Derived.Test.YtddbidoaolnegaaGreatDoorWO14
import Derived.Test.YtddbidoaolnegaaGreatDoorWO20
set_option linter.all false
/- What the arguments read as, abstractly: the world at the call's beginning, all of it unchanging; the declarations in it. No statement of the seat is proved here; no condition. -/
namespace Go.Proofs.YtddbidoaolnegaaGreatDoor
open Go Go.RowKit
set_option maxRecDepth 10000
set_option maxHeartbeats 1000000

def handle (W : World) : Prop := 0 < W.heap.size ∧ W.cell? ⟨0, 0, none⟩ = some (.iface 147 (.agg #[.pointer (some ⟨1, 39, none⟩)]))
def Gh.of (W : World) (h : handle W) : Gh := { base := W.heap.size, w0 := W, F := fun b o => W.cell? ⟨b, o, none⟩, G := fun _ => none, glob := h }
def St.z : St := ⟨fun _ => none, fun _ => false⟩
theorem Inv.of {W : World} (h : handle W) : Inv (Gh.of W h) St.z W where
  below := Below.refl _ _
  base := Nat.le_refl _
  fz _ _ _ h := h
  mem _ _ h := by cases h
  tok _ h := by cases h
  apart _ _ _ _ h := by cases h
  fin := ⟨0, fun _ _ => rfl⟩

section
variable {H : Type} {enc : TypeId × Value → H} {W : World} {held : Bool}

/-- Each string and each slice in it is within reach. -/
def wok (t : TypeId) (d : DataW H) : Prop := ∀ n ∈ d.weights P t, n ≤ reachBytes
def woks (ts : List TypeId) (ds : List (DataW H)) : Prop := ∀ n ∈ DataW.weightsEach P ts ds, n ≤ reachBytes
def woka (t : TypeId) (ds : List (DataW H)) : Prop := ∀ n ∈ DataW.weightsAll P t ds, n ≤ reachBytes
theorem woks_cons {t : TypeId} {ts : List TypeId} {d : DataW H} {ds : List (DataW H)} (h : woks (t :: ts) (d :: ds)) : wok t d ∧ woks ts ds := by
  unfold woks at h; rw [DataW.weightsEach] at h
  exact ⟨fun n hn => h n (List.mem_append_left _ hn), fun n hn => h n (List.mem_append_right _ hn)⟩
theorem woka_mem {t : TypeId} : ∀ {ds : List (DataW H)}, woka t ds → ∀ d ∈ ds, wok t d
  | [], _, _, hd => by cases hd
  | x :: ds, h, d, hd => by
    unfold woka at h; rw [DataW.weightsAll] at h
    rcases List.mem_cons.1 hd with rfl | hd
    · exact fun n hn => h n (List.mem_append_left _ hn)
    · exact woka_mem (fun n hn => h n (List.mem_append_right _ hn)) d hd

theorem rd_int {g : Gh} {t : TypeId} {k : IntKind} {fuel : Nat} {v : Value} {x : DataW H × List MemPlace} (ht : P.underlying t = some (.int k)) (h : DataW.trod enc P W 0 (fun _ => true) held fuel t [v] = some x) :
    ∃ n, R g (.int k n) [v] ∧ v.oneCell' = true ∧ k.min ≤ n ∧ n ≤ k.max := by
  obtain ⟨n, h1, _, h3⟩ := DataW.trod_int ht h
  cases h1
  simp only [Lit.wf, Bool.and_eq_true, decide_eq_true_eq] at h3
  exact ⟨n, by simp [R], rfl, h3.1, h3.2⟩
theorem rd_str {g : Gh} {t : TypeId} {fuel : Nat} {v : Value} {x : DataW H × List MemPlace} (ht : P.underlying t = some .string) (h : DataW.trod enc P W 0 (fun _ => true) held fuel t [v] = some x) (hw : wok t x.1) :
    ∃ s, R g (.str s) [v] ∧ v.oneCell' = true ∧ s.length < 140737488355328 := by
  obtain ⟨s, h1, rfl, _⟩ := DataW.trod_string ht h
  cases h1
  refine ⟨s.data.toList, by simp [R], rfl, ?_⟩
  have := hw s.data.toList.length (by simp [DataW.weights])
  simp [reachBytes] at this ⊢; omega

theorem cells_at {a : Addr} {n : Nat} {cs : List Value} (h : W.cells? 0 a n = some cs) (hn : 0 < n) : a.spot = none ∧ cs.length = n ∧ ∀ j u, cs[j]? = some u → W.cell? ⟨a.block, a.off + j, none⟩ = some u := by
  unfold World.cells? at h
  rw [if_pos (Nat.zero_le _)] at h
  have hl : cs.length = n := by simpa using mapM_some_length h
  have hg : ∀ j, j < n → W.cell? (a.add j) = cs[j]? := fun j hj => mapM_some_get h j j (by simp [hj])
  have hsp : a.spot = none := by
    have h0 := hg 0 hn
    have : (a.add 0) = a := rfl
    rw [this] at h0
    obtain ⟨u, hu⟩ : ∃ u, cs[0]? = some u := ⟨cs[0]'(by omega), by simp⟩
    rw [hu] at h0
    unfold World.cell? at h0
    split at h0
    · split at h0
      · cases h0
      · rename_i hs; simpa using hs
    · cases h0
  refine ⟨hsp, hl, fun j u hj => ?_⟩
  have hjn : j < n := by rw [← hl]; exact (List.getElem?_eq_some_iff.1 hj).1
  rw [← hj, ← hg j hjn]
  congr 1
  obtain ⟨b, o, s⟩ := a
  cases hsp
  unfold Addr.add
  split
  · subst j; rfl
  · rfl

theorem Re_of {g : Gh} {sz : Nat} : ∀ {es : List D} {b p : Nat}, (∀ i e, es[i]? = some e → ∃ us, us.length = sz ∧ g.At b (p + i * sz) us ∧ R g e us) → Re g sz es b p
  | [], _, _, _ => by simp [Re]
  | e :: es, b, p, h => by
    simp only [Re]
    refine ⟨by simpa using h 0 e rfl, Re_of fun i e' hi => ?_⟩
    have := h (i + 1) e' (by simpa using hi)
    rwa [show p + (i + 1) * sz = p + sz + i * sz by rw [Nat.add_mul]; omega] at this

theorem list_of' {α β : Type} {Q : Nat → α → β → Prop} {l : List α} (h : ∀ (i : Nat) a, l[i]? = some a → ∃ b, Q i a b) : ∃ m : List β, m.length = l.length ∧ ∀ (i : Nat) a b, l[i]? = some a → m[i]? = some b → Q i a b := by
  induction l generalizing Q with
  | nil => exact ⟨[], rfl, fun _ _ _ h => by simp at h⟩
  | cons x l ih =>
    obtain ⟨b, hb⟩ := h 0 x rfl
    obtain ⟨m, hm, h2⟩ := ih (Q := fun i => Q (i + 1)) fun i a hi => h (i + 1) a (by simpa using hi)
    refine ⟨b :: m, by simp [hm], fun i a b' h3 h4 => ?_⟩
    cases i with
    | zero => cases h3; cases h4; exact hb
    | succ i => exact h2 i a b' (by simpa using h3) (by simpa using h4)

theorem rd_sl {hh : handle W} {α : Type} {toD : α → D} {Q : α → Prop} {t e : TypeId} {sz : Nat} {fuel : Nat} {v : Value} {x : DataW H × List MemPlace} (ht : P.underlying t = some (.slice e)) (hc : P.cellsOf e = sz) (hsz : 0 < sz) (hb : 0 < P.bytesOf e)
    (h : DataW.trod enc P W 0 (fun _ => true) held fuel t [v] = some x) (hw : wok t x.1)
    (helem : ∀ n, n < fuel → ∀ cs y, DataW.trod enc P W 0 (fun _ => true) held n e cs = some y → wok e y.1 → ∃ a, R (Gh.of W hh) (toD a) cs ∧ Q a) :
    ∃ l : List α, R (Gh.of W hh) (.sl .frozen sz (l.map toD)) [v] ∧ v.oneCell' = true ∧ l.length < 140737488355328 ∧ ∀ a ∈ l, Q a := by
  rcases DataW.trod_slice ht h with ⟨h1, rfl⟩ | ⟨a, len, cap, elems, rest, n, rfl, h1, rfl, _, hl, _, hlen, hel, hsp, _⟩
  · cases h1
    exact ⟨[], by simp only [R]; exact .inl ⟨trivial, rfl, none, trivial, rfl⟩, rfl, by simp, by simp⟩
  · cases h1
    unfold wok at hw
    rw [DataW.weights, ht] at hw
    have hlen47 : len < 140737488355328 := by
      have h1 := hw _ (List.mem_cons_self ..)
      simp only [List.length_map, reachBytes] at h1
      have : len ≤ (elems.length + rest.length) * P.bytesOf e := Nat.le_trans (by omega) (Nat.le_mul_of_pos_right _ hb)
      omega
    have hwa : woka e (elems.map (·.1)) := fun n hn => hw n (List.mem_cons_of_mem _ (List.mem_append_left _ hn))
    have hE : ∀ i y, elems[i]? = some y → ∃ c : α, ∃ cs, W.cells? 0 (a.add (i * sz)) sz = some cs ∧ R (Gh.of W hh) (toD c) cs ∧ Q c := by
      intro i y hy
      have hi : i < len := by rw [← hlen]; exact (List.getElem?_eq_some_iff.1 hy).1
      have h1 := hel i hi
      rw [hy, hc] at h1
      obtain ⟨cs, h2, h3⟩ := Option.bind_eq_some_iff.1 h1
      obtain ⟨c, h4, h5⟩ := helem n (by omega) cs y h3 (woka_mem hwa y.1 (List.mem_map.2 ⟨y, List.mem_of_getElem? hy, rfl⟩))
      exact ⟨c, cs, h2, h4, h5⟩
    obtain ⟨m, hm, hq⟩ := list_of' hE
    have hq' : ∀ c ∈ m, Q c := by
      intro c hcm
      obtain ⟨i, hi⟩ := List.getElem?_of_mem hcm
      have hi' : i < elems.length := by rw [← hm]; exact (List.getElem?_eq_some_iff.1 hi).1
      obtain ⟨_, _, _, h⟩ := hq i elems[i] c (by simp [hi']) hi
      exact h
    refine ⟨m, ?_, rfl, by omega, hq'⟩
    by_cases h0 : len = 0
    · have hm0 : m = [] := List.eq_nil_of_length_eq_zero (by omega)
      subst hm0 h0
      simp only [R]
      by_cases hcap : a.spot = none
      · obtain ⟨b, o, s⟩ := a; cases hcap
        exact .inr ⟨b, o, cap, rfl, by simp, trivial, by simp [Re]⟩
      · have hc0 : cap = 0 := by
          rcases Nat.eq_zero_or_pos cap with h0 | hpos
          · exact h0
          · obtain ⟨hr, hr2⟩ := hsp rfl
            have h2 := hr2 0 (by omega)
            have hrest : ∃ y, rest[0]? = some y := ⟨rest[0]'(by omega), by simp⟩
            obtain ⟨y, hy⟩ := hrest
            rw [hy, hc] at h2
            obtain ⟨cs, h3, _⟩ := Option.bind_eq_some_iff.1 h2
            exact absurd (cells_at (show W.cells? 0 a sz = some cs by simpa [Addr.add] using h3) hsz).1 hcap
        subst hc0
        exact .inl ⟨trivial, rfl, some a, trivial, rfl⟩
    · have hsp0 : a.spot = none := by
        obtain ⟨c, cs, h1, _⟩ := hE 0 (elems[0]'(by omega)) (by simp)
        exact (cells_at (show W.cells? 0 a sz = some cs by simpa [Addr.add] using h1) hsz).1
      obtain ⟨b, o, s⟩ := a; cases hsp0
      simp only [R]
      refine .inr ⟨b, o, cap, by simp [hm, hlen], by simp; omega, trivial, Re_of fun i e' hi => ?_⟩
      rw [List.getElem?_map] at hi
      obtain ⟨c, hcm, rfl⟩ := Option.map_eq_some_iff.1 hi
      have hi' : i < elems.length := by rw [← hm]; exact (List.getElem?_eq_some_iff.1 hcm).1
      obtain ⟨cs, h1, h2, _⟩ := hq i elems[i] c (by simp [hi']) hcm
      rw [Addr.add_lit] at h1
      obtain ⟨_, h3, h4⟩ := cells_at h1 hsz
      exact ⟨cs, h3, fun j u hj => h4 j u hj, h2⟩

theorem i64_in {n : Int} (h : IntKind.i64.min ≤ n ∧ n ≤ IntKind.i64.max) : -9223372036854775808 ≤ n ∧ n ≤ 9223372036854775807 := by
  have e1 : IntKind.i64.min = -9223372036854775808 := by decide
  have e2 : IntKind.i64.max = 9223372036854775807 := by decide
  rw [e1, e2] at h; exact h
theorem u8_in {n : Int} (h : IntKind.u8.min ≤ n ∧ n ≤ IntKind.u8.max) : 0 ≤ n ∧ n ≤ 255 := by
  have e1 : IntKind.u8.min = 0 := by decide
  have e2 : IntKind.u8.max = 255 := by decide
  rw [e1, e2] at h; exact h
theorem cl3 : P.cellsOf 3 = 1 := by kernel_rfl
theorem cl5 : P.cellsOf 5 = 1 := by kernel_rfl
theorem cl9 : P.cellsOf 9 = 1 := by kernel_rfl
theorem cl30 : P.cellsOf 30 = 1 := by kernel_rfl
theorem cl31 : P.cellsOf 31 = 1 := by kernel_rfl
theorem cl33 : P.cellsOf 33 = 5 := by kernel_rfl
theorem cl34 : P.cellsOf 34 = 1 := by kernel_rfl
theorem cl43 : P.cellsOf 43 = 1 := by kernel_rfl
theorem cl76 : P.cellsOf 76 = 4 := by kernel_rfl

theorem rd_lv {g : Gh} {fuel : Nat} {cs : List Value} {x : DataW H × List MemPlace} (h : DataW.trod enc P W 0 (fun _ => true) held fuel 78 cs = some x) : ∃ l : Lv, R g l.d cs ∧ l.wf := by
  obtain ⟨xs, n, rfl, _, hl, hn, hf⟩ := DataW.trod_struct Tryz.underlying78 h
  rw [show P.cellsOf 78 = 5 by kernel_rfl] at hl
  match cs, hl with
  | [c0, c1, c2, c3, c4], _ =>
  match xs, hn with
  | [y0, y1], _ =>
  have h0 : DataW.trod enc P W 0 (fun _ => true) held n 3 (List.take (P.cellsOf 3) [c0, c1, c2, c3, c4]) = some y0 := hf 0 _ rfl
  have h1 : DataW.trod enc P W 0 (fun _ => true) held n 76 (List.take (P.cellsOf 76) [c1, c2, c3, c4]) = some y1 := hf 1 _ rfl
  rw [cl3] at h0
  rw [cl76] at h1
  obtain ⟨zs, m, rfl, _, _, hm, hg⟩ := DataW.trod_array Tryz.underlying76 h1
  match zs, hm with
  | [z0, z1, z2, z3], _ =>
  have hg0 : DataW.trod enc P W 0 (fun _ => true) held m 3 (List.take (P.cellsOf 3) [c1, c2, c3, c4]) = some z0 := hg 0 (by omega)
  have hg1 : DataW.trod enc P W 0 (fun _ => true) held m 3 (List.take (P.cellsOf 3) (List.drop (1 * P.cellsOf 3) [c1, c2, c3, c4])) = some z1 := hg 1 (by omega)
  have hg2 : DataW.trod enc P W 0 (fun _ => true) held m 3 (List.take (P.cellsOf 3) (List.drop (2 * P.cellsOf 3) [c1, c2, c3, c4])) = some z2 := hg 2 (by omega)
  have hg3 : DataW.trod enc P W 0 (fun _ => true) held m 3 (List.take (P.cellsOf 3) (List.drop (3 * P.cellsOf 3) [c1, c2, c3, c4])) = some z3 := hg 3 (by omega)
  rw [cl3] at hg0 hg1 hg2 hg3
  obtain ⟨a0, r0, o0, b0⟩ := rd_int (g := g) Tryz.underlying3 h0
  obtain ⟨a1, r1, o1, b1⟩ := rd_int (g := g) Tryz.underlying3 hg0
  obtain ⟨a2, r2, o2, b2⟩ := rd_int (g := g) Tryz.underlying3 hg1
  obtain ⟨a3, r3, o3, b3⟩ := rd_int (g := g) Tryz.underlying3 hg2
  obtain ⟨a4, r4, o4, b4⟩ := rd_int (g := g) Tryz.underlying3 hg3
  refine ⟨⟨a0, [a1, a2, a3, a4], rfl⟩, ?_, (i64_in b0).1, (i64_in b0).2, fun i hi => ?_⟩
  · simp only [Lv.d, List.map_cons, List.map_nil, R, Rs]
    exact ⟨_, _, rfl, r0, o0, _, _, rfl, r1, o1, _, _, rfl, r2, o2, _, _, rfl, r3, o3, _, _, rfl, r4, o4, rfl⟩
  · obtain rfl | rfl | rfl | rfl : i = 0 ∨ i = 1 ∨ i = 2 ∨ i = 3 := by omega
    · exact i64_in b1
    · exact i64_in b2
    · exact i64_in b3
    · exact i64_in b4

theorem rd_tm {hh : handle W} : ∀ (fuel : Nat) (cs : List Value) (x : DataW H × List MemPlace), DataW.trod enc P W 0 (fun _ => true) held fuel 33 cs = some x → wok 33 x.1 → ∃ t : Tm, R (Gh.of W hh) t.d cs ∧ t.wf := by
  intro fuel
  induction fuel using Nat.strongRecOn with
  | ind fuel ih =>
  intro cs x h hw
  obtain ⟨xs, n, rfl, rfl, hl, hn, hf⟩ := DataW.trod_struct Tryz.underlying33 h
  unfold wok at hw
  rw [DataW.weights, Tryz.underlying33] at hw
  rw [show P.cellsOf 33 = 5 by kernel_rfl] at hl
  match cs, hl with
  | [c0, c1, c2, c3, c4], _ =>
  match xs, hn with
  | [y0, y1, y2, y3, y4], _ =>
  have h0 : DataW.trod enc P W 0 (fun _ => true) held n 5 (List.take (P.cellsOf 5) [c0, c1, c2, c3, c4]) = some y0 := hf 0 _ rfl
  have h1 : DataW.trod enc P W 0 (fun _ => true) held n 3 (List.take (P.cellsOf 3) [c1, c2, c3, c4]) = some y1 := hf 1 _ rfl
  have h2 : DataW.trod enc P W 0 (fun _ => true) held n 9 (List.take (P.cellsOf 9) [c2, c3, c4]) = some y2 := hf 2 _ rfl
  have h3 : DataW.trod enc P W 0 (fun _ => true) held n 30 (List.take (P.cellsOf 30) [c3, c4]) = some y3 := hf 3 _ rfl
  have h4 : DataW.trod enc P W 0 (fun _ => true) held n 31 (List.take (P.cellsOf 31) [c4]) = some y4 := hf 4 _ rfl
  rw [cl5] at h0
  rw [cl3] at h1
  rw [cl9] at h2
  rw [cl30] at h3
  rw [cl31] at h4
  have w0 : woks [5, 3, 9, 30, 31] [y0.1, y1.1, y2.1, y3.1, y4.1] := hw
  obtain ⟨_, w1⟩ := woks_cons w0
  obtain ⟨_, w1⟩ := woks_cons w1
  obtain ⟨k2, w1⟩ := woks_cons w1
  obtain ⟨k3, w1⟩ := woks_cons w1
  obtain ⟨k4, _⟩ := woks_cons w1
  obtain ⟨a0, r0, o0, b0⟩ := rd_int (g := Gh.of W hh) Tryz.underlying5 h0
  obtain ⟨a1, r1, o1, b1⟩ := rd_int (g := Gh.of W hh) Tryz.underlying3 h1
  obtain ⟨s, r2, o2, b2⟩ := rd_str (g := Gh.of W hh) Tryz.underlying9 h2 k2
  obtain ⟨ls, r3, o3, l3, q3⟩ := rd_sl (hh := hh) (toD := Lv.d) (Q := Lv.wf) (sz := 5) Tryz.underlying30 (by kernel_rfl) (by omega) (of_decide_eq_true (by kernel_rfl)) h3 k3 (fun m _ cs y hy _ => rd_lv hy)
  obtain ⟨ts, r4, o4, l4, q4⟩ := rd_sl (hh := hh) (toD := Tm.d) (Q := Tm.wf) (sz := 5) Tryz.underlying31 (by kernel_rfl) (by omega) (of_decide_eq_true (by kernel_rfl)) h4 k4 (fun m hm cs y hy hk => ih m (by omega) cs y hy hk)
  have hb0 : 0 ≤ a0 ∧ a0 ≤ 255 := u8_in b0
  obtain ⟨k, rfl⟩ := Int.eq_ofNat_of_zero_le hb0.1
  refine ⟨.mk k a1 s ls ts, ?_, ?_⟩
  · rw [Tm.d_eq]
    simp only [R, Rs]
    exact ⟨_, _, rfl, r0, o0, _, _, rfl, r1, o1, _, _, rfl, r2, o2, _, _, rfl, r3, o3, _, _, rfl, r4, o4, rfl⟩
  · simp only [Tm.wf]
    exact ⟨by omega, i64_in b1, b2, l3, l4, q3, Tm.wfs_iff.2 q4⟩

/-- A term's cells in a greater struct. -/
theorem rs_tm {g : Gh} {t : Tm} {cs : List Value} (h : R g t.d cs) : Rs g t.c cs := by
  rw [Tm.d_eq] at h
  unfold Tm.c
  simpa only [R] using h
theorem rs_app {g : Gh} : ∀ {l m : List D} {us vs : List Value}, Rs g l us → Rs g m vs → Rs g (l ++ m) (us ++ vs)
  | [], _, _, _, h, k => by simp only [Rs] at h; subst h; exact k
  | a :: l, _, _, _, h, k => by
    simp only [Rs] at h
    obtain ⟨v, r, rfl, h1, h2, h3⟩ := h
    simp only [List.cons_append, Rs]
    exact ⟨v, _, rfl, h1, h2, rs_app h3 k⟩
theorem rs_one {g : Gh} {d : D} {v : Value} {ds : List D} {vs : List Value} (h : R g d [v]) (o : v.oneCell' = true) (k : Rs g ds vs) : Rs g (d :: ds) (v :: vs) := by
  simp only [Rs]; exact ⟨v, vs, rfl, h, o, k⟩

theorem rd_cc {hh : handle W} {fuel : Nat} {cs : List Value} {x : DataW H × List MemPlace} (h : DataW.trod enc P W 0 (fun _ => true) held fuel 83 cs = some x) (hw : wok 83 x.1) : ∃ c : Cc, R (Gh.of W hh) c.d cs ∧ c.Wf := by
  obtain ⟨xs, n, rfl, rfl, hl, hn, hf⟩ := DataW.trod_struct Tryz.underlying83 h
  unfold wok at hw
  rw [DataW.weights, Tryz.underlying83] at hw
  rw [show P.cellsOf 83 = 6 by kernel_rfl] at hl
  match cs, hl with
  | [c0, c1, c2, c3, c4, c5], _ =>
  match xs, hn with
  | [y0, y1], _ =>
  have h0 : DataW.trod enc P W 0 (fun _ => true) held n 9 (List.take (P.cellsOf 9) [c0, c1, c2, c3, c4, c5]) = some y0 := hf 0 _ rfl
  have h1 : DataW.trod enc P W 0 (fun _ => true) held n 33 (List.take (P.cellsOf 33) [c1, c2, c3, c4, c5]) = some y1 := hf 1 _ rfl
  rw [cl9] at h0
  rw [cl33] at h1
  have w0 : woks [9, 33] [y0.1, y1.1] := hw
  obtain ⟨k0, w1⟩ := woks_cons w0
  obtain ⟨k1, _⟩ := woks_cons w1
  obtain ⟨s, r0, o0, b0⟩ := rd_str (g := Gh.of W hh) Tryz.underlying9 h0 k0
  obtain ⟨t, r1, q1⟩ := rd_tm (hh := hh) n _ _ h1 k1
  refine ⟨⟨s, t⟩, ?_, b0, q1⟩
  simp only [Cc.d, R]
  exact rs_one r0 o0 (rs_tm r1)

theorem rd_in {hh : handle W} {fuel : Nat} {cs : List Value} {x : DataW H × List MemPlace} (h : DataW.trod enc P W 0 (fun _ => true) held fuel 45 cs = some x) (hw : wok 45 x.1) : ∃ c : In, R (Gh.of W hh) c.d cs ∧ c.Wf := by
  obtain ⟨xs, n, rfl, rfl, hl, hn, hf⟩ := DataW.trod_struct Tryz.underlying45 h
  unfold wok at hw
  rw [DataW.weights, Tryz.underlying45] at hw
  rw [show P.cellsOf 45 = 7 by kernel_rfl] at hl
  match cs, hl with
  | [c0, c1, c2, c3, c4, c5, c6], _ =>
  match xs, hn with
  | [y0, y1, y2], _ =>
  have h0 : DataW.trod enc P W 0 (fun _ => true) held n 9 (List.take (P.cellsOf 9) [c0, c1, c2, c3, c4, c5, c6]) = some y0 := hf 0 _ rfl
  have h1 : DataW.trod enc P W 0 (fun _ => true) held n 33 (List.take (P.cellsOf 33) [c1, c2, c3, c4, c5, c6]) = some y1 := hf 1 _ rfl
  have h2 : DataW.trod enc P W 0 (fun _ => true) held n 43 (List.take (P.cellsOf 43) [c6]) = some y2 := hf 2 _ rfl
  rw [cl9] at h0
  rw [cl33] at h1
  rw [cl43] at h2
  have w0 : woks [9, 33, 43] [y0.1, y1.1, y2.1] := hw
  obtain ⟨k0, w1⟩ := woks_cons w0
  obtain ⟨k1, w1⟩ := woks_cons w1
  obtain ⟨k2, _⟩ := woks_cons w1
  obtain ⟨s, r0, o0, b0⟩ := rd_str (g := Gh.of W hh) Tryz.underlying9 h0 k0
  obtain ⟨t, r1, q1⟩ := rd_tm (hh := hh) n _ _ h1 k1
  obtain ⟨l, r2, o2, l2, q2⟩ := rd_sl (hh := hh) (toD := Cc.d) (Q := Cc.Wf) (sz := 6) Tryz.underlying43 (by kernel_rfl) (by omega) (of_decide_eq_true (by kernel_rfl)) h2 k2 (fun m _ cs y hy hk => rd_cc hy hk)
  refine ⟨⟨s, t, l⟩, ?_, b0, q1, l2, q2⟩
  simp only [In.d, R]
  exact rs_one r0 o0 (rs_app (us := [c1, c2, c3, c4, c5]) (rs_tm r1) (rs_one r2 o2 (by simp only [Rs])))

theorem rd_de {hh : handle W} {fuel : Nat} {cs : List Value} {x : DataW H × List MemPlace} (h : DataW.trod enc P W 0 (fun _ => true) held fuel 36 cs = some x) (hw : wok 36 x.1) : ∃ c : De, R (Gh.of W hh) c.d cs ∧ c.Wf := by
  obtain ⟨xs, n, rfl, rfl, hl, hn, hf⟩ := DataW.trod_struct Tryz.underlying36 h
  unfold wok at hw
  rw [DataW.weights, Tryz.underlying36] at hw
  rw [show P.cellsOf 36 = 15 by kernel_rfl] at hl
  match cs, hl with
  | [c0, c1, c2, c3, c4, c5, c6, c7, c8, c9, c10, c11, c12, c13, c14], _ =>
  match xs, hn with
  | [y0, y1, y2, y3, y4, y5, y6], _ =>
  have h0 : DataW.trod enc P W 0 (fun _ => true) held n 5 (List.take (P.cellsOf 5) [c0, c1, c2, c3, c4, c5, c6, c7, c8, c9, c10, c11, c12, c13, c14]) = some y0 := hf 0 _ rfl
  have h1 : DataW.trod enc P W 0 (fun _ => true) held n 3 (List.take (P.cellsOf 3) [c1, c2, c3, c4, c5, c6, c7, c8, c9, c10, c11, c12, c13, c14]) = some y1 := hf 1 _ rfl
  have h2 : DataW.trod enc P W 0 (fun _ => true) held n 9 (List.take (P.cellsOf 9) [c2, c3, c4, c5, c6, c7, c8, c9, c10, c11, c12, c13, c14]) = some y2 := hf 2 _ rfl
  have h3 : DataW.trod enc P W 0 (fun _ => true) held n 33 (List.take (P.cellsOf 33) [c3, c4, c5, c6, c7, c8, c9, c10, c11, c12, c13, c14]) = some y3 := hf 3 _ rfl
  have h4 : DataW.trod enc P W 0 (fun _ => true) held n 33 (List.take (P.cellsOf 33) [c8, c9, c10, c11, c12, c13, c14]) = some y4 := hf 4 _ rfl
  have h5 : DataW.trod enc P W 0 (fun _ => true) held n 3 (List.take (P.cellsOf 3) [c13, c14]) = some y5 := hf 5 _ rfl
  have h6 : DataW.trod enc P W 0 (fun _ => true) held n 34 (List.take (P.cellsOf 34) [c14]) = some y6 := hf 6 _ rfl
  rw [cl5] at h0
  rw [cl3] at h1
  rw [cl9] at h2
  rw [cl33] at h3
  rw [cl33] at h4
  rw [cl3] at h5
  rw [cl34] at h6
  have w0 : woks [5, 3, 9, 33, 33, 3, 34] [y0.1, y1.1, y2.1, y3.1, y4.1, y5.1, y6.1] := hw
  obtain ⟨_, w1⟩ := woks_cons w0
  obtain ⟨_, w1⟩ := woks_cons w1
  obtain ⟨k2, w1⟩ := woks_cons w1
  obtain ⟨k3, w1⟩ := woks_cons w1
  obtain ⟨k4, w1⟩ := woks_cons w1
  obtain ⟨_, w1⟩ := woks_cons w1
  obtain ⟨k6, _⟩ := woks_cons w1
  obtain ⟨a0, r0, o0, b0⟩ := rd_int (g := Gh.of W hh) Tryz.underlying5 h0
  obtain ⟨a1, r1, o1, b1⟩ := rd_int (g := Gh.of W hh) Tryz.underlying3 h1
  obtain ⟨s, r2, o2, b2⟩ := rd_str (g := Gh.of W hh) Tryz.underlying9 h2 k2
  obtain ⟨t3, r3, q3⟩ := rd_tm (hh := hh) n _ _ h3 k3
  obtain ⟨t4, r4, q4⟩ := rd_tm (hh := hh) n _ _ h4 k4
  obtain ⟨a5, r5, o5, b5⟩ := rd_int (g := Gh.of W hh) Tryz.underlying3 h5
  obtain ⟨l, r6, o6, l6, q6⟩ := rd_sl (hh := hh) (toD := In.d) (Q := In.Wf) (sz := 7) Tryz.underlying34 (by kernel_rfl) (by omega) (of_decide_eq_true (by kernel_rfl)) h6 k6 (fun m _ cs y hy hk => rd_in hy hk)
  have hb0 : 0 ≤ a0 ∧ a0 ≤ 255 := u8_in b0
  obtain ⟨k, rfl⟩ := Int.eq_ofNat_of_zero_le hb0.1
  refine ⟨⟨k, a1, s, t3, t4, a5, l⟩, ?_, (show k < 256 by omega), i64_in b1, b2, q3, q4, i64_in b5, l6, q6⟩
  simp only [De.d, R]
  exact rs_one r0 o0 (rs_one r1 o1 (rs_one r2 o2 (rs_app (us := [c3, c4, c5, c6, c7]) (rs_tm r3) (rs_app (us := [c8, c9, c10, c11, c12]) (rs_tm r4) (rs_one r5 o5 (rs_one r6 o6 (by simp only [Rs])))))))

theorem rd_des {hh : handle W} {v : Value} {d : DataW H} {ps : List MemPlace} (h : DataW.Trod enc P W 0 (fun _ => true) held 22 v d ps) (hw : wok 22 d) (hv : v.cells.toList = [v]) :
    ∃ l : List De, V1 (Gh.of W hh) (.sl .frozen 15 (l.map De.d)) v ∧ l.length < 140737488355328 ∧ ∀ a ∈ l, a.Wf := by
  obtain ⟨fuel, h⟩ := h
  rw [hv] at h
  obtain ⟨l, r, o, hl, hq⟩ := rd_sl (hh := hh) (toD := De.d) (Q := De.Wf) (sz := 15) Tryz.underlying22 (by kernel_rfl) (by omega) (of_decide_eq_true (by kernel_rfl)) h hw (fun m _ cs y hy hk => rd_de hy hk)
  exact ⟨l, ⟨r, o⟩, hl, hq⟩
end
end Go.Proofs.YtddbidoaolnegaaGreatDoor
/- The reader of octets: the walks. No statement of the seat is proved here; no condition. -/
namespace Go.Proofs.YtddbidoaolnegaaGreatDoor
open Go Go.RowKit
open Nat renaming reduceLT → zA, reduceEqDiff → zB, reduceBEq → zC, reduceAdd → zD, reduceMul → zE, reduceSub → zF, reduceLeDiff → zG, mul_one → zH, zero_add → zI, add_zero → zJ
open Int renaming toNat_natCast → zK, reduceAdd → zL, reduceLE → zM, reduceLT → zN, natCast_nonneg → zO
open Go.Proofs.YtddbidoaolnegaaGreatDoor renaming evI_plain → ya, evI_guard → yb, evT_rd → yc, evT_rdg → yd, evT_act → ye, evT_actg → yf, evI_done → yg, evT_two → yh, evT_nil → yi, W.seqG → yj, W.block → yk, W.regionI → yl, W.cond → ym, W.skip → yn, W.ret → yo, W.exit → yp, gdD_split → yq, newT_intro → yr, newB_intro → ys, W.draw → yt, St.set_del → yu, St.give_take → yv, AGo.go → yw, IGo.go → yx, TGo.go → yy, Goes.go → yz
attribute [local go_sem] zK zP zQ zH zI zJ zO
attribute [local irreducible] W evI evT evL evOp evBin gdD Sem newT newB fillD bldOf
set_option maxRecDepth 10000
set_option maxHeartbeats 1000000

/-- A new object is let go of. -/
theorem St.le_but {A B : St} {r : Nat} (hA : A.mem r = none) (h : ∀ x, x ≠ r → B.mem x = A.mem x) (ht : B.tok = A.tok) : A.le B :=
  ⟨fun x o hx => by
    have : x ≠ r := fun e => by rw [e, hA] at hx; cases hx
    rw [h x this]; exact hx, fun i hi => by rw [ht]; exact hi⟩

theorem sem66 (bs : List UInt8) (hb : bs ≠ []) (hl : bs.length < 1000000000) (ow : Own) (z : Nat) (st : St) (k : D → St → Prop) (hk : k (.sl .frozen 1 (byD bs)) st) : Sem P 66 [.sl ow z (byD bs)] st k := by
  refine Sem.frozen (sz := 1) (es := byD bs) (Sem.drop ?_)
  refine Sem.of_body Tryz.call66 Tryz.func66 rfl Tryz.ntmps66 (by simp) ?_
  repeat' first | refine yj fun N hN => ?_ | refine yl [5] ?_ | (refine ya rfl rfl fun N hN => ?_; simp only [go_sem, ↓reduceIte, zA, zB, zC, zD, zE, zF, zG, zL, zM, zN, reduceCtorEq, Tryz.results66]) | (refine yg rfl ?_; try simp only [go_sem]) | ((first | refine yx hN _ _ ?_ | refine yz hN _ _ ?_); clear hN N) | fail
  intro b hnb
  cases b with
  | true =>
    cases bs with
    | nil => exact absurd rfl hb
    | cons x bs => exact absurd (hnb rfl) (by simp [byD])
  | false =>
    repeat' first | refine yj fun N hN => ?_ | refine yl [5] ?_ | ((first | refine ya rfl rfl fun N hN => ?_ | refine ym ?_ | refine yo ?_); simp only [go_sem, ↓reduceIte, zA, zB, zC, zD, zE, zF, zG, zL, zM, zN, reduceCtorEq, Tryz.results66]) | ((first | refine yg rfl ?_ | refine yn ?_); try simp only [go_sem]) | ((first | refine yx hN _ _ ?_ | refine yz hN _ _ ?_); clear hN N) | rw [yv hj] | ((refine yr fun j hj => ?_; (try have hj0 := St.tok_of_give hj)); try simp only [go_sem, ↓reduceIte, zA, zB, zC, zD, zE, zF, zG, zL, zM, zN, reduceCtorEq]) | (refine And.intro ?_ ?_; · omega) | fail
    exact ⟨st, St.le_give (St.le.refl _) _, ⟨_, rfl⟩, hk⟩

/-- A reader's cells. -/
def rdC (bs : List UInt8) (a b s : Int) : List D := [.sl .frozen 1 (byD bs), .int .i64 a, .int .i64 b, .int .i64 s]
theorem rdC_eq (bs : List UInt8) (a b s : Int) : rdC bs a b s = [.sl .frozen 1 (byD bs), .int .i64 a, .int .i64 b, .int .i64 s] := rfl

theorem sem30 (bs : List UInt8) (hb : bs ≠ []) (hl : bs.length < 1000000000) (ow : Own) (z : Nat) (st : St) (k : D → St → Prop) (hk : ∀ q, st.mem q = none → k (.ptr q 0) (st.set q (.cells (rdC bs 0 0 0)))) : Sem P 30 [.sl ow z (byD bs)] st k := by
  simp only [rdC_eq] at hk
  refine Sem.of_body Tryz.call30 Tryz.func30 rfl Tryz.ntmps30 (by simp) ?_
  repeat' first | refine yj fun N hN => ?_ | refine yl [6] ?_ | ((first | refine ya rfl rfl fun N hN => ?_ | refine yo ?_); simp only [go_sem, ↓reduceIte, zA, zB, zC, zD, zE, zF, zG, zL, zM, zN, reduceCtorEq, Tryz.results30]) | (refine yg rfl ?_; try simp only [go_sem]) | ((first | refine yx hN _ _ ?_ | refine yz hN _ _ ?_); clear hN N) | (refine sem66 _ hb hl _ _ _ _ ?_; try simp only [go_sem, ↓reduceIte, zA, zB, zC, zD, zE, zF, zG, zL, zM, zN, reduceCtorEq]) | ((refine ys fun r hr => ?_; (try have hrn := (St.set_none hr).1); (try have hrn2 := Ne.symm (St.set_none hr).1)); try simp only [go_sem, ↓reduceIte, zA, zB, zC, zD, zE, zF, zG, zL, zM, zN, reduceCtorEq]) | fail
  exact hk _ hr

section
variable {bs : List UInt8} {a b s : Int} {q : Nat} {st : St} {k : D → St → Prop}

theorem sem41 (hq : st.mem q = some (.cells (rdC bs a b s))) (hk : k (.int .i64 a) st) : Sem P 41 [.ptr q 0] st k := by
  rw [rdC_eq] at hq
  refine Sem.of_body Tryz.call41 Tryz.func41 rfl Tryz.ntmps41 (by simp) ?_
  repeat' first | refine yj fun N hN => ?_ | refine yl [] ?_ | ((first | refine ya rfl rfl fun N hN => ?_ | refine ym ?_ | refine yo ?_); simp only [go_sem, ↓reduceIte, zA, zB, zC, zD, zE, zF, zG, zL, zM, zN, reduceCtorEq, hq, Tryz.results41]) | ((first | refine yg rfl ?_ | refine yn ?_); try simp only [go_sem]) | ((first | refine yx hN _ _ ?_ | refine yz hN _ _ ?_); clear hN N) | fail
  all_goals exact hk
theorem sem42 (hq : st.mem q = some (.cells (rdC bs a b s))) (hk : k (.tup [.int .i64 s, .int .i64 b]) st) : Sem P 42 [.ptr q 0] st k := by
  rw [rdC_eq] at hq
  refine Sem.of_body Tryz.call42 Tryz.func42 rfl Tryz.ntmps42 (by simp) ?_
  repeat' first | refine yj fun N hN => ?_ | refine yl [] ?_ | ((first | refine ya rfl rfl fun N hN => ?_ | refine yc rfl rfl fun N hN => ?_ | refine ye rfl rfl fun N hN => ?_ | (refine yw hN _ _ ?_; clear hN N) | refine ym ?_ | refine yo ?_); simp only [go_sem, ↓reduceIte, zA, zB, zC, zD, zE, zF, zG, zL, zM, zN, reduceCtorEq, hq, Tryz.results42]) | ((first | refine yg rfl ?_ | refine yn ?_ | refine yi ?_); try simp only [go_sem]) | ((first | refine yx hN _ _ ?_ | refine yz hN _ _ ?_ | refine yy hN _ ?_); clear hN N) | refine yt (id := 3) mixed [] (.rd 0 (.rd 1 (.rd 2 (.rd 3 (.rd 4 (.rd 5 (.rd 6 (.rd 7 (.act 8 [7, 6, 5, 4] (.act 9 [] (.nil))))))))))) (by kernel_rfl) ?_ | fail
  all_goals exact hk
theorem sem39 (hq : st.mem q = some (.cells (rdC bs a b s))) (ha : 0 ≤ a) (hal : a ≤ bs.length) (hl : bs.length < 1000000000) (hk : k (.int .i64 (bs.length - a)) st) : Sem P 39 [.ptr q 0] st k := by
  rw [rdC_eq] at hq
  refine Sem.of_body Tryz.call39 Tryz.func39 rfl Tryz.ntmps39 (by simp) ?_
  repeat' first | refine yj fun N hN => ?_ | refine yl [] ?_ | ((first | refine ya rfl rfl fun N hN => ?_ | refine yc rfl rfl fun N hN => ?_ | refine ye rfl rfl fun N hN => ?_ | (refine yw hN _ _ ?_; clear hN N) | refine ym ?_ | refine yo ?_); simp only [go_sem, ↓reduceIte, zA, zB, zC, zD, zE, zF, zG, zL, zM, zN, reduceCtorEq, hq, Tryz.results39]) | ((first | refine yg rfl ?_ | refine yn ?_ | refine yi ?_); try simp only [go_sem]) | ((first | refine yx hN _ _ ?_ | refine yz hN _ _ ?_ | refine yy hN _ ?_); clear hN N) | refine yt (id := 3) mixed [] (.rd 0 (.rd 1 (.rd 2 (.rd 3 (.rd 4 (.act 5 [4, 3, 2, 1, 0] (.act 6 [4, 3, 2, 1, 0] (.act 7 [4, 3, 2, 1, 0] (.act 8 [4, 3, 2, 1, 0] (.act 9 [] (.act 10 [] (.nil)))))))))))) (by kernel_rfl) ?_ | (refine And.intro ?_ ?_; · omega) | fail
  all_goals exact hk
theorem sem40 (e p : Int) (he : e ≠ 0) (hq : st.mem q = some (.cells (rdC bs a 0 s))) (hk : k (.tup []) (st.set q (.cells (rdC bs a e p)))) : Sem P 40 [.ptr q 0, .int .i64 p, .int .i64 e] st k := by
  rw [rdC_eq] at hq hk
  refine Sem.of_body Tryz.call40 Tryz.func40 rfl Tryz.ntmps40 (by simp) ?_
  repeat' first | refine yj fun N hN => ?_ | refine yl [] ?_ | ((first | refine ya rfl rfl fun N hN => ?_ | refine yb rfl rfl rfl rfl fun N hN => ?_ | refine ym ?_); simp only [go_sem, ↓reduceIte, zA, zB, zC, zD, zE, zF, zG, zL, zM, zN, reduceCtorEq, hq, he, Tryz.results40]) | (refine yg rfl ?_; try simp only [go_sem]) | ((first | refine yx hN _ _ ?_ | refine yz hN _ _ ?_); clear hN N) | fail
  all_goals exact hk
theorem sem40b (e p : Int) (hb : b ≠ 0) (hq : st.mem q = some (.cells (rdC bs a b s))) (hk : k (.tup []) st) : Sem P 40 [.ptr q 0, .int .i64 p, .int .i64 e] st k := by
  rw [rdC_eq] at hq
  refine Sem.of_body Tryz.call40 Tryz.func40 rfl Tryz.ntmps40 (by simp) ?_
  repeat' first | refine yj fun N hN => ?_ | refine yl [] ?_ | ((first | refine ya rfl rfl fun N hN => ?_ | refine yb rfl rfl rfl rfl fun N hN => ?_ | refine ym ?_); simp only [go_sem, ↓reduceIte, zA, zB, zC, zD, zE, zF, zG, zL, zM, zN, reduceCtorEq, hq, hb, Tryz.results40]) | ((first | refine yg rfl ?_ | refine yn ?_); try simp only [go_sem]) | ((first | refine yx hN _ _ ?_ | refine yz hN _ _ ?_); clear hN N) | fail
  all_goals exact hk

/-- What is read off the rest of the bytes: by a function of the program. -/
theorem sem67 (f : FuncId) (cap : List D) (hfl : flats cap = true) (ha : 0 ≤ a) (hal : a ≤ bs.length) (hl : bs.length < 1000000000) (hq : st.mem q = some (.cells (rdC bs a 0 s)))
    (hf : Sem P f (.sl .frozen 1 (byD (bs.drop a.toNat)) :: cap) st fun d st' => ∃ n : Int, d = .tup [.int .i64 n, .int .i64 0] ∧ 0 ≤ n ∧ n ≤ 1000000000 ∧ st'.mem q = some (.cells (rdC bs a 0 s)) ∧ k (.tup []) (st'.set q (.cells (rdC bs (a + n) 0 s)))) :
    Sem P 67 [.ptr q 0, .fn f [] cap] st k := by
  simp only [rdC_eq] at hq hf
  have htk : List.drop a.toNat (List.take bs.length (byD bs)) = byD (bs.drop a.toNat) := by
    rw [List.take_of_length_le (by rw [byD_length]; omega), byD_drop]
  refine Sem.of_body Tryz.call67 Tryz.func67 rfl Tryz.ntmps67 (by simp) ?_
  repeat' first | refine yj fun N hN => ?_ | refine yl [] ?_ | ((first | refine ya rfl rfl fun N hN => ?_ | refine yb rfl rfl rfl rfl fun N hN => ?_ | refine yc rfl rfl fun N hN => ?_ | refine ye rfl rfl fun N hN => ?_ | (refine yw hN _ _ ?_; clear hN N) | refine ym ?_); simp only [go_sem, ↓reduceIte, zA, zB, zC, zD, zE, zF, zG, zL, zM, zN, reduceCtorEq, hq, ha, hal, htk, Tryz.results67]) | ((first | refine yg rfl ?_ | refine yn ?_); try simp only [go_sem]) | ((first | refine yx hN _ _ ?_ | refine yz hN _ _ ?_ | refine yy hN _ ?_); clear hN N) | refine yt (id := 1) mixed [] (.rd 0 (.rd 1 (.rd 2 (.rd 3 (.rd 4 (.act 5 [4, 3, 2, 1, 0] (.act 6 [4, 3, 2, 1, 0] (.act 7 [4, 3, 2, 1, 0] (.act 8 [4, 3, 2, 1, 0] (.act 9 [0] (.act 10 [] (.act 11 [] (.rd 12 (.rd 13 (.act 14 [13] (.act 15 [] (.nil))))))))))))))))) (by kernel_rfl) ?_ | (refine And.intro ?_ ?_; · omega) | fail
  refine hf.mono ?_
  rintro d st' ⟨n, rfl, hn0, hn1, hq', hk⟩
  repeat' first | refine yj fun N hN => ?_ | refine yl [] ?_ | ((first | refine ya rfl rfl fun N hN => ?_ | refine yc rfl rfl fun N hN => ?_ | refine ye rfl rfl fun N hN => ?_ | (refine yw hN _ _ ?_; clear hN N) | refine ym ?_); simp only [go_sem, ↓reduceIte, zA, zB, zC, zD, zE, zF, zG, zL, zM, zN, reduceCtorEq, hq', Tryz.results67]) | ((first | refine yg rfl ?_ | refine yn ?_ | refine yi ?_); try simp only [go_sem]) | ((first | refine yx hN _ _ ?_ | refine yz hN _ _ ?_ | refine yy hN _ ?_); clear hN N) | (refine And.intro ?_ ?_; · omega) | fail
  all_goals exact hk
theorem sem67b (f : D) (hb : b ≠ 0) (hq : st.mem q = some (.cells (rdC bs a b s))) (hk : k (.tup []) st) : Sem P 67 [.ptr q 0, f] st k := by
  simp only [rdC_eq] at hq
  refine Sem.of_body Tryz.call67 Tryz.func67 rfl Tryz.ntmps67 (by simp) ?_
  repeat' first | refine yj fun N hN => ?_ | refine yl [] ?_ | ((first | refine ya rfl rfl fun N hN => ?_ | refine yb rfl rfl rfl rfl fun N hN => ?_ | refine ym ?_ | refine yo ?_); simp only [go_sem, ↓reduceIte, zA, zB, zC, zD, zE, zF, zG, zL, zM, zN, reduceCtorEq, hq, hb, Tryz.results67]) | (refine yg rfl ?_; try simp only [go_sem]) | ((first | refine yx hN _ _ ?_ | refine yz hN _ _ ?_); clear hN N) | clear hN N | fail
  all_goals exact hk
end
theorem sem68 (c : UInt8) (bs : List UInt8) (ow : Own) (p : Nat) (d0 : D) (st : St) (k : D → St → Prop) (hp : st.mem p = some (.cells [d0])) (hk : k (.tup [.int .i64 1, .int .i64 0]) (st.set p (.cells [.int .u8 c.toNat]))) (hl : bs.length < 1000000000) :
    Sem P 68 [.sl ow 1 (byD (c :: bs)), .ptr p 0] st k := by
  have hg : (byD (c :: bs)).getD 0 .any = .int .u8 c.toNat := rfl
  have h0 : 0 < bs.length + 1 := by omega
  refine Sem.of_body Tryz.call68 Tryz.func68 rfl Tryz.ntmps68 (by simp) ?_
  repeat' first | refine yj fun N hN => ?_ | refine yl [1] ?_ | ((first | refine ya rfl rfl fun N hN => ?_ | refine ym ?_ | refine yo ?_); simp only [go_sem, ↓reduceIte, zA, zB, zC, zD, zE, zF, zG, zL, zM, zN, reduceCtorEq, hp, hg, h0, Tryz.results68]) | ((first | refine yg rfl ?_ | refine yn ?_); try simp only [go_sem]) | ((first | refine yx hN _ _ ?_ | refine yz hN _ _ ?_); clear hN N) | ((apply And.intro <;> intro h) <;> (try simp only [zS, zT, zU, zV, Bool.not_true, Bool.not_false] at h) <;> (first | (exfalso; omega) | simp only [go_sem, ↓reduceIte, zA, zB, zC, zD, zE, zF, zG, zL, zM, zN, reduceCtorEq, hp, hg, h0, h] | skip)) | fail
  all_goals exact hk

theorem sem31 (bs : List UInt8) (a s : Int) (c : UInt8) (rest : List UInt8) (q : Nat) (st : St) (k : D → St → Prop) (ha : 0 ≤ a) (hal : a ≤ bs.length) (hl : bs.length < 1000000000) (hq : st.mem q = some (.cells (rdC bs a 0 s))) (hd : bs.drop a.toNat = c :: rest)
    (hk : k (.int .u8 c.toNat) (st.set q (.cells (rdC bs (a + 1) 0 s)))) : Sem P 31 [.ptr q 0] st k := by
  refine Sem.drop ?_
  refine Sem.of_body Tryz.call31 Tryz.func31 rfl Tryz.ntmps31 (by simp) ?_
  repeat' first | refine yj fun N hN => ?_ | refine yl [2] ?_ | (refine ya rfl rfl fun N hN => ?_; simp only [go_sem, ↓reduceIte, zA, zB, zC, zD, zE, zF, zG, zL, zM, zN, reduceCtorEq, hq, Tryz.results31]) | (refine yg rfl ?_; try simp only [go_sem]) | ((first | refine yx hN _ _ ?_ | refine yz hN _ _ ?_); clear hN N) | ((refine ys fun r hr => ?_; (try have hrn := (St.set_none hr).1); (try have hrn2 := Ne.symm (St.set_none hr).1)); try simp only [go_sem, ↓reduceIte, zA, zB, zC, zD, zE, zF, zG, zL, zM, zN, reduceCtorEq, hq]) | fail
  have hn := mem_ne hq hr
  have hql : (st.set r (.cells [.int .u8 0])).mem q = some (.cells (rdC bs a 0 s)) := by rw [St.mem_set, if_neg hn.1]; exact hq
  refine sem67 68 [.ptr r 0] rfl ha hal hl hql ?_
  have hrl : rest.length < 1000000000 := by
    have h1 : (bs.drop a.toNat).length = (c :: rest).length := by rw [hd]
    simp only [List.length_drop, List.length_cons] at h1; omega
  rw [hd]
  refine sem68 c rest _ r _ _ _ (by rw [St.mem_set, if_pos rfl]) ⟨1, rfl, by omega, by omega, ?_, ?_⟩ hrl
  · rw [St.mem_set, if_neg hn.1]; exact hql
  rw [rdC_eq]
  repeat' first | refine yj fun N hN => ?_ | refine yl [2] ?_ | ((first | refine ya rfl rfl fun N hN => ?_ | refine yo ?_); simp only [go_sem, ↓reduceIte, zA, zB, zC, zD, zE, zF, zG, zL, zM, zN, reduceCtorEq, hq, hn, Tryz.results31]) | (refine yg rfl ?_; try simp only [go_sem]) | ((first | refine yx hN _ _ ?_ | refine yz hN _ _ ?_); clear hN N) | fail
  refine ⟨_, ?_, hk⟩
  exact St.le_but (r := r) (by rw [St.mem_set, if_neg hn.2]; exact hr) (fun x hx => by simp only [St.mem_set, if_neg hx, rdC_eq]) rfl
theorem andNot128 : ∀ c : Fin 256, bits .andNot .u8 ((c.val : Nat) : Int) 128 = (((c.val % 128 : Nat)) : Int) := by decide

/-- What the first bytes of a number come to. -/
theorem sem72_1 (c : UInt8) (rest : List UInt8) (hc : c.toNat < 128) (ow : Own) (st : St) (k : D → St → Prop) (hl : rest.length < 1000000000) (hk : k (.tup [.int .u64 c.toNat, .int .i64 1, .int .i64 0]) st) : Sem P 72 [.sl ow 1 (byD (c :: rest))] st k := by
  have hc2 : (c.toNat : Int) < 128 := by omega
  have hc3 : ¬ (128 : Int) ≤ c.toNat := by omega
  have hand : bits .andNot .u8 (c.toNat : Int) 128 = (c.toNat : Int) := by
    have := andNot128 ⟨c.toNat, c.toNat_lt⟩
    simp only at this
    rw [this, Nat.mod_eq_of_lt hc]
  have hw : IntKind.u64.wrap (c.toNat : Int) = (c.toNat : Int) := by rw [IntKind.wrap_u64]; omega
  have hor : bits .or .u64 0 (c.toNat : Int) = (c.toNat : Int) := by
    have : ∀ x : Fin 128, bits .or .u64 0 ((x.val : Nat) : Int) = ((x.val : Nat) : Int) := by decide
    exact this ⟨c.toNat, hc⟩
  obtain ⟨tl, htl⟩ : ∃ tl, List.take (min ((rest.length + 1 : Nat) : Int) 10).toNat (byD (c :: rest)) = .int .u8 c.toNat :: tl := by
    obtain ⟨m, hm⟩ : ∃ m, (min ((rest.length + 1 : Nat) : Int) 10).toNat = m + 1 := ⟨(min ((rest.length + 1 : Nat) : Int) 10).toNat - 1, by omega⟩
    exact ⟨(byD rest).take m, by rw [hm]; rfl⟩
  refine Sem.of_body Tryz.call72 Tryz.func72 rfl Tryz.ntmps72 (by simp) ?_
  repeat' first | refine yj fun N hN => ?_ | refine yk ?_ | refine yl [] ?_ | (refine ya rfl rfl fun N hN => ?_; simp only [go_sem, ↓reduceIte, zA, zB, zC, zD, zE, zF, zG, zL, zM, zN, reduceCtorEq, htl, Tryz.results72]) | (refine yg rfl ?_; try simp only [go_sem]) | ((first | refine yx hN _ _ ?_ | refine yz hN _ _ ?_); clear hN N) | (refine And.intro ?_ ?_; · omega) | fail
  refine W.loopN (fun m fr st' => m = 1 ∧ st' = st ∧ fr 2 = .int .u64 0 ∧ fr 13 = .int .i64 0 ∧ fr 12 = .int .i64 (tl.length + 1 : Nat) ∧ fr 11 = .sl .frozen 1 (.int .u8 c.toNat :: tl)) ?_ 1 _ _ ⟨rfl, rfl, by simp only [go_sem, ↓reduceIte, zA, zB, zC, zD, zE, zF, zG, zL, zM, zN, reduceCtorEq], by simp only [go_sem, ↓reduceIte, zA, zB, zC, zD, zE, zF, zG, zL, zM, zN, reduceCtorEq], by simp only [go_sem, ↓reduceIte, zA, zB, zC, zD, zE, zF, zG, zL, zM, zN, reduceCtorEq, List.length_cons], by simp only [go_sem, ↓reduceIte, zA, zB, zC, zD, zE, zF, zG, zL, zM, zN, reduceCtorEq]⟩
  rintro m N' ih fr st' ⟨rfl, rfl, f2, f13, f12, f11⟩
  have h0 : (0 : Int) < (tl.length + 1 : Nat) := by omega
  have h1 : 0 < tl.length + 1 := by omega
  have hg : (D.int .u8 c.toNat :: tl).getD 0 .any = .int .u8 c.toNat := rfl
  repeat' first | refine yj fun N hN => ?_ | refine yk ?_ | refine yl [] ?_ | ((first | refine ya rfl rfl fun N hN => ?_ | refine yb rfl rfl rfl rfl fun N hN => ?_ | refine ym ?_ | refine yo ?_); simp only [go_sem, ↓reduceIte, zA, zB, zC, zD, zE, zF, zG, zL, zM, zN, reduceCtorEq, f2, f13, f12, f11, h0, h1, hg, hc2, hc3, hand, Tryz.results72]) | ((first | refine yg rfl ?_ | refine yn ?_); try simp only [go_sem]) | ((first | refine yx hN _ _ ?_ | refine yz hN _ _ ?_); clear hN N) | (refine yq (fun h => ?_) (fun h => ?_) <;> (try simp only [zS, zT, zU, zV, Bool.not_true, Bool.not_false] at h) <;> (first | (exfalso; omega) | simp only [go_sem, ↓reduceIte, zA, zB, zC, zD, zE, zF, zG, zL, zM, zN, reduceCtorEq, f2, f13, f12, f11, h0, h1, hg, hc2, hc3, hand, h] | skip)) | (refine And.intro ?_ ?_; · omega) | clear hN N | fail
  simp only [Int.mul_zero, Int.toNat_zero, Int.pow_zero, Int.mul_one, hw, hor]
  exact hk

/-- At a place stands a number, of so many bytes. -/
structure NumAt (bs : List UInt8) (a n m : Nat) : Prop where
  sem : ∀ (ow : Own) (st : St) (k : D → St → Prop), k (.tup [.int .u64 n, .int .i64 m, .int .i64 0]) st → Sem P 72 [.sl ow 1 (byD (bs.drop a))] st k
  nlt : n < 18446744073709551616
  le : a + m ≤ bs.length
  mle : m ≤ 10
  pos : 0 < m
theorem NumAt.one {bs rest : List UInt8} {a : Nat} {c : UInt8} (h : bs.drop a = c :: rest) (hc : c.toNat < 128) (hl : bs.length < 1000000000) : NumAt bs a c.toNat 1 := by
  have h1 : (bs.drop a).length = (c :: rest).length := by rw [h]
  simp only [List.length_drop, List.length_cons] at h1
  refine ⟨fun ow st k hk => ?_, by omega, by omega, by omega, by omega⟩
  rw [h]
  exact sem72_1 c rest hc ow st k (by omega) hk

theorem sem114 {bs : List UInt8} {a n m : Nat} (hn : NumAt bs a n m) (most : Nat) (hm : n ≤ most) (p r : Nat) (x0 : D) (st : St) (k : D → St → Prop) (hp : st.mem p = some (.cells [.int .u64 most])) (hr : st.mem r = some (.cells [x0]))
    (hk : k (.tup [.int .i64 m, .int .i64 0]) (st.set r (.cells [.int .u64 n]))) : Sem P 114 [.sl .frozen 1 (byD (bs.drop a)), .ptr p 0, .ptr r 0] st k := by
  have hm2 : ¬ (most : Int) < n := by omega
  refine Sem.of_body Tryz.call114 Tryz.func114 rfl Tryz.ntmps114 (by simp) ?_
  repeat' first | refine yj fun N hN => ?_ | refine yk ?_ | refine yl [2] ?_ | ((first | refine ya rfl rfl fun N hN => ?_ | refine ym ?_ | refine yo ?_); simp only [go_sem, ↓reduceIte, zA, zB, zC, zD, zE, zF, zG, zL, zM, zN, reduceCtorEq, hp, hr, hm2, Tryz.results114]) | ((first | refine yg rfl ?_ | refine yn ?_); try simp only [go_sem]) | ((first | refine yx hN _ _ ?_ | refine yz hN _ _ ?_); clear hN N) | (refine hn.sem _ _ _ ?_; try simp only [go_sem, ↓reduceIte, zA, zB, zC, zD, zE, zF, zG, zL, zM, zN, reduceCtorEq, hp, hr, hm2]) | fail
  all_goals exact hk

theorem St.le_but2 {A B : St} {r r2 : Nat} (hA : A.mem r = none) (hA2 : A.mem r2 = none) (h : ∀ x, x ≠ r → x ≠ r2 → B.mem x = A.mem x) (ht : B.tok = A.tok) : A.le B :=
  ⟨fun x o hx => by
    have h1 : x ≠ r := fun e => by rw [e, hA] at hx; cases hx
    have h2 : x ≠ r2 := fun e => by rw [e, hA2] at hx; cases hx
    rw [h x h1 h2]; exact hx, fun i hi => by rw [ht]; exact hi⟩

theorem sem102 {bs : List UInt8} {a n m : Nat} {s : Int} (hn : NumAt bs a n m) (most : Nat) (hm : n ≤ most) (q : Nat) (st : St) (k : D → St → Prop) (hl : bs.length < 1000000000) (hq : st.mem q = some (.cells (rdC bs a 0 s)))
    (hk : k (.int .u64 n) (st.set q (.cells (rdC bs (a + m : Nat) 0 s)))) : Sem P 102 [.ptr q 0, .int .u64 most] st k := by
  have hle := hn.le
  refine Sem.drop ?_
  refine Sem.of_body Tryz.call102 Tryz.func102 rfl Tryz.ntmps102 (by simp) ?_
  repeat' first | refine yj fun N hN => ?_ | refine yl [3, 4] ?_ | (refine ya rfl rfl fun N hN => ?_; simp only [go_sem, ↓reduceIte, zA, zB, zC, zD, zE, zF, zG, zL, zM, zN, reduceCtorEq, hq, Tryz.results102]) | (refine yg rfl ?_; try simp only [go_sem]) | ((first | refine yx hN _ _ ?_ | refine yz hN _ _ ?_); clear hN N) | ((refine ys fun r hr => ?_; (try have hrn := (St.set_none hr).1); (try have hrn2 := Ne.symm (St.set_none hr).1)); try simp only [go_sem, ↓reduceIte, zA, zB, zC, zD, zE, zF, zG, zL, zM, zN, reduceCtorEq, hq]) | fail
  rename_i r1 hr1 _ _
  have hr2 := (St.set_none hr).2
  have n1 := mem_ne hq hr1
  have n2 := mem_ne hq hr2
  have hq2 : ((st.set r1 (.cells [.int .u64 most])).set r (.cells [.int .u64 0])).mem q = some (.cells (rdC bs a 0 s)) := by rw [St.mem_set, if_neg n2.1, St.mem_set, if_neg n1.1]; exact hq
  refine sem67 114 [.ptr r1 0, .ptr r 0] rfl (Int.natCast_nonneg a) (by omega) hl hq2 ?_
  rw [Int.toNat_natCast]
  refine sem114 hn most hm r1 r (.int .u64 0) _ _ (by rw [St.mem_set, if_neg hrn2, St.mem_set, if_pos rfl]) (by rw [St.mem_set, if_pos rfl]) ⟨m, rfl, by omega, by have := hn.mle; omega, ?_, ?_⟩
  · rw [St.mem_set, if_neg n2.1]; exact hq2
  have e1 : (a : Int) + (m : Int) = (a + m : Nat) := by omega
  rw [rdC_eq, e1]
  repeat' first | refine yj fun N hN => ?_ | refine yl [3, 4] ?_ | ((first | refine ya rfl rfl fun N hN => ?_ | refine yo ?_); simp only [go_sem, ↓reduceIte, zA, zB, zC, zD, zE, zF, zG, zL, zM, zN, reduceCtorEq, hq, n1, n2, Tryz.results102]) | (refine yg rfl ?_; try simp only [go_sem]) | ((first | refine yx hN _ _ ?_ | refine yz hN _ _ ?_); clear hN N) | fail
  refine ⟨_, ?_, hk⟩
  exact St.le_but2 (r := r) (r2 := r1) (by rw [St.mem_set, if_neg n2.2]; exact hr2) (by rw [St.mem_set, if_neg n1.2]; exact hr1) (fun x hx hx1 => by simp only [St.mem_set, if_neg hx, if_neg hx1, rdC_eq]) rfl
theorem sem102b {bs : List UInt8} {a b s : Int} (most : Nat) (hb : b ≠ 0) (q : Nat) (st : St) (k : D → St → Prop) (hq : st.mem q = some (.cells (rdC bs a b s)))
    (hk : k (.int .u64 0) st) : Sem P 102 [.ptr q 0, .int .u64 most] st k := by
  refine Sem.drop ?_
  refine Sem.of_body Tryz.call102 Tryz.func102 rfl Tryz.ntmps102 (by simp) ?_
  repeat' first | refine yj fun N hN => ?_ | refine yl [3, 4] ?_ | (refine ya rfl rfl fun N hN => ?_; simp only [go_sem, ↓reduceIte, zA, zB, zC, zD, zE, zF, zG, zL, zM, zN, reduceCtorEq, hq, Tryz.results102]) | (refine yg rfl ?_; try simp only [go_sem]) | ((first | refine yx hN _ _ ?_ | refine yz hN _ _ ?_); clear hN N) | ((refine ys fun r hr => ?_; (try have hrn := (St.set_none hr).1); (try have hrn2 := Ne.symm (St.set_none hr).1)); try simp only [go_sem, ↓reduceIte, zA, zB, zC, zD, zE, zF, zG, zL, zM, zN, reduceCtorEq, hq]) | fail
  rename_i r1 hr1 _ _
  have hr2 := (St.set_none hr).2
  have n1 := mem_ne hq hr1
  have n2 := mem_ne hq hr2
  have hq2 : ((st.set r1 (.cells [.int .u64 most])).set r (.cells [.int .u64 0])).mem q = some (.cells (rdC bs a b s)) := by rw [St.mem_set, if_neg n2.1, St.mem_set, if_neg n1.1]; exact hq
  refine sem67b _ hb hq2 ?_
  repeat' first | refine yj fun N hN => ?_ | refine yl [3, 4] ?_ | ((first | refine ya rfl rfl fun N hN => ?_ | refine yo ?_); simp only [go_sem, ↓reduceIte, zA, zB, zC, zD, zE, zF, zG, zL, zM, zN, reduceCtorEq, hq, n1, n2, Tryz.results102]) | (refine yg rfl ?_; try simp only [go_sem]) | ((first | refine yx hN _ _ ?_ | refine yz hN _ _ ?_); clear hN N) | fail
  refine ⟨_, ?_, hk⟩
  exact St.le_but2 (r := r) (r2 := r1) hr2 hr1 (fun x hx hx1 => by simp only [St.mem_set, if_neg hx, if_neg hx1]) rfl
end Go.Proofs.YtddbidoaolnegaaGreatDoor
