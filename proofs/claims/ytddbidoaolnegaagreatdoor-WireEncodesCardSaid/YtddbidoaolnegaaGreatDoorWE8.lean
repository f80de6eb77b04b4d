/-
PART OF A CLAIM: NO, NP, KE, KF. No statement of the seat is proved here; no condition. -/
import Derived.DeepKeys5
import Derived.Test.YtddbidoaolnegaaGreatDoorWE7
set_option linter.all false
/- An append of a value that is laid into its place only behind the append: a whole region. No statement of the seat is proved here; no condition. -/
namespace Go.Proofs.YtddbidoaolnegaaGreatDoor
open Go Go.RowKit

section split
variable {P : Program} {n : Nat} {ops : Array Oper} {Q Q' : Exit → Act → World → Prop} {a : Act} {w : World}

theorem wpAny_fuel {md : Region.Mode} : ∀ (f : Nat) (l : Array Bool) (a : Act) (w : World), wpAny P md ops Q f l a w → wpAny P md ops Q (f + 1) l a w
  | 0, l, a, w, h => ⟨fun _ => h.2, fun i hi => by rw [h.1] at hi; cases hi⟩
  | f + 1, l, a, w, h => ⟨h.1, fun i hi => wpOp_mono (fun a w h => wpAny_fuel f _ a w h) (h.2 i hi)⟩
theorem wpAny_fuels {md : Region.Mode} {m : Nat} {l : Array Bool} (h : wpAny P md ops Q m l a w) : ∀ f, wpAny P md ops Q (f + m) l a w
  | 0 => by rwa [Nat.zero_add]
  | f + 1 => by rw [show f + 1 + m = (f + m) + 1 by omega]; exact wpAny_fuel _ _ _ _ (wpAny_fuels h f)

def preB (ops : Array Oper) (c : Nat) : Bool := (List.range ops.size).all fun k => ((ops[k]?).map fun o =>
  if k < c then o.guard.isNone && o.after.toList.all fun e => !Region.binds .any e || decide (e.on < k)
  else (List.range c).all fun p => o.after.toList.any fun e => Region.binds .any e && e.on == p).getD true

theorem preB_lt {c k : Nat} {o : Oper} (h : preB ops c = true) (ho : ops[k]? = some o) (hk : k < c) : o.guard = none ∧ ∀ e ∈ o.after, Region.binds .any e = true → e.on < k := by
  unfold preB at h
  rw [List.all_eq_true] at h
  have := h k (by rw [List.mem_range]; exact (Array.getElem?_eq_some_iff.1 ho).1)
  simp only [ho, Option.map_some, Option.getD_some, hk, if_true, Bool.and_eq_true, List.all_eq_true, Bool.or_eq_true, Bool.not_eq_true', decide_eq_true_eq] at this
  refine ⟨by simpa using this.1, fun e he hb => ?_⟩
  rcases this.2 e (by simpa using he) with h | h
  · rw [h] at hb; cases hb
  · exact h
theorem preB_ge {c k : Nat} {o : Oper} (h : preB ops c = true) (ho : ops[k]? = some o) (hk : ¬ k < c) : ∀ p, p < c → ∃ e ∈ o.after, Region.binds .any e = true ∧ e.on = p := by
  unfold preB at h
  rw [List.all_eq_true] at h
  have := h k (by rw [List.mem_range]; exact (Array.getElem?_eq_some_iff.1 ho).1)
  simp only [ho, Option.map_some, Option.getD_some, hk, if_false, List.all_eq_true, List.mem_range, List.any_eq_true, Bool.and_eq_true, beq_iff_eq] at this
  intro p hp
  obtain ⟨e, he, h1, h2⟩ := this p hp
  exact ⟨e, by simpa using he, h1, h2⟩

theorem wpOp_other {ops' : Array Oper} {i : Nat} {o : Oper} {K K' : Act → World → Prop} (h1 : ops'[i]? = some o) (h2 : ops[i]? = some o) (hg : o.guard = none) (hK : ∀ a w, K a w → K' a w)
    (hP : ∀ c a w, Q' (.panic c) a w → Q (.panic c) a w) (hO : LetsOut Q' → LetsOut Q) (h : wpOp P ops' Q' i K a w) : wpOp P ops Q i K' a w := by
  unfold wpOp at h ⊢
  rw [h1] at h
  rw [h2]
  have w1 : ∀ y, Region.wanted o y = true := fun y => by simp [Region.wanted, hg]
  simp only [w1, if_true] at h ⊢
  rcases h with h | h
  · left
    unfold Oper.wp at h ⊢
    generalize (execOp a.eval o).run P w = r at *
    cases r with
    | ok x w' =>
      cases x <;> simp only [Oper.upon] at h ⊢ <;>
        first
          | exact hK _ _ h
          | exact Calls.mono h (fun e w'' he => by cases e <;> first | exact hK _ _ he | exact hP _ _ _ he | exact hO he)
          | exact Rows.mono h (fun _ _ he => hK _ _ he)
          | exact h
    | halt x w' => cases x <;> simp only [Oper.upon] at h ⊢ <;> first | exact hP _ _ _ h | exact h
  · right
    exact ⟨h.1, hO h.2⟩

def falses (k : Nat) : Array Bool := Array.replicate k false

theorem wpAny_split {c m : Nat} (hpre : preB ops c = true) (hc : c ≤ ops.size) (hN : ∀ a w, Q' .normal a w → wpAny P .any ops Q m (Array.replicate c true ++ falses (ops.size - c)) a w)
    (hP : ∀ c a w, Q' (.panic c) a w → Q (.panic c) a w) (hO : LetsOut Q' → LetsOut Q) :
    ∀ (f : Nat) (l : Array Bool) (a : Act) (w : World), l.size = c → wpAny P .any (ops.extract 0 c) Q' f l a w → wpAny P .any ops Q (f + m) (l ++ falses (ops.size - c)) a w := by
  have hext : ∀ i, i < c → (ops.extract 0 c)[i]? = ops[i]? := fun i hi => by
    rw [Array.getElem?_extract]; simp; omega
  have hexs : (ops.extract 0 c).size = c := by simp; omega
  -- all have come up
  have full : ∀ l : Array Bool, l.size = c → (∀ i, i < c → l.getD i false = true) → l = Array.replicate c true := fun l hl h => by
    apply Array.ext
    · simp [hl]
    · intro i h1 h2
      have := h i (by omega)
      simpa [Array.getD_eq_getD_getElem?, h1] using this
  have getL : ∀ (l : Array Bool) (i : Nat) (d : Bool), l.size = c → i < c → (l ++ falses (ops.size - c)).getD i d = l.getD i d := fun l i d hl hi => by
    simp only [Array.getD_eq_getD_getElem?]
    rw [Array.getElem?_append_left (by omega)]
  have getR : ∀ (l : Array Bool) (i : Nat), l.size = c → c ≤ i → i < ops.size → (l ++ falses (ops.size - c)).getD i true = false := fun l i hl hi hi2 => by
    simp only [Array.getD_eq_getD_getElem?]
    rw [Array.getElem?_append_right (by omega)]
    simp [falses, Array.getElem?_replicate, show i - l.size < ops.size - c by omega]
  -- while one has not, what may come up is the same
  have same : ∀ l : Array Bool, l.size = c → (¬ ∀ i, i < c → l.getD i false = true) → ∀ k, k ∈ Region.ready .any ops (l ++ falses (ops.size - c)) → k < c ∧ k ∈ Region.ready .any (ops.extract 0 c) l := fun l hl hne k hk => by
    obtain ⟨h0, o, ho, hall⟩ := mem_ready.1 hk
    have hkc : k < c := by
      rcases Nat.lt_or_ge k c with h | h
      · exact h
      · exfalso
        apply hne
        intro p hp
        obtain ⟨e, he, hb, rfl⟩ := preB_ge hpre ho (by omega) p hp
        have := hall e he hb
        rwa [getL l _ _ hl hp] at this
    refine ⟨hkc, mem_ready.2 ⟨by rwa [getL l _ _ hl hkc] at h0, o, by rw [hext k hkc]; exact ho, fun e he hb => ?_⟩⟩
    have h1 := hall e he hb
    have h2 := (preB_lt hpre ho hkc).2 e he hb
    rwa [getL l _ _ hl (by omega)] at h1
  -- and one may
  have prog : ∀ l : Array Bool, l.size = c → (¬ ∀ i, i < c → l.getD i false = true) → Region.ready .any ops (l ++ falses (ops.size - c)) ≠ [] := fun l hl hne he => by
    apply hne
    intro i
    induction i using Nat.strongRecOn with
    | _ i ih =>
      intro hi
      cases hv : l.getD i false with
      | true => rfl
      | false =>
        exfalso
        have ho : ops[i]? = some ops[i] := by simp
        have : i ∈ Region.ready .any ops (l ++ falses (ops.size - c)) := mem_ready.2 ⟨by
          rw [getL l _ _ hl hi]
          simp only [Array.getD_eq_getD_getElem?] at hv ⊢
          have hlt : i < l.size := by omega
          simpa [hlt] using hv, _, ho, fun e he hb => by
          have h2 := (preB_lt hpre ho hi).2 e he hb
          rw [getL l _ _ hl (by omega)]
          exact ih e.on h2 (by omega)⟩
        rw [he] at this; cases this
  have noneR : ∀ l : Array Bool, l.size = c → (∀ i, i < c → l.getD i false = true) → Region.ready .any (ops.extract 0 c) l = [] := fun l hl h => by
    cases hr : Region.ready .any (ops.extract 0 c) l with
    | nil => rfl
    | cons k ks =>
      exfalso
      have hk : k ∈ Region.ready .any (ops.extract 0 c) l := by rw [hr]; simp
      obtain ⟨h0, o, ho, _⟩ := mem_ready.1 hk
      have hlt : k < c := by have := (Array.getElem?_eq_some_iff.1 ho).1; omega
      have := h k hlt
      have h0' := not_listed h0
      rw [h0'] at this; cases this
  intro f
  induction f with
  | zero =>
    intro l a w hl h
    by_cases hall : ∀ i, i < c → l.getD i false = true
    · rw [full l hl hall, Nat.zero_add]; exact hN a w h.2
    · exfalso
      refine prog l hl hall ?_
      cases hr : Region.ready .any ops (l ++ falses (ops.size - c)) with
      | nil => rfl
      | cons k ks =>
        have := (same l hl hall k (by rw [hr]; simp)).2
        rw [h.1] at this; cases this
  | succ f ih =>
    intro l a w hl h
    by_cases hall : ∀ i, i < c → l.getD i false = true
    · rw [full l hl hall]
      exact wpAny_fuels (hN a w (h.1 (noneR l hl hall))) (f + 1)
    · rw [show f + 1 + m = (f + m) + 1 by omega]
      refine ⟨fun he => absurd he (prog l hl hall), fun k hk => ?_⟩
      obtain ⟨hkc, hk'⟩ := same l hl hall k hk
      obtain ⟨_, o, ho, _⟩ := mem_ready.1 hk
      refine wpOp_other (by rw [hext k hkc]; exact ho) ho (preB_lt hpre ho hkc).1 (fun a w hh => ?_) hP hO (h.2 k hk')
      have := ih (l.setIfInBounds k true) a w (by simpa using hl) hh
      rwa [show (l ++ falses (ops.size - c)).setIfInBounds k true = l.setIfInBounds k true ++ falses (ops.size - c) from Array.setIfInBounds_append_left (by omega)]
end split

section draw
variable {P : Program} {M : List Tmp} {n : Nat} {ops : Array Oper} {fr : Fr} {st : St}

/-- What must hold when the append comes up, and what goes on behind the region. -/
structure Pre (P : Program) (n : Nat) (r q0 q z sz bs : Nat) (tS : TypeId) (ow : Own) (es es5 cs : List D) (y0 : D) (s0 s3 s4 s5 s6 s7 s8 s10 s11 : Tmp) (K : Fr → St → Prop) (fr : Fr) (st : St) : Prop where
  f0 : fr s0 = .ptr r q0
  f3 : fr s3 = .sl ow sz es
  f4 : fr s4 = .agg es5
  f5 : fr s5 = .int .i64 es.length
  f6 : ∃ ow6 z6, fr s6 = .sl ow6 z6 [y0]
  len : es5.length = z ∧ y0.cells.length = z
  own : ownOk st ow sz z
  big : (es.length + 1) * (2 * bs + 2) ≤ 281474976710656
  mem : st.mem r = some (.cells cs) ∧ q0 + q + 1 ≤ cs.length
  next : ∀ j, st.tok j = false → K ((((fr.put s7 (.sl (.tok j) z (es ++ [.agg es5]))).put s8 .any).put s10 .any).put s11 .any) ((ownSt st ow j).set r (.cells (splice cs (q0 + q) [.sl (.tok j) z (es ++ [.agg es5])])))

theorem ownSt_mem (st : St) (ow : Own) (j r : Nat) : (ownSt st ow j).mem r = st.mem r := by cases ow <;> rfl

/-- A region whose order is open, with a value that is laid into its place behind the append. -/
theorem W.late {id c : Nat} {Q : Exit → Fr → St → Prop} (hm : P.follows .mixedOrders = true) (M : List Tmp) (t : PT) (hok : okP (ops.extract 0 c) t = true) (hpre : preB ops c = true) (hsz : ops.size = c + 6)
    {tS tE tM : TypeId} {s0 s3 s4 s5 s6 s7 s8 s10 s11 : Tmp} {f z q bs : Nat} (T : Tail P n ops c tS tE tM s0 s4 s5 s7 s8 s10 s11 f z q) (hbs : slBytes P tS = some bs)
    (hap : ∃ x cl, ops[c]? = some x ∧ x.guard = none ∧ x.dst = some s7 ∧ x.op = .call cl ∧ cl.callee = .builtin .append ∧ cl.args = #[.tmp s3, .tmp s6] ∧ cl.argTypes = #[tS, tS])
    (hr0 : Region.ready .any ops (Array.replicate c true ++ falses 6) = [c]) (hl0 : (Array.replicate c true ++ falses 6).setIfInBounds c true = lst2 c 0 0)
    (hr : ∀ i j, i ≤ 2 → j ≤ 3 → Region.ready .any ops (lst2 c i j) = (if i < 2 then [c + 1 + i] else []) ++ (if j < 3 then [c + 3 + j] else []))
    (hl : ∀ i j, i < 2 → j ≤ 3 → (lst2 c i j).setIfInBounds (c + 1 + i) true = lst2 c (i + 1) j)
    (hl' : ∀ i j, i ≤ 2 → j < 3 → (lst2 c i j).setIfInBounds (c + 3 + j) true = lst2 c i (j + 1)) (hne : s7 < n ∧ s7 ≠ s0 ∧ s7 ≠ s4 ∧ s7 ≠ s5)
    (h : evT P M n (ops.extract 0 c) (fun fr st => ∃ r q0 sz ow es es5 cs y0, Pre P n r q0 q z sz bs tS ow es es5 cs y0 s0 s3 s4 s5 s6 s7 s8 s10 s11 (fun fr st => Q .normal fr st) fr st) t [] fr st) :
    W P n (.region id ops true) Q fr st := by
  intro g w a hi hf
  simp only [okP, Bool.and_eq_true] at hok
  refine wp_region_any hm ?_
  have hes : (ops.extract 0 c).size = c := by simp; omega
  have hA := absF_wp (P := P) (n := n) (M := M) (ops := ops.extract 0 c) (Q := fun e fr st => match e with
      | .normal => ∃ r q0 sz ow es es5 cs y0, Pre P n r q0 q z sz bs tS ow es es5 cs y0 s0 s3 s4 s5 s6 s7 s8 s10 s11 (fun fr st => Q .normal fr st) fr st
      | e => Q e fr st) (g0 := g) c (Array.replicate c false) [] g fr st a { w with drawn := w.drawn + 1 } (Gh.le.refl g) hi.draw hf (by
    have := evT_ok (P := P) (M := M) (n := n) (ops := ops.extract 0 c) t c (Array.replicate c false) [] fr st (by have := Nat.le_of_ble_eq_true hok.2; rwa [hes] at this) (by have := hok.1; rwa [hes] at this) (fun k o ho hk => by
      simp [Array.getD_eq_getD_getElem?, Array.getElem?_replicate] at hk
      split at hk <;> simp at hk) ⟨fun _ hy => (by cases hy)⟩ ⟨fun _ hy => (by cases hy)⟩ h
    simpa using this)
  have hS := wpAny_split (P := P) (ops := ops) (Q := lift g n Q) (m := 6) hpre (by omega) ?_ ?_ ?_ c (Array.replicate c false) a _ (by simp) hA
  · rw [hsz]
    have e : Array.replicate (c + 6) false = Array.replicate c false ++ falses (ops.size - c) := by
      rw [hsz, show c + 6 - c = 6 by omega]
      apply Array.ext'
      simp [falses, List.replicate_append_replicate]
    rw [e]; exact hS
  · -- the append, and what is behind it
    rintro a w ⟨_, g1, fr, st, l1, hi, hf, r, q0, sz, ow, es, es5, cs, y0, hp⟩
    rw [hsz, show c + 6 - c = 6 by omega]
    refine ⟨fun he => (by rw [hr0] at he; cases he), fun k hk => ?_⟩
    rw [hr0, List.mem_singleton] at hk
    subst hk
    rw [hl0]
    obtain ⟨x, cl, x1, x2, x3, x4, x5, x6, x7⟩ := hap
    obtain ⟨ow6, z6, f6⟩ := hp.f6
    have hv3 : VT g1 (.sl ow sz es) (a.eval (.tmp s3)) := by have := hf.slot s3; rwa [hp.f3] at this
    have hv6 : VT g1 (.sl ow6 z6 [y0]) (a.eval (.tmp s6)) := by have := hf.slot s6; rwa [f6] at this
    have hv4 : VT g1 (.agg es5) (a.eval (.tmp s4)) := by have := hf.slot s4; rwa [hp.f4] at this
    have hv5 : a.eval (.tmp s5) = .int .i64 es.length := by have := hf.slot s5; rw [hp.f5] at this; exact this.int
    have hv0 : a.eval (.tmp s0) = .pointer (some ⟨r, q0, none⟩) := by have := hf.slot s0; rw [hp.f0] at this; exact this.ptr
    obtain ⟨z1, _, _, _⟩ := T.sz
    obtain ⟨us0, hsrc⟩ := src_sl (P := P) hi hv6 (z := z) (by simpa using hp.len.2)
    have hR4 := (hv4.fine rfl).toRs
    have hRs4 : Rs g1 es5 (a.eval (.tmp s4)).cells.toList := hR4
    have husl : (a.eval (.tmp s4)).cells.toList.length = z := by rw [hRs4.length]; exact hp.len.1
    obtain ⟨el, hu, _⟩ := slTy_of z1
    obtain ⟨g2, j, w2, b, p, cap, hrun, l2, hj, hL, hV⟩ := late_append (ty := x.type) (s := tS) hi hv3 ⟨el, hu⟩ z1 hbs hsrc husl (e := .agg es5) (by simpa [R] using hRs4) hRs4.one hp.big hp.own
    refine wpOp_value x1 x2 (v := .slice (some ⟨b, p, none⟩) (es.length + 1) cap) (w' := w2) ?_ ?_
    · have hm2 : (#[Operand.tmp s3, Operand.tmp s6] : Array Operand).map a.eval = #[a.eval (.tmp s3), a.eval (.tmp s6)] := by apply Array.ext'; rw [Array.toList_map]; rfl
      simp [execOp, x4, resolve, x5, x6, x7, hm2, invoke, builtin, hrun]
    · rw [x3]
      have hf2 := (hf.mono l2).put (i := s7) hne.1 hV
      have hsame : ∀ {s : Tmp} {v : Value}, s7 ≠ s → a.eval (.tmp s) = v → (a.put (some s7) (.slice (some ⟨b, p, none⟩) (es.length + 1) cap)).tmps.getD s undef = v := fun {s v} hs hv => by rw [put_ne hs.symm]; exact hv
      obtain ⟨n1, n2, n3, n4, n5, n6, n7, n8, n9, n10, n11, n12, n13, n14, n15⟩ := T.ne
      have hany : ∀ {fr : Fr} {a : Act} (s : Tmp), FRel g2 n fr a → FRel g2 n (fr.put s .any) a := fun {fr a} s h => ⟨h.size, h.defers, fun i => by
        unfold Fr.put
        split
        · exact trivial
        · exact h.slot i⟩
      have hdr : Rs g2 [.sl (.tok j) z (es ++ [.agg es5])] [.slice (some ⟨b, p, none⟩) (es.length + 1) cap] := (hV.fine rfl).toRs
      refine late_tail T hr hl hl' (us := (a.eval (.tmp s4)).cells.toList) rfl husl (g := g2) (fr := (((fr.put s7 (.sl (.tok j) z (es ++ [.agg es5]))).put s8 .any).put s10 .any).put s11 .any) (st := ownSt st ow j) (b := b) (p := p) (len := es.length) (cap := cap) (r := r) (q0 := q0) (cs := cs) (hdr := .sl (.tok j) z (es ++ [.agg es5])) ?_ 5 0 0 (by omega) (by omega) (by omega) _ _ ?_
      · intro a w hI hF
        exact ⟨rfl, g2, _, _, l1.trans l2, hI, hF, hp.next j hj⟩
      · refine ⟨hany _ (hany _ (hany _ hf2)), ⟨?_, ?_, ?_⟩, hsame hne.2.1 hv0, hsame hne.2.2.1 rfl, hsame hne.2.2.2 hv5, put_get hf.size hne.1 _, fun h => by omega, fun h => by omega, fun h => by omega, ⟨by rw [ownSt_mem]; exact hp.mem.1, hp.mem.2⟩, hdr, fun _ => ?_, fun h => by omega⟩
        · simp [Fr.put, n13, n14]
        · simp [Fr.put, n15]
        · simp [Fr.put]
        · simpa using hL
  · rintro ch a w ⟨h1, g', fr, st, h2, h3, h4, h5⟩; exact ⟨h1, g', fr, st, h2, h3, h4, h5⟩
  · rintro ⟨a, w, h1, g', fr, st, h2, h3, h4, h5⟩; exact ⟨a, w, h1, g', fr, st, h2, h3, h4, h5⟩
theorem W.late2 {id c : Nat} {Q : Exit → Fr → St → Prop} (hm : P.follows .mixedOrders = true) (M : List Tmp) (t : PT) (hok : okP (ops.extract 0 c) t = true) (hpre : preB ops c = true) (hsz : ops.size = c + 6)
    {tS tE tM : TypeId} {s0 s3 s4 s5 s6 s7 s8 s10 s11 : Tmp} {f z q bs : Nat} (T : Tail P n ops c tS tE tM s0 s4 s5 s7 s8 s10 s11 f z q) (hbs : slBytes P tS = some bs)
    (hap : ∃ x cl, ops[c]? = some x ∧ x.guard = none ∧ x.dst = some s7 ∧ x.op = .call cl ∧ cl.callee = .builtin .append ∧ cl.args = #[.tmp s3, .tmp s6] ∧ cl.argTypes = #[tS, tS])
    (hr0 : Region.ready .any ops (Array.replicate c true ++ falses 6) = [c]) (hl0 : (Array.replicate c true ++ falses 6).setIfInBounds c true = lst2 c 0 0)
    (hr : ∀ i j, i ≤ 2 → j ≤ 3 → Region.ready .any ops (lst2 c i j) = (if i < 2 then [c + 1 + i] else []) ++ (if j < 3 then [c + 3 + j] else []))
    (hl : ∀ i j, i < 2 → j ≤ 3 → (lst2 c i j).setIfInBounds (c + 1 + i) true = lst2 c (i + 1) j)
    (hl' : ∀ i j, i ≤ 2 → j < 3 → (lst2 c i j).setIfInBounds (c + 3 + j) true = lst2 c i (j + 1)) (hne : s7 < n ∧ s7 ≠ s0 ∧ s7 ≠ s4 ∧ s7 ≠ s5)
    (h : evT P M n (ops.toList.take c).toArray (fun fr st => ∃ r q0 sz ow es es5 cs y0, Pre P n r q0 q z sz bs tS ow es es5 cs y0 s0 s3 s4 s5 s6 s7 s8 s10 s11 (fun fr st => Q .normal fr st) fr st) t [] fr st) :
    W P n (.region id ops true) Q fr st := by
  have e : (ops.toList.take c).toArray = ops.extract 0 c := by
    apply Array.ext'
    simp
  rw [e] at h
  exact W.late hm M t hok hpre hsz T hbs hap hr0 hl0 hr hl hl' hne h
end draw
end Go.Proofs.YtddbidoaolnegaaGreatDoor
/- An append in a region whose order is open, the value laid into its place in the next region. No statement of the seat is proved here; no condition. -/
namespace Go.Proofs.YtddbidoaolnegaaGreatDoor
open Go Go.RowKit
set_option maxHeartbeats 1000000

def lst3 (c i : Nat) : Array Bool := (List.replicate (c + i) true ++ List.replicate (4 - i) false).toArray

section
variable {P : Program} {n : Nat} {ops ops2 : Array Oper} {fr : Fr} {st : St}

theorem wpOps_value {Q : Exit → Act → World → Prop} {a : Act} {w w' : World} {i : Nat} {rest : List Nat} {oi : Oper} (hi : ops[i]? = some oi) (hg : oi.guard = none) {v : Value} (h : (execOp a.eval oi).run P w = .ok (.value v) w') (hk : wpOps P ops Q rest (a.put oi.dst v) w') : wpOps P ops Q (i :: rest) a w := by
  unfold wpOps
  rw [hi]
  have : Region.wanted oi (yielded ops a.tmps) = true := by simp [Region.wanted, hg]
  simp only [this, if_true]
  left
  unfold Oper.wp
  rw [h]; exact hk
theorem wpOps_skip {Q : Exit → Act → World → Prop} {a : Act} {w w' : World} {i : Nat} {rest : List Nat} {oi : Oper} (hi : ops[i]? = some oi) (hg : oi.guard = none) (h : (execOp a.eval oi).run P w = .ok .skip w') (hk : wpOps P ops Q rest (a.put oi.dst undef) w') : wpOps P ops Q (i :: rest) a w := by
  unfold wpOps
  rw [hi]
  have : Region.wanted oi (yielded ops a.tmps) = true := by simp [Region.wanted, hg]
  simp only [this, if_true]
  left
  unfold Oper.wp
  rw [h]; exact hk

theorem W.late3 {id id2 c : Nat} {Q : Exit → Fr → St → Prop} (hm : P.follows .mixedOrders = true) (M : List Tmp) (t : PT) (hok : okP (ops.extract 0 c) t = true) (hpre : preB ops c = true) (hsz : ops.size = c + 4)
    {tS tE tM : TypeId} {s0 s3 s4 s5 s6 s7 s8 s10 s11 : Tmp} {f z q bs : Nat}
    (o10 : ∃ x, ops[c + 1]? = some x ∧ x.guard = none ∧ x.dst = some s10 ∧ x.op = .nilCheck (.tmp s0))
    (o11 : ∃ x, ops[c + 2]? = some x ∧ x.guard = none ∧ x.dst = some s11 ∧ x.op = .fieldAddr tM (.tmp s10) f)
    (o12 : ∃ x, ops[c + 3]? = some x ∧ x.guard = none ∧ x.dst = none ∧ x.op = .store tS (.tmp s11) (.tmp s7))
    (hs2 : ops2.size = 2)
    (o8 : ∃ x, ops2[0]? = some x ∧ x.guard = none ∧ x.dst = some s8 ∧ x.op = .indexAddr tS (.tmp s7) (.tmp s5))
    (o9 : ∃ x, ops2[1]? = some x ∧ x.guard = none ∧ x.dst = none ∧ x.op = .store tE (.tmp s8) (.tmp s4))
    (sz : slTy P tS = some z ∧ szOf P tE = some z ∧ szOf P tS = some 1 ∧ offOf P tM f = some q) (lt : s7 < n ∧ s8 < n ∧ s10 < n ∧ s11 < n)
    (ne : (s7 ≠ s0 ∧ s7 ≠ s4 ∧ s7 ≠ s5) ∧ (s8 ≠ s4) ∧ (s10 ≠ s4 ∧ s10 ≠ s5 ∧ s10 ≠ s7) ∧ (s11 ≠ s4 ∧ s11 ≠ s5 ∧ s11 ≠ s7) ∧ s8 ≠ s10 ∧ s8 ≠ s11 ∧ s10 ≠ s11)
    (hbs : slBytes P tS = some bs)
    (hap : ∃ x cl, ops[c]? = some x ∧ x.guard = none ∧ x.dst = some s7 ∧ x.op = .call cl ∧ cl.callee = .builtin .append ∧ cl.args = #[.tmp s3, .tmp s6] ∧ cl.argTypes = #[tS, tS])
    (h0 : Array.replicate c true ++ falses 4 = lst3 c 0)
    (hR : ∀ i, i ≤ 4 → Region.ready .any ops (lst3 c i) = if i < 4 then [c + i] else [])
    (hL : ∀ i, i < 4 → (lst3 c i).setIfInBounds (c + i) true = lst3 c (i + 1))
    (h : evT P M n (ops.toList.take c).toArray (fun fr st => ∃ r q0 sz ow es es5 cs y0, Pre P n r q0 q z sz bs tS ow es es5 cs y0 s0 s3 s4 s5 s6 s7 s8 s10 s11 (fun fr st => Q .normal fr st) fr st) t [] fr st) :
    W P n (.seq (.region id ops true) (.region id2 ops2 false)) Q fr st := by
  have e : (ops.toList.take c).toArray = ops.extract 0 c := by apply Array.ext'; simp
  rw [e] at h
  intro g w a hi hf
  simp only [okP, Bool.and_eq_true] at hok
  refine wp_seq (wp_region_any hm ?_)
  have hes : (ops.extract 0 c).size = c := by simp; omega
  have hA := absF_wp (P := P) (n := n) (M := M) (ops := ops.extract 0 c) (Q := fun e fr st => match e with
      | .normal => ∃ r q0 sz ow es es5 cs y0, Pre P n r q0 q z sz bs tS ow es es5 cs y0 s0 s3 s4 s5 s6 s7 s8 s10 s11 (fun fr st => Q .normal fr st) fr st
      | e => Q e fr st) (g0 := g) c (Array.replicate c false) [] g fr st a { w with drawn := w.drawn + 1 } (Gh.le.refl g) hi.draw hf (by
    have := evT_ok (P := P) (M := M) (n := n) (ops := ops.extract 0 c) t c (Array.replicate c false) [] fr st (by have := Nat.le_of_ble_eq_true hok.2; rwa [hes] at this) (by have := hok.1; rwa [hes] at this) (fun k o ho hk => by
      simp [Array.getD_eq_getD_getElem?, Array.getElem?_replicate] at hk
      split at hk <;> simp at hk) ⟨fun _ hy => (by cases hy)⟩ ⟨fun _ hy => (by cases hy)⟩ h
    simpa using this)
  have hS := wpAny_split (P := P) (ops := ops) (Q := Exit.then ((Code.region id2 ops2 false).wp P (lift g n Q)) (lift g n Q)) (m := 4) hpre (by omega) ?_ ?_ ?_ c (Array.replicate c false) a _ (by simp) hA
  · rw [hsz]
    have e : Array.replicate (c + 4) false = Array.replicate c false ++ falses (ops.size - c) := by
      rw [hsz, show c + 4 - c = 4 by omega]
      apply Array.ext'
      simp [falses, List.replicate_append_replicate]
    rw [e]; exact hS
  · rintro a w ⟨_, g1, fr, st, l1, hi, hf, r, q0, sz', ow, es, es5, cs, y0, hp⟩
    rw [hsz, show c + 4 - c = 4 by omega, h0]
    refine ⟨fun he => (by rw [hR 0 (by omega)] at he; simp at he), fun k hk => ?_⟩
    rw [hR 0 (by omega)] at hk
    simp only [Nat.zero_lt_succ, if_true, Nat.add_zero, List.mem_singleton] at hk
    subst hk
    rw [show (lst3 k 0).setIfInBounds k true = lst3 k 1 from hL 0 (by omega)]
    obtain ⟨x, cl, x1, x2, x3, x4, x5, x6, x7⟩ := hap
    obtain ⟨ow6, z6, f6⟩ := hp.f6
    have hv3 : VT g1 (.sl ow sz' es) (a.eval (.tmp s3)) := by have := hf.slot s3; rwa [hp.f3] at this
    have hv6 : VT g1 (.sl ow6 z6 [y0]) (a.eval (.tmp s6)) := by have := hf.slot s6; rwa [f6] at this
    have hv4 : VT g1 (.agg es5) (a.eval (.tmp s4)) := by have := hf.slot s4; rwa [hp.f4] at this
    have hv5 : a.eval (.tmp s5) = .int .i64 es.length := by have := hf.slot s5; rw [hp.f5] at this; exact this.int
    have hv0 : a.eval (.tmp s0) = .pointer (some ⟨r, q0, none⟩) := by have := hf.slot s0; rw [hp.f0] at this; exact this.ptr
    obtain ⟨z1, z2, z3, z4⟩ := sz
    obtain ⟨us0, hsrc⟩ := src_sl (P := P) hi hv6 (z := z) (by simpa using hp.len.2)
    have hR4 := (hv4.fine rfl).toRs
    have hRs4 : Rs g1 es5 (a.eval (.tmp s4)).cells.toList := hR4
    have husl : (a.eval (.tmp s4)).cells.toList.length = z := by rw [hRs4.length]; exact hp.len.1
    obtain ⟨el, hu, hz0⟩ := slTy_of z1
    obtain ⟨g2, j, w2, b, p, cap, hrun, l2, hj, hLt, hV⟩ := late_append (ty := x.type) (s := tS) hi hv3 ⟨el, hu⟩ z1 hbs hsrc husl (e := .agg es5) (by simpa [R] using hRs4) hRs4.one hp.big hp.own
    obtain ⟨⟨n1, n2, n3⟩, n4, ⟨n5, n6, n7⟩, ⟨n8, n9, n10⟩, n11, n12, n13⟩ := ne
    obtain ⟨y7, y8, y10, y11⟩ := lt
    refine wpOp_value x1 x2 (v := .slice (some ⟨b, p, none⟩) (es.length + 1) cap) (w' := w2) ?_ ?_
    · have hm2 : (#[Operand.tmp s3, Operand.tmp s6] : Array Operand).map a.eval = #[a.eval (.tmp s3), a.eval (.tmp s6)] := by apply Array.ext'; rw [Array.toList_map]; rfl
      simp [execOp, x4, resolve, x5, x6, x7, hm2, invoke, builtin, hrun]
    rw [x3]
    have hany : ∀ {fr : Fr} {a : Act} (s : Tmp), FRel g2 n fr a → FRel g2 n (fr.put s .any) a := fun {fr a} s h => ⟨h.size, h.defers, fun i => by
      unfold Fr.put
      split
      · exact trivial
      · exact h.slot i⟩
    have hf2 := hany s11 (hany s10 (hany s8 ((hf.mono l2).put (i := s7) y7 hV)))
    have hdr : Rs g2 [.sl (.tok j) z (es ++ [.agg es5])] [.slice (some ⟨b, p, none⟩) (es.length + 1) cap] := (hV.fine rfl).toRs
    have v0 : (a.put (some s7) (.slice (some ⟨b, p, none⟩) (es.length + 1) cap)).eval (.tmp s0) = .pointer (some ⟨r, q0, none⟩) := (put_ne n1.symm _).trans hv0
    have v4 : (a.put (some s7) (.slice (some ⟨b, p, none⟩) (es.length + 1) cap)).tmps.getD s4 undef = a.eval (.tmp s4) := by rw [put_ne n2.symm]; rfl
    have v5 : (a.put (some s7) (.slice (some ⟨b, p, none⟩) (es.length + 1) cap)).tmps.getD s5 undef = .int .i64 es.length := by rw [put_ne n3.symm]; exact hv5
    have v7 : (a.put (some s7) (.slice (some ⟨b, p, none⟩) (es.length + 1) cap)).tmps.getD s7 undef = .slice (some ⟨b, p, none⟩) (es.length + 1) cap := put_get hf.size y7 _
    generalize hE : a.eval (.tmp s4) = ev4 at *
    generalize a.put (some s7) (.slice (some ⟨b, p, none⟩) (es.length + 1) cap) = a1 at *
    have a8 : ((((fr.put s7 (.sl (.tok j) z (es ++ [.agg es5]))).put s8 .any).put s10 .any).put s11 .any) s10 = .any := by simp [Fr.put]
    have a11 : ((((fr.put s7 (.sl (.tok j) z (es ++ [.agg es5]))).put s8 .any).put s10 .any).put s11 .any) s11 = .any := by simp [Fr.put]
    have a9 : ((((fr.put s7 (.sl (.tok j) z (es ++ [.agg es5]))).put s8 .any).put s10 .any).put s11 .any) s8 = .any := by simp [Fr.put]
    -- the check
    refine ⟨fun he => (by rw [hR 1 (by omega)] at he; simp at he), fun k' hk => ?_⟩
    rw [hR 1 (by omega)] at hk
    simp only [show (1 : Nat) < 4 by omega, if_true, List.mem_singleton] at hk
    subst hk
    rw [hL 1 (by omega)]
    obtain ⟨x, x1, x2, x3, x4⟩ := o10
    refine wpOp_value x1 x2 (v := .pointer (some ⟨r, q0, none⟩)) (w' := w2) (by simp [execOp, x4, v0]) ?_
    rw [x3]
    replace hf2 := hf2.putAny a8 (.pointer (some ⟨r, q0, none⟩))
    have v10 : (a1.put (some s10) (.pointer (some ⟨r, q0, none⟩))).eval (.tmp s10) = .pointer (some ⟨r, q0, none⟩) := put_get (by have := hf2.size; simpa [Act.put] using this) y10 _
    replace v4 : (a1.put (some s10) (.pointer (some ⟨r, q0, none⟩))).tmps.getD s4 undef = ev4 := by rw [put_ne n5.symm]; exact v4
    replace v5 : (a1.put (some s10) (.pointer (some ⟨r, q0, none⟩))).tmps.getD s5 undef = .int .i64 es.length := by rw [put_ne n6.symm]; exact v5
    replace v7 : (a1.put (some s10) (.pointer (some ⟨r, q0, none⟩))).tmps.getD s7 undef = .slice (some ⟨b, p, none⟩) (es.length + 1) cap := by rw [put_ne n7.symm]; exact v7
    generalize a1.put (some s10) (.pointer (some ⟨r, q0, none⟩)) = a2 at *
    -- the field
    refine ⟨fun he => (by rw [hR 2 (by omega)] at he; simp at he), fun k' hk => ?_⟩
    rw [hR 2 (by omega)] at hk
    simp only [show (2 : Nat) < 4 by omega, if_true, List.mem_singleton] at hk
    subst hk
    rw [hL 2 (by omega)]
    obtain ⟨x, x1, x2, x3, x4⟩ := o11
    refine wpOp_value x1 x2 (v := .pointer (some ⟨r, q0 + q, none⟩)) (w' := w2) (by have := run_fieldPlace z4 r q0 w2; simp [execOp, x4, v10, this]) ?_
    rw [x3]
    replace hf2 := hf2.putAny a11 (.pointer (some ⟨r, q0 + q, none⟩))
    have v11 : (a2.put (some s11) (.pointer (some ⟨r, q0 + q, none⟩))).eval (.tmp s11) = .pointer (some ⟨r, q0 + q, none⟩) := put_get (by have := hf2.size; simpa [Act.put] using this) y11 _
    replace v4 : (a2.put (some s11) (.pointer (some ⟨r, q0 + q, none⟩))).tmps.getD s4 undef = ev4 := by rw [put_ne n8.symm]; exact v4
    replace v5 : (a2.put (some s11) (.pointer (some ⟨r, q0 + q, none⟩))).tmps.getD s5 undef = .int .i64 es.length := by rw [put_ne n9.symm]; exact v5
    replace v7 : (a2.put (some s11) (.pointer (some ⟨r, q0 + q, none⟩))).eval (.tmp s7) = .slice (some ⟨b, p, none⟩) (es.length + 1) cap := (put_ne n10.symm _).trans v7
    generalize a2.put (some s11) (.pointer (some ⟨r, q0 + q, none⟩)) = a3 at *
    -- the header
    refine ⟨fun he => (by rw [hR 3 (by omega)] at he; simp at he), fun k' hk => ?_⟩
    rw [hR 3 (by omega)] at hk
    simp only [show (3 : Nat) < 4 by omega, if_true, List.mem_singleton] at hk
    subst hk
    rw [hL 3 (by omega)]
    obtain ⟨x, x1, x2, x3, x4⟩ := o12
    have m1 : (ownSt st ow j).mem r = some (.cells cs) := by rw [ownSt_mem]; exact hp.mem.1
    obtain ⟨s1, s2⟩ := hLt.store (P := P) (q := q0 + q) (xs := [.sl (.tok j) z (es ++ [.agg es5])]) m1 hdr (by simpa using hp.mem.2)
    have hs := run_sizeOf_some (P := P) z3 w2
    refine wpOp_skip x1 x2 (w' := w2.setCells r (q0 + q) [.slice (some ⟨b, p, none⟩) (es.length + 1) cap]) ?_ ?_
    · have hsv : (storeVar tS ⟨r, q0 + q, none⟩ (.slice (some ⟨b, p, none⟩) (es.length + 1) cap)).run P w2 = .ok () (w2.setCells r (q0 + q) [.slice (some ⟨b, p, none⟩) (es.length + 1) cap]) := by
        simp [storeVar, hs, Value.cells, s1]
      simp [execOp, x4, v11, v7, Instr.storeAt, Instr.sureAddr, hsv]
    rw [x3]
    refine ⟨by rw [hR 4 (by omega)]; rfl, ?_⟩
    -- the next region
    show (Code.region id2 ops2 false).wp P (lift g n Q) _ _
    refine wp_region ?_
    rw [hs2, show List.range 2 = [0, 1] from rfl]
    obtain ⟨x, x1, x2, x3, x4⟩ := o8
    have hs := run_sizeOf_some (P := P) hz0 (w2.setCells r (q0 + q) [.slice (some ⟨b, p, none⟩) (es.length + 1) cap])
    have v5' : a3.eval (.tmp s5) = .int .i64 es.length := v5
    refine wpOps_value x1 x2 (v := .pointer (some ⟨b, p + es.length * z, none⟩)) (w' := w2.setCells r (q0 + q) [.slice (some ⟨b, p, none⟩) (es.length + 1) cap]) ?_ ?_
    · have hlt : (es.length : Int) < (es.length : Int) + 1 := by omega
      have e3 : (a3.put none undef).eval = a3.eval := rfl
      rw [e3]
      simp [execOp, x4, v7, v5', Instr.indexAt, asIntOf, run_underlying hu, hlt, hs, Addr.add_lit]
    rw [x3]
    obtain ⟨x, x1, x2, x3, x4⟩ := o9
    replace hf2 := hf2.putAny a9 (.pointer (some ⟨b, p + es.length * z, none⟩))
    have v8 : ((a3.put none undef).put (some s8) (.pointer (some ⟨b, p + es.length * z, none⟩))).eval (.tmp s8) = .pointer (some ⟨b, p + es.length * z, none⟩) := put_get (by have := hf2.size; simpa [Act.put] using this) y8 _
    have v4' : ((a3.put none undef).put (some s8) (.pointer (some ⟨b, p + es.length * z, none⟩))).eval (.tmp s4) = ev4 := (put_ne n4.symm _).trans v4
    have hs := run_sizeOf_some (P := P) z2 (w2.setCells r (q0 + q) [.slice (some ⟨b, p, none⟩) (es.length + 1) cap])
    have hlay := s2.lay (P := P)
    refine wpOps_skip x1 x2 (w' := (w2.setCells r (q0 + q) [.slice (some ⟨b, p, none⟩) (es.length + 1) cap]).setCells b (p + es.length * z) ev4.cells.toList) ?_ ?_
    · have hc : ev4.cells.size = z := by rw [← husl]; simp
      have hsv : (storeVar tE ⟨b, p + es.length * z, none⟩ ev4).run P (w2.setCells r (q0 + q) [.slice (some ⟨b, p, none⟩) (es.length + 1) cap]) = .ok () ((w2.setCells r (q0 + q) [.slice (some ⟨b, p, none⟩) (es.length + 1) cap]).setCells b (p + es.length * z) ev4.cells.toList) := by
        simp [storeVar, hs, hc, hlay]
      simp [execOp, x4, v8, v4', Instr.storeAt, Instr.sureAddr, hsv]
    rw [x3]
    exact ⟨rfl, g2, _, _, l1.trans l2, s2.inv, hf2, hp.next j hj⟩
  · rintro ch a w ⟨h1, g', fr, st, h2, h3, h4, h5⟩; exact ⟨h1, g', fr, st, h2, h3, h4, h5⟩
  · rintro ⟨a, w, h1, g', fr, st, h2, h3, h4, h5⟩; exact ⟨a, w, h1, g', fr, st, h2, h3, h4, h5⟩
end
end Go.Proofs.YtddbidoaolnegaaGreatDoor
/- Levels: how the program holds them against each other; what may be a key. No statement of the seat is proved here; no condition. -/
namespace Go.Proofs.YtddbidoaolnegaaGreatDoor
open Go Go.RowKit
set_option maxRecDepth 10000

theorem laidOut : laidOutB P = true := by kernel_rfl
theorem und78 : P.underlying 78 = some (.struct (P.fieldsOf 78)) := by kernel_rfl
theorem flds78 : (P.fieldsOf 78).toList.map (fun f => (f.name, f.type, f.offset)) = [("C", 3, 0), ("P", 76, 1)] := by kernel_rfl
theorem und76 : P.underlying 76 = some (.array 4 3) := by kernel_rfl
theorem und3 : P.underlying 3 = some (.int .i64) := by kernel_rfl
theorem plain3 : P.plainKey 3 = true := by kernel_rfl
theorem cells3 : P.cellsOf 3 = 1 := by kernel_rfl
theorem cells76 : P.cellsOf 76 = 4 := by kernel_rfl
theorem stood78 : P.stoodInHeld 78 = false := by kernel_rfl
theorem guard78 : P.eqGuardType P.depth 78 = false := by kernel_rfl
theorem info3 : ∃ i, P.info? 3 = some i := info_of_underlying und3
theorem info76 : ∃ i, P.info? 76 = some i := info_of_underlying und76

theorem run_part76 (w : World) (xs : Array Value) (off : Nat) : (part 76 xs off).run P w = .ok (.agg (xs.extract off (off + 4))) w := by
  obtain ⟨i, hi⟩ := info76
  have hs := run_sizeOf (P := P) w hi
  rw [cells76] at hs
  simp [part, isAgg, run_underlying und76, hs]

theorem eqI78 : EqI P 78 5 := by
  intro w x y a b ha hb
  obtain ⟨a0, a1, a2, a3, a4, rfl⟩ : ∃ a0 a1 a2 a3 a4, a = [a0, a1, a2, a3, a4] := by
    match a, ha with
    | [a0, a1, a2, a3, a4], _ => exact ⟨_, _, _, _, _, rfl⟩
  obtain ⟨b0, b1, b2, b3, b4, rfl⟩ : ∃ a0 a1 a2 a3 a4, b = [a0, a1, a2, a3, a4] := by
    match b, hb with
    | [a0, a1, a2, a3, a4], _ => exact ⟨_, _, _, _, _, rfl⟩
  refine ⟨?_, ?_, ?_⟩
  · simp [eqGuard, guard78]
  · simp [eqGuard, guard78]
  · have hF := flds78
    rcases hfs : (P.fieldsOf 78).toList with _ | ⟨f, _ | ⟨g, _ | ⟨h, r⟩⟩⟩
    · rw [hfs] at hF; simp at hF
    · rw [hfs] at hF; simp at hF
    · rw [hfs] at hF
      simp only [List.map_cons, List.map_nil, List.cons.injEq, Prod.mk.injEq, and_true] at hF
      obtain ⟨⟨fn, ft, fo⟩, gn, gt, go⟩ := hF
      obtain ⟨i3, hi3⟩ := info3
      show (Op.equalIn (9998 + 1 + 1) 78 _ _).run P w = _
      rw [run_equalIn_struct w _ _ _ _ und78 stood78, hfs]
      have p0 : ∀ (xs : Array Value) (o : Nat) (v : Value), xs[o]? = some v → (part 3 xs o).run P w = .ok v w := fun xs o v h => run_part_plain w plain3 h
      have e3 : ∀ d u v, (Op.equalIn (d + 1) 3 (.int .i64 u) (.int .i64 v)).run P w = .ok (u == v) w := fun d u v => run_equalIn_int w d 3 .i64 .i64 u v und3
      simp only [Op.eqFields, fn, ft, fo, gn, gt, go, ne_eq, String.reduceEq, not_false_eq_true, if_true, Sem.run_bind]
      rw [p0 _ 0 (.int .i64 a0) (by simp)]
      simp only [Result.andThen_ok]
      rw [p0 _ 0 (.int .i64 b0) (by simp)]
      simp only [Result.andThen_ok, e3]
      by_cases h0 : a0 = b0
      · subst h0
        simp only [beq_self_eq_true, Bool.not_true, Bool.false_eq_true, if_false, Sem.run_bind, run_part76, Result.andThen_ok]
        rw [run_equalIn_array w _ _ _ und76 hi3, cells3]
        have hr : List.range 4 = [0, 1, 2, 3] := rfl
        simp only [hr, Op.eqItems, Sem.run_bind]
        rw [p0 _ (0 * 1) (.int .i64 a1) (by simp), Result.andThen_ok, p0 _ (0 * 1) (.int .i64 b1) (by simp), Result.andThen_ok]
        simp only [Result.andThen_ok, e3]
        by_cases h1 : a1 = b1
        · subst h1
          simp only [beq_self_eq_true, Bool.not_true, Bool.false_eq_true, if_false, Sem.run_bind, Result.andThen_ok]
          rw [p0 _ (1 * 1) (.int .i64 a2) (by simp), Result.andThen_ok, p0 _ (1 * 1) (.int .i64 b2) (by simp), Result.andThen_ok]
          simp only [Result.andThen_ok, e3]
          by_cases h2 : a2 = b2
          · subst h2
            simp only [beq_self_eq_true, Bool.not_true, Bool.false_eq_true, if_false, Sem.run_bind, Result.andThen_ok]
            rw [p0 _ (2 * 1) (.int .i64 a3) (by simp), Result.andThen_ok, p0 _ (2 * 1) (.int .i64 b3) (by simp), Result.andThen_ok]
            simp only [Result.andThen_ok, e3]
            by_cases h3 : a3 = b3
            · subst h3
              simp only [beq_self_eq_true, Bool.not_true, Bool.false_eq_true, if_false, Sem.run_bind, Result.andThen_ok]
              rw [p0 _ (3 * 1) (.int .i64 a4) (by simp), Result.andThen_ok, p0 _ (3 * 1) (.int .i64 b4) (by simp), Result.andThen_ok]
              simp only [Result.andThen_ok, e3]
              by_cases h4 : a4 = b4
              · subst h4; simp
              · simp [h4]
            · simp [h3]
          · simp [h2]
        · simp [h1]
      · simp [h0]
    · rw [hfs] at hF; simp at hF
end Go.Proofs.YtddbidoaolnegaaGreatDoor
/- What may be a key of the program's maps. No statement of the seat is proved here; no condition. -/
namespace Go.Proofs.YtddbidoaolnegaaGreatDoor
open Go Go.RowKit
set_option maxRecDepth 10000

theorem und9 : P.underlying 9 = some .string := by kernel_rfl
theorem und5 : P.underlying 5 = some (.int .u8) := by kernel_rfl
theorem und174 : P.underlying 174 = some (.array 4 78) := by kernel_rfl
theorem und175 : P.underlying 175 = some (.array 3 3) := by kernel_rfl
theorem und177 : P.underlying 177 = some (.struct (P.fieldsOf 177)) := by kernel_rfl
theorem flds177 : (P.fieldsOf 177).toList.map (fun f => (f.name, f.type, f.offset)) = [("kind", 5, 0), ("n", 3, 1), ("s", 9, 2), ("levels", 3, 3), ("ls", 174, 4), ("kids", 175, 24)] := by kernel_rfl
theorem cells5 : P.cellsOf 5 = 1 := by kernel_rfl
theorem cells9 : P.cellsOf 9 = 1 := by kernel_rfl
theorem cells78 : P.cellsOf 78 = 5 := by kernel_rfl
theorem cells174 : P.cellsOf 174 = 20 := by kernel_rfl
theorem cells175 : P.cellsOf 175 = 3 := by kernel_rfl
theorem cells177 : P.cellsOf 177 = 27 := by kernel_rfl
theorem keyT78 : P.keyType 78 = true := by kernel_rfl
theorem keyT177 : P.keyType 177 = true := by kernel_rfl

theorem keyed9 : Maps.Keyed P 9 := Maps.string_keyed und9
theorem keyed3 : Maps.Keyed P 3 := Maps.int_keyed und3
theorem size10k : P.types.size + 2 ≤ 10000 := Nat.le_of_ble_eq_true (by kernel_rfl)
theorem row78 : 78 < P.types.size := Nat.le_of_ble_eq_true (by kernel_rfl)
theorem row177 : 177 < P.types.size := Nat.le_of_ble_eq_true (by kernel_rfl)
theorem keyed78 : Maps.Keyed P 78 := Maps.Keyed.of_law (deep_law_gate laidOut size10k row78 keyT78 (by rw [und78]))
theorem keyed177 : Maps.Keyed P 177 := Maps.Keyed.of_law (deep_law_gate laidOut size10k row177 keyT177 (by rw [und177]))

theorem keyOk9 {s : List UInt8} (h : s.length < 9223372036854775808) : KeyOk P 9 (.string ⟨s.toArray⟩) := by
  refine ⟨keyed9, .string s, ?_⟩
  simp only [keyOf, und9, mapKey]
  rw [if_pos (by simp [ByteArray.size, maxLen]; omega)]

theorem wf64 {n : Int} (h1 : -9223372036854775808 ≤ n) (h2 : n ≤ 9223372036854775807) : (Lit.int .i64 n).wf = true := by
  simp [Lit.wf, IntKind.min, IntKind.max, IntKind.bits, IntKind.signed] <;> omega
theorem wf8 {n : Int} (h1 : 0 ≤ n) (h2 : n ≤ 255) : (Lit.int .u8 n).wf = true := by
  simp [Lit.wf, IntKind.min, IntKind.max, IntKind.bits, IntKind.signed] <;> omega
theorem keyOk3 {n : Int} (h1 : -9223372036854775808 ≤ n) (h2 : n ≤ 9223372036854775807) : KeyOk P 3 (.int .i64 n) := by
  refine ⟨keyed3, .int .i64 n, ?_⟩
  simp only [keyOf, und3, mapKey]
  rw [if_pos ⟨trivial, wf64 h1 h2⟩]

theorem kl3 (d : Nat) {n : Int} (h1 : -9223372036854775808 ≤ n) (h2 : n ≤ 9223372036854775807) : ∃ L, P.keyLits (d + 1) 3 [.int .i64 n] = some L := by
  unfold Program.keyLits
  simp only [und3]
  rw [if_pos ⟨trivial, wf64 h1 h2⟩]
  exact ⟨_, rfl⟩
theorem kl5 (d : Nat) {n : Int} (h1 : 0 ≤ n) (h2 : n ≤ 255) : ∃ L, P.keyLits (d + 1) 5 [.int .u8 n] = some L := by
  unfold Program.keyLits
  simp only [und5]
  rw [if_pos ⟨trivial, wf8 h1 h2⟩]
  exact ⟨_, rfl⟩
theorem kl9 (d : Nat) {s : List UInt8} (h : s.length < 9223372036854775808) : ∃ L, P.keyLits (d + 1) 9 [.string ⟨s.toArray⟩] = some L := by
  unfold Program.keyLits
  simp only [und9]
  rw [if_pos (by simp [ByteArray.size, maxLen]; omega)]
  exact ⟨_, rfl⟩

theorem mapM_some {α β : Type} (f : α → Option β) : ∀ (l : List α), (∀ a ∈ l, ∃ b, f a = some b) → ∃ bs, l.mapM f = some bs
  | [], _ => ⟨[], by simp⟩
  | a :: l, h => by
    obtain ⟨b, hb⟩ := h a (by simp)
    obtain ⟨bs, hbs⟩ := mapM_some f l (fun x hx => h x (by simp [hx]))
    exact ⟨b :: bs, by simp [List.mapM_cons, hb, hbs]⟩

/-- An array of so many elements. -/
theorem klArr (d : Nat) {t e : TypeId} {n : Nat} (hu : P.underlying t = some (.array n e)) {cs : List Value} (hc : cs.length = P.cellsOf t)
    (h : ∀ i, i < n → ∃ L, P.keyLits d e ((cs.drop (i * P.cellsOf e)).take (P.cellsOf e)) = some L) : ∃ L, P.keyLits (d + 1) t cs = some L := by
  unfold Program.keyLits
  simp only [hu]
  rw [if_pos hc]
  obtain ⟨bs, hbs⟩ := mapM_some _ (List.range n) (fun i hi => h i (List.mem_range.1 hi))
  exact ⟨_, by rw [hbs]; rfl⟩
theorem klStr (d : Nat) {t : TypeId} {fs : Array Field} (hu : P.underlying t = some (.struct fs)) {cs : List Value} (hc : cs.length = P.cellsOf t) (hn : fs.all (·.name != "_") = true)
    (h : ∀ x ∈ fs.toList.map (fun f => (f.name, f.type, f.offset)), ∃ L, P.keyLits d x.2.1 ((cs.drop x.2.2).take (P.cellsOf x.2.1)) = some L) : ∃ L, P.keyLits (d + 1) t cs = some L := by
  unfold Program.keyLits
  simp only [hu]
  rw [if_pos ⟨hc, hn⟩]
  obtain ⟨bs, hbs⟩ := mapM_some (fun f : Field => P.keyLits d f.type ((cs.drop f.offset).take (P.cellsOf f.type))) fs.toList (fun f hf => h _ (List.mem_map.2 ⟨f, hf, rfl⟩))
  exact ⟨_, by rw [hbs]; rfl⟩

theorem names78 : (P.fieldsOf 78).all (·.name != "_") = true := by kernel_rfl
theorem names177 : (P.fieldsOf 177).all (·.name != "_") = true := by kernel_rfl

def iv (n : Int) : Value := .int .i64 n
def fits (n : Int) : Prop := -9223372036854775808 ≤ n ∧ n ≤ 9223372036854775807

theorem drop_take1 {α : Type} (l : List α) (i : Nat) (a : α) (h : l[i]? = some a) : (l.drop i).take 1 = [a] := by
  have hi : i < l.length := by
    rcases Nat.lt_or_ge i l.length with h' | h'
    · exact h'
    · rw [List.getElem?_eq_none h'] at h; cases h
  rw [List.drop_eq_getElem_cons hi]
  rw [List.getElem?_eq_getElem hi] at h
  simp at h
  simp [h]

/-- Ints, one by one. -/
theorem klInts (d : Nat) {t : TypeId} {n : Nat} (hu : P.underlying t = some (.array n 3)) (hc : P.cellsOf t = n) {p : List Int} (hp : p.length = n) (h : ∀ x ∈ p, fits x) : ∃ L, P.keyLits (d + 2) t (p.map iv) = some L := by
  refine klArr (d + 1) hu (by rw [hc, List.length_map, hp]) fun i hi => ?_
  rw [cells3, Nat.mul_one, drop_take1 _ i (iv (p[i]'(by omega))) (by simp [show i < p.length by omega])]
  have := h (p[i]'(by omega)) (List.getElem_mem _)
  exact kl3 d this.1 this.2

theorem klLv (d : Nat) {c : Int} {p : List Int} (hp : p.length = 4) (hc : fits c) (h : ∀ x ∈ p, fits x) : ∃ L, P.keyLits (d + 3) 78 (iv c :: p.map iv) = some L := by
  refine klStr (d + 2) und78 (by simp [hp, cells78]) names78 fun x hx => ?_
  rw [flds78] at hx
  simp only [List.mem_cons, List.not_mem_nil, or_false] at hx
  rcases hx with rfl | rfl
  · rw [cells3]; exact kl3 (d + 1) hc.1 hc.2
  · rw [cells76]
    have e : ((iv c :: p.map iv).drop 1).take 4 = p.map iv := by simp [List.take_of_length_le, hp]
    rw [e]
    exact klInts d und76 cells76 hp h

theorem keyOk78 {c : Int} {p : List Int} (hp : p.length = 4) (hc : fits c) (h : ∀ x ∈ p, fits x) : KeyOk P 78 (.agg (iv c :: p.map iv).toArray) := by
  refine ⟨keyed78, ?_⟩
  have hs : ∃ d, P.types.size + 1 = d + 3 := ⟨P.types.size + 1 - 3, by have : 10 ≤ P.types.size + 1 := Nat.le_of_ble_eq_true (by kernel_rfl); omega⟩
  obtain ⟨d, hd⟩ := hs
  obtain ⟨L, hL⟩ := klLv d hp hc h
  refine ⟨.string (keyBytes L), ?_⟩
  simp only [keyOf, und78]
  rw [if_pos (by rw [keyT78]; simp [Value.formed, und78, cells78, hp]), hd]
  simp only [Value.cells, hL, Option.map_some]

/-- Four levels' cells. -/
def LvC (cs : List Value) : Prop := ∃ (c : Int) (p : List Int), cs = iv c :: p.map iv ∧ p.length = 4 ∧ fits c ∧ ∀ x ∈ p, fits x

theorem kl174 (d : Nat) {cs : List Value} (hc : cs.length = 20) (h : ∀ i, i < 4 → LvC ((cs.drop (i * 5)).take 5)) : ∃ L, P.keyLits (d + 4) 174 cs = some L := by
  refine klArr (d + 3) und174 (by rw [cells174, hc]) fun i hi => ?_
  rw [cells78]
  obtain ⟨c, p, e, hp, h1, h2⟩ := h i hi
  rw [e]
  exact klLv d hp h1 h2

theorem keyOk177 {k n len : Int} {s : List UInt8} {ls : List Value} {ks : List Int} (hk : 0 ≤ k ∧ k ≤ 255) (hn : fits n) (hs : s.length < 9223372036854775808) (hlen : fits len)
    (hls : ls.length = 20) (hl : ∀ i, i < 4 → LvC ((ls.drop (i * 5)).take 5)) (hks : ks.length = 3) (hkf : ∀ x ∈ ks, fits x) :
    KeyOk P 177 (.agg (.int .u8 k :: iv n :: .string ⟨s.toArray⟩ :: iv len :: (ls ++ ks.map iv)).toArray) := by
  refine ⟨keyed177, ?_⟩
  have hsz : ∃ d, P.types.size + 1 = d + 5 := ⟨P.types.size + 1 - 5, by have : 10 ≤ P.types.size + 1 := Nat.le_of_ble_eq_true (by kernel_rfl); omega⟩
  obtain ⟨d, hd⟩ := hsz
  have : ∃ L, P.keyLits (d + 5) 177 (.int .u8 k :: iv n :: .string ⟨s.toArray⟩ :: iv len :: (ls ++ ks.map iv)) = some L := by
    refine klStr (d + 4) und177 (by simp [hls, hks, cells177]) names177 fun x hx => ?_
    rw [flds177] at hx
    simp only [List.mem_cons, List.not_mem_nil, or_false] at hx
    rcases hx with rfl | rfl | rfl | rfl | rfl | rfl
    · rw [cells5]; exact kl5 (d + 3) hk.1 hk.2
    · rw [cells3]; exact kl3 (d + 3) hn.1 hn.2
    · rw [cells9]; exact kl9 (d + 3) hs
    · rw [cells3]; exact kl3 (d + 3) hlen.1 hlen.2
    · rw [cells174]
      have e : ((Value.int .u8 k :: iv n :: .string ⟨s.toArray⟩ :: iv len :: (ls ++ ks.map iv)).drop 4).take 20 = ls := by simp [← hls]
      rw [e]
      exact kl174 d hls hl
    · rw [cells175]
      have e : ((Value.int .u8 k :: iv n :: .string ⟨s.toArray⟩ :: iv len :: (ls ++ ks.map iv)).drop 24).take 3 = ks.map iv := by
        rw [show (24 : Nat) = 20 + 1 + 1 + 1 + 1 from rfl]
        simp only [List.drop_succ_cons]
        rw [List.drop_left' hls]
        exact List.take_of_length_le (by simp [hks])
      rw [e]
      exact klInts (d + 2) und175 cells175 hks hkf
  obtain ⟨L, hL⟩ := this
  refine ⟨.string (keyBytes L), ?_⟩
  simp only [keyOf, und177]
  rw [if_pos (by rw [keyT177]; simp [Value.formed, und177, cells177, hls, hks]), hd]
  simp only [Value.cells, hL, Option.map_some]
end Go.Proofs.YtddbidoaolnegaaGreatDoor
