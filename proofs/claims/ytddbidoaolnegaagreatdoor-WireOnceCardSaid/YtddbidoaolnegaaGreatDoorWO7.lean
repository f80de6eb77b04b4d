/-
PART OF A CLAIM: Z, S, NL, NM, NO. No statement of the seat is proved here; no condition. -/
import Derived.KernelRfl
import Derived.Test.YtddbidoaolnegaaGreatDoorWO6
set_option linter.all false
/- Regions whose order is open: one plan serves every order. No statement of the seat is proved here; no condition. -/
namespace Go.Proofs.YtddbidoaolnegaaGreatDoor
open Go Go.RowKit

/-- A plan: reading operations first, one at a time; others when they alone are left to begin with; or two of them, in both orders. The lists: which readings still float behind. -/
inductive PT where
  | nil
  | rd (i : Nat) (t : PT)
  | act (i : Nat) (ks : List Nat) (t : PT)
  | two (i j : Nat) (ks ls : List Nat) (t u : PT)

def PT.depth : PT → Nat
  | .nil => 0
  | .rd _ t => t.depth + 1
  | .act _ _ t => t.depth + 1
  | .two _ _ _ _ t u => max t.depth u.depth + 1

def staticB (ops : Array Oper) (i : Nat) : Bool :=
  ((ops[i]?).map fun oi => (match oi.dst with | some t => !(er ops oi).looks.contains t | none => true) &&
    (List.range ops.size).all fun j => ((ops[j]?).map fun oj => j == i || isAnc ops ops.size j i || isAnc ops ops.size i j || RO.apart (er ops oi) (er ops oj)).getD true).getD true
def static2B (ops : Array Oper) (i : Nat) (fs : List Nat) : Bool :=
  ((ops[i]?).map fun oi => match oi.dst with
    | some t => fs.all fun y => y == i || ((ops[y]?).map fun q => !(er ops q).looks.contains t).getD true
    | none => true).getD true

def keepB (ops : Array Oper) (i : Nat) (fs ks : List Nat) : Bool := fs.all fun y => isAnc ops ops.size i y || ks.contains y

def okT (ops : Array Oper) : PT → Array Bool → List Nat → Bool
  | .nil, l, _ => Region.ready .any ops l == []
  | .rd i t, l, fs => (Region.ready .any ops l).contains i && staticB ops i && static2B ops i fs && okT ops t (l.setIfInBounds i true) (i :: fs)
  | .act i ks t, l, fs => Region.ready .any ops l == [i] && keepB ops i fs ks && okT ops t (l.setIfInBounds i true) (fs.filter ks.contains)
  | .two i j ks ls t u, l, fs => Region.ready .any ops l == [i, j] && keepB ops i fs ks && okT ops t (l.setIfInBounds i true) (fs.filter ks.contains) &&
      keepB ops j fs ls && okT ops u (l.setIfInBounds j true) (fs.filter ls.contains)

def okP (ops : Array Oper) (t : PT) : Bool := okT ops t (Array.replicate ops.size false) [] && Nat.ble t.depth ops.size

/-- The floating readings come to the same still. -/
noncomputable def chk (P : Program) (fr : Fr) (st : St) (p : Prop) : List (Nat × RO × D) → Prop
  | [] => p
  | y :: l => rdg P y.2.1 fr st = some y.2.2 ∧ chk P fr st p l

noncomputable def evT (P : Program) (M : List Tmp) (n : Nat) (ops : Array Oper) (K : Fr → St → Prop) : PT → List (Nat × RO × D) → Fr → St → Prop
  | .nil, _, fr, st => K fr st
  | .rd i t, fl, fr, st => match ops[i]? with
    | some o => match rdg P (er ops o) fr st with
      | some d => dstOk n (er ops o).dst ∧ evT P M n ops K t ((i, er ops o, d) :: fl) (putO fr (er ops o).dst d) st
      | none => False
    | none => False
  | .act i ks t, fl, fr, st => match ops[i]? with
    | some o => stp P M n (er ops o) fr st fun fr' st' => chk P fr' st' (evT P M n ops K t (fl.filter fun y => ks.contains y.1) fr' st') (fl.filter fun y => ks.contains y.1)
    | none => False
  | .two i j ks ls t u, fl, fr, st => (match ops[i]? with
    | some o => stp P M n (er ops o) fr st fun fr' st' => chk P fr' st' (evT P M n ops K t (fl.filter fun y => ks.contains y.1) fr' st') (fl.filter fun y => ks.contains y.1)
    | none => False) ∧ (match ops[j]? with
    | some o => stp P M n (er ops o) fr st fun fr' st' => chk P fr' st' (evT P M n ops K u (fl.filter fun y => ls.contains y.1) fr' st') (fl.filter fun y => ls.contains y.1)
    | none => False)

section draw
variable {P : Program} {M : List Tmp} {n : Nat} {ops : Array Oper} {K : Fr → St → Prop} {fr : Fr} {st : St}

theorem static_of {i : Nat} (h : staticB ops i = true) : Static ops i := by
  intro oi ho
  unfold staticB at h
  simp only [ho, Option.map_some, Option.getD_some, Bool.and_eq_true, List.all_eq_true, List.mem_range] at h
  refine ⟨fun t ht => ?_, fun j oj hj hne h1 h2 => ?_⟩
  · have := h.1; simp [ht] at this; exact this
  · have hlt : j < ops.size := (Array.getElem?_eq_some_iff.1 hj).1
    have := h.2 j hlt
    simpa [hj, hne, h1, h2] using this
theorem static2_of {i : Nat} {fs : List Nat} (h : static2B ops i fs = true) : Static2 ops i fs := by
  intro oi ho y hy q hq hne t ht
  unfold static2B at h
  simp only [ho, Option.map_some, Option.getD_some, ht, List.all_eq_true] at h
  have := h y hy
  simpa [hq, hne] using this

theorem chk_of {p : Prop} : ∀ {l : List (Nat × RO × D)}, chk P fr st p l → (∀ y ∈ l, rdg P y.2.1 fr st = some y.2.2) ∧ p
  | [], h => ⟨fun _ hy => (by cases hy), h⟩
  | _ :: _, h => ⟨fun y hy => by
      rcases List.mem_cons.1 hy with rfl | hy
      · exact h.1
      · exact (chk_of h.2).1 y hy, (chk_of h.2).2⟩

theorem absF_zero {listed : Array Bool} {fl : List (Nat × D)} (h : Region.ready .any ops listed = []) (hK : K fr st) : ∀ f, absF P M n ops K f listed fl fr st
  | 0 => ⟨h, hK⟩
  | f + 1 => ⟨fun _ => hK, fun j hj => by rw [h] at hj; cases hj⟩

/-- The list of floats, and what it stands for. -/
structure FlR (ops : Array Oper) (fl : List (Nat × RO × D)) : Prop where
  ok : ∀ y ∈ fl, ∃ q, ops[y.1]? = some q ∧ y.2.1 = er ops q

theorem act_step {f : Nat} {listed : Array Bool} {fl : List (Nat × RO × D)} {i : Nat} {ks : List Nat} {p : Fr → St → Prop} {o : Oper} (hR : FlR ops fl) (ho : ops[i]? = some o) (hk : keepB ops i (fl.map (·.1)) ks = true)
    (next : ∀ fr' st', (∀ y ∈ fl.filter fun y => ks.contains y.1, rdg P y.2.1 fr' st' = some y.2.2) → p fr' st' → absF P M n ops K f (listed.setIfInBounds i true) ((fl.filter fun y => ks.contains y.1).map fun y => (y.1, y.2.2)) fr' st')
    (h : stp P M n (er ops o) fr st fun fr' st' => chk P fr' st' (p fr' st') (fl.filter fun y => ks.contains y.1)) :
    stp P M n (er ops o) fr st fun fr' st' => (∀ y ∈ keep ops i (fl.map fun y => (y.1, y.2.2)), ∀ q, ops[y.1]? = some q → rdg P (er ops q) fr' st' = some y.2) ∧
        absF P M n ops K f (listed.setIfInBounds i true) (keep ops i (fl.map fun y => (y.1, y.2.2))) fr' st' := by
  refine stp_mono (fun fr' st' hh => ?_) h
  obtain ⟨hc, hp⟩ := chk_of hh
  have hsub : ∀ y ∈ keep ops i (fl.map fun y => (y.1, y.2.2)), ∃ z ∈ fl.filter fun y => ks.contains y.1, (z.1, z.2.2) = y := by
    intro y hy
    unfold keep at hy
    rw [List.mem_filter] at hy
    obtain ⟨z, hz, rfl⟩ := List.mem_map.1 hy.1
    refine ⟨z, List.mem_filter.2 ⟨hz, ?_⟩, rfl⟩
    have := List.all_eq_true.1 hk z.1 (List.mem_map.2 ⟨z, hz, rfl⟩)
    have h2 : isAnc ops ops.size i z.1 = false := by simpa using hy.2
    simpa [h2] using this
  refine ⟨fun y hy q hq => ?_, absF_weak _ (fun y hy => ?_) (next fr' st' hc hp)⟩
  · obtain ⟨z, hz, rfl⟩ := hsub y hy
    obtain ⟨q', hq', he⟩ := hR.ok z (List.mem_filter.1 hz).1
    have := hc z hz
    rw [he] at this
    rw [hq'] at hq; cases hq
    exact this
  · obtain ⟨z, hz, rfl⟩ := hsub y hy
    exact List.mem_map.2 ⟨z, hz, rfl⟩

theorem evT_ok : ∀ (t : PT) (f : Nat) (listed : Array Bool) (fl : List (Nat × RO × D)) (fr : Fr) (st : St), t.depth ≤ f → okT ops t listed (fl.map (·.1)) = true → Down ops listed → FlR ops fl →
    FlOk P ops listed (fl.map fun y => (y.1, y.2.2)) fr st → evT P M n ops K t fl fr st → absF P M n ops K f listed (fl.map fun y => (y.1, y.2.2)) fr st := by
  intro t
  induction t with
  | nil =>
    intro f listed fl fr st _ hok _ _ _ h
    exact absF_zero (by simpa [okT] using hok) h f
  | rd i t ih =>
    intro f listed fl fr st hd hok hD hR hF h
    obtain ⟨f, rfl⟩ : ∃ f', f = f' + 1 := ⟨f - 1, by simp only [PT.depth] at hd; omega⟩
    simp only [okT, Bool.and_eq_true] at hok
    obtain ⟨⟨⟨hr, hs⟩, hs2⟩, hok⟩ := hok
    have hr : i ∈ Region.ready .any ops listed := by simpa using hr
    simp only [evT] at h
    split at h
    · rename_i o ho
      split at h
      · rename_i d hrd
        have hmm : (fl.map fun y => (y.1, y.2.2)).map (·.1) = fl.map (·.1) := by simp
        refine absF_float ho (static_of hs) h.1 f listed _ fr st hD hF (by rw [hmm]; exact static2_of hs2) hr hrd ?_
        have := ih f (listed.setIfInBounds i true) ((i, er ops o, d) :: fl) (putO fr o.dst d) st (by simp only [PT.depth] at hd; omega) (by simpa using hok) (hD.set hr) ⟨fun y hy => ?_⟩ ⟨fun y hy => ?_⟩ h.2
        · simpa using this
        · rcases List.mem_cons.1 hy with rfl | hy
          · exact ⟨o, ho, rfl⟩
          · exact hR.ok y hy
        · simp only [List.map_cons, List.mem_cons] at hy
          have hnl := not_listed (mem_ready.1 hr).1
          have hiS : i < listed.size := by
            rcases Nat.lt_or_ge i listed.size with h' | h'
            · exact h'
            · have := (mem_ready.1 hr).1; simp [Array.getD_eq_getD_getElem?, Array.getElem?_eq_none h'] at this
          rcases hy with rfl | hy
          · refine ⟨by simp [hiS], static_of hs, o, ho, ?_⟩
            rw [rdg_irrelO (static_of hs o ho).1]; exact hrd
          · obtain ⟨h1, h2, q, hq, h3⟩ := hF.ok y hy
            refine ⟨getD_set_true h1, h2, q, hq, ?_⟩
            rw [← h3]
            refine rdg_irrelO fun t ht => static2_of hs2 o ho y.1 (by rw [← hmm]; exact List.mem_map.2 ⟨y, hy, rfl⟩) q hq (fun e => ?_) t ht
            rw [← e] at hnl; rw [hnl] at h1; cases h1
      · exact h.elim
    · exact h.elim
  | act i ks t ih =>
    intro f listed fl fr st hd hok hD hR hF h
    obtain ⟨f, rfl⟩ : ∃ f', f = f' + 1 := ⟨f - 1, by simp only [PT.depth] at hd; omega⟩
    simp only [okT, Bool.and_eq_true] at hok
    obtain ⟨⟨hr, hk⟩, hok⟩ := hok
    have hr : Region.ready .any ops listed = [i] := by simpa using hr
    simp only [evT] at h
    split at h
    · rename_i o ho
      refine ⟨fun he => (by rw [hr] at he; cases he), fun j hj o' ho' => ?_⟩
      rw [hr] at hj
      have hji := List.mem_singleton.1 hj
      subst hji
      rw [ho] at ho'; cases ho'
      have hri : j ∈ Region.ready .any ops listed := by rw [hr]; simp
      refine act_step hR ho hk (fun fr' st' hc hp => ?_) h
      refine ih f _ _ fr' st' (by simp only [PT.depth] at hd; omega) ?_ (hD.set hri) ⟨fun y hy => hR.ok y (List.mem_filter.1 hy).1⟩ ⟨fun y hy => ?_⟩ hp
      · rw [show (fl.filter fun y => ks.contains y.1).map (·.1) = (fl.map (·.1)).filter ks.contains from by rw [List.filter_map]; rfl]; exact hok
      · obtain ⟨z, hz, rfl⟩ := List.mem_map.1 hy
        obtain ⟨h1, h2, q, hq, _⟩ := hF.ok (z.1, z.2.2) (List.mem_map.2 ⟨z, (List.mem_filter.1 hz).1, rfl⟩)
        refine ⟨getD_set_true h1, h2, q, hq, ?_⟩
        obtain ⟨q', hq', he⟩ := hR.ok z (List.mem_filter.1 hz).1
        rw [hq'] at hq; cases hq
        rw [← he]; exact hc z hz
    · exact h.elim
  | two i i2 ks ls t u ih1 ih2 =>
    intro f listed fl fr st hd hok hD hR hF h
    obtain ⟨f, rfl⟩ : ∃ f', f = f' + 1 := ⟨f - 1, by simp only [PT.depth] at hd; omega⟩
    simp only [okT, Bool.and_eq_true] at hok
    obtain ⟨⟨⟨⟨hr, hk⟩, hok⟩, hk2⟩, hok2⟩ := hok
    have hr : Region.ready .any ops listed = [i, i2] := by simpa using hr
    simp only [evT] at h
    obtain ⟨hA, hB⟩ := h
    refine ⟨fun he => (by rw [hr] at he; cases he), fun j hj o' ho' => ?_⟩
    have one : ∀ (i : Nat) (ks : List Nat) (t : PT), t.depth ≤ f → i ∈ Region.ready .any ops listed → keepB ops i (fl.map (·.1)) ks = true → okT ops t (listed.setIfInBounds i true) ((fl.map (·.1)).filter ks.contains) = true →
        (∀ (f : Nat) (listed : Array Bool) (fl : List (Nat × RO × D)) (fr : Fr) (st : St), t.depth ≤ f → okT ops t listed (fl.map (·.1)) = true → Down ops listed → FlR ops fl →
          FlOk P ops listed (fl.map fun y => (y.1, y.2.2)) fr st → evT P M n ops K t fl fr st → absF P M n ops K f listed (fl.map fun y => (y.1, y.2.2)) fr st) →
        (match ops[i]? with
          | some o => stp P M n (er ops o) fr st fun fr' st' => chk P fr' st' (evT P M n ops K t (fl.filter fun y => ks.contains y.1) fr' st') (fl.filter fun y => ks.contains y.1)
          | none => False) → ∀ o', ops[i]? = some o' →
        stp P M n (er ops o') fr st fun fr' st' => (∀ y ∈ keep ops i (fl.map fun y => (y.1, y.2.2)), ∀ q, ops[y.1]? = some q → rdg P (er ops q) fr' st' = some y.2) ∧
          absF P M n ops K f (listed.setIfInBounds i true) (keep ops i (fl.map fun y => (y.1, y.2.2))) fr' st' := by
      intro i ks t hd hri hk hok ih h o ho
      rw [ho] at h
      refine act_step hR ho hk (fun fr' st' hc hp => ?_) h
      refine ih f _ _ fr' st' hd ?_ (hD.set hri) ⟨fun y hy => hR.ok y (List.mem_filter.1 hy).1⟩ ⟨fun y hy => ?_⟩ hp
      · rw [show (fl.filter fun y => ks.contains y.1).map (·.1) = (fl.map (·.1)).filter ks.contains from by rw [List.filter_map]; rfl]; exact hok
      · obtain ⟨z, hz, rfl⟩ := List.mem_map.1 hy
        obtain ⟨h1, h2, q, hq, _⟩ := hF.ok (z.1, z.2.2) (List.mem_map.2 ⟨z, (List.mem_filter.1 hz).1, rfl⟩)
        refine ⟨getD_set_true h1, h2, q, hq, ?_⟩
        obtain ⟨q', hq', he⟩ := hR.ok z (List.mem_filter.1 hz).1
        rw [hq'] at hq; cases hq
        rw [← he]; exact hc z hz
    have hd1 : t.depth ≤ f := by simp only [PT.depth] at hd; omega
    have hd2 : u.depth ≤ f := by simp only [PT.depth] at hd; omega
    rw [hr] at hj
    rcases List.mem_cons.1 hj with hji | hj
    · subst hji
      exact one j ks t hd1 (by rw [hr]; simp) hk hok ih1 hA o' ho'
    · have hji := List.mem_singleton.1 hj
      subst hji
      exact one j ls u hd2 (by rw [hr]; simp) hk2 hok2 ih2 hB o' ho'

theorem absF_wp {Q : Exit → Fr → St → Prop} {g0 : Gh} : ∀ (f : Nat) (listed : Array Bool) (fl : List (Nat × D)) (g : Gh) (fr : Fr) (st : St) (a : Act) (w : World), g0.le g → Inv g st w → FRel g n fr a →
    absF P M n ops (fun fr st => Q .normal fr st) f listed fl fr st → wpAny P .any ops (lift g0 n Q) f listed a w := by
  intro f
  induction f with
  | zero => intro listed fl g fr st a w hl hi hf h; exact ⟨h.1, rfl, g, fr, st, hl, hi, hf, h.2⟩
  | succ f ih =>
    intro listed fl g fr st a w hl hi hf h
    refine ⟨fun he => ⟨rfl, g, fr, st, hl, hi, hf, h.1 he⟩, fun j hj => ?_⟩
    obtain ⟨_, o, ho, _⟩ := mem_ready.1 hj
    have h := h.2 j hj o ho
    unfold wpOp
    rw [ho]
    simp only
    rcases wanted_of hf h with ⟨hw, h⟩ | ⟨hw, h⟩
    · rw [if_pos hw]
      left
      exact (evOp_sound (M := M) hi hf o h).upon fun g' v d fr' st' w' h1 h2 h3 h4 h5 =>
        ih _ _ g' _ st' _ w' (hl.trans h1) h2 (h3.putO h5.1 h4) h5.2.2
    · rw [if_neg (by simp [hw])]
      exact ih _ _ g _ st _ w hl hi (hf.putO h.1 VT.undef) h.2.2

theorem Inv.draw {g : Gh} {w : World} (h : Inv g st w) : Inv g st { w with drawn := w.drawn + 1 } where
  below := h.below.trans ⟨rfl, rfl, rfl, Nat.le_refl _, fun _ _ => rfl⟩
  base := h.base
  fz := h.fz
  mem r ob hr := by
    obtain ⟨h1, h2, h3⟩ := h.mem r ob hr
    exact ⟨h1, h2, Ob.ok_mono (Gh.le.refl g) rfl h3⟩
  tok i hi := by
    obtain ⟨t, h1, h2⟩ := h.tok i hi
    exact ⟨t, h1, h2.new, h2.clear, h2.room, h2.lies, h2.free⟩
  apart := h.apart
  fin := h.fin

/-- A region whose order is open: one plan, checked. -/
theorem W.draw {id : Nat} {Q : Exit → Fr → St → Prop} (hm : P.follows .mixedOrders = true) (M : List Tmp) (t : PT) (hok : okP ops t = true) (h : evT P M n ops (fun fr st => Q .normal fr st) t [] fr st) :
    W P n (.region id ops true) Q fr st := by
  intro g w a hi hf
  simp only [okP, Bool.and_eq_true] at hok
  refine wp_region_any hm (absF_wp (M := M) ops.size _ [] g fr st a _ (Gh.le.refl g) hi.draw hf ?_)
  refine evT_ok t ops.size _ [] fr st (Nat.le_of_ble_eq_true hok.2) hok.1 (fun k o ho hk => ?_) ⟨fun _ hy => (by cases hy)⟩ ⟨fun _ hy => (by cases hy)⟩ h
  simp [Array.getD_eq_getD_getElem?, Array.getElem?_replicate] at hk
  split at hk <;> simp at hk
end draw
theorem mixed : Tryz.prog.follows .mixedOrders = true := by kernel_rfl
attribute [go_sem] rdg rd rdL rdCs rdE rdBin rdInt chk List.filter_cons List.filter_nil
end Go.Proofs.YtddbidoaolnegaaGreatDoor
/- Steps of the walks, one operation at a time, with the rest out of sight. No statement of the seat is proved here; no condition. -/
namespace Go.Proofs.YtddbidoaolnegaaGreatDoor
open Go Go.RowKit

/-! Short names for the simp sets of the walks. -/
theorem zP : (¬ False) = True := not_false_eq_true
theorem zQ {α : Sort _} (a b : α) : (a ≠ b) = ¬ a = b := ne_eq a b
theorem zS {a b : Bool} : (!a) = b ↔ a = !b := Bool.not_eq_eq_eq_not
theorem zT {p : Prop} [Decidable p] : (decide p = true) = p := decide_eq_true_eq
theorem zU {p : Prop} {x : Decidable p} : decide p = false ↔ ¬ p := decide_eq_false_iff_not
theorem zV (b : Bool) : (¬ b = true) = (b = false) := Bool.not_eq_true b

/-- From an operation on. -/
noncomputable def evI (P : Program) (M : List Tmp) (n : Nat) (ops : Array Oper) (K : Fr → St → Prop) (l : List Oper) (fr : Fr) (st : St) : Prop :=
  evL P M n (l.map (er ops)) fr st K

structure IGo (P : Program) (M : List Tmp) (n : Nat) (ops : Array Oper) (K : Fr → St → Prop) (l : List Oper) (N : Fr → St → Prop) : Prop where
  go : ∀ fr st, evI P M n ops K l fr st → N fr st

/-- A reading's value, handed on. -/
def rdK (o : Option D) (k : D → Prop) : Prop := match o with
  | some d => k d
  | none => False

section
variable {P : Program} {M : List Tmp} {n : Nat} {ops : Array Oper} {K : Fr → St → Prop} {i : Nat} {fr : Fr} {st : St} {o : Oper} {l l' : List Oper}

theorem at_drop {l : List Oper} (h : ops.toList.drop i = o :: l) : ops[i]? = some o := by
  have h1 : (ops.toList.drop i)[0]? = some o := by rw [h]; rfl
  rw [List.getElem?_drop] at h1
  simpa using h1

theorem evI_done (h : l = []) (hK : K fr st) : evI P M n ops K l fr st := by subst h; exact hK

theorem evI_plain (hl : l = o :: l') (hg : o.guard = none) (h : ∀ N, IGo P M n ops K l' N → evOp P M o.op o.dst fr st fun d fr' st' => dstOk n o.dst ∧ N (putO fr' o.dst d) st') : evI P M n ops K l fr st := by
  subst hl
  have := h _ ⟨fun fr st h => h⟩
  simp only [evI, List.map_cons, evL, er, hg, Option.map_none, gdv]
  exact this

theorem evI_guard {j t : Nat} {w : Bool} {l2 : List Oper} {o2 : Oper} (hl : l = o :: l') (hg : o.guard = some (j, w)) (h2 : ops.toList.drop j = o2 :: l2) (hd : o2.dst = some t)
    (h : ∀ N, IGo P M n ops K l' N → gdD (fr t) w (evOp P M o.op o.dst fr st fun d fr' st' => dstOk n o.dst ∧ N (putO fr' o.dst d) st') (dstOk n o.dst ∧ N (putO fr o.dst (.tup [])) st)) : evI P M n ops K l fr st := by
  subst hl
  have := h _ ⟨fun fr st h => h⟩
  simp only [evI, List.map_cons, evL, er, hg, Option.map_some, at_drop h2, Option.bind_some, hd, gdv_some]
  exact this

theorem W.regionI {id : Nat} {Q : Exit → Fr → St → Prop} (M : List Tmp) (h : evI P M n ops (fun fr st => Q .normal fr st) ops.toList fr st) : W P n (.region id ops false) Q fr st :=
  W.region M h

/-! Plans. -/
structure TGo (P : Program) (M : List Tmp) (n : Nat) (ops : Array Oper) (K : Fr → St → Prop) (t : PT) (fl : List (Nat × RO × D)) (i : Nat) (ro : RO) (fr : Fr) (st : St) (N : D → Prop) : Prop where
  go : ∀ d, evT P M n ops K t ((i, ro, d) :: fl) (putO fr ro.dst d) st → N d
structure AGo (P : Program) (M : List Tmp) (n : Nat) (ops : Array Oper) (K : Fr → St → Prop) (t : PT) (fl : List (Nat × RO × D)) (N : Fr → St → Prop) : Prop where
  go : ∀ fr st, chk P fr st (evT P M n ops K t fl fr st) fl → N fr st

variable {t u : PT} {fl : List (Nat × RO × D)}

theorem evT_nil (h : K fr st) : evT P M n ops K .nil fl fr st := h

theorem rdK_of {o : Option D} {k : D → Prop} (h : rdK o k) : ∃ d, o = some d ∧ k d := by
  unfold rdK at h
  split at h
  · exact ⟨_, rfl, h⟩
  · exact h.elim

theorem evT_rd (ho : ops.toList.drop i = o :: l) (hg : o.guard = none) (h : ∀ N, TGo P M n ops K t fl i ⟨o.dst, o.op, none⟩ fr st N → rdK (rdL P o.op fr st) fun d => dstOk n o.dst ∧ N d) : evT P M n ops K (.rd i t) fl fr st := by
  have ho := at_drop ho
  have he : er ops o = ⟨o.dst, o.op, none⟩ := by simp [er, hg]
  obtain ⟨d, h1, h2, h3⟩ := rdK_of (h _ ⟨fun d h => h⟩)
  simp only [evT, ho, he, rdg, h1]
  exact ⟨h2, h3⟩

theorem evT_rdg {j s : Nat} {w : Bool} {o2 : Oper} (ho : ops.toList.drop i = o :: l) (hg : o.guard = some (j, w)) (h2 : ops.toList.drop j = o2 :: l') (hd : o2.dst = some s)
    (h : ∀ N, TGo P M n ops K t fl i ⟨o.dst, o.op, some (some s, w)⟩ fr st N → rdK (rdg P ⟨o.dst, o.op, some (some s, w)⟩ fr st) fun d => dstOk n o.dst ∧ N d) : evT P M n ops K (.rd i t) fl fr st := by
  have ho := at_drop ho
  have he : er ops o = ⟨o.dst, o.op, some (some s, w)⟩ := by simp [er, hg, at_drop h2, hd]
  obtain ⟨d, h1, h2, h3⟩ := rdK_of (h _ ⟨fun d h => h⟩)
  simp only [evT, ho, he, h1]
  exact ⟨h2, h3⟩

theorem evT_act {ks : List Nat} (ho : ops.toList.drop i = o :: l) (hg : o.guard = none) (h : ∀ N, AGo P M n ops K t (fl.filter fun y => ks.contains y.1) N → evOp P M o.op o.dst fr st fun d fr' st' => dstOk n o.dst ∧ N (putO fr' o.dst d) st') : evT P M n ops K (.act i ks t) fl fr st := by
  have ho := at_drop ho
  have he : er ops o = ⟨o.dst, o.op, none⟩ := by simp [er, hg]
  simp only [evT, ho, he, stp, gdv]
  exact h _ ⟨fun fr st h => h⟩

theorem evT_actg {ks : List Nat} {j s : Nat} {w : Bool} {o2 : Oper} (ho : ops.toList.drop i = o :: l) (hg : o.guard = some (j, w)) (h2 : ops.toList.drop j = o2 :: l') (hd : o2.dst = some s)
    (h : ∀ N, AGo P M n ops K t (fl.filter fun y => ks.contains y.1) N → gdD (fr s) w (evOp P M o.op o.dst fr st fun d fr' st' => dstOk n o.dst ∧ N (putO fr' o.dst d) st') (dstOk n o.dst ∧ N (putO fr o.dst (.tup [])) st)) : evT P M n ops K (.act i ks t) fl fr st := by
  have ho := at_drop ho
  have he : er ops o = ⟨o.dst, o.op, some (some s, w)⟩ := by simp [er, hg, at_drop h2, hd]
  simp only [evT, ho, he, stp, gdv_some]
  exact h _ ⟨fun fr st h => h⟩

theorem evT_two {j : Nat} {ks ls : List Nat} (h1 : evT P M n ops K (.act i ks t) fl fr st) (h2 : evT P M n ops K (.act j ls u) fl fr st) : evT P M n ops K (.two i j ks ls t u) fl fr st := ⟨h1, h2⟩

theorem rdK_some {d : D} {k : D → Prop} : rdK (some d) k = k d := rfl
theorem rdK_if {p : Prop} [Decidable p] {x : Option D} {k : D → Prop} (hp : p) (h : rdK x k) : rdK (if p then x else none) k := by rw [if_pos hp]; exact h
end
attribute [go_sem] rdK_some
end Go.Proofs.YtddbidoaolnegaaGreatDoor
/- An append of a value that is laid into its place only behind the append. No statement of the seat is proved here; no condition. -/
namespace Go.Proofs.YtddbidoaolnegaaGreatDoor
open Go Go.RowKit

theorem setCells_world (b : Nat) : ∀ (vs : List Value) (o : Nat) (w : World), ∃ h, w.setCells b o vs = { w with heap := h }
  | [], _, w => ⟨w.heap, rfl⟩
  | v :: r, o, w => by
    obtain ⟨h, e⟩ := setCells_world b r (o + 1) (w.setCell ⟨b, o, none⟩ v)
    exact ⟨h, by rw [World.setCells, e]; rfl⟩
theorem world_heap {w x y : World} (hx : ∃ h, x = { w with heap := h }) (hy : ∃ h, y = { w with heap := h }) (h : ∀ i : Nat, x.heap[i]? = y.heap[i]?) : x = y := by
  obtain ⟨hx, rfl⟩ := hx
  obtain ⟨hy, rfl⟩ := hy
  simp only [World.mk.injEq, and_true]
  exact Array.ext_getElem? h
theorem World.with_trans {w x y : World} (hx : ∃ h, x = { w with heap := h }) (hy : ∃ h, y = { x with heap := h }) : ∃ h, y = { w with heap := h } := by
  obtain ⟨hx, rfl⟩ := hx
  obtain ⟨hy, rfl⟩ := hy
  exact ⟨_, rfl⟩

theorem setCells_over {w : World} {b o : Nat} {us vs : List Value} {arr : Array Value} {el : TypeId} {fz : Nat × Nat} (h : w.heap[b]? = some (.cells arr el fz)) (hl : o + us.length ≤ arr.size) (he : vs.length = us.length) :
    (w.setCells b o us).setCells b o vs = w.setCells b o vs := by
  refine world_heap (w := w) (World.with_trans (setCells_world b us o w) (setCells_world b vs o _)) (setCells_world b vs o w) fun i => ?_
  by_cases hi : i = b
  · subst hi
    obtain ⟨a1, h1, e1⟩ := heap_setCells i us o w arr el fz h hl
    have hs : a1.size = arr.size := by have := congrArg List.length e1; simp at this; omega
    obtain ⟨a2, h2, e2⟩ := heap_setCells i vs o _ a1 el fz h1 (by omega)
    obtain ⟨a3, h3, e3⟩ := heap_setCells i vs o w arr el fz h (by omega)
    rw [h2, h3]
    congr 1
    have : a2 = a3 := by
      apply Array.ext'
      rw [e2, e3, e1]
      have ht : (arr.toList.take o).length = o := by simp; omega
      congr 1
      · congr 1
        rw [List.append_assoc, List.take_append_of_le_length (by omega), List.take_take, Nat.min_self]
      · rw [List.drop_left' (by simp; omega), he]
    rw [this]
  · rw [heap_setCells_other b vs o _ i hi, heap_setCells_other b us o _ i hi, heap_setCells_other b vs o _ i hi]

theorem setCells_comm {w : World} {b c o p : Nat} {us vs : List Value} (hbc : b ≠ c) {arr arr' : Array Value} {el el' : TypeId} {fz fz' : Nat × Nat} (h : w.heap[b]? = some (.cells arr el fz)) (hl : o + us.length ≤ arr.size)
    (h' : w.heap[c]? = some (.cells arr' el' fz')) (hl' : p + vs.length ≤ arr'.size) : (w.setCells b o us).setCells c p vs = (w.setCells c p vs).setCells b o us := by
  refine world_heap (w := w) (World.with_trans (setCells_world b us o w) (setCells_world c vs p _)) (World.with_trans (setCells_world c vs p w) (setCells_world b us o _)) fun i => ?_
  by_cases hi : i = b
  · subst hi
    rw [heap_setCells_other c vs p _ i hbc]
    obtain ⟨a1, h1, e1⟩ := heap_setCells i us o w arr el fz h hl
    obtain ⟨a2, h2, e2⟩ := heap_setCells i us o (w.setCells c p vs) arr el fz (by rw [heap_setCells_other c vs p _ i hbc]; exact h) hl
    rw [h1, h2]
    have : a1 = a2 := by apply Array.ext'; rw [e1, e2]
    rw [this]
  · rw [heap_setCells_other b us o _ i hi]
    by_cases hc : i = c
    · subst hc
      obtain ⟨a1, h1, e1⟩ := heap_setCells i vs p w arr' el' fz' h' hl'
      obtain ⟨a2, h2, e2⟩ := heap_setCells i vs p (w.setCells b o us) arr' el' fz' (by rw [heap_setCells_other b us o _ i hi]; exact h') hl'
      rw [h1, h2]
      have : a1 = a2 := by apply Array.ext'; rw [e1, e2]
      rw [this]
    · rw [heap_setCells_other c vs p _ i hc, heap_setCells_other c vs p _ i hc, heap_setCells_other b us o _ i hi]

theorem setCells_alloc (w : World) (xs us vs ys : List Value) (el : TypeId) (fz : Nat × Nat) (he : vs.length = us.length) :
    (w.alloc (.cells (xs ++ us ++ ys).toArray el fz)).setCells w.heap.size xs.length vs = w.alloc (.cells (xs ++ vs ++ ys).toArray el fz) := by
  have hn := heap_alloc_new w (.cells (xs ++ us ++ ys).toArray el fz)
  refine world_heap (w := w.alloc (.cells (xs ++ us ++ ys).toArray el fz)) (setCells_world _ _ _ _) ⟨(w.alloc (.cells (xs ++ vs ++ ys).toArray el fz)).heap, rfl⟩ fun i => ?_
  by_cases hi : i = w.heap.size
  · subst hi
    obtain ⟨a1, h1, e1⟩ := heap_setCells _ vs xs.length _ _ el fz hn (by simp; omega)
    rw [h1, heap_alloc_new]
    have : a1 = (xs ++ vs ++ ys).toArray := by
      apply Array.ext'
      rw [e1]
      simp only [List.append_assoc, List.take_left, List.append_cancel_left_eq]
      rw [← List.append_assoc xs us ys, List.drop_append, List.drop_of_length_le (by simp; omega)]
      simp [he]
    rw [this]
  · rw [heap_setCells_other _ vs _ _ i hi]
    simp only [World.alloc]
    rcases Nat.lt_or_ge i w.heap.size with h | h
    · rw [Array.getElem?_push_lt h, Array.getElem?_push_lt h]
    · rw [Array.getElem?_eq_none (by simp; omega), Array.getElem?_eq_none (by simp; omega)]

/-- The world as it will be: but for one element of a slice, that is still to be laid. -/
structure Late (g : Gh) (st : St) (w : World) (b o : Nat) (us : List Value) : Prop where
  inv : Inv g st (w.setCells b o us)
  clear : st.mem b = none
  at_ : ∃ arr el fz, w.heap[b]? = some (.cells arr el fz) ∧ fzOk fz arr.size ∧ o + us.length ≤ arr.size
  one : ∀ u ∈ us, u.oneCell' = true

section late
variable {P : Program} {g : Gh} {st : St} {w : World} {b o : Nat} {us : List Value}

theorem Late.lay (h : Late g st w b o us) : (storeCells ⟨b, o, none⟩ us).run P w = .ok () (w.setCells b o us) := by
  obtain ⟨arr, el, fz, hh, hfz, hl⟩ := h.at_
  have := run_storeCells_cells (P := P) b o us 0 w (fun q hq => by
    have hlt : o + q < arr.size := by omega
    simp [World.cell?, hh, hlt]) (fun q hq => by
    have := hfz.off (o + q) (by omega)
    simp only [World.frozen?, hh]
    simpa using this) h.one
  simpa using this

theorem Late.store (h : Late g st w b o us) {r q : Nat} {cs xs : List D} {vs : List Value} (hr : st.mem r = some (.cells cs)) (hx : Rs g xs vs) (hl : q + xs.length ≤ cs.length) :
    (storeCells ⟨r, q, none⟩ vs).run P w = .ok () (w.setCells r q vs) ∧ Late g (st.set r (.cells (splice cs q xs))) (w.setCells r q vs) b o us := by
  obtain ⟨arr, el, fz, hh, hfz, hlo⟩ := h.at_
  have hne : r ≠ b := fun e => by rw [e, h.clear] at hr; cases hr
  obtain ⟨_, _, arr2, el2, fz2, hh2, hfz2, hcs⟩ := h.inv.mem r _ hr
  rw [heap_setCells_other b us o w r hne] at hh2
  have h1 := hx.length
  have h2 := hcs.length
  simp only [Array.length_toList] at h2
  constructor
  · have := run_storeCells_cells (P := P) r q vs 0 w (fun k hk => by
      have hlt : q + k < arr2.size := by omega
      simp [World.cell?, hh2, hlt]) (fun k hk => by
      have := hfz2.off (q + k) (by omega)
      simp only [World.frozen?, hh2]
      simpa using this) hx.one
    simpa using this
  · refine ⟨?_, ?_, ⟨arr, el, fz, by rw [heap_setCells_other r vs q w b hne.symm]; exact hh, hfz, hlo⟩, h.one⟩
    · rw [setCells_comm hne hh2 (by omega) hh hlo]
      exact h.inv.store hr hx hl
    · rw [St.mem_set, if_neg hne.symm]; exact h.clear

def ownOk (st : St) (ow : Own) (sz z : Nat) : Prop := match ow with
  | .tok i => sz = z ∧ st.tok i = true
  | .nil => True
  | .frozen => False
def ownSt (st : St) (ow : Own) (j : Nat) : St := match ow with
  | .tok i => (st.take i).give j
  | _ => st.give j

theorem late_append (hi : Inv g st w) {t s ty : TypeId} {ow : Own} {sz z bs : Nat} {es : List D} {y0 e : D} {v u : Value} {us0 us : List Value} (hv : VT g (.sl ow sz es) v) (hsd : ∃ e', P.underlying s = some (.slice e'))
    (hz : slTy P t = some z) (hbs : slBytes P t = some bs) (src : Src P g w z [y0] u us0) (hus : us.length = z) (hue : R g e us) (huo : ∀ x ∈ us, x.oneCell' = true)
    (hbig : (es.length + 1) * (2 * bs + 2) ≤ 281474976710656) (how : ownOk st ow sz z) :
    ∃ g' j w' b p cap, (Builtin.append_ #[t, s] ty #[v, u]).run P w = .ok (.slice (some ⟨b, p, none⟩) (es.length + 1) cap) w' ∧ g.le g' ∧ st.tok j = false ∧
      Late g' (ownSt st ow j) w' b (p + es.length * z) us ∧ VT g' (.sl (.tok j) z (es ++ [e])) (.slice (some ⟨b, p, none⟩) (es.length + 1) cap) := by
  obtain ⟨el, i, zv, hu, hT, hZ, hzs, hb, hsz⟩ := slBytes_of hbs hz
  obtain ⟨e', hsd⟩ := hsd
  have hsize := run_sizeOf_some (P := P) (t := el) (z := z) (by simp [szOf, hT, hsz])
  have hl0 : us0.length = z := by have := src.size; simpa using this
  have hRe1 : ∀ (g' : Gh) (b' p' : Nat), g.le g' → g'.At b' p' us → Re g' z [e] b' p' := fun g' b' p' l hA => ⟨⟨us, hus, hA, R.mono l _ _ hue⟩, trivial⟩
  have slen := src.len
  have sfirst := src.first
  simp only [List.length_singleton] at slen sfirst
  have grow : ∀ (base : Option Addr) (sCap : Nat) (olds : List Value), v = .slice base es.length sCap → olds.length = es.length * z →
      (∀ w', Below w.heap.size w w' → (Builtin.firstCells z es.length v).run P w' = .ok olds.toArray w') → (∀ (g' : Gh) (b' p' : Nat), g.le g' → g'.At b' p' olds → Re g' z es b' p') → ¬ (es.length + 1 ≤ sCap) →
      ∃ g' j w' b p cap, (Builtin.append_ #[t, s] ty #[v, u]).run P w = .ok (.slice (some ⟨b, p, none⟩) (es.length + 1) cap) w' ∧ g.le g' ∧ st.tok j = false ∧
        Late g' (st.give j) w' b (p + es.length * z) us ∧ VT g' (.sl (.tok j) z (es ++ [e])) (.slice (some ⟨b, p, none⟩) (es.length + 1) cap) := by
    intro base sCap olds hv0 hol hfirst hre hroom
    subst hv0
    have hcap := grownCap_ge w (es.length + 1) sCap el
    have hns : Builtin.nextslicecap (es.length + 1) sCap * bs ≤ 281474976710656 := by
      have h1 := nextslicecap_le (need := es.length + 1) (old := sCap) (by omega)
      have h2 : Builtin.nextslicecap (es.length + 1) sCap * bs ≤ 2 * (es.length + 1) * bs := Nat.mul_le_mul_right _ h1
      have h3 : 2 * (es.length + 1) * bs ≤ (es.length + 1) * (2 * bs + 2) := by
        rw [show 2 * (es.length + 1) * bs = (es.length + 1) * (2 * bs) by rw [Nat.mul_comm 2, Nat.mul_assoc]]
        exact Nat.mul_le_mul_left _ (by omega)
      omega
    have hneed : es.length + 1 ≤ 281474976710656 := by
      have : (es.length + 1) * 1 ≤ (es.length + 1) * (2 * bs + 2) := Nat.mul_le_mul_left _ (by omega)
      omega
    have hzc : (Builtin.zeroCells zv.cells (grownCap w (es.length + 1) sCap el - (es.length + 1))).toList.length = (grownCap w (es.length + 1) sCap el - (es.length + 1)) * z := by
      simp [Builtin.zeroCells, hzs, hsz]
    have e1 : (grownCap w (es.length + 1) sCap el) * z = es.length * z + z + (grownCap w (es.length + 1) sCap el - (es.length + 1)) * z := by
      rw [← Nat.succ_mul, ← Nat.add_mul]; congr 1; omega
    obtain ⟨j, g', hj, l, hG, hA, hI⟩ := hi.drew.newTok el (0, 0) (olds ++ us) (Builtin.zeroCells zv.cells (grownCap w (es.length + 1) sCap el - (es.length + 1))).toList
      (es.length + 1) (grownCap w (es.length + 1) sCap el) z (fzOk_zero _) (by simp [hol, hus, Nat.add_mul]) hcap (by rw [List.length_append, List.length_append, hzc, hol, hus]; omega)
    have hal := setCells_alloc w.drew olds us0 us (Builtin.zeroCells zv.cells (grownCap w (es.length + 1) sCap el - (es.length + 1))).toList el (0, 0) (by omega)
    have hds : w.drew.heap.size = w.heap.size := rfl
    rw [hds] at hal hG hA
    have hnew := heap_alloc_new w.drew (.cells (olds ++ us0 ++ (Builtin.zeroCells zv.cells (grownCap w (es.length + 1) sCap el - (es.length + 1))).toList).toArray el (0, 0))
    refine ⟨g', j, w.drew.alloc (.cells (olds ++ us0 ++ (Builtin.zeroCells zv.cells (grownCap w (es.length + 1) sCap el - (es.length + 1))).toList).toArray el (0, 0)), w.heap.size, 0, grownCap w (es.length + 1) sCap el, ?_, l, hj,
      ⟨?_, ?_, ⟨_, el, (0, 0), hnew, fzOk_zero _, ?_⟩, huo⟩, VT.mkOne ?_ (by simp)⟩
    · have hz0 := fun w => show (zeroValue el).run P w = .ok zv w by simp [zeroValue, typeInfo, hT, hZ]
      have hti := fun w => show (typeInfo el).run P w = .ok i w by simp [typeInfo, hT]
      have hfo := hfirst w.drew (below_drew w)
      have hfn := sfirst w.drew (below_drew w)
      have harr : (olds ++ us0 ++ (Builtin.zeroCells zv.cells (grownCap w (es.length + 1) sCap el - (es.length + 1))).toList).toArray = olds.toArray ++ us0.toArray ++ Builtin.zeroCells zv.cells (grownCap w (es.length + 1) sCap el - (es.length + 1)) := by
        apply Array.ext'; simp
      rw [harr]
      have c1 : ¬ (9223372036854775807 < (es.length : Int) + 1 ∧ bs = 0) := by omega
      have c2 : ¬ 281474976710656 < Builtin.nextslicecap (es.length + 1) sCap * bs := by omega
      simp [Builtin.append_, run_underlying hu, run_underlying hsd, hsize, slen, hroom, hti, hb, c1, c2, hfo, hfn, hz0, newRow, Question.forced, grownCap]
      all_goals (congr 2; apply Array.ext'; simp)
    · rw [Nat.zero_add, ← hol, hal]; exact hI
    · show st.mem w.heap.size = none
      exact hi.memSize
    · simp only [List.size_toArray, List.length_append, hol, hl0, hus]; omega
    · simp only [R]
      refine .inr ⟨w.heap.size, 0, grownCap w (es.length + 1) sCap el, by simp, by simpa using hcap, by simp only [Own.lies, List.length_append]; exact hG, ?_⟩
      refine Re.append (hre g' _ _ l fun j' x hx => hA j' x (by rw [List.getElem?_append_left (List.getElem?_eq_some_iff.1 hx).1]; exact hx)) (hRe1 g' _ _ l fun j' x hx => ?_)
      have := hA (olds.length + j') x (by rw [List.getElem?_append_right (by omega)]; simpa using hx)
      rwa [hol, ← Nat.add_assoc] at this
  cases ow with
  | frozen => exact how.elim
  | nil =>
    rcases hv.sl with ⟨_, rfl, oa, rfl, rfl⟩ | ⟨_, _, _, _, _, hl, _⟩
    · exact grow none 0 [] rfl (by simp) (fun w' _ => by simp [Builtin.firstCells]) (fun _ _ _ _ _ => by simp [Re]) (by simp)
    · exact hl.elim
  | tok i =>
    obtain ⟨rfl, hti⟩ := how
    rcases hv.sl with ⟨hm, _, _⟩ | ⟨b, p, cap, rfl, hcap, hl, hRe⟩
    · exact hm.elim
    · obtain ⟨t', hG, ok⟩ := hi.tok i hti
      have hG' : g.G i = some ⟨b, p, es.length, cap, sz⟩ := hl
      rw [hG'] at hG; cases hG
      obtain ⟨olds, o1, o2, o3, o4⟩ := Re.flat hRe
      by_cases hroom : es.length + 1 ≤ cap
      · obtain ⟨arr, el2, fz, hh, hfz, hsz'⟩ := ok.lies
        simp only at hh hsz'
        obtain ⟨j, g', hj, l, hGj, hA, hI⟩ := hi.grow hti hG' us 1 (by simpa using hus) hroom
        have hmul : es.length * sz + sz ≤ cap * sz := by rw [← Nat.succ_mul]; exact Nat.mul_le_mul_right _ hroom
        have hst := run_storeCells_cells (P := P) b (p + es.length * sz) us0 0 w (fun q hq => by
          have hlt : p + es.length * sz + q < arr.size := by omega
          simp [World.cell?, show w.heap[b]? = _ from hh, hlt]) (fun q hq => by
          have := hfz.off (p + es.length * sz + q) (by omega)
          simp only [World.frozen?, show w.heap[b]? = _ from hh]
          simpa using this) src.one
        simp only [Nat.add_zero] at hst
        obtain ⟨arr', h3, h4⟩ := heap_setCells b us0 (p + es.length * sz) w arr el2 fz hh (by omega)
        have hs' : arr'.size = arr.size := by have := congrArg List.length h4; simp at this; omega
        refine ⟨g', j, _, b, p, cap, ?_, l, hj, ⟨?_, ?_, ⟨arr', el2, fz, h3, by rw [hs']; exact hfz, by omega⟩, huo⟩, VT.mkOne ?_ (by simp)⟩
        · have hfn := sfirst w (Below.refl _ _)
          simp [Builtin.append_, run_underlying hu, run_underlying hsd, hsize, slen, hroom, hfn, Addr.add_lit, hst]
        · rw [setCells_over hh (by omega) (by omega)]; exact hI
        · show ((st.take i).give j).mem b = none
          rw [St.mem_give]; exact ok.clear
        · simp only [R]
          refine .inr ⟨b, p, cap, by simp, by simpa using hroom, by simp only [Own.lies, List.length_append]; exact hGj, Re.append (Re.mono l _ _ _ _ hRe) (hRe1 g' _ _ l hA)⟩
      · obtain ⟨g', j, w', b', p', cap', h1, h2, h3, h4, h5⟩ := grow (some ⟨b, p, none⟩) cap olds rfl o1 (fun w' hb' => by
            have := run_loadCells_list (P := P) w' ⟨b, p, none⟩ olds (fun q u hq => by
              rw [Addr.add_lit]
              have hc := o2 q u hq
              rw [hb'.cell (p := ⟨b, p + q, none⟩) (hi.ltF hc)]
              exact hi.fz _ _ _ hc)
            rw [o1] at this
            simpa [Builtin.firstCells] using this) o4 hroom
        refine ⟨g', j, w', b', p', cap', h1, h2, h3, ⟨h4.inv.weak ⟨fun _ _ h => h, fun q hq => ?_⟩, h4.clear, h4.at_, h4.one⟩, h5⟩
        have hq' : ((st.take i).give j).tok q = true := hq
        rw [St.tok_give] at hq' ⊢
        split at hq'
        · rename_i e; rw [if_pos e]
        · rename_i e; rw [if_neg e]
          rw [St.tok_take] at hq'
          split at hq'
          · cases hq'
          · exact hq'
end late
end Go.Proofs.YtddbidoaolnegaaGreatDoor
/- An append of a value that is laid into its place only behind the append: the rest of the region, in every order. No statement of the seat is proved here; no condition. -/
namespace Go.Proofs.YtddbidoaolnegaaGreatDoor
open Go Go.RowKit

section late
variable {P : Program} {n : Nat} {g : Gh} {fr : Fr} {a : Act} {st : St} {w : World} {b o : Nat} {us : List Value} {ops : Array Oper} {Q : Exit → Act → World → Prop}

theorem FRel.putAny (hf : FRel g n fr a) {s : Tmp} (hs : fr s = .any) (v : Value) : FRel g n fr (a.put (some s) v) := by
  refine ⟨by simp [Act.put, hf.size], hf.defers, fun i => ?_⟩
  simp only [Act.put]
  by_cases h : i = s
  · subst h; rw [hs]; exact trivial
  · have := hf.slot i
    rw [Array.getD_eq_getD_getElem?] at this ⊢
    rw [Array.getElem?_setIfInBounds_ne (Ne.symm h)]; exact this
theorem put_get (hs : a.tmps.size = n) {s : Tmp} (h : s < n) (v : Value) : (a.put (some s) v).tmps.getD s undef = v := by
  simp [Act.put, Array.getD_eq_getD_getElem?, hs, h]
theorem put_ne {s t : Tmp} (h : t ≠ s) (v : Value) : (a.put (some s) v).tmps.getD t undef = a.tmps.getD t undef := by
  simp only [Act.put, Array.getD_eq_getD_getElem?]
  rw [Array.getElem?_setIfInBounds_ne (Ne.symm h)]

theorem wpOp_value {i : Nat} {oi : Oper} {K : Act → World → Prop} (hi : ops[i]? = some oi) (hg : oi.guard = none) {v : Value} {w' : World} (h : (execOp a.eval oi).run P w = .ok (.value v) w') (hk : K (a.put oi.dst v) w') : wpOp P ops Q i K a w := by
  unfold wpOp
  rw [hi]
  have : Region.wanted oi (yielded ops a.tmps) = true := by simp [Region.wanted, hg]
  simp only [this, if_true]
  left
  unfold Oper.wp
  rw [h]; exact hk
theorem wpOp_skip {i : Nat} {oi : Oper} {K : Act → World → Prop} (hi : ops[i]? = some oi) (hg : oi.guard = none) {w' : World} (h : (execOp a.eval oi).run P w = .ok .skip w') (hk : K (a.put oi.dst undef) w') : wpOp P ops Q i K a w := by
  unfold wpOp
  rw [hi]
  have : Region.wanted oi (yielded ops a.tmps) = true := by simp [Region.wanted, hg]
  simp only [this, if_true]
  left
  unfold Oper.wp
  rw [h]; exact hk

/-- What a region is, from its append on (operation 'c'): two rows of operations, that come up in any order. -/
structure Tail (P : Program) (n : Nat) (ops : Array Oper) (c : Nat) (tS tE tM : TypeId) (s0 s4 s5 s7 s8 s10 s11 : Tmp) (f z q : Nat) : Prop where
  o8 : ∃ x, ops[c + 1]? = some x ∧ x.guard = none ∧ x.dst = some s8 ∧ x.op = .indexAddr tS (.tmp s7) (.tmp s5)
  o9 : ∃ x, ops[c + 2]? = some x ∧ x.guard = none ∧ x.dst = none ∧ x.op = .store tE (.tmp s8) (.tmp s4)
  o10 : ∃ x, ops[c + 3]? = some x ∧ x.guard = none ∧ x.dst = some s10 ∧ x.op = .nilCheck (.tmp s0)
  o11 : ∃ x, ops[c + 4]? = some x ∧ x.guard = none ∧ x.dst = some s11 ∧ x.op = .fieldAddr tM (.tmp s10) f
  o12 : ∃ x, ops[c + 5]? = some x ∧ x.guard = none ∧ x.dst = none ∧ x.op = .store tS (.tmp s11) (.tmp s7)
  sz : slTy P tS = some z ∧ szOf P tE = some z ∧ szOf P tS = some 1 ∧ offOf P tM f = some q
  lt : s8 < n ∧ s10 < n ∧ s11 < n
  ne : s8 ≠ s0 ∧ s8 ≠ s4 ∧ s8 ≠ s5 ∧ s8 ≠ s7 ∧ s10 ≠ s0 ∧ s10 ≠ s4 ∧ s10 ≠ s5 ∧ s10 ≠ s7 ∧ s11 ≠ s0 ∧ s11 ≠ s4 ∧ s11 ≠ s5 ∧ s11 ≠ s7 ∧ s8 ≠ s10 ∧ s8 ≠ s11 ∧ s10 ≠ s11

/-- Where such a region stands: 'i' of the one row, 'j' of the other have come up. -/
structure At2 (P : Program) (n : Nat) (g : Gh) (fr : Fr) (st : St) (b p len cap z r q0 q : Nat) (cs : List D) (us : List Value) (e : Value) (hdr : D) (s0 s4 s5 s7 s8 s10 s11 : Tmp) (i j : Nat) (a : Act) (w : World) : Prop where
  rel : FRel g n fr a
  any8 : fr s8 = .any ∧ fr s10 = .any ∧ fr s11 = .any
  v0 : a.tmps.getD s0 undef = .pointer (some ⟨r, q0, none⟩)
  v4 : a.tmps.getD s4 undef = e
  v5 : a.tmps.getD s5 undef = .int .i64 len
  v7 : a.tmps.getD s7 undef = .slice (some ⟨b, p, none⟩) (len + 1) cap
  v8 : 1 ≤ i → a.tmps.getD s8 undef = .pointer (some ⟨b, p + len * z, none⟩)
  v10 : 1 ≤ j → a.tmps.getD s10 undef = .pointer (some ⟨r, q0, none⟩)
  v11 : 2 ≤ j → a.tmps.getD s11 undef = .pointer (some ⟨r, q0 + q, none⟩)
  mem : st.mem r = some (.cells cs) ∧ q0 + q + 1 ≤ cs.length
  hd : Rs g [hdr] [.slice (some ⟨b, p, none⟩) (len + 1) cap]
  late : i < 2 → Late g (if j < 3 then st else st.set r (.cells (splice cs (q0 + q) [hdr]))) w b (p + len * z) us
  done : i = 2 → Inv g (if j < 3 then st else st.set r (.cells (splice cs (q0 + q) [hdr]))) w

def lst2 (c i j : Nat) : Array Bool := ((List.replicate (c + 1) true) ++ [decide (1 ≤ i), decide (2 ≤ i), decide (1 ≤ j), decide (2 ≤ j), decide (3 ≤ j)]).toArray

end late
end Go.Proofs.YtddbidoaolnegaaGreatDoor
/- An append of a value that is laid into its place only behind the append: a whole region. No statement of the seat is proved here; no condition. -/
namespace Go.Proofs.YtddbidoaolnegaaGreatDoor
open Go Go.RowKit

section split
variable {P : Program} {n : Nat} {ops : Array Oper} {Q Q' : Exit → Act → World → Prop} {a : Act} {w : World}

theorem wpAny_fuel {md : Region.Mode} : ∀ (f : Nat) (l : Array Bool) (a : Act) (w : World), wpAny P md ops Q f l a w → wpAny P md ops Q (f + 1) l a w
  | 0, l, a, w, h => ⟨fun _ => h.2, fun i hi => by rw [h.1] at hi; cases hi⟩
  | f + 1, l, a, w, h => ⟨h.1, fun i hi => wpOp_mono (fun a w h => wpAny_fuel f _ a w h) (h.2 i hi)⟩
theorem wpAny_fuels {md : Region.Mode} {m : Nat} {l : Array Bool} (h : wpAny P md ops Q m l a w) : ∀ f, wpAny P md ops Q (f + m) l a w
  | 0 => by rwa [Nat.zero_add]
  | f + 1 => by rw [show f + 1 + m = (f + m) + 1 by omega]; exact wpAny_fuel _ _ _ _ (wpAny_fuels h f)

def preB (ops : Array Oper) (c : Nat) : Bool := (List.range ops.size).all fun k => ((ops[k]?).map fun o =>
  if k < c then o.guard.isNone && o.after.toList.all fun e => !Region.binds .any e || decide (e.on < k)
  else (List.range c).all fun p => o.after.toList.any fun e => Region.binds .any e && e.on == p).getD true

theorem preB_lt {c k : Nat} {o : Oper} (h : preB ops c = true) (ho : ops[k]? = some o) (hk : k < c) : o.guard = none ∧ ∀ e ∈ o.after, Region.binds .any e = true → e.on < k := by
  unfold preB at h
  rw [List.all_eq_true] at h
  have := h k (by rw [List.mem_range]; exact (Array.getElem?_eq_some_iff.1 ho).1)
  simp only [ho, Option.map_some, Option.getD_some, hk, if_true, Bool.and_eq_true, List.all_eq_true, Bool.or_eq_true, Bool.not_eq_true', decide_eq_true_eq] at this
  refine ⟨by simpa using this.1, fun e he hb => ?_⟩
  rcases this.2 e (by simpa using he) with h | h
  · rw [h] at hb; cases hb
  · exact h
theorem preB_ge {c k : Nat} {o : Oper} (h : preB ops c = true) (ho : ops[k]? = some o) (hk : ¬ k < c) : ∀ p, p < c → ∃ e ∈ o.after, Region.binds .any e = true ∧ e.on = p := by
  unfold preB at h
  rw [List.all_eq_true] at h
  have := h k (by rw [List.mem_range]; exact (Array.getElem?_eq_some_iff.1 ho).1)
  simp only [ho, Option.map_some, Option.getD_some, hk, if_false, List.all_eq_true, List.mem_range, List.any_eq_true, Bool.and_eq_true, beq_iff_eq] at this
  intro p hp
  obtain ⟨e, he, h1, h2⟩ := this p hp
  exact ⟨e, by simpa using he, h1, h2⟩

theorem wpOp_other {ops' : Array Oper} {i : Nat} {o : Oper} {K K' : Act → World → Prop} (h1 : ops'[i]? = some o) (h2 : ops[i]? = some o) (hg : o.guard = none) (hK : ∀ a w, K a w → K' a w)
    (hP : ∀ c a w, Q' (.panic c) a w → Q (.panic c) a w) (hO : LetsOut Q' → LetsOut Q) (h : wpOp P ops' Q' i K a w) : wpOp P ops Q i K' a w := by
  unfold wpOp at h ⊢
  rw [h1] at h
  rw [h2]
  have w1 : ∀ y, Region.wanted o y = true := fun y => by simp [Region.wanted, hg]
  simp only [w1, if_true] at h ⊢
  rcases h with h | h
  · left
    unfold Oper.wp at h ⊢
    generalize (execOp a.eval o).run P w = r at *
    cases r with
    | ok x w' =>
      cases x <;> simp only [Oper.upon] at h ⊢ <;>
        first
          | exact hK _ _ h
          | exact Calls.mono h (fun e w'' he => by cases e <;> first | exact hK _ _ he | exact hP _ _ _ he | exact hO he)
          | exact Rows.mono h (fun _ _ he => hK _ _ he)
          | exact h
    | halt x w' => cases x <;> simp only [Oper.upon] at h ⊢ <;> first | exact hP _ _ _ h | exact h
  · right
    exact ⟨h.1, hO h.2⟩

def falses (k : Nat) : Array Bool := Array.replicate k false

theorem wpAny_split {c m : Nat} (hpre : preB ops c = true) (hc : c ≤ ops.size) (hN : ∀ a w, Q' .normal a w → wpAny P .any ops Q m (Array.replicate c true ++ falses (ops.size - c)) a w)
    (hP : ∀ c a w, Q' (.panic c) a w → Q (.panic c) a w) (hO : LetsOut Q' → LetsOut Q) :
    ∀ (f : Nat) (l : Array Bool) (a : Act) (w : World), l.size = c → wpAny P .any (ops.extract 0 c) Q' f l a w → wpAny P .any ops Q (f + m) (l ++ falses (ops.size - c)) a w := by
  have hext : ∀ i, i < c → (ops.extract 0 c)[i]? = ops[i]? := fun i hi => by
    rw [Array.getElem?_extract]; simp; omega
  have hexs : (ops.extract 0 c).size = c := by simp; omega
  -- all have come up
  have full : ∀ l : Array Bool, l.size = c → (∀ i, i < c → l.getD i false = true) → l = Array.replicate c true := fun l hl h => by
    apply Array.ext
    · simp [hl]
    · intro i h1 h2
      have := h i (by omega)
      simpa [Array.getD_eq_getD_getElem?, h1] using this
  have getL : ∀ (l : Array Bool) (i : Nat) (d : Bool), l.size = c → i < c → (l ++ falses (ops.size - c)).getD i d = l.getD i d := fun l i d hl hi => by
    simp only [Array.getD_eq_getD_getElem?]
    rw [Array.getElem?_append_left (by omega)]
  have getR : ∀ (l : Array Bool) (i : Nat), l.size = c → c ≤ i → i < ops.size → (l ++ falses (ops.size - c)).getD i true = false := fun l i hl hi hi2 => by
    simp only [Array.getD_eq_getD_getElem?]
    rw [Array.getElem?_append_right (by omega)]
    simp [falses, Array.getElem?_replicate, show i - l.size < ops.size - c by omega]
  -- while one has not, what may come up is the same
  have same : ∀ l : Array Bool, l.size = c → (¬ ∀ i, i < c → l.getD i false = true) → ∀ k, k ∈ Region.ready .any ops (l ++ falses (ops.size - c)) → k < c ∧ k ∈ Region.ready .any (ops.extract 0 c) l := fun l hl hne k hk => by
    obtain ⟨h0, o, ho, hall⟩ := mem_ready.1 hk
    have hkc : k < c := by
      rcases Nat.lt_or_ge k c with h | h
      · exact h
      · exfalso
        apply hne
        intro p hp
        obtain ⟨e, he, hb, rfl⟩ := preB_ge hpre ho (by omega) p hp
        have := hall e he hb
        rwa [getL l _ _ hl hp] at this
    refine ⟨hkc, mem_ready.2 ⟨by rwa [getL l _ _ hl hkc] at h0, o, by rw [hext k hkc]; exact ho, fun e he hb => ?_⟩⟩
    have h1 := hall e he hb
    have h2 := (preB_lt hpre ho hkc).2 e he hb
    rwa [getL l _ _ hl (by omega)] at h1
  -- and one may
  have prog : ∀ l : Array Bool, l.size = c → (¬ ∀ i, i < c → l.getD i false = true) → Region.ready .any ops (l ++ falses (ops.size - c)) ≠ [] := fun l hl hne he => by
    apply hne
    intro i
    induction i using Nat.strongRecOn with
    | _ i ih =>
      intro hi
      cases hv : l.getD i false with
      | true => rfl
      | false =>
        exfalso
        have ho : ops[i]? = some ops[i] := by simp
        have : i ∈ Region.ready .any ops (l ++ falses (ops.size - c)) := mem_ready.2 ⟨by
          rw [getL l _ _ hl hi]
          simp only [Array.getD_eq_getD_getElem?] at hv ⊢
          have hlt : i < l.size := by omega
          simpa [hlt] using hv, _, ho, fun e he hb => by
          have h2 := (preB_lt hpre ho hi).2 e he hb
          rw [getL l _ _ hl (by omega)]
          exact ih e.on h2 (by omega)⟩
        rw [he] at this; cases this
  have noneR : ∀ l : Array Bool, l.size = c → (∀ i, i < c → l.getD i false = true) → Region.ready .any (ops.extract 0 c) l = [] := fun l hl h => by
    cases hr : Region.ready .any (ops.extract 0 c) l with
    | nil => rfl
    | cons k ks =>
      exfalso
      have hk : k ∈ Region.ready .any (ops.extract 0 c) l := by rw [hr]; simp
      obtain ⟨h0, o, ho, _⟩ := mem_ready.1 hk
      have hlt : k < c := by have := (Array.getElem?_eq_some_iff.1 ho).1; omega
      have := h k hlt
      have h0' := not_listed h0
      rw [h0'] at this; cases this
  intro f
  induction f with
  | zero =>
    intro l a w hl h
    by_cases hall : ∀ i, i < c → l.getD i false = true
    · rw [full l hl hall, Nat.zero_add]; exact hN a w h.2
    · exfalso
      refine prog l hl hall ?_
      cases hr : Region.ready .any ops (l ++ falses (ops.size - c)) with
      | nil => rfl
      | cons k ks =>
        have := (same l hl hall k (by rw [hr]; simp)).2
        rw [h.1] at this; cases this
  | succ f ih =>
    intro l a w hl h
    by_cases hall : ∀ i, i < c → l.getD i false = true
    · rw [full l hl hall]
      exact wpAny_fuels (hN a w (h.1 (noneR l hl hall))) (f + 1)
    · rw [show f + 1 + m = (f + m) + 1 by omega]
      refine ⟨fun he => absurd he (prog l hl hall), fun k hk => ?_⟩
      obtain ⟨hkc, hk'⟩ := same l hl hall k hk
      obtain ⟨_, o, ho, _⟩ := mem_ready.1 hk
      refine wpOp_other (by rw [hext k hkc]; exact ho) ho (preB_lt hpre ho hkc).1 (fun a w hh => ?_) hP hO (h.2 k hk')
      have := ih (l.setIfInBounds k true) a w (by simpa using hl) hh
      rwa [show (l ++ falses (ops.size - c)).setIfInBounds k true = l.setIfInBounds k true ++ falses (ops.size - c) from Array.setIfInBounds_append_left (by omega)]
end split

section draw
variable {P : Program} {M : List Tmp} {n : Nat} {ops : Array Oper} {fr : Fr} {st : St}

/-- What must hold when the append comes up, and what goes on behind the region. -/
structure Pre (P : Program) (n : Nat) (r q0 q z sz bs : Nat) (tS : TypeId) (ow : Own) (es es5 cs : List D) (y0 : D) (s0 s3 s4 s5 s6 s7 s8 s10 s11 : Tmp) (K : Fr → St → Prop) (fr : Fr) (st : St) : Prop where
  f0 : fr s0 = .ptr r q0
  f3 : fr s3 = .sl ow sz es
  f4 : fr s4 = .agg es5
  f5 : fr s5 = .int .i64 es.length
  f6 : ∃ ow6 z6, fr s6 = .sl ow6 z6 [y0]
  len : es5.length = z ∧ y0.cells.length = z
  own : ownOk st ow sz z
  big : (es.length + 1) * (2 * bs + 2) ≤ 281474976710656
  mem : st.mem r = some (.cells cs) ∧ q0 + q + 1 ≤ cs.length
  next : ∀ j, st.tok j = false → K ((((fr.put s7 (.sl (.tok j) z (es ++ [.agg es5]))).put s8 .any).put s10 .any).put s11 .any) ((ownSt st ow j).set r (.cells (splice cs (q0 + q) [.sl (.tok j) z (es ++ [.agg es5])])))

theorem ownSt_mem (st : St) (ow : Own) (j r : Nat) : (ownSt st ow j).mem r = st.mem r := by cases ow <;> rfl

end draw
end Go.Proofs.YtddbidoaolnegaaGreatDoor
