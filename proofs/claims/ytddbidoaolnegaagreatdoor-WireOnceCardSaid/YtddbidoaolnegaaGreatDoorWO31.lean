/-
WireOnce answers true at every two lists of declarations, and leaves them as they were: the tied card, by the program's text. Conditions: those of the given card and no others (the package-level variable errors.errorType starts as the program's text lays it; each string and slice within the form's reach).
-/
import Derived.Test.YtddbidoaolnegaaGreatDoorRows
import Derived.ChangeSame
import Derived.ChangeVars
import Derived.JoinedOf
import Derived.RowKit
import Derived.RowKitTokens
import Derived.LaidLaws
import Derived.LaidHandle
import Derived.Stop.Joined
import Derived.Carry
import Derived.Test.YtddbidoaolnegaaGreatDoorTie
import Derived.Test.YtddbidoaolnegaaGreatDoorCards
import Derived.SevenTiedAt
import Derived.Test.YtddbidoaolnegaaGreatDoorWO21
import Derived.Test.YtddbidoaolnegaaGreatDoorWO30
set_option linter.all false
/- The row of WireOnce, off the walk of its function. No statement of the seat is proved here; no condition. -/
namespace Go.Proofs.YtddbidoaolnegaaGreatDoor
open Go Go.ChangeShapes Go.WideShapes Go.RowKit
attribute [local irreducible] Sem
set_option maxRecDepth 100000
set_option maxHeartbeats 1000000

theorem ownT : ownKnob Tryz.prog.godebug = none := by kernel_rfl
theorem etT : Tryz.prog.globalNamed "errors.errorType" = some 0 := by kernel_rfl
theorem rtT : (Tryz.prog.cutTypes.find? (·.1 == "internal/reflectlite.rtype")).map (·.2) = some 147 := by kernel_rfl
theorem sizeT : Tryz.prog.types.size = 224 := by kernel_rfl
theorem oneRowT : ((List.range 224).filter fun t => Tryz.prog.rowNamed t [101, 114, 114, 111, 114]) = [39] := by kernel_rfl
theorem laidOutT : laidOutB Tryz.prog = true := by kernel_rfl

theorem handle_of_laid {H : Type} {W : World} (h : laidMetH Tryz.prog [("errors.errorType", Rows.laid_errors_errorType)] W) : handle W := by
  have h' : laidMet Tryz.prog [] W ∧ handlesMet Tryz.prog [("errors.errorType", Rows.laid_errors_errorType)] W := h
  obtain ⟨name, u, ty, e1, e2, e3, e4, e5⟩ := h'.2 _ (List.mem_singleton.2 rfl)
  have en : name = [101, 114, 114, 111, 114] := (Option.some.inj e1).symm
  subst en
  obtain rfl := Option.some.inj (rtT.symm.trans e2)
  have hm : ty ∈ (List.range 224).filter fun t => Tryz.prog.rowNamed t [101, 114, 114, 111, 114] := List.mem_filter.2 ⟨List.mem_range.2 (by rw [← sizeT]; exact e3), e4⟩
  rw [oneRowT] at hm
  obtain rfl := List.mem_singleton.1 hm
  have hh : typeHandle Tryz.prog 39 = .pointer (some ⟨1, 39, none⟩) := by kernel_rfl
  rw [hh] at e5
  have hc : W.cell? ⟨0, 0, none⟩ = some (.iface 147 (.agg #[.pointer (some ⟨1, 39, none⟩)])) := by simpa using World.var?_cell etT e5 0
  exact ⟨Nat.lt_of_le_of_lt (Nat.zero_le _) (World.block_lt_of_cell? (a := ⟨0, 0, none⟩) _ hc), hc⟩

noncomputable def laidWorld (os : Os) : World :=
  let w0 := World.holding Tryz.prog os ⟨#[], #[], []⟩
  { w0 with heap := w0.heap.modify 0 fun
      | .cells _ t frozen => .cells #[.iface 147 (.agg #[.pointer (some ⟨1, 39, none⟩)])] t frozen
      | o => o }
theorem laidWorld_met (os : Os) (args : Array Value) : laidMetH Tryz.prog [("errors.errorType", Rows.laid_errors_errorType)] ((laidWorld os).forCall (fun _ _ => 0) ⟨#[], args, []⟩).memory :=
  laidMetH_of_parts (laidMet_nil _ _) (by kernel_rfl)

theorem slice_of {W : World} {b : Nat} {v : Value} (h : Value.okWide Tryz.prog W .any b 22 v) : v.cells.toList = [v] := by
  unfold Value.okWide at h
  rw [Tryz.underlying22] at h
  unfold Cell.okWide at h
  rw [Tryz.underlying22] at h
  cases v <;> first
    | rfl
    | (simp [Cell.ok, Tryz.underlying22] at h)

section
variable (sem4 : ∀ (l m : List De), (∀ a ∈ l, a.Wf) → (∀ a ∈ m, a.Wf) → l.length < 140737488355328 → m.length < 140737488355328 → Sem P 4 [.sl .frozen 15 (l.map De.d), .sl .frozen 15 (m.map De.d)] St.z fun d _ => d = .bool true)
include sem4

theorem law_lifted4 (os : Os) (started : os.Started) (H : Type) (enc : TypeId × Value → H) :
    ReturnsInHanded {} Tryz.checked os 4 .any (fun w args => (Rows.wireOnceSpec.pre enc Tryz.prog Tryz.f4 [] false w args ∧ laidMetH Tryz.prog [("errors.errorType", Rows.laid_errors_errorType)] w) ∧ sizedMet enc Tryz.prog Tryz.f4 (OpenSpec.ofChange Rows.wireOnceSpec) false w args)
      (Rows.wireOnceSpec.post enc Tryz.prog Tryz.f4 false true false false) := by
  refine returnsInHanded_of_change_and (C := Tryz.checked) (X := fun w _ => laidMetH Tryz.prog [("errors.errorType", Rows.laid_errors_errorType)] w) (fun _ _ _ hh h => h.of_heap hh) ownT started (by kernel_rfl) Tryz.func4
    (ChangeSpec.witness_at (enc := enc) (C := Tryz.checked) (os := os) (X := fun w _ => laidMetH Tryz.prog [("errors.errorType", Rows.laid_errors_errorType)] w) false (laidWorld os) #[.slice none 0 0, .slice none 0 0] 8 rfl (by kernel_rfl) (by kernel_rfl) (by kernel_rfl) (by kernel_rfl) (by kernel_rfl) (laidWorld_met os _)) ?_
  intro W base args ds gs before hval0 hW _ hwt hL _
  have hval : ∀ (j : Nat) t v, Tryz.f4.params[j]? = some t → args[j]? = some v → Value.okWide Tryz.prog W .any base t v := hval0
  have hW' := hW
  obtain ⟨p, q, hA0, hV0, rfl, hfz, hnd⟩ := hW
  have hA : DataW.TrodAll enc Tryz.prog W 0 (fun _ => true) true Tryz.f4.params.toList args.toList ds p := hA0
  have hV : DataW.TrodVars enc Tryz.prog W (fun _ => true) [] gs q := hV0
  rw [Tryz.params4] at hA hval
  obtain ⟨v0, v1, d0, d1, p0, p1, rfl, rfl, rfl, h0, h1⟩ := trodAll_two hA
  have hg := handle_of_laid (H := H) hL
  obtain ⟨rfl, rfl⟩ : gs = [] ∧ q = [] := by
    cases gs with
    | nil => exact ⟨rfl, hV⟩
    | cons g r => exact absurd hV (by intro h; cases h)
  have hlt : ∀ x ∈ p0 ++ p1, x.block < W.heap.size := fun x hx => by simpa using hW'.lt x (by simpa using hx)
  have hlt0 : ∀ x ∈ p0, x.block < W.heap.size := fun x hx => hlt x (List.mem_append.2 (.inl hx))
  have hlt1 : ∀ x ∈ p1, x.block < W.heap.size := fun x hx => hlt x (List.mem_append.2 (.inr hx))
  have hww : (DataW.weightsEach Tryz.prog [22, 22] [d0, d1]).all (· ≤ reachBytes) = true := by
    have e0 : Tryz.f4.params.toList ++ DataSpec.varTypes Tryz.checked.prog Rows.wireOnceSpec.plain = [22, 22] := by rw [Tryz.params4]; rfl
    rw [e0] at hwt; exact hwt
  rw [List.all_eq_true] at hww
  have hw0 : wok 22 d0 := fun n hn => by simpa using hww n (by simp [DataW.weightsEach]; exact .inl hn)
  have hw1 : wok 22 d1 := fun n hn => by simpa using hww n (by simp [DataW.weightsEach]; exact .inr hn)
  obtain ⟨l, hv, hl, hwf⟩ := rd_des (hh := hg) h0 hw0 (slice_of (hval 0 22 v0 rfl rfl))
  obtain ⟨m, hv1, hl1, hwf1⟩ := rd_des (hh := hg) h1 hw1 (slice_of (hval 1 22 v1 rfl rfl))
  have hs := (sem4 l m hwf hwf1 hl hl1)
  unfold Sem at hs
  have e1 : Rows.wireOnceSpec.fn H ([d0, d1] ++ []) = { results := [.lit (.bool true)], args := [d0, d1] } := by simp [Rows.wireOnceSpec]
  refine (hs.2 (Gh.of W hg) W [v0, v1] (Inv.of hg) ⟨v0, [v1], rfl, hv, v1, [], rfl, hv1, rfl⟩).mono fun e W' ⟨g', v, d, st', he, hle, hi, hvt, hd⟩ => ?_
  subst hd
  have hv2 : v = .bool true := hvt.bool
  subst he hv2
  have hb : Below W.heap.size W W' := by have := hi.below; rw [hle.base, hle.w0] at this; exact this
  refine ⟨_, rfl, _, _, _, [], p0 ++ p1, [], hW', ?_, ?_, ?_, hb.frame _, fun h => by cases h⟩
  · rw [e1]; exact trodAll_mk1 (shut_bool Tryz.underlying4 true)
  · rw [e1]; exact trodAll_mk2 (Below.trod laidOutT (by kernel_rfl) (of_decide_eq_true (by kernel_rfl)) h0 hb hlt0) (Below.trod laidOutT (by kernel_rfl) (of_decide_eq_true (by kernel_rfl)) h1 hb hlt1)
  · rw [e1]; rfl

theorem wireOnce_said : Rows.WireOnceSaid :=
  OpenClaim.holds_of_wide 4 Tryz.f4 rfl rfl rfl rfl rfl rfl rfl ⟨rfl, rfl, rfl, rfl, rfl⟩ rfl rfl rfl rfl rfl (by kernel_rfl) Tryz.func4 (by kernel_rfl)
    (of_decide_eq_true (by kernel_rfl)) (by unfold Func.isWrapper; rw [if_neg (of_decide_eq_false (by kernel_rfl))]; exact ⟨rfl, rfl⟩)
    (fun os started H enc _ => law_lifted4 sem4 os started H enc)
end
end Go.Proofs.YtddbidoaolnegaaGreatDoor
/- The card of WireOnce, off the walk of its function. No statement of the seat is proved here; no condition. -/
namespace Go.Proofs.YtddbidoaolnegaaGreatDoor
open Go Go.RowKit
attribute [local irreducible] Sem
set_option maxRecDepth 100000
section
variable (sem4 : ∀ (l m : List De), (∀ a ∈ l, a.Wf) → (∀ a ∈ m, a.Wf) → l.length < 140737488355328 → m.length < 140737488355328 → Sem P 4 [.sl .frozen 15 (l.map De.d), .sl .frozen 15 (m.map De.d)] St.z fun d _ => d = .bool true)
include sem4
theorem wireOnce_card : Rows.WireOnceCardSaid :=
  Claim7.holds_tied_plain_at .later [] [.handle] true (true, "55085261a86f5fe901b2da20f8cf5248bf0ea4dbf99983f6d8d74fec112fb746") true
    (wireOnce_said sem4) (fun _ h => by cases h) (by kernel_rfl) (fun _ h => by cases h) wireOnce_row_tie rfl ⟨rfl, rfl⟩ (by kernel_rfl) rfl
    (fun f fn hf hfn => by
      obtain rfl : f = 4 := Option.some.inj ((show Tryz.prog.funcNamed "batten/battenlaw06.WireOnce" = some 4 by kernel_rfl).symm.trans hf) |>.symm
      obtain rfl : fn = Tryz.f4 := (Option.some.inj (Tryz.func4.symm.trans hfn)).symm
      exact ⟨by kernel_rfl, fun j t ht => by
        rw [Tryz.params4] at ht
        have h3 : t = 22 := by
          rcases j with _ | _ | j
          · simpa using ht.symm
          · simpa using ht.symm
          · simp at ht
        subst h3
        exact (show Tryz.prog.wantsStandIn 22 = false by kernel_rfl)⟩)
    (by kernel_rfl)
end
end Go.Proofs.YtddbidoaolnegaaGreatDoor
/-
WireOnce answers true at every two lists of declarations, and leaves them as they were: the tied card, by the program's text. Conditions: those of the given card and no others (the package-level variable errors.errorType starts as the program's text lays it; each string and slice within the form's reach).
-/
namespace Go.Proofs.YtddbidoaolnegaaGreatDoor
open Go Go.RowKit
theorem sem4_true (l m : List De) (hw : ∀ a ∈ l, a.Wf) (hw2 : ∀ a ∈ m, a.Wf) (hl : l.length < 140737488355328) (hm : m.length < 140737488355328) : Sem P 4 [.sl .frozen 15 (l.map De.d), .sl .frozen 15 (m.map De.d)] St.z fun d _ => d = .bool true :=
  sem4 l m hw hw2 hl hm St.z _ fun _ => rfl
theorem wireOnce_proved : Rows.WireOnceCardSaid := wireOnce_card sem4_true
end Go.Proofs.YtddbidoaolnegaaGreatDoor
#print axioms Go.Proofs.YtddbidoaolnegaaGreatDoor.wireOnce_proved
