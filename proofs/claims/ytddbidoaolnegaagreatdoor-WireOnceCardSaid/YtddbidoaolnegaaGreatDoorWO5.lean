/-
PART OF A CLAIM: Q, T, U. No statement of the seat is proved here; no condition. -/
import Derived.Test.YtddbidoaolnegaaGreatDoorProg
import Derived.KernelRfl
import Derived.Test.YtddbidoaolnegaaGreatDoorWO4
set_option linter.all false
/- That the reckoning on abstract values is right: every operation; regions; functions. No statement of the seat is proved here; no condition. -/
namespace Go.Proofs.YtddbidoaolnegaaGreatDoor
open Go Go.RowKit

section ops
variable {P : Program} {M : List Tmp} {n : Nat} {g : Gh} {fr : Fr} {st : St} {w : World} {a : Act} {k : D → Fr → St → Prop}

theorem evOp_sound (hi : Inv g st w) (hf : FRel g n fr a) (o : Oper) (h : evOp P M o.op o.dst fr st k) : Out P n g a ((execOp a.eval o).run P w) k := by
  unfold evOp at h
  split at h
  · rename_i x ho
    exact Out.next hi hf (by simp [execOp, ho]) (ev_ok hf x) h
  · rename_i x ho
    exact Out.next hi hf (by simp [execOp, ho]) (ev_ok hf x) h
  · rename_i ho; exact sound_pick hi hf h o ho
  · rename_i ho; exact sound_box hi hf h o ho
  · rename_i ho; exact sound_alloc hi hf h o ho
  · rename_i ho; exact sound_load hi hf h o ho
  · rename_i ho; exact sound_store hi hf h o ho
  · rename_i ho; exact sound_nilCheck hi hf h o ho
  · rename_i ho; exact sound_bin hi hf h o ho
  · rename_i ho; exact sound_not hi hf h o ho
  · rename_i ho; exact sound_conv hi hf h o ho
  · rename_i ho; exact sound_makeInterface hi hf h o ho
  · rename_i ho; exact sound_makeFunc hi hf h o ho
  · rename_i ho; exact sound_build hi hf h o ho
  · rename_i ho; exact sound_buildSlice (M := M) hi hf o h ho
  · rename_i ho; exact sound_makeMap hi hf h o ho
  · rename_i ho; exact sound_makeSlice hi hf h o ho
  · rename_i ho; exact sound_slice hi hf h o ho
  · rename_i ho; exact sound_fieldAddr hi hf h o ho
  · rename_i ho; exact sound_field hi hf h o ho
  · rename_i ho; exact sound_indexAddr hi hf h o ho
  · rename_i ho; exact sound_index hi hf h o ho
  · rename_i ho; exact sound_lookup hi hf h o ho
  · rename_i ho; exact sound_mapUpdate hi hf h o ho
  · rename_i ho; exact sound_extract hi hf h o ho
  · rename_i c ho
    split at h
    · rename_i b hc; exact sound_builtin hi hf h o hc ho
    · rename_i f hc
      split at h
      · rename_i q x y he
        obtain ⟨h1, h2, h3, h4⟩ := h
        exact sound_call hi hf he h1 h2 h3 h4 o hc ho
      · exact h.elim
    · exact h.elim
  · exact h.elim

/-! Regions. -/
structure RO where
  dst : Option Tmp
  op : Op
  gd : Option (Option Tmp × Bool)
def er (ops : Array Oper) (o : Oper) : RO := ⟨o.dst, o.op, o.guard.map fun g => ((ops[g.1]?).bind (·.dst), g.2)⟩

def putO (fr : Fr) (dst : Option Tmp) (d : D) : Fr := match dst with | some i => Fr.put fr i d | none => fr
def dstOk (n : Nat) (dst : Option Tmp) : Prop := match dst with | some i => i < n | none => True

/-- Is a guarded operation run? -/
def gdv (gd : Option (Option Tmp × Bool)) (fr : Fr) (p q : Prop) : Prop :=
  match gd with
  | none => p
  | some (none, _) => q
  | some (some i, want) => match fr i with
    | .bool b => (b = want → p) ∧ (b = (!want) → q)
    | .tup [] => q
    | _ => False

noncomputable def evL (P : Program) (M : List Tmp) (n : Nat) : List RO → Fr → St → (Fr → St → Prop) → Prop
  | [], fr, st, K => K fr st
  | o :: l, fr, st, K => gdv o.gd fr (evOp P M o.op o.dst fr st fun d fr' st' => dstOk n o.dst ∧ evL P M n l (putO fr' o.dst d) st' K)
      (dstOk n o.dst ∧ evL P M n l (putO fr o.dst (.tup [])) st K)

theorem FRel.putO {g : Gh} {fr : Fr} {a : Act} (x : FRel g n fr a) {dst : Option Tmp} (hi : dstOk n dst) {d : D} {v : Value} (hv : VT g d v) : FRel g n (putO fr dst d) (a.put dst v) := by
  cases dst with
  | none => exact x
  | some i => exact x.put hi hv

theorem wanted_of {ops : Array Oper} {o : Oper} (hf : FRel g n fr a) {p q : Prop} (h : gdv (er ops o).gd fr p q) :
    (Region.wanted o (yielded ops a.tmps) = true ∧ p) ∨ (Region.wanted o (yielded ops a.tmps) = false ∧ q) := by
  unfold er at h
  cases hg : o.guard with
  | none => left; simp only [hg, Option.map_none, gdv] at h; exact ⟨by simp [Region.wanted, hg], h⟩
  | some gd =>
    obtain ⟨j, want⟩ := gd
    simp only [hg, Option.map_some] at h
    cases hd : (ops[j]?).bind (·.dst) with
    | none =>
      right
      simp only [hd, gdv] at h
      exact ⟨by simp [Region.wanted, hg, yielded, hd], h⟩
    | some i =>
      simp only [hd, gdv] at h
      have hs := hf.slot i
      split at h
      · rename_i b hb
        rw [hb] at hs
        have hv := hs.bool
        have hget : a.tmps[i]? = some (.bool b) := by
          rw [Array.getD_eq_getD_getElem?] at hv
          cases he : a.tmps[i]? with
          | none => simp [he, undef] at hv
          | some x => simp [he] at hv; rw [hv]
        by_cases hw : b = want
        · left; exact ⟨by simp [Region.wanted, hg, yielded, hd, hget, hw], h.1 hw⟩
        · right; exact ⟨by simp [Region.wanted, hg, yielded, hd, hget, hw], h.2 (by cases b <;> cases want <;> simp_all)⟩
      · rename_i hb
        rw [hb] at hs
        obtain ⟨arr, hv, _⟩ := hs.tup
        right
        refine ⟨?_, h⟩
        have hget : a.tmps[i]? = none ∨ a.tmps[i]? = some (.tuple arr) := by
          rw [Array.getD_eq_getD_getElem?] at hv
          cases he : a.tmps[i]? with
          | none => exact .inl rfl
          | some x => simp [he] at hv; rw [hv]; exact .inr rfl
        rcases hget with hget | hget <;> simp [Region.wanted, hg, yielded, hd, hget]
      · exact h.elim

theorem evL_sound {ops : Array Oper} {Q : Exit → Fr → St → Prop} {g0 : Gh} : ∀ (idxs : List Nat) (g : Gh) (fr : Fr) (st : St) (a : Act) (w : World), g0.le g → Inv g st w → FRel g n fr a → (∀ i ∈ idxs, i < ops.size) →
    evL P M n (idxs.filterMap fun i => (ops[i]?).map (er ops)) fr st (fun fr st => Q .normal fr st) → wpOps P ops (lift g0 n Q) idxs a w
  | [], g, fr, st, a, w, hl, hi, hf, _, h => ⟨rfl, g, fr, st, hl, hi, hf, h⟩
  | i :: idxs, g, fr, st, a, w, hl, hi, hf, hr, h => by
    have hlt := hr i (by simp)
    have ho : ops[i]? = some ops[i] := by simp [hlt]
    simp only [List.filterMap_cons, ho, Option.map_some, evL] at h
    simp only [wpOps, ho]
    rcases wanted_of hf h with ⟨hw, h⟩ | ⟨hw, h⟩
    · rw [if_pos hw]
      left
      exact (evOp_sound (M := M) hi hf ops[i] h).upon fun g' v d fr' st' w' h1 h2 h3 h4 h5 =>
        evL_sound idxs g' _ st' _ w' (hl.trans h1) h2 (h3.putO h5.1 h4) (fun j hj => hr j (by simp [hj])) h5.2
    · rw [if_neg (by simp [hw])]
      exact evL_sound idxs g _ st _ w hl hi (hf.putO h.1 VT.undef) (fun j hj => hr j (by simp [hj])) h.2

theorem filterMap_range (ops : Array Oper) : (List.range ops.size).filterMap (fun i => (ops[i]?).map (er ops)) = ops.toList.map (er ops) := by
  have : ∀ (l : List Oper) (q : Nat), (∀ j x, l[j]? = some x → ops[q + j]? = some x) → (List.range' q l.length).filterMap (fun i => (ops[i]?).map (er ops)) = l.map (er ops) := by
    intro l
    induction l with
    | nil => intro q _; simp
    | cons x l ih =>
      intro q h
      have h0 := h 0 x rfl
      simp only [Nat.add_zero] at h0
      simp only [List.length_cons, List.range'_succ, List.filterMap_cons, h0, Option.map_some, List.map_cons, List.cons.injEq, true_and]
      exact ih (q + 1) fun j y hy => by rw [show q + 1 + j = q + (j + 1) by omega]; exact h (j + 1) y (by simpa using hy)
  have := this ops.toList 0 (fun j x hx => by simpa using hx)
  simpa [List.range_eq_range'] using this

theorem W.region {id : Nat} {ops : Array Oper} {Q : Exit → Fr → St → Prop} (M : List Tmp) (h : evL P M n (ops.toList.map (er ops)) fr st (fun fr st => Q .normal fr st)) : W P n (.region id ops false) Q fr st := by
  intro g w a hi hf
  refine wp_region (evL_sound (M := M) (List.range ops.size) g fr st a w (Gh.le.refl g) hi hf (fun i hi => List.mem_range.1 hi) ?_)
  rw [filterMap_range]; exact h

theorem W.cond {c : Operand} {x y : Code} {Q : Exit → Fr → St → Prop} (h : (ev fr c).asBool fun b => (b = true → W P n x Q fr st) ∧ (b = false → W P n y Q fr st)) : W P n (.cond c x y) Q fr st := by
  intro g w a hi hf
  obtain ⟨b, hb, h1, h2⟩ := asBool_of h
  have hv := ((ev_ok hf c).of_eq hb).bool
  exact wp_cond_split hv (fun e => h1 e g w a hi hf) (fun e => h2 e g w a hi hf)

/-! Functions. -/
def Fr.args (args : List D) : Fr := fun i => args.getD i .any

def resOne (P : Program) (fr : Fr) (st : St) (r : ResultVar) (k : D → Prop) : Prop :=
  match r with
  | .tmp t => k (fr t)
  | .cell t ty => match fr t with
    | .ptr r o => asCells (st.mem r) fun cs => ldCs (ldTy P ty) cs o k
    | .eptr e o => ldE (ldTy P ty) e o k
    | _ => False
def resAll (P : Program) (fr : Fr) (st : St) : List ResultVar → (List D → Prop) → Prop
  | [], k => k []
  | r :: rs, k => resOne P fr st r fun d => d.fine = true ∧ resAll P fr st rs fun ds => k (d :: ds)
def resD (P : Program) (fr : Fr) (st : St) (rs : List ResultVar) (k : D → Prop) : Prop :=
  match rs with
  | [] => k (.tup [])
  | [r] => resOne P fr st r k
  | rs => resAll P fr st rs fun ds => k (.tup ds)

/-- How the model reads a result. -/
def resF (a : Act) (r : ResultVar) : _root_.Go.Sem Value :=
  match r with
  | .tmp t => pure (a.tmps.getD t undef)
  | .cell t ty => do loadVar ty (← asAddr (a.tmps.getD t undef))

theorem resOne_ok (hi : Inv g st w) (hf : FRel g n fr a) {r : ResultVar} {c : D → Prop} (h : resOne P fr st r c) :
    ∃ d v, c d ∧ (resF a r).run P w = .ok v w ∧ VT g d v := by
  unfold resOne at h
  split at h
  · rename_i t
    exact ⟨_, _, h, rfl, hf.slot t⟩
  · rename_i t ty
    have hs := hf.slot t
    split at h
    · rename_i r o he
      rw [he] at hs
      obtain ⟨cs, hm, hl⟩ := asCells_of h
      obtain ⟨vs, h1, h2, _⟩ := hi.cellsAt hm
      obtain ⟨d, v, hk, hrun, hv⟩ := load_ok (P := P) (q := 0) hl h1 h2
      simp only [Nat.zero_add] at hrun
      exact ⟨d, v, hk, by simp [resF, hs.ptr, asAddr, hrun], hv⟩
    · rename_i e o he
      rw [he] at hs
      obtain ⟨b, p, us, hv, hA, hR⟩ := hs.eptr
      obtain ⟨d, v, hk, hrun, hv'⟩ := loadE_ok (P := P) (q := p) h hR (hi.at hA)
      exact ⟨d, v, hk, by simp [resF, hv, asAddr, hrun], hv'⟩
    · exact h.elim

theorem resAll_ok (hi : Inv g st w) (hf : FRel g n fr a) : ∀ {rs : List ResultVar} {c : List D → Prop}, resAll P fr st rs c →
    ∃ ds vs, c ds ∧ (rs.mapM (m := _root_.Go.Sem) (resF a)).run P w = .ok vs w ∧ V1s g ds vs ∧ vs.length = rs.length
  | [], c, h => ⟨[], [], h, rfl, rfl, rfl⟩
  | r :: rs, c, h => by
    obtain ⟨d, v, ⟨hfine, h⟩, h1, h2⟩ := resOne_ok (P := P) hi hf h
    obtain ⟨ds, vs, hc, h3, h4, h5⟩ := resAll_ok hi hf h
    refine ⟨d :: ds, v :: vs, hc, ?_, ⟨v, vs, rfl, h2.fine hfine, h4⟩, by simp [h5]⟩
    rw [List.mapM_cons]
    simp only [Sem.run_bind, h1, Result.andThen_ok, h3, Sem.run_pure]

/-- What the body must come to. -/
def retQ (P : Program) (fn : Func) (k : D → St → Prop) : Exit → Fr → St → Prop
  | .normal, fr, st => resD P fr st fn.results.toList fun d => k d st
  | .ret, fr, st => resD P fr st fn.results.toList fun d => k d st
  | _, _, _ => False

theorem resD_ok {fn : Func} (hi : Inv g st w) (hf : FRel g n fr a) {c : D → Prop} (h : resD P fr st fn.results.toList c) : ∃ d v, c d ∧ (results fn a.tmps).run P w = .ok v w ∧ VT g d v := by
  have hM : ∀ vs : List Value, (fn.results.toList.mapM (m := _root_.Go.Sem) (resF a)).run P w = .ok vs w →
      (results fn a.tmps).run P w = .ok (if h : vs.toArray.size = 1 then vs.toArray[0] else .tuple vs.toArray) w := by
    intro vs hv
    have hfun : (fun x : ResultVar => match x with | .tmp t => pure (a.tmps.getD t undef) | .cell t ty => do loadVar ty (← asAddr (a.tmps.getD t undef)) : ResultVar → _root_.Go.Sem Value) = resF a := by
      funext r; cases r <;> rfl
    have hres : results fn a.tmps = (do let vs ← fn.results.mapM (resF a); pure (if h : vs.size = 1 then vs[0] else .tuple vs) : _root_.Go.Sem Value) := by
      rw [← hfun]; rfl
    rw [hres, Array.mapM_eq_mapM_toList]
    simp only [Sem.run_bind, Sem.run_map, hv, Result.andThen_ok, Sem.run_pure]
  unfold resD at h
  split at h
  · rename_i hr
    have := hM [] (by rw [hr]; rfl)
    exact ⟨_, _, h, by simpa using this, ⟨#[], rfl, rfl⟩⟩
  · rename_i r hr
    obtain ⟨d, v, hc, h1, h2⟩ := resOne_ok (P := P) hi hf h
    have := hM [v] (by
      rw [hr, List.mapM_cons]
      simp only [List.mapM_nil, Sem.run_bind, h1, Result.andThen_ok, Sem.run_pure])
    exact ⟨d, v, hc, by simpa using this, h2⟩
  · rename_i rs h0 h1
    obtain ⟨ds, vs, hc, h2, h3, h4⟩ := resAll_ok (P := P) hi hf h
    have hne : vs.length ≠ 1 := by
      rw [h4]
      intro hl
      match hrs : fn.results.toList, hl with
      | [r], _ => exact h1 r hrs
    have := hM vs h2
    rw [dif_neg (by simpa using hne)] at this
    exact ⟨_, _, hc, this, ⟨_, rfl, by simpa using h3⟩⟩

theorem Sem.of_body {f : FuncId} {fn : Func} {c : Code} {args : List D} {k : D → St → Prop} (hcall : ∀ ags w, (callFunc f ags).run P w = .ok (.enter f ags) w) (hfn : P.funcs[f]? = some fn) (hb : fn.body = some c) {m : Nat} (hm : fn.ntmps = m) (hargs : args.length ≤ m)
    (h : W P m c (retQ P fn k) (Fr.args args) st) : Sem P f args st k := by
  subst hm
  refine ⟨hcall, fun g w vs hi hv => calls_of_wp hfn hb ?_⟩
  have hlen := hv.length
  have hF : FRel g fn.ntmps (Fr.args args) { tmps := vs.toArray ++ Array.replicate (fn.ntmps - vs.toArray.size) undef, defers := [] } := by
    refine ⟨by simp; omega, rfl, fun i => ?_⟩
    unfold Fr.args
    rcases Nat.lt_or_ge i args.length with hlt | hge
    · have hd : args[i]? = some (args.getD i .any) := by simp [List.getD, hlt]
      obtain ⟨v, hv1, hv2⟩ := hv.get hd
      have : (vs.toArray ++ Array.replicate (fn.ntmps - vs.toArray.size) undef).getD i undef = v := by
        rw [Array.getD_eq_getD_getElem?, Array.getElem?_append_left (by simp; omega)]
        simp [hv1]
      simp only [this]
      exact VT.ofV1 hv2
    · have : args.getD i .any = .any := by simp [List.getD, List.getElem?_eq_none hge]
      rw [this]; trivial
  refine wp_mono (h g w _ hi hF) ?_
  rintro e a' w' ⟨hp, g', fr', st', h1, h2, h3, h4⟩
  cases e with
  | normal =>
    obtain ⟨d, v, hk, hr, hv'⟩ := resD_ok (P := P) (fn := fn) (c := fun d => k d st') h2 h3 h4
    exact ⟨h3.defers, v, hr, g', v, d, st', rfl, h1, h2, hv', hk⟩
  | ret =>
    obtain ⟨d, v, hk, hr, hv'⟩ := resD_ok (P := P) (fn := fn) (c := fun d => k d st') h2 h3 h4
    exact ⟨h3.defers, v, hr, g', v, d, st', rfl, h1, h2, hv', hk⟩
  | exit i => exact h4.elim
  | goto l => cases hp
  | panic c => cases hp
  | outgrown => cases hp

/-- What was laid in passing may be forgotten. -/
theorem Sem.drop {f : FuncId} {args : List D} {k : D → St → Prop} (h : Sem P f args st (fun d st' => ∃ st'', st''.le st' ∧ k d st'')) : Sem P f args st k :=
  ⟨h.1, fun g w vs hi hv => (h.2 g w vs hi hv).mono fun _ _ ⟨g', v, d, st', h1, h2, h3, h4, st'', hle, hk⟩ => ⟨g', v, d, st'', h1, h2, h3.weak hle, h4, hk⟩⟩

/-- A slice may be handed on as one to which nobody appends. -/
theorem VT.frozen {ow : Own} {sz : Nat} {es : List D} {v : Value} (h : VT g (.sl ow sz es) v) : VT g (.sl .frozen sz es) v := by
  refine VT.mkOne ?_ (by simp)
  simp only [R]
  rcases h.sl with ⟨_, h2, oa, _, rfl⟩ | ⟨b, p, cap, rfl, h2, _, h4⟩
  · exact .inl ⟨trivial, h2, oa, trivial, rfl⟩
  · exact .inr ⟨b, p, cap, rfl, h2, trivial, h4⟩
theorem Sem.frozen {f : FuncId} {args : List D} {k : D → St → Prop} {sz : Nat} {es : List D} (h : Sem P f args st (fun d st' => (∃ ow, d = .sl ow sz es) ∧ k (.sl .frozen sz es) st')) : Sem P f args st k :=
  ⟨h.1, fun g w vs hi hv => (h.2 g w vs hi hv).mono fun _ _ ⟨g', v, d, st', h1, h2, h3, h4, ⟨ow, hd⟩, hk⟩ => ⟨g', v, _, st', h1, h2, h3, by subst hd; exact h4.frozen, hk⟩⟩
end ops
end Go.Proofs.YtddbidoaolnegaaGreatDoor
/- Closed facts on the types of the translated program, each asked of the kernel. No statement of the seat is proved here; no condition. Printed by gen_tables.py. -/
namespace Go.Proofs.YtddbidoaolnegaaGreatDoor
open Go
noncomputable abbrev P : Program := Tryz.prog
namespace T
theorem ld3 : ldTy P 3 = some none := by kernel_rfl
theorem ld4 : ldTy P 4 = some none := by kernel_rfl
theorem ld5 : ldTy P 5 = some none := by kernel_rfl
theorem ld9 : ldTy P 9 = some none := by kernel_rfl
theorem ld22 : ldTy P 22 = some none := by kernel_rfl
theorem ld25 : ldTy P 25 = some none := by kernel_rfl
theorem ld26 : ldTy P 26 = some none := by kernel_rfl
theorem ld30 : ldTy P 30 = some none := by kernel_rfl
theorem ld31 : ldTy P 31 = some none := by kernel_rfl
theorem ld33 : ldTy P 33 = some (some 5) := by kernel_rfl
theorem ld34 : ldTy P 34 = some none := by kernel_rfl
theorem ld36 : ldTy P 36 = some (some 15) := by kernel_rfl
theorem ld43 : ldTy P 43 = some none := by kernel_rfl
theorem ld45 : ldTy P 45 = some (some 7) := by kernel_rfl
theorem ld48 : ldTy P 48 = some none := by kernel_rfl
theorem ld54 : ldTy P 54 = some none := by kernel_rfl
theorem ld55 : ldTy P 55 = some none := by kernel_rfl
theorem ld57 : ldTy P 57 = some none := by kernel_rfl
theorem ld60 : ldTy P 60 = some none := by kernel_rfl
theorem ld63 : ldTy P 63 = some none := by kernel_rfl
theorem ld70 : ldTy P 70 = some none := by kernel_rfl
theorem ld72 : ldTy P 72 = some none := by kernel_rfl
theorem ld76 : ldTy P 76 = some (some 4) := by kernel_rfl
theorem ld78 : ldTy P 78 = some (some 5) := by kernel_rfl
theorem ld83 : ldTy P 83 = some (some 6) := by kernel_rfl
theorem ld84 : ldTy P 84 = some none := by kernel_rfl
theorem ld85 : ldTy P 85 = some none := by kernel_rfl
theorem ld87 : ldTy P 87 = some none := by kernel_rfl
theorem ld114 : ldTy P 114 = some none := by kernel_rfl
theorem ld115 : ldTy P 115 = some none := by kernel_rfl
theorem ld136 : ldTy P 136 = some (some 7) := by kernel_rfl
theorem ld137 : ldTy P 137 = some none := by kernel_rfl
theorem ld140 : ldTy P 140 = some (some 9) := by kernel_rfl
theorem ld168 : ldTy P 168 = some none := by kernel_rfl
theorem ld175 : ldTy P 175 = some (some 3) := by kernel_rfl
theorem ld177 : ldTy P 177 = some (some 27) := by kernel_rfl
theorem ld179 : ldTy P 179 = some (some 31) := by kernel_rfl
theorem sz3 : szOf P 3 = some 1 := by kernel_rfl
theorem sz4 : szOf P 4 = some 1 := by kernel_rfl
theorem sz5 : szOf P 5 = some 1 := by kernel_rfl
theorem sz9 : szOf P 9 = some 1 := by kernel_rfl
theorem sz22 : szOf P 22 = some 1 := by kernel_rfl
theorem sz25 : szOf P 25 = some 1 := by kernel_rfl
theorem sz26 : szOf P 26 = some 1 := by kernel_rfl
theorem sz30 : szOf P 30 = some 1 := by kernel_rfl
theorem sz31 : szOf P 31 = some 1 := by kernel_rfl
theorem sz33 : szOf P 33 = some 5 := by kernel_rfl
theorem sz34 : szOf P 34 = some 1 := by kernel_rfl
theorem sz36 : szOf P 36 = some 15 := by kernel_rfl
theorem sz43 : szOf P 43 = some 1 := by kernel_rfl
theorem sz45 : szOf P 45 = some 7 := by kernel_rfl
theorem sz57 : szOf P 57 = some 1 := by kernel_rfl
theorem sz60 : szOf P 60 = some 1 := by kernel_rfl
theorem sz63 : szOf P 63 = some 1 := by kernel_rfl
theorem sz70 : szOf P 70 = some 1 := by kernel_rfl
theorem sz72 : szOf P 72 = some 1 := by kernel_rfl
theorem sz78 : szOf P 78 = some 5 := by kernel_rfl
theorem sz83 : szOf P 83 = some 6 := by kernel_rfl
theorem sz84 : szOf P 84 = some 1 := by kernel_rfl
theorem sz87 : szOf P 87 = some 1 := by kernel_rfl
theorem sz115 : szOf P 115 = some 1 := by kernel_rfl
theorem sz136 : szOf P 136 = some 7 := by kernel_rfl
theorem sz137 : szOf P 137 = some 1 := by kernel_rfl
theorem sz140 : szOf P 140 = some 9 := by kernel_rfl
theorem sz168 : szOf P 168 = some 1 := by kernel_rfl
theorem sz177 : szOf P 177 = some 27 := by kernel_rfl
theorem sz179 : szOf P 179 = some 31 := by kernel_rfl
theorem off33_0 : offOf P 33 0 = some 0 := by kernel_rfl
theorem off33_1 : offOf P 33 1 = some 1 := by kernel_rfl
theorem off33_2 : offOf P 33 2 = some 2 := by kernel_rfl
theorem off33_3 : offOf P 33 3 = some 3 := by kernel_rfl
theorem off33_4 : offOf P 33 4 = some 4 := by kernel_rfl
theorem off36_0 : offOf P 36 0 = some 0 := by kernel_rfl
theorem off36_1 : offOf P 36 1 = some 1 := by kernel_rfl
theorem off36_2 : offOf P 36 2 = some 2 := by kernel_rfl
theorem off36_3 : offOf P 36 3 = some 3 := by kernel_rfl
theorem off36_4 : offOf P 36 4 = some 8 := by kernel_rfl
theorem off36_5 : offOf P 36 5 = some 13 := by kernel_rfl
theorem off36_6 : offOf P 36 6 = some 14 := by kernel_rfl
theorem off45_0 : offOf P 45 0 = some 0 := by kernel_rfl
theorem off45_1 : offOf P 45 1 = some 1 := by kernel_rfl
theorem off45_2 : offOf P 45 2 = some 6 := by kernel_rfl
theorem off52_0 : offOf P 52 0 = some 0 := by kernel_rfl
theorem off52_1 : offOf P 52 1 = some 1 := by kernel_rfl
theorem off59_0 : offOf P 59 0 = some 0 := by kernel_rfl
theorem off59_1 : offOf P 59 1 = some 1 := by kernel_rfl
theorem off62_0 : offOf P 62 0 = some 0 := by kernel_rfl
theorem off62_1 : offOf P 62 1 = some 1 := by kernel_rfl
theorem off65_0 : offOf P 65 0 = some 0 := by kernel_rfl
theorem off65_1 : offOf P 65 1 = some 1 := by kernel_rfl
theorem off67_0 : offOf P 67 0 = some 0 := by kernel_rfl
theorem off67_1 : offOf P 67 1 = some 2 := by kernel_rfl
theorem off67_2 : offOf P 67 2 = some 4 := by kernel_rfl
theorem off67_3 : offOf P 67 3 = some 6 := by kernel_rfl
theorem off67_4 : offOf P 67 4 = some 7 := by kernel_rfl
theorem off67_5 : offOf P 67 5 = some 8 := by kernel_rfl
theorem off74_0 : offOf P 74 0 = some 0 := by kernel_rfl
theorem off74_1 : offOf P 74 1 = some 1 := by kernel_rfl
theorem off74_2 : offOf P 74 2 = some 2 := by kernel_rfl
theorem off74_3 : offOf P 74 3 = some 3 := by kernel_rfl
theorem off74_4 : offOf P 74 4 = some 4 := by kernel_rfl
theorem off78_0 : offOf P 78 0 = some 0 := by kernel_rfl
theorem off78_1 : offOf P 78 1 = some 1 := by kernel_rfl
theorem off83_0 : offOf P 83 0 = some 0 := by kernel_rfl
theorem off83_1 : offOf P 83 1 = some 1 := by kernel_rfl
theorem off89_0 : offOf P 89 0 = some 0 := by kernel_rfl
theorem off89_1 : offOf P 89 1 = some 1 := by kernel_rfl
theorem off89_2 : offOf P 89 2 = some 2 := by kernel_rfl
theorem off89_3 : offOf P 89 3 = some 3 := by kernel_rfl
theorem off117_0 : offOf P 117 0 = some 0 := by kernel_rfl
theorem off117_1 : offOf P 117 1 = some 1 := by kernel_rfl
theorem off127_0 : offOf P 127 0 = some 0 := by kernel_rfl
theorem off127_1 : offOf P 127 1 = some 1 := by kernel_rfl
theorem off127_2 : offOf P 127 2 = some 2 := by kernel_rfl
theorem off127_3 : offOf P 127 3 = some 3 := by kernel_rfl
theorem off136_0 : offOf P 136 0 = some 0 := by kernel_rfl
theorem off136_1 : offOf P 136 1 = some 5 := by kernel_rfl
theorem off136_2 : offOf P 136 2 = some 6 := by kernel_rfl
theorem off177_4 : offOf P 177 4 = some 4 := by kernel_rfl
theorem off179_0 : offOf P 179 0 = some 0 := by kernel_rfl
theorem off179_2 : offOf P 179 2 = some 28 := by kernel_rfl
theorem off179_3 : offOf P 179 3 = some 29 := by kernel_rfl
theorem off179_4 : offOf P 179 4 = some 30 := by kernel_rfl
theorem part136_0 : partOf P 136 0 = some (0, (some 5)) := by kernel_rfl
theorem bld33_0 : bldOf P 33 0 = some (0, 1) := by kernel_rfl
theorem bld36_0 : bldOf P 36 0 = some (0, 1) := by kernel_rfl
theorem bld52_0 : bldOf P 52 0 = some (0, 1) := by kernel_rfl
theorem bld52_1 : bldOf P 52 1 = some (1, 1) := by kernel_rfl
theorem bld67_3 : bldOf P 67 3 = some (6, 1) := by kernel_rfl
theorem bld78_0 : bldOf P 78 0 = some (0, 1) := by kernel_rfl
theorem bld83_0 : bldOf P 83 0 = some (0, 1) := by kernel_rfl
theorem bld89_0 : bldOf P 89 0 = some (0, 1) := by kernel_rfl
theorem bld117_1 : bldOf P 117 1 = some (1, 1) := by kernel_rfl
theorem bld127_0 : bldOf P 127 0 = some (0, 1) := by kernel_rfl
theorem bld136_0 : bldOf P 136 0 = some (0, 5) := by kernel_rfl
theorem bld136_1 : bldOf P 136 1 = some (5, 1) := by kernel_rfl
theorem bld140_4 : bldOf P 140 4 = some (4, 1) := by kernel_rfl
theorem bld140_5 : bldOf P 140 5 = some (5, 1) := by kernel_rfl
theorem bld140_6 : bldOf P 140 6 = some (6, 1) := by kernel_rfl
theorem bld140_7 : bldOf P 140 7 = some (7, 1) := by kernel_rfl
theorem bld140_8 : bldOf P 140 8 = some (8, 1) := by kernel_rfl
theorem bld177_0 : bldOf P 177 0 = some (0, 1) := by kernel_rfl
theorem bld177_1 : bldOf P 177 1 = some (1, 1) := by kernel_rfl
theorem bld177_2 : bldOf P 177 2 = some (2, 1) := by kernel_rfl
theorem bld177_3 : bldOf P 177 3 = some (3, 1) := by kernel_rfl
theorem bld177_5 : bldOf P 177 5 = some (24, 3) := by kernel_rfl
theorem bld179_0 : bldOf P 179 0 = some (0, 27) := by kernel_rfl
theorem bld179_1 : bldOf P 179 1 = some (27, 1) := by kernel_rfl
theorem bld179_2 : bldOf P 179 2 = some (28, 1) := by kernel_rfl
theorem sl3 : slTy P 3 = none := by kernel_rfl
theorem sl5 : slTy P 5 = none := by kernel_rfl
theorem sl9 : slTy P 9 = none := by kernel_rfl
theorem sl22 : slTy P 22 = some 15 := by kernel_rfl
theorem slb22 : slBytes P 22 = some 224 := by kernel_rfl
theorem sl25 : slTy P 25 = some 1 := by kernel_rfl
theorem slb25 : slBytes P 25 = some 1 := by kernel_rfl
theorem sl30 : slTy P 30 = some 5 := by kernel_rfl
theorem slb30 : slBytes P 30 = some 40 := by kernel_rfl
theorem sl31 : slTy P 31 = some 5 := by kernel_rfl
theorem slb31 : slBytes P 31 = some 80 := by kernel_rfl
theorem sl34 : slTy P 34 = some 7 := by kernel_rfl
theorem slb34 : slBytes P 34 = some 120 := by kernel_rfl
theorem sl43 : slTy P 43 = some 6 := by kernel_rfl
theorem slb43 : slBytes P 43 = some 96 := by kernel_rfl
theorem sl57 : slTy P 57 = none := by kernel_rfl
theorem sl60 : slTy P 60 = none := by kernel_rfl
theorem sl63 : slTy P 63 = none := by kernel_rfl
theorem sl70 : slTy P 70 = none := by kernel_rfl
theorem sl72 : slTy P 72 = some 1 := by kernel_rfl
theorem slb72 : slBytes P 72 = some 16 := by kernel_rfl
theorem sl87 : slTy P 87 = some 7 := by kernel_rfl
theorem slb87 : slBytes P 87 = some 96 := by kernel_rfl
theorem sl114 : slTy P 114 = none := by kernel_rfl
theorem sl115 : slTy P 115 = some 31 := by kernel_rfl
theorem slb115 : slBytes P 115 = some 256 := by kernel_rfl
theorem sl164 : slTy P 164 = some 1 := by kernel_rfl
theorem slb164 : slBytes P 164 = some 8 := by kernel_rfl
theorem sl177 : slTy P 177 = none := by kernel_rfl
theorem sl193 : slTy P 193 = some 1 := by kernel_rfl
theorem slb193 : slBytes P 193 = some 8 := by kernel_rfl
theorem ar76 : arTy P 76 = some (4, 1) := by kernel_rfl
theorem are76 : arEl P 76 = some none := by kernel_rfl
theorem ar140 : arTy P 140 = some (9, 1) := by kernel_rfl
theorem are140 : arEl P 140 = some none := by kernel_rfl
theorem ar174 : arTy P 174 = some (4, 5) := by kernel_rfl
theorem ar175 : arTy P 175 = some (3, 1) := by kernel_rfl
theorem are175 : arEl P 175 = some none := by kernel_rfl
theorem mp57 : mapTy P 57 = some (9, 3) := by kernel_rfl
theorem mp60 : mapTy P 60 = some (78, 3) := by kernel_rfl
theorem mp63 : mapTy P 63 = some (3, 3) := by kernel_rfl
theorem mp114 : mapTy P 114 = some (177, 3) := by kernel_rfl
theorem zero3 : zeroD P 3 = some (.int .i64 0) := by kernel_rfl
theorem zero4 : zeroD P 4 = some (.bool false) := by kernel_rfl
theorem zero5 : zeroD P 5 = some (.int .u8 0) := by kernel_rfl
theorem zero9 : zeroD P 9 = some (.str []) := by kernel_rfl
theorem zero22 : zeroD P 22 = some (.sl .nil 0 []) := by kernel_rfl
theorem zero25 : zeroD P 25 = some (.sl .nil 0 []) := by kernel_rfl
theorem zero33 : zeroD P 33 = some (.agg [.int .u8 0, .int .i64 0, .str [], .sl .nil 0 [], .sl .nil 0 []]) := by kernel_rfl
theorem zero36 : zeroD P 36 = some (.agg [.int .u8 0, .int .i64 0, .str [], .int .u8 0, .int .i64 0, .str [], .sl .nil 0 [], .sl .nil 0 [], .int .u8 0, .int .i64 0, .str [], .sl .nil 0 [], .sl .nil 0 [], .int .i64 0, .sl .nil 0 []]) := by kernel_rfl
theorem zero45 : zeroD P 45 = some (.agg [.str [], .int .u8 0, .int .i64 0, .str [], .sl .nil 0 [], .sl .nil 0 [], .sl .nil 0 []]) := by kernel_rfl
theorem zero48 : zeroD P 48 = some (.nilptr) := by kernel_rfl
theorem zero52 : zeroD P 52 = some (.agg [.int .i64 0, .int .i64 0]) := by kernel_rfl
theorem zero67 : zeroD P 67 = some (.agg [.nilmap, .sl .nil 0 [], .nilmap, .sl .nil 0 [], .nilmap, .sl .nil 0 [], .nilptr, .sl .nil 0 [], .bool false]) := by kernel_rfl
theorem zero70 : zeroD P 70 = some (.int .u64 0) := by kernel_rfl
theorem zero74 : zeroD P 74 = some (.agg [.sl .nil 0 [], .sl .nil 0 [], .sl .nil 0 [], .sl .nil 0 [], .sl .nil 0 []]) := by kernel_rfl
theorem zero78 : zeroD P 78 = some (.agg [.int .i64 0, .int .i64 0, .int .i64 0, .int .i64 0, .int .i64 0]) := by kernel_rfl
theorem zero83 : zeroD P 83 = some (.agg [.str [], .int .u8 0, .int .i64 0, .str [], .sl .nil 0 [], .sl .nil 0 []]) := by kernel_rfl
theorem zero84 : zeroD P 84 = some (.nilptr) := by kernel_rfl
theorem zero89 : zeroD P 89 = some (.agg [.nilptr, .sl .nil 0 [], .sl .nil 0 [], .sl .nil 0 []]) := by kernel_rfl
theorem zero117 : zeroD P 117 = some (.agg [.sl .nil 0 [], .nilmap]) := by kernel_rfl
theorem zero127 : zeroD P 127 = some (.agg [.sl .nil 0 [], .int .i64 0, .int .i64 0, .int .i64 0]) := by kernel_rfl
theorem zero136 : zeroD P 136 = some (.agg [.int .u8 0, .int .i64 0, .str [], .sl .nil 0 [], .sl .nil 0 [], .int .i64 0, .int .i64 0]) := by kernel_rfl
theorem zero137 : zeroD P 137 = some (.nilptr) := by kernel_rfl
theorem zero140 : zeroD P 140 = some (.agg [.int .i64 0, .int .i64 0, .int .i64 0, .int .i64 0, .int .i64 0, .int .i64 0, .int .i64 0, .int .i64 0, .int .i64 0]) := by kernel_rfl
theorem zero168 : zeroD P 168 = some (.nilfn) := by kernel_rfl
theorem zero175 : zeroD P 175 = some (.agg [.int .i64 0, .int .i64 0, .int .i64 0]) := by kernel_rfl
theorem zero177 : zeroD P 177 = some (.agg [.int .u8 0, .int .i64 0, .str [], .int .i64 0, .int .i64 0, .int .i64 0, .int .i64 0, .int .i64 0, .int .i64 0, .int .i64 0, .int .i64 0, .int .i64 0, .int .i64 0, .int .i64 0, .int .i64 0, .int .i64 0, .int .i64 0, .int .i64 0, .int .i64 0, .int .i64 0, .int .i64 0, .int .i64 0, .int .i64 0, .int .i64 0, .int .i64 0, .int .i64 0, .int .i64 0]) := by kernel_rfl
theorem zero179 : zeroD P 179 = some (.agg [.int .u8 0, .int .i64 0, .str [], .int .i64 0, .int .i64 0, .int .i64 0, .int .i64 0, .int .i64 0, .int .i64 0, .int .i64 0, .int .i64 0, .int .i64 0, .int .i64 0, .int .i64 0, .int .i64 0, .int .i64 0, .int .i64 0, .int .i64 0, .int .i64 0, .int .i64 0, .int .i64 0, .int .i64 0, .int .i64 0, .int .i64 0, .int .i64 0, .int .i64 0, .int .i64 0, .int .i64 0, .int .i64 0, .int .i64 0, .int .i64 0]) := by kernel_rfl
theorem st33 : structOk P 33 = true := by kernel_rfl
theorem st36 : structOk P 36 = true := by kernel_rfl
theorem st52 : structOk P 52 = true := by kernel_rfl
theorem st67 : structOk P 67 = true := by kernel_rfl
theorem st74 : structOk P 74 = true := by kernel_rfl
theorem st78 : structOk P 78 = true := by kernel_rfl
theorem st83 : structOk P 83 = true := by kernel_rfl
theorem st89 : structOk P 89 = true := by kernel_rfl
theorem st117 : structOk P 117 = true := by kernel_rfl
theorem st127 : structOk P 127 = true := by kernel_rfl
theorem st136 : structOk P 136 = true := by kernel_rfl
theorem st140 : structOk P 140 = true := by kernel_rfl
theorem st177 : structOk P 177 = true := by kernel_rfl
theorem st179 : structOk P 179 = true := by kernel_rfl
theorem int3 : intTy P 3 = some .i64 := by kernel_rfl
theorem int5 : intTy P 5 = some .u8 := by kernel_rfl
theorem int9 : intTy P 9 = none := by kernel_rfl
theorem int25 : intTy P 25 = none := by kernel_rfl
theorem int70 : intTy P 70 = some .u64 := by kernel_rfl
theorem und3 : (P.underlying 3).isSome = true := by kernel_rfl
theorem und5 : (P.underlying 5).isSome = true := by kernel_rfl
theorem und9 : (P.underlying 9).isSome = true := by kernel_rfl
theorem und25 : (P.underlying 25).isSome = true := by kernel_rfl
theorem und26 : (P.underlying 26).isSome = true := by kernel_rfl
theorem und48 : (P.underlying 48).isSome = true := by kernel_rfl
theorem und50 : (P.underlying 50).isSome = true := by kernel_rfl
theorem und70 : (P.underlying 70).isSome = true := by kernel_rfl
theorem str3 : isStr P 3 = false := by kernel_rfl
theorem str4 : isStr P 4 = false := by kernel_rfl
theorem str5 : isStr P 5 = false := by kernel_rfl
theorem str9 : isStr P 9 = true := by kernel_rfl
theorem str22 : isStr P 22 = false := by kernel_rfl
theorem str25 : isStr P 25 = false := by kernel_rfl
theorem str26 : isStr P 26 = false := by kernel_rfl
theorem str30 : isStr P 30 = false := by kernel_rfl
theorem str31 : isStr P 31 = false := by kernel_rfl
theorem str34 : isStr P 34 = false := by kernel_rfl
theorem str39 : isStr P 39 = false := by kernel_rfl
theorem str43 : isStr P 43 = false := by kernel_rfl
theorem str48 : isStr P 48 = false := by kernel_rfl
theorem str55 : isStr P 55 = false := by kernel_rfl
theorem str57 : isStr P 57 = false := by kernel_rfl
theorem str60 : isStr P 60 = false := by kernel_rfl
theorem str63 : isStr P 63 = false := by kernel_rfl
theorem str70 : isStr P 70 = false := by kernel_rfl
theorem str72 : isStr P 72 = false := by kernel_rfl
theorem str78 : isStr P 78 = false := by kernel_rfl
theorem str85 : isStr P 85 = false := by kernel_rfl
theorem str87 : isStr P 87 = false := by kernel_rfl
theorem str114 : isStr P 114 = false := by kernel_rfl
theorem str115 : isStr P 115 = false := by kernel_rfl
theorem str164 : isStr P 164 = false := by kernel_rfl
theorem str177 : isStr P 177 = false := by kernel_rfl
theorem str193 : isStr P 193 = false := by kernel_rfl
theorem byt3 : isBytes P 3 = false := by kernel_rfl
theorem byt5 : isBytes P 5 = false := by kernel_rfl
theorem byt9 : isBytes P 9 = false := by kernel_rfl
theorem byt25 : isBytes P 25 = true := by kernel_rfl
theorem byt70 : isBytes P 70 = false := by kernel_rfl
theorem ptr3 : isPtrTy P 3 = false := by kernel_rfl
theorem ptr4 : isPtrTy P 4 = false := by kernel_rfl
theorem ptr5 : isPtrTy P 5 = false := by kernel_rfl
theorem ptr9 : isPtrTy P 9 = false := by kernel_rfl
theorem ptr25 : isPtrTy P 25 = false := by kernel_rfl
theorem ptr26 : isPtrTy P 26 = false := by kernel_rfl
theorem ptr39 : isPtrTy P 39 = false := by kernel_rfl
theorem ptr48 : isPtrTy P 48 = true := by kernel_rfl
theorem ptr55 : isPtrTy P 55 = true := by kernel_rfl
theorem ptr57 : isPtrTy P 57 = false := by kernel_rfl
theorem ptr60 : isPtrTy P 60 = false := by kernel_rfl
theorem ptr63 : isPtrTy P 63 = false := by kernel_rfl
theorem ptr78 : isPtrTy P 78 = false := by kernel_rfl
theorem ptr85 : isPtrTy P 85 = true := by kernel_rfl
theorem if3 : isIfTy P 3 = false := by kernel_rfl
theorem if4 : isIfTy P 4 = false := by kernel_rfl
theorem if5 : isIfTy P 5 = false := by kernel_rfl
theorem if9 : isIfTy P 9 = false := by kernel_rfl
theorem if25 : isIfTy P 25 = false := by kernel_rfl
theorem if26 : isIfTy P 26 = false := by kernel_rfl
theorem if39 : isIfTy P 39 = true := by kernel_rfl
theorem if48 : isIfTy P 48 = false := by kernel_rfl
theorem if50 : isIfTy P 50 = false := by kernel_rfl
theorem if55 : isIfTy P 55 = false := by kernel_rfl
theorem if57 : isIfTy P 57 = false := by kernel_rfl
theorem if60 : isIfTy P 60 = false := by kernel_rfl
theorem if63 : isIfTy P 63 = false := by kernel_rfl
theorem if78 : isIfTy P 78 = false := by kernel_rfl
theorem if85 : isIfTy P 85 = false := by kernel_rfl
theorem ibt4 : isBoolTy P 4 = true := by kernel_rfl
theorem isl3 : isSlTy P 3 = false := by kernel_rfl
theorem isl4 : isSlTy P 4 = false := by kernel_rfl
theorem isl5 : isSlTy P 5 = false := by kernel_rfl
theorem isl9 : isSlTy P 9 = false := by kernel_rfl
theorem isl22 : isSlTy P 22 = true := by kernel_rfl
theorem isl25 : isSlTy P 25 = true := by kernel_rfl
theorem isl26 : isSlTy P 26 = false := by kernel_rfl
theorem isl30 : isSlTy P 30 = true := by kernel_rfl
theorem isl31 : isSlTy P 31 = true := by kernel_rfl
theorem isl34 : isSlTy P 34 = true := by kernel_rfl
theorem isl39 : isSlTy P 39 = false := by kernel_rfl
theorem isl43 : isSlTy P 43 = true := by kernel_rfl
theorem isl48 : isSlTy P 48 = false := by kernel_rfl
theorem isl55 : isSlTy P 55 = false := by kernel_rfl
theorem isl57 : isSlTy P 57 = false := by kernel_rfl
theorem isl60 : isSlTy P 60 = false := by kernel_rfl
theorem isl63 : isSlTy P 63 = false := by kernel_rfl
theorem isl72 : isSlTy P 72 = true := by kernel_rfl
theorem isl78 : isSlTy P 78 = false := by kernel_rfl
theorem isl85 : isSlTy P 85 = false := by kernel_rfl
theorem isl87 : isSlTy P 87 = true := by kernel_rfl
theorem isl114 : isSlTy P 114 = false := by kernel_rfl
theorem isl115 : isSlTy P 115 = true := by kernel_rfl
theorem isl164 : isSlTy P 164 = true := by kernel_rfl
theorem isl177 : isSlTy P 177 = false := by kernel_rfl
theorem isl193 : isSlTy P 193 = true := by kernel_rfl
theorem imp3 : isMapTy P 3 = false := by kernel_rfl
theorem imp4 : isMapTy P 4 = false := by kernel_rfl
theorem imp5 : isMapTy P 5 = false := by kernel_rfl
theorem imp9 : isMapTy P 9 = false := by kernel_rfl
theorem imp22 : isMapTy P 22 = false := by kernel_rfl
theorem imp25 : isMapTy P 25 = false := by kernel_rfl
theorem imp26 : isMapTy P 26 = false := by kernel_rfl
theorem imp30 : isMapTy P 30 = false := by kernel_rfl
theorem imp31 : isMapTy P 31 = false := by kernel_rfl
theorem imp34 : isMapTy P 34 = false := by kernel_rfl
theorem imp39 : isMapTy P 39 = false := by kernel_rfl
theorem imp43 : isMapTy P 43 = false := by kernel_rfl
theorem imp48 : isMapTy P 48 = false := by kernel_rfl
theorem imp55 : isMapTy P 55 = false := by kernel_rfl
theorem imp57 : isMapTy P 57 = true := by kernel_rfl
theorem imp60 : isMapTy P 60 = true := by kernel_rfl
theorem imp63 : isMapTy P 63 = true := by kernel_rfl
theorem imp72 : isMapTy P 72 = false := by kernel_rfl
theorem imp78 : isMapTy P 78 = false := by kernel_rfl
theorem imp85 : isMapTy P 85 = false := by kernel_rfl
theorem imp87 : isMapTy P 87 = false := by kernel_rfl
theorem imp114 : isMapTy P 114 = true := by kernel_rfl
theorem imp115 : isMapTy P 115 = false := by kernel_rfl
theorem imp164 : isMapTy P 164 = false := by kernel_rfl
theorem imp177 : isMapTy P 177 = false := by kernel_rfl
theorem imp193 : isMapTy P 193 = false := by kernel_rfl
end T
attribute [go_sem] T.ibt4 T.ld3 T.ld4 T.ld5 T.ld9 T.ld22 T.ld25 T.ld26 T.ld30 T.ld31 T.ld33 T.ld34 T.ld36 T.ld43 T.ld45 T.ld48 T.ld54 T.ld55 T.ld57 T.ld60 T.ld63 T.ld70 T.ld72 T.ld76 T.ld78 T.ld83 T.ld84 T.ld85 T.ld87 T.ld114 T.ld115 T.ld136 T.ld137 T.ld140 T.ld168 T.ld175 T.ld177 T.ld179 T.sz3 T.sz4 T.sz5 T.sz9 T.sz22 T.sz25 T.sz26 T.sz30 T.sz31 T.sz33 T.sz34 T.sz36 T.sz43 T.sz45 T.sz57 T.sz60 T.sz63 T.sz70 T.sz72 T.sz78 T.sz83 T.sz84 T.sz87 T.sz115 T.sz136 T.sz137 T.sz140 T.sz168 T.sz177 T.sz179 T.off33_0 T.off33_1 T.off33_2 T.off33_3 T.off33_4 T.off36_0 T.off36_1 T.off36_2 T.off36_3 T.off36_4 T.off36_5 T.off36_6 T.off45_0 T.off45_1 T.off45_2 T.off52_0 T.off52_1 T.off59_0 T.off59_1 T.off62_0 T.off62_1 T.off65_0 T.off65_1 T.off67_0 T.off67_1 T.off67_2 T.off67_3 T.off67_4 T.off67_5 T.off74_0 T.off74_1 T.off74_2 T.off74_3 T.off74_4 T.off78_0 T.off78_1 T.off83_0 T.off83_1 T.off89_0 T.off89_1 T.off89_2 T.off89_3 T.off117_0 T.off117_1 T.off127_0 T.off127_1 T.off127_2 T.off127_3 T.off136_0 T.off136_1 T.off136_2 T.off177_4 T.off179_0 T.off179_2 T.off179_3 T.off179_4 T.part136_0 T.bld33_0 T.bld36_0 T.bld52_0 T.bld52_1 T.bld67_3 T.bld78_0 T.bld83_0 T.bld89_0 T.bld117_1 T.bld127_0 T.bld136_0 T.bld136_1 T.bld140_4 T.bld140_5 T.bld140_6 T.bld140_7 T.bld140_8 T.bld177_0 T.bld177_1 T.bld177_2 T.bld177_3 T.bld177_5 T.bld179_0 T.bld179_1 T.bld179_2 T.sl3 T.sl5 T.sl9 T.sl22 T.slb22 T.sl25 T.slb25 T.sl30 T.slb30 T.sl31 T.slb31 T.sl34 T.slb34 T.sl43 T.slb43 T.sl57 T.sl60 T.sl63 T.sl70 T.sl72 T.slb72 T.sl87 T.slb87 T.sl114 T.sl115 T.slb115 T.sl164 T.slb164 T.sl177 T.sl193 T.slb193 T.ar76 T.are76 T.ar140 T.are140 T.ar174 T.ar175 T.are175 T.mp57 T.mp60 T.mp63 T.mp114 T.zero3 T.zero4 T.zero5 T.zero9 T.zero22 T.zero25 T.zero33 T.zero36 T.zero45 T.zero48 T.zero52 T.zero67 T.zero70 T.zero74 T.zero78 T.zero83 T.zero84 T.zero89 T.zero117 T.zero127 T.zero136 T.zero137 T.zero140 T.zero168 T.zero175 T.zero177 T.zero179 T.st33 T.st36 T.st52 T.st67 T.st74 T.st78 T.st83 T.st89 T.st117 T.st127 T.st136 T.st140 T.st177 T.st179 T.int3 T.int5 T.int9 T.int25 T.int70 T.und3 T.und5 T.und9 T.und25 T.und26 T.und48 T.und50 T.und70 T.str3 T.str4 T.str5 T.str9 T.str22 T.str25 T.str26 T.str30 T.str31 T.str34 T.str39 T.str43 T.str48 T.str55 T.str57 T.str60 T.str63 T.str70 T.str72 T.str78 T.str85 T.str87 T.str114 T.str115 T.str164 T.str177 T.str193 T.byt3 T.byt5 T.byt9 T.byt25 T.byt70 T.ptr3 T.ptr4 T.ptr5 T.ptr9 T.ptr25 T.ptr26 T.ptr39 T.ptr48 T.ptr55 T.ptr57 T.ptr60 T.ptr63 T.ptr78 T.ptr85 T.if3 T.if4 T.if5 T.if9 T.if25 T.if26 T.if39 T.if48 T.if50 T.if55 T.if57 T.if60 T.if63 T.if78 T.if85 T.isl3 T.isl4 T.isl5 T.isl9 T.isl22 T.isl25 T.isl26 T.isl30 T.isl31 T.isl34 T.isl39 T.isl43 T.isl48 T.isl55 T.isl57 T.isl60 T.isl63 T.isl72 T.isl78 T.isl85 T.isl87 T.isl114 T.isl115 T.isl164 T.isl177 T.isl193 T.imp3 T.imp4 T.imp5 T.imp9 T.imp22 T.imp25 T.imp26 T.imp30 T.imp31 T.imp34 T.imp39 T.imp43 T.imp48 T.imp55 T.imp57 T.imp60 T.imp63 T.imp72 T.imp78 T.imp85 T.imp87 T.imp114 T.imp115 T.imp164 T.imp177 T.imp193
end Go.Proofs.YtddbidoaolnegaaGreatDoor
/- How the walks go on: rules with the rest of the code out of sight; what the simplifier may use. No statement of the seat is proved here; no condition. -/
namespace Go.Proofs.YtddbidoaolnegaaGreatDoor
open Go Go.RowKit

section rules
variable {P : Program} {n : Nat} {Q : Exit → Fr → St → Prop} {fr : Fr} {st : St}

/-- What is to be shown of the rest of the code, out of sight. -/
structure Goes (P : Program) (n : Nat) (y : Code) (Q : Exit → Fr → St → Prop) (N : Fr → St → Prop) : Prop where
  go : ∀ fr st, W P n y Q fr st → N fr st
/-- The invariant at a smaller measure. -/
structure Ih (I : Nat → Fr → St → Prop) (m : Nat) (N : Fr → St → Prop) : Prop where
  back : ∀ m', m' < m → ∀ fr st, I m' fr st → N fr st

theorem W.seqG {x y : Code} (h : ∀ N : Fr → St → Prop, Goes P n y Q N → W P n x (thenQ N Q) fr st) : W P n (.seq x y) Q fr st :=
  W.seq (h _ ⟨fun _ _ h => h⟩)

/-- A loop whose invariant counts down. -/
theorem W.loopN {c : Code} (I : Nat → Fr → St → Prop) (h : ∀ (m : Nat) (N : Fr → St → Prop), Ih I m N → ∀ fr st, I m fr st → W P n c (thenQ N Q) fr st) :
    ∀ m fr st, I m fr st → W P n (.loop c) Q fr st := by
  intro m
  induction m using Nat.strongRecOn with
  | ind m ih => intro fr st hI; exact W.loop (h m _ ⟨ih⟩ fr st hI)

theorem thenQ_normal {N : Fr → St → Prop} : thenQ N Q .normal fr st = N fr st := rfl
theorem thenQ_exit {N : Fr → St → Prop} {i : Nat} : thenQ N Q (.exit i) fr st = Q (.exit i) fr st := rfl
theorem thenQ_ret {N : Fr → St → Prop} : thenQ N Q .ret fr st = Q .ret fr st := rfl
theorem blockQ_normal {i : Nat} : blockQ i Q .normal fr st = Q .normal fr st := rfl
theorem blockQ_ret {i : Nat} : blockQ i Q .ret fr st = Q .ret fr st := rfl
theorem blockQ_exit {i j : Nat} : blockQ i Q (.exit j) fr st = if j = i then Q .normal fr st else Q (.exit j) fr st := rfl
theorem retQ_ret {fn : Func} {k : D → St → Prop} : retQ P fn k .ret fr st = resD P fr st fn.results.toList fun d => k d st := rfl
theorem retQ_normal {fn : Func} {k : D → St → Prop} : retQ P fn k .normal fr st = resD P fr st fn.results.toList fun d => k d st := rfl
end rules

theorem Fr.put_at (fr : Fr) (i j : Nat) (d : D) : Fr.put fr i d j = if j = i then d else fr j := rfl

/-- A guard's value decides which way; the ways themselves are not looked at before. -/
def gdD (d : D) (want : Bool) (p q : Prop) : Prop :=
  match d with
  | .bool b => (b = want → p) ∧ (b = (!want) → q)
  | .tup [] => q
  | _ => False
theorem gdv_none (fr : Fr) (p q : Prop) : gdv none fr p q = p := rfl
theorem gdv_gone (fr : Fr) (w : Bool) (p q : Prop) : gdv (some (none, w)) fr p q = q := rfl
theorem gdv_some (fr : Fr) (i : Nat) (w : Bool) (p q : Prop) : gdv (some (some i, w)) fr p q = gdD (fr i) w p q := rfl
theorem gdD_tt (p q : Prop) : gdD (.bool true) true p q = p := by simp [gdD]
theorem gdD_ff (p q : Prop) : gdD (.bool false) false p q = p := by simp [gdD]
theorem gdD_tf (p q : Prop) : gdD (.bool true) false p q = q := by simp [gdD]
theorem gdD_ft (p q : Prop) : gdD (.bool false) true p q = q := by simp [gdD]
theorem gdD_tup (w : Bool) (p q : Prop) : gdD (.tup []) w p q = q := rfl
theorem gdD_congr {d d' : D} {w w' : Bool} {p q : Prop} (h : d = d') (h2 : w = w') : gdD d w p q = gdD d' w' p q := by rw [h, h2]
attribute [congr] gdD_congr
theorem gdD_split {b w : Bool} {p q : Prop} (hp : b = w → p) (hq : b = (!w) → q) : gdD (.bool b) w p q := ⟨hp, hq⟩
theorem gdv_congr {gd gd' : Option (Option Tmp × Bool)} {fr : Fr} {p q : Prop} (h : gd = gd') : gdv gd fr p q = gdv gd' fr p q := by rw [h]
attribute [congr] gdv_congr
theorem put_congr {fr : Fr} {i i' : Nat} {d d' : D} (hi : i = i') (h : d = d') : Fr.put fr i d = Fr.put fr i' d' := by rw [hi, h]
attribute [congr] put_congr
theorem putO_congr {fr : Fr} {o o' : Option Tmp} {d d' : D} (hi : o = o') (h : d = d') : putO fr o d = putO fr o' d' := by rw [hi, h]
attribute [congr] putO_congr
theorem newT_intro {st : St} {k : Nat → Prop} (h : ∀ j, st.tok j = false → k j) : newT st k := h
theorem newB_intro {st : St} {k : Nat → Prop} (h : ∀ r, st.mem r = none → k r) : newB st k := h
theorem forall_nil {α : Type} (p : α → Prop) : (∀ x ∈ ([] : List α), p x) ↔ True := by simp
theorem ev_tmp (fr : Fr) (t : Nat) : ev fr (.tmp t) = fr t := rfl
theorem ev_const (fr : Fr) (v : Value) : ev fr (.const v) = ofV v := rfl
theorem ev_global (fr : Fr) (g) : ev fr (.global g) = .ptr g 0 := rfl
theorem ev_func (fr : Fr) (f : FuncId) : ev fr (.func f) = .fn f [] [] := rfl
theorem args_at (l : List D) (i : Nat) : Fr.args l i = l.getD i .any := rfl
theorem fine_bool {b : Bool} : (D.bool b).fine = true := rfl
theorem flat_bool {b : Bool} : (D.bool b).flat = true := rfl
theorem cells_bool {b : Bool} : (D.bool b).cells = [(D.bool b)] := rfl
theorem fine_int {k : IntKind} {n : Int} : (D.int k n).fine = true := rfl
theorem flat_int {k : IntKind} {n : Int} : (D.int k n).flat = true := rfl
theorem cells_int {k : IntKind} {n : Int} : (D.int k n).cells = [(D.int k n)] := rfl
theorem fine_str {s : List UInt8} : (D.str s).fine = true := rfl
theorem flat_str {s : List UInt8} : (D.str s).flat = true := rfl
theorem cells_str {s : List UInt8} : (D.str s).cells = [(D.str s)] := rfl
theorem fine_ptr {r o : Nat} : (D.ptr r o).fine = true := rfl
theorem flat_ptr {r o : Nat} : (D.ptr r o).flat = true := rfl
theorem cells_ptr {r o : Nat} : (D.ptr r o).cells = [(D.ptr r o)] := rfl
theorem fine_nilptr  : D.nilptr.fine = true := rfl
theorem flat_nilptr  : D.nilptr.flat = true := rfl
theorem cells_nilptr  : D.nilptr.cells = [D.nilptr] := rfl
theorem fine_eptr {e : D} {o : Nat} : (D.eptr e o).fine = true := rfl
theorem flat_eptr {e : D} {o : Nat} : (D.eptr e o).flat = true := rfl
theorem cells_eptr {e : D} {o : Nat} : (D.eptr e o).cells = [(D.eptr e o)] := rfl
theorem fine_sl {ow : Own} {sz : Nat} {es : List D} : (D.sl ow sz es).fine = true := rfl
theorem flat_sl {ow : Own} {sz : Nat} {es : List D} : (D.sl ow sz es).flat = true := rfl
theorem cells_sl {ow : Own} {sz : Nat} {es : List D} : (D.sl ow sz es).cells = [(D.sl ow sz es)] := rfl
theorem fine_msl {r o n sz : Nat} : (D.msl r o n sz).fine = true := rfl
theorem flat_msl {r o n sz : Nat} : (D.msl r o n sz).flat = true := rfl
theorem cells_msl {r o n sz : Nat} : (D.msl r o n sz).cells = [(D.msl r o n sz)] := rfl
theorem fine_map {r : Nat} : (D.map r).fine = true := rfl
theorem flat_map {r : Nat} : (D.map r).flat = true := rfl
theorem cells_map {r : Nat} : (D.map r).cells = [(D.map r)] := rfl
theorem fine_nilmap  : D.nilmap.fine = true := rfl
theorem flat_nilmap  : D.nilmap.flat = true := rfl
theorem cells_nilmap  : D.nilmap.cells = [D.nilmap] := rfl
theorem fine_fn {f : FuncId} {a b : List D} : (D.fn f a b).fine = true := rfl
theorem flat_fn {f : FuncId} {a b : List D} : (D.fn f a b).flat = true := rfl
theorem cells_fn {f : FuncId} {a b : List D} : (D.fn f a b).cells = [(D.fn f a b)] := rfl
theorem fine_nilfn  : D.nilfn.fine = true := rfl
theorem flat_nilfn  : D.nilfn.flat = true := rfl
theorem cells_nilfn  : D.nilfn.cells = [D.nilfn] := rfl
theorem fine_iface {t : TypeId} {v : D} : (D.iface t v).fine = true := rfl
theorem flat_iface {t : TypeId} {v : D} : (D.iface t v).flat = true := rfl
theorem cells_iface {t : TypeId} {v : D} : (D.iface t v).cells = [(D.iface t v)] := rfl
theorem fine_niliface  : D.niliface.fine = true := rfl
theorem flat_niliface  : D.niliface.flat = true := rfl
theorem cells_niliface  : D.niliface.cells = [D.niliface] := rfl
theorem fine_agg {cs : List D} : (D.agg cs).fine = true := rfl
theorem flat_agg {cs : List D} : (D.agg cs).flat = false := rfl
theorem cells_agg {cs : List D} : (D.agg cs).cells = cs := rfl
theorem fine_tup {vs : List D} : (D.tup vs).fine = false := rfl
theorem flat_tup {vs : List D} : (D.tup vs).flat = false := rfl
theorem cells_tup {vs : List D} : (D.tup vs).cells = [(D.tup vs)] := rfl

theorem lo_i8 : lo .i8 = -128 := rfl
theorem hi_i8 : hi .i8 = 127 := rfl
theorem lo_i16 : lo .i16 = -32768 := rfl
theorem hi_i16 : hi .i16 = 32767 := rfl
theorem lo_i32 : lo .i32 = -2147483648 := rfl
theorem hi_i32 : hi .i32 = 2147483647 := rfl
theorem lo_i64 : lo .i64 = -9223372036854775808 := rfl
theorem hi_i64 : hi .i64 = 9223372036854775807 := rfl
theorem lo_u8 : lo .u8 = 0 := rfl
theorem hi_u8 : hi .u8 = 255 := rfl
theorem lo_u16 : lo .u16 = 0 := rfl
theorem hi_u16 : hi .u16 = 65535 := rfl
theorem lo_u32 : lo .u32 = 0 := rfl
theorem hi_u32 : hi .u32 = 4294967295 := rfl
theorem lo_u64 : lo .u64 = 0 := rfl
theorem hi_u64 : hi .u64 = 18446744073709551615 := rfl
attribute [go_sem] lo_i8 hi_i8 lo_i16 hi_i16 lo_i32 hi_i32 lo_i64 hi_i64 lo_u8 hi_u8 lo_u16 hi_u16 lo_u32 hi_u32 lo_u64 hi_u64
/-- Bytes. -/
def byD (b : List UInt8) : List D := b.map fun c => .int .u8 c.toNat
theorem byD_length (b : List UInt8) : (byD b).length = b.length := by simp [byD]
theorem byD_append (a b : List UInt8) : byD (a ++ b) = byD a ++ byD b := by simp [byD]
theorem byD_fine (b : List UInt8) : (∀ y ∈ byD b, y.fine = true ∧ y.cells.length = 1) ↔ True := by
  simp only [iff_true]
  intro y hy
  obtain ⟨c, _, rfl⟩ := List.mem_map.1 hy
  exact ⟨rfl, rfl⟩
theorem byD_def (b : List UInt8) : (b.map fun c => D.int .u8 c.toNat) = byD b := rfl
theorem bytesOf_byD (b : List UInt8) : bytesOf (byD b) = some b := by
  induction b with
  | nil => rfl
  | cons c b ih =>
    simp only [byD, List.map_cons, bytesOf]
    rw [show (b.map fun c => D.int .u8 c.toNat) = byD b from rfl, ih]
    simp
theorem byD_getD (b : List UInt8) {i : Nat} (h : i < b.length) : (byD b).getD i .any = .int .u8 (b.getD i 0).toNat := by
  simp [byD, List.getD, h]
theorem byD_take (b : List UInt8) (i : Nat) : (byD b).take i = byD (b.take i) := by simp [byD, List.map_take]
theorem byD_drop (b : List UInt8) (i : Nat) : (byD b).drop i = byD (b.drop i) := by simp [byD, List.map_drop]
theorem byD_nil : byD [] = [] := rfl

theorem St.give_take {st : St} {j : Nat} (h : st.tok j = false) : (st.give j).take j = st := by
  cases st with
  | mk mem tok =>
    simp only [St.give, St.take, St.mk.injEq, true_and]
    funext x
    by_cases hx : x = j
    · subst hx; simpa using h.symm
    · simp [hx]
theorem St.tok_of_give {st : St} {i j : Nat} (h : (st.give i).tok j = false) : st.tok j = false := by
  rw [St.tok_give] at h
  split at h
  · cases h
  · exact h
theorem wrap_u64 {n : Nat} (h : n < 18446744073709551616) : IntKind.u64.wrap (n : Int) = n := by
  simp only [IntKind.wrap, IntKind.bits, IntKind.signed]
  simp; omega
theorem wrap_i64 {n : Int} (h1 : -9223372036854775808 ≤ n) (h2 : n ≤ 9223372036854775807) : IntKind.i64.wrap n = n := by
  simp only [IntKind.wrap, IntKind.bits, IntKind.signed]
  simp; split <;> omega
theorem St.tok_false_of_le {a b : St} (h : a.le b) {j : Nat} (hj : b.tok j = false) : a.tok j = false := by
  cases hx : a.tok j with
  | false => rfl
  | true => rw [h.tok j hx] at hj; cases hj
theorem St.give_mono {a b : St} (h : a.le b) (j : Nat) : (a.give j).le (b.give j) :=
  ⟨h.mem, fun i hi => by
    rw [St.tok_give] at hi ⊢
    split
    · rfl
    · rename_i hne; rw [if_neg hne] at hi; exact h.tok i hi⟩
theorem isAgg_agg {n : Nat} {cs : List D} : D.isAgg n (.agg cs) = (cs.length == n) := rfl
theorem rng0 : List.range 0 = [] := rfl
theorem rng1 : List.range 1 = [0] := rfl
theorem rng2 : List.range 2 = [0, 1] := rfl
attribute [go_sem] byD_length byD_fine byD_def bytesOf_byD rng0 rng1 rng2 St.tok_give St.tok_take St.tok_set St.tok_del St.mem_give St.mem_take St.mem_set St.mem_del eq_self ite_self
attribute [go_sem ↓] Fr.put_at
attribute [go_sem] fine_bool flat_bool cells_bool fine_int flat_int cells_int fine_str flat_str cells_str fine_ptr flat_ptr cells_ptr fine_nilptr flat_nilptr cells_nilptr fine_eptr flat_eptr cells_eptr fine_sl flat_sl cells_sl fine_msl flat_msl cells_msl fine_map flat_map cells_map fine_nilmap flat_nilmap cells_nilmap fine_fn flat_fn cells_fn fine_nilfn flat_nilfn cells_nilfn fine_iface flat_iface cells_iface fine_niliface flat_niliface cells_niliface fine_agg flat_agg cells_agg fine_tup flat_tup cells_tup args_at
attribute [go_sem] evOp gdv_none gdv_gone gdv_some gdD_tt gdD_ff gdD_tf gdD_ft gdD_tup putO dstOk ev_tmp ev_const ev_global ev_func flats List.forall_mem_cons forall_nil List.append_nil List.nil_append List.cons_append ofV ofC ofCs thenQ_normal thenQ_exit thenQ_ret blockQ_normal blockQ_ret blockQ_exit retQ_ret retQ_normal resD resOne resAll
  evBin evInt evLen evBuiltin evConv evAppend evCopy evSlice evAgg D.asBool D.asInt D.asTup isAgg_agg asCells asMap ldCs ldE optB isLit
attribute [go_sem] List.drop_succ_cons List.drop_zero List.length_map List.length_append List.map_cons List.map_nil List.length_cons List.length_nil Option.map_none Option.map_some Option.bind_some Option.bind_none Option.getD_some Option.getD_none List.getElem?_toArray List.getElem?_cons_succ List.getElem?_cons_zero List.getElem?_nil
  List.getD_cons_zero List.getD_cons_succ Option.any_some Option.any_none List.contains_nil List.contains_cons Bool.or_false Bool.false_or Bool.or_true Bool.true_or decide_true decide_false Bool.not_true Bool.not_false Bool.false_eq_true Bool.true_eq_false false_and and_false false_implies true_implies if_true if_false ite_true ite_false true_and and_true
end Go.Proofs.YtddbidoaolnegaaGreatDoor
