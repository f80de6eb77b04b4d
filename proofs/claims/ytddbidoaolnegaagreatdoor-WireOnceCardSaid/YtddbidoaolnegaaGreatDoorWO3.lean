/-
PART OF A CLAIM: G, H, I, J. No statement of the seat is proved here; no condition. -/
import Derived.Laws.Append
import Derived.Laws.BytesString
import Derived.Lib.ConvBytes
import Derived.Test.YtddbidoaolnegaaGreatDoorWO2
set_option linter.all false
/- That the reckoning on abstract values is right: operation by operation (boxes, structs, slices, appends). No statement of the seat is proved here; no condition. -/
namespace Go.Proofs.YtddbidoaolnegaaGreatDoor
open Go Go.RowKit

section ops
variable {P : Program} {M : List Tmp} {n : Nat} {g : Gh} {fr : Fr} {st : St} {w : World} {a : Act} {k : D → Fr → St → Prop}

theorem sound_box (hi : Inv g st w) (hf : FRel g n fr a) {e : TypeId} {x : Operand} {b : Bool}
    (h : (ev fr x).fine = true ∧ if b = true then newB st fun r => k (.ptr r 0) fr (st.set r (.cells (ev fr x).cells)) else k (.eptr (ev fr x) 0) fr st) (o : Oper) (ho : o.op = .box e x) :
    Out P n g a ((execOp a.eval o).run P w) k := by
  obtain ⟨hfine, h⟩ := h
  have hx := ((ev_ok hf x).fine hfine).toRs
  have hrun : (execOp a.eval o).run P w = .ok (.value (.pointer (some ⟨w.heap.size, 0, none⟩))) (w.alloc (.cells (a.eval x).cells e)) := by
    simp [execOp, ho, Instr.box, newVar, newRow]
  have hI := hi.new (arr := (a.eval x).cells) e hx
  split at h
  · exact .inl ⟨g, _, _, fr, _, _, hrun, Gh.le.refl g, hI, hf, VT.mkPtr _ _, h _ hi.memSize⟩
  · obtain ⟨g', us, l, hI', hAt, hRs⟩ := hI.freeze (by rw [St.mem_set, if_pos rfl])
    rw [St.set_del hi.memSize] at hI'
    refine .inl ⟨g', _, _, fr, _, _, hrun, l, hI', hf.mono l, VT.mkOne ?_ (by simp), h⟩
    simp only [R]
    exact ⟨_, 0, us, rfl, hAt, R.ofRs hRs⟩

theorem sound_alloc (hi : Inv g st w) (hf : FRel g n fr a) {e : TypeId} (h : match zeroD P e with
    | some z => z.fine = true ∧ newB st fun r => k (.ptr r 0) fr (st.set r (.cells z.cells))
    | none => False) (o : Oper) (ho : o.op = .alloc e) : Out P n g a ((execOp a.eval o).run P w) k := by
  unfold zeroD at h
  split at h
  · rename_i z hz
    obtain ⟨hfine, h⟩ := h
    cases hT : P.info? e with
    | none => simp [hT] at hz
    | some i =>
      cases hZ : i.zero with
      | none => simp [hT, hZ] at hz
      | some v =>
        simp only [hT, hZ, Option.bind_some, Option.map_some, Option.some.injEq] at hz
        subst hz
        have hx := ((ofV_ok g v).fine hfine).toRs
        have hrun : (execOp a.eval o).run P w = .ok (.value (.pointer (some ⟨w.heap.size, 0, none⟩))) (w.alloc (.cells v.cells e)) := by
          simp [execOp, ho, Instr.alloc, newVar, newRow, zeroValue, typeInfo, hT, hZ]
        exact .inl ⟨g, _, _, fr, _, _, hrun, Gh.le.refl g, hi.new (arr := v.cells) e hx, hf, VT.mkPtr _ _, h _ hi.memSize⟩
  · exact h.elim

/-! Elements in a row. -/
theorem Re.flat {sz : Nat} : ∀ {es : List D} {b p : Nat}, Re g sz es b p → ∃ us, us.length = es.length * sz ∧ g.At b p us ∧ (∀ v ∈ us, v.oneCell' = true) ∧ ∀ (g' : Gh) (b' p' : Nat), g.le g' → g'.At b' p' us → Re g' sz es b' p'
  | [], b, p, _ => ⟨[], by simp, fun j u h => by simp at h, by simp, fun _ _ _ _ _ => by simp [Re]⟩
  | e :: es, b, p, h => by
    simp only [Re] at h
    obtain ⟨⟨us, h1, h2, h3⟩, h4⟩ := h
    obtain ⟨vs, k1, k2, k3, k4⟩ := Re.flat h4
    refine ⟨us ++ vs, by simp [h1, k1, Nat.add_mul, Nat.add_comm], ?_, ?_, fun g' b' p' l hA => ?_⟩
    · intro j u hj
      rcases Nat.lt_or_ge j us.length with hlt | hge
      · rw [List.getElem?_append_left hlt] at hj; exact h2 j u hj
      · rw [List.getElem?_append_right hge] at hj
        have := k2 _ _ hj
        rwa [show p + sz + (j - us.length) = p + j by omega] at this
    · intro v hv
      rcases List.mem_append.1 hv with hv | hv
      · exact h3.toRs.one v hv
      · exact k3 v hv
    · simp only [Re]
      refine ⟨⟨us, h1, fun j u hj => hA j u (by rw [List.getElem?_append_left]; exact hj; exact (List.getElem?_eq_some_iff.1 hj).1), R.mono l _ _ h3⟩, k4 g' b' (p' + sz) l fun j u hj => ?_⟩
      have := hA (us.length + j) u (by rw [List.getElem?_append_right (by omega)]; simpa using hj)
      rwa [show p' + (us.length + j) = p' + sz + j by omega] at this

theorem Re.append {sz : Nat} : ∀ {es fs : List D} {b p : Nat}, Re g sz es b p → Re g sz fs b (p + es.length * sz) → Re g sz (es ++ fs) b p
  | [], fs, b, p, _, h => by simpa using h
  | e :: es, fs, b, p, h, h' => by
    simp only [Re, List.cons_append] at h ⊢
    refine ⟨h.1, Re.append h.2 ?_⟩
    rwa [show p + sz + es.length * sz = p + (e :: es).length * sz by simp [Nat.add_mul]; omega]

theorem Re.take {sz : Nat} : ∀ (m : Nat) {es : List D} {b p : Nat}, Re g sz es b p → Re g sz (es.take m) b p
  | 0, _, _, _, _ => by simp [Re]
  | m + 1, [], _, _, _ => by simp [Re]
  | m + 1, e :: es, b, p, h => by
    simp only [Re, List.take_succ_cons] at h ⊢
    exact ⟨h.1, Re.take m h.2⟩
theorem Re.drop {sz : Nat} : ∀ (m : Nat) {es : List D} {b p : Nat}, m ≤ es.length → Re g sz es b p → Re g sz (es.drop m) b (p + m * sz)
  | 0, _, _, _, _, h => by simpa using h
  | m + 1, [], _, _, hm, _ => by simp at hm
  | m + 1, e :: es, b, p, hm, h => by
    simp only [Re, List.drop_succ_cons] at h ⊢
    have := Re.drop m (by simpa using hm) h.2
    rwa [show p + sz + m * sz = p + (m + 1) * sz by simp [Nat.add_mul]; omega] at this

/-- Values laid in a row bear their elements. -/
theorem Re.ofVals {sz : Nat} : ∀ {es : List D} {vs : List Value} {b p : Nat}, V1s g es vs → (∀ e ∈ es, e.cells.length = sz) → g.At b p (vs.flatMap fun v => v.cells.toList) → Re g sz es b p
  | [], _, _, _, _, _, _ => by simp [Re]
  | e :: es, _, b, p, ⟨v, r, rfl, h1, h2⟩, hz, hA => by
    simp only [Re]
    have hRs := h1.toRs
    have hl := hRs.length
    have hz' := hz e (by simp)
    refine ⟨⟨v.cells.toList, by omega, fun j u hj => hA j u ?_, R.ofRs hRs⟩, Re.ofVals h2 (fun x hx => hz x (by simp [hx])) fun j u hj => ?_⟩
    · rw [List.flatMap_cons, List.getElem?_append_left (List.getElem?_eq_some_iff.1 hj).1]; exact hj
    · have := hA (v.cells.toList.length + j) u (by rw [List.flatMap_cons, List.getElem?_append_right (by omega)]; simpa using hj)
      rwa [show p + (v.cells.toList.length + j) = p + sz + j by omega] at this
theorem V1s.flatLen {sz : Nat} : ∀ {es : List D} {vs : List Value}, V1s g es vs → (∀ e ∈ es, e.cells.length = sz) → (vs.flatMap fun v => v.cells.toList).length = es.length * sz
  | [], _, h, _ => by simp [V1s] at h; simp [h]
  | e :: es, _, ⟨v, r, rfl, h1, h2⟩, hz => by
    have hl := h1.toRs.length
    have hz' := hz e (by simp)
    have := V1s.flatLen h2 (fun x hx => hz x (by simp [hx]))
    simp only [List.flatMap_cons, List.length_append, this, hl, hz', List.length_cons, Nat.add_mul]
    omega
theorem V1s.length : ∀ {es : List D} {vs : List Value}, V1s g es vs → vs.length = es.length
  | [], _, h => by simp [V1s] at h; simp [h]
  | e :: es, _, ⟨v, r, rfl, h1, h2⟩ => by simp [V1s.length h2]
theorem V1s.one : ∀ {es : List D} {vs : List Value}, V1s g es vs → ∀ v ∈ vs.flatMap (fun v => v.cells.toList), v.oneCell' = true
  | [], _, h => by simp [V1s] at h; simp [h]
  | e :: es, _, ⟨v, r, rfl, h1, h2⟩ => by
    intro x hx
    simp only [List.flatMap_cons, List.mem_append] at hx
    rcases hx with hx | hx
    · exact h1.toRs.one x hx
    · exact V1s.one h2 x hx

/-- The operands of a list. -/
theorem V1s.evs (hf : FRel g n fr a) : ∀ (xs : List Operand), (∀ x ∈ xs, (ev fr x).fine = true) → V1s g (xs.map (ev fr)) (xs.map a.eval)
  | [], _ => rfl
  | x :: xs, h => ⟨a.eval x, xs.map a.eval, rfl, (ev_ok hf x).fine (h x (by simp)), V1s.evs hf xs fun y hy => h y (by simp [hy])⟩
theorem Rs.evs (hf : FRel g n fr a) : ∀ (xs : List Operand), (∀ x ∈ xs, (ev fr x).flat = true) → Rs g (xs.map (ev fr)) (xs.map a.eval)
  | [], _ => rfl
  | x :: xs, h => by
    have := (ev_ok hf x).flat (h x (by simp))
    exact ⟨a.eval x, xs.map a.eval, rfl, this.1, this.2, Rs.evs hf xs fun y hy => h y (by simp [hy])⟩

theorem sound_makeFunc (hi : Inv g st w) (hf : FRel g n fr a) {f : FuncId} {x y : Array Operand}
    (h : (∀ z ∈ x.toList, (ev fr z).flat = true) ∧ (∀ z ∈ y.toList, (ev fr z).flat = true) ∧ k (.fn f (x.toList.map (ev fr)) (y.toList.map (ev fr))) fr st) (o : Oper) (ho : o.op = .makeFunc (.func f) x y) :
    Out P n g a ((execOp a.eval o).run P w) k := by
  obtain ⟨h1, h2, hk⟩ := h
  refine Out.next hi hf (v := .func (.func f) (x.map a.eval) (y.map a.eval)) (by simp [execOp, ho, Instr.makeFunc]) (VT.mkOne ?_ (by simp)) hk
  simp only [R]
  exact ⟨_, _, rfl, by simpa using Rs.evs hf x.toList h1, by simpa using Rs.evs hf y.toList h2⟩

theorem sound_makeInterface (hi : Inv g st w) (hf : FRel g n fr a) {t : TypeId} {x : Operand}
    (h : (ev fr x).flat = true ∧ isIfTy P t = false ∧ (P.underlying t).isSome = true ∧ k (.iface t (ev fr x)) fr st) (o : Oper) (ho : o.op = .makeInterface t x) :
    Out P n g a ((execOp a.eval o).run P w) k := by
  obtain ⟨h1, h2, h3, hk⟩ := h
  obtain ⟨d, hd⟩ := Option.isSome_iff_exists.1 h3
  have hx := (ev_ok hf x).flat h1
  refine Out.next hi hf (v := .iface t (a.eval x)) ?_ (VT.mkOne ?_ (by simp)) hk
  · unfold isIfTy at h2
    rw [hd] at h2
    simp only [execOp, ho, Instr.makeInterface, Sem.run_bind, run_underlying hd, Result.andThen_ok]
    cases d <;> first | rfl | simp at h2
  · simp only [R]
    exact ⟨_, rfl, hx.1⟩

theorem sound_makeMap (hi : Inv g st w) (hf : FRel g n fr a) {t : TypeId} (h : match mapTy P t with
    | some (K, _) => newB st fun r => k (.map r) fr (st.set r (.map K []))
    | none => False) (o : Oper) (ho : o.op = .makeMap t none) : Out P n g a ((execOp a.eval o).run P w) k := by
  split at h
  · rename_i K E hT
    have hrun : (execOp a.eval o).run P w = .ok (.value (.map (some w.heap.size))) (w.alloc (.map #[] 0)) := by
      simp [execOp, ho, Instr.makeMap]
    exact .inl ⟨g, _, _, fr, _, _, hrun, Gh.le.refl g, hi.newMap K, hf, VT.mkOne (by simp [R]) (by simp), h _ hi.memSize⟩
  · exact h.elim

/-! Structs written out. -/
theorem foldl_cells (off : Nat) : ∀ (l : List Value) (q : Nat) (cells : Array Value), off + q + l.length ≤ cells.size →
    ((l.zipIdx q).foldl (fun (cs : Array Value) (x : Value × Nat) => cs.setIfInBounds (off + x.2) x.1) cells).toList = cells.toList.take (off + q) ++ l ++ cells.toList.drop (off + q + l.length)
  | [], q, cells, _ => by simp
  | v :: l, q, cells, h => by
    simp only [List.zipIdx_cons, List.foldl_cons]
    rw [foldl_cells off l (q + 1) _ (by simp at h ⊢; omega)]
    simp only [List.length_cons] at h
    have ho : off + q < cells.toList.length := by simp; omega
    simp only [Array.toList_setIfInBounds]
    have e1 : (cells.toList.set (off + q) v).take (off + (q + 1)) = cells.toList.take (off + q) ++ [v] := by
      rw [show off + (q + 1) = off + q + 1 by omega, List.take_succ_eq_append_getElem (by simpa using ho), List.take_set_of_le (Nat.le_refl _)]
      simp
    have e2 : (cells.toList.set (off + q) v).drop (off + (q + 1) + l.length) = cells.toList.drop (off + (q + 1) + l.length) := by
      rw [List.drop_set_of_lt (by omega)]
    rw [e1, e2]
    simp [Nat.add_assoc, Nat.add_comm 1]

theorem foldl_cells' (off : Nat) (v : Array Value) (cells : Array Value) (h : off + v.size ≤ cells.size) :
    (v.zipIdx.foldl (fun (cs : Array Value) (x : Value × Nat) => cs.setIfInBounds (off + x.2) x.1) cells).toList = cells.toList.take off ++ v.toList ++ cells.toList.drop (off + v.size) := by
  rw [← Array.foldl_toList]
  have := foldl_cells off v.toList 0 cells (by simpa using h)
  simpa using this

theorem fill_ok {offs : Nat → Option Nat} {place : Nat → Option (Nat × Nat)} : ∀ {ps : List (Nat × D)} {vs : List (Nat × Value)} {cs cs' : List D} {cells : Array Value},
    fillD offs cs ps = some cs' → Rs g cs cells.toList → vs.length = ps.length →
    (∀ (j : Nat) (i : Nat) (d : D) (i' : Nat) (v : Value), ps[j]? = some (i, d) → vs[j]? = some (i', v) → i' = i ∧ V1 g d v ∧ ∀ off, offs i = some off → place i = some (off, d.cells.length)) →
    ∃ cells', Instr.fill place cells vs = some cells' ∧ Rs g cs' cells'.toList
  | [], [], cs, cs', cells, h, hr, _, _ => by
    simp [fillD] at h; subst h
    exact ⟨cells, rfl, hr⟩
  | [], _ :: _, _, _, _, _, _, hl, _ => by simp at hl
  | _ :: _, [], _, _, _, _, _, hl, _ => by simp at hl
  | (i, d) :: ps, (i', v) :: vs, cs, cs', cells, h, hr, hl, hp => by
    simp only [fillD] at h
    cases ho : offs i with
    | none => simp [ho] at h
    | some off =>
      simp only [ho, Option.bind_some] at h
      split at h
      · rename_i hle
        obtain ⟨rfl, hv, hplace⟩ := hp 0 i d i' v rfl rfl
        have hplace := hplace off ho
        have hvs := hv.toRs
        have hlen := hvs.length
        have hcl := hr.length
        simp only [Array.length_toList] at hlen hcl
        simp only [Instr.fill, hplace]
        rw [if_neg (by simp; omega)]
        have hfold := foldl_cells' off v.cells cells (by omega)
        refine fill_ok h (cells := v.cells.zipIdx.foldl (fun cs (c, j) => cs.setIfInBounds (off + j) c) cells) ?_ (by simpa using hl) fun j i d i' v hj hj' => hp (j + 1) i d i' v hj hj'
        have : (v.cells.zipIdx.foldl (fun cs (c, j) => cs.setIfInBounds (off + j) c) cells).toList = cells.toList.take off ++ v.cells.toList ++ cells.toList.drop (off + v.cells.size) := hfold
        rw [this, splice, ← hlen]
        exact ((hr.take off).append hvs).append (hr.drop _)
      · cases h
end ops
end Go.Proofs.YtddbidoaolnegaaGreatDoor
/- That the reckoning on abstract values is right: operation by operation (literals, slices, appends, numbers). No statement of the seat is proved here; no condition. -/
namespace Go.Proofs.YtddbidoaolnegaaGreatDoor
open Go Go.RowKit

section ops
variable {P : Program} {M : List Tmp} {n : Nat} {g : Gh} {fr : Fr} {st : St} {w : World} {a : Act} {k : D → Fr → St → Prop}

theorem ldTy_size {t : TypeId} {l : Option Nat} (h : ldTy P t = some l) : szOf P t = some (l.getD 1) := by
  unfold ldTy at h
  split at h
  · cases hz : szOf P t <;> simp [hz] at h; subst h; rfl
  · cases hz : szOf P t <;> simp [hz] at h; subst h; rfl
  · split at h
    · rename_i hz; cases h; simpa using hz
    · cases h
  · cases h

theorem partOf_of {t : TypeId} {i o : Nat} {l : Option Nat} (h : partOf P t i = some (o, l)) : ∃ fs x, P.underlying t = some (.struct fs) ∧ fs[i]? = some x ∧ x.offset = o ∧ ldTy P x.type = some l := by
  unfold partOf at h
  split at h
  · rename_i fs hu
    cases hx : fs[i]? with
    | none => simp [hx] at h
    | some x =>
      cases hl : ldTy P x.type with
      | none => simp [hx, hl] at h
      | some l' => simp [hx, hl] at h; obtain ⟨rfl, rfl⟩ := h; exact ⟨fs, x, hu, hx, rfl, hl⟩
  · cases h

theorem run_mapM_sizes {w : World} (sz : Field → Nat) : ∀ (fs : List Field), (∀ f ∈ fs, (sizeOf f.type).run P w = .ok (sz f) w) →
    (fs.mapM (m := _root_.Go.Sem) fun f => Prod.mk f.offset <$> sizeOf f.type).run P w = .ok (fs.map fun f => (f.offset, sz f)) w
  | [], _ => rfl
  | f :: fs, h => by
    have h1 := h f (by simp)
    have h2 := run_mapM_sizes sz fs fun x hx => h x (by simp [hx])
    simp [List.mapM_cons, h1, h2]

theorem sound_build (hi : Inv g st w) (hf : FRel g n fr a) {t : TypeId} {ps : Array (Nat × Operand)} (h : match zeroD P t with
    | some z => structOk P t = true ∧ z.fine = true ∧ (∀ x ∈ ps.toList, (ev fr x.2).fine = true ∧ (bldOf P t x.1).map (·.2) = some (ev fr x.2).cells.length) ∧
      match fillD (fun i => (bldOf P t i).map (·.1)) z.cells (ps.toList.map fun x => (x.1, ev fr x.2)) with
      | some cs => k (.agg cs) fr st
      | none => False
    | none => False) (o : Oper) (ho : o.op = .build t ps) : Out P n g a ((execOp a.eval o).run P w) k := by
  split at h
  · rename_i z hz
    obtain ⟨hok, hfine, hps, h⟩ := h
    split at h
    · rename_i cs hfill
      unfold zeroD at hz
      cases hT : P.info? t with
      | none => simp [hT] at hz
      | some i =>
        cases hZ : i.zero with
        | none => simp [hT, hZ] at hz
        | some zv =>
          simp only [hT, hZ, Option.bind_some, Option.map_some, Option.some.injEq] at hz
          subst hz
          have hzr : Rs g (ofV zv).cells zv.cells.toList := ((ofV_ok g zv).fine hfine).toRs
          have hzrun : (zeroValue t).run P w = .ok zv w := by simp [zeroValue, typeInfo, hT, hZ]
          have key : ∀ place : Nat → Option (Nat × Nat), (∀ i q, bldOf P t i = some q → place i = some q) →
              ∃ cells', Instr.fill place zv.cells (ps.toList.map fun x => (x.1, a.eval x.2)) = some cells' ∧ Rs g cs cells'.toList := by
            intro place hpl
            refine fill_ok (g := g) (cells := zv.cells) hfill hzr (by simp) fun j i d i' v hj hj' => ?_
            simp only [List.getElem?_map, Option.map_eq_some_iff] at hj hj'
            obtain ⟨x, hx, hx'⟩ := hj
            obtain ⟨y, hy, hy'⟩ := hj'
            rw [hx] at hy; cases hy
            cases hx'; cases hy'
            have hmem : x ∈ ps.toList := List.mem_of_getElem? hx
            obtain ⟨p1, p2⟩ := hps x hmem
            refine ⟨rfl, (ev_ok hf x.2).fine p1, fun off hoff => ?_⟩
            cases hpo : bldOf P t x.1 with
            | none => simp [hpo] at p2
            | some q =>
              simp only [hpo, Option.map_some, Option.some.injEq] at p2 hoff
              rw [hpl _ _ hpo, ← p2, ← hoff]
          unfold structOk at hok
          split at hok
          · rename_i fs hu
            have hmap := run_mapM_sizes (P := P) (w := w) (fun f => (szOf P f.type).getD 0) fs.toList fun f hfm => by
              have := List.all_eq_true.1 hok f hfm
              obtain ⟨q, hq⟩ := Option.isSome_iff_exists.1 this
              rw [hq]; exact run_sizeOf_some hq w
            obtain ⟨cells', hc1, hc2⟩ := key (fun i => (fs.toList.map fun f => (f.offset, (szOf P f.type).getD 0)).toArray[i]?) fun i q hq => by
              unfold bldOf at hq
              rw [hu] at hq
              cases hx : fs[i]? with
              | none => simp [hx] at hq
              | some x =>
                cases hs : szOf P x.type with
                | none => simp [hx, hs] at hq
                | some z => simp [hx, hs] at hq; simp [hx, hs, ← hq]
            refine Out.next hi hf (v := .agg cells') ?_ (VT.ofV1 (d := .agg cs) ⟨_, rfl, hc2⟩) h
            have hmap' : (fs.mapM (m := _root_.Go.Sem) fun f => Prod.mk f.offset <$> sizeOf f.type).run P w = .ok (fs.toList.map fun f => (f.offset, (szOf P f.type).getD 0)).toArray w := by
              rw [Array.mapM_eq_mapM_toList]
              simp [hmap]
            simp only [execOp, ho, Instr.build, bind_pure_comp, Sem.run_map, Sem.run_bind, hzrun, Result.andThen_ok, run_underlying hu, hmap', Array.toList_map, hc1, Sem.run_pure]
          · rename_i m e hu
            obtain ⟨z, hz⟩ := Option.isSome_iff_exists.1 hok
            have hs := run_sizeOf_some (P := P) hz w
            obtain ⟨cells', hc1, hc2⟩ := key (fun i => some (i * z, z)) fun i q hq => by
              unfold bldOf at hq
              rw [hu] at hq
              simpa only [hz, Option.map_some] using hq
            refine Out.next hi hf (v := .agg cells') ?_ (VT.ofV1 (d := .agg cs) ⟨_, rfl, hc2⟩) h
            simp only [execOp, ho, Instr.build, bind_pure_comp, Sem.run_map, Sem.run_bind, hzrun, Result.andThen_ok, run_underlying hu, hs, Array.toList_map, hc1, Sem.run_pure]
          · cases hok
    · exact h.elim
  · exact h.elim

/-! Slice literals. -/
theorem fill_seq (sz : Nat) : ∀ (vals : List Value) (q : Nat) (cells : Array Value), (∀ v ∈ vals, v.cells.size = sz) → (q + vals.length) * sz ≤ cells.size →
    ∃ cells', Instr.fill (fun i => some (i * sz, sz)) cells ((vals.zipIdx q).map fun x => (x.2, x.1)) = some cells' ∧
      cells'.toList = cells.toList.take (q * sz) ++ vals.flatMap (fun v => v.cells.toList) ++ cells.toList.drop ((q + vals.length) * sz)
  | [], q, cells, _, _ => ⟨cells, rfl, by simp⟩
  | v :: vals, q, cells, hs, h => by
    have hv := hs v (by simp)
    have h1 : (q + 1) * sz ≤ cells.size := Nat.le_trans (Nat.mul_le_mul_right _ (by simp)) h
    have h1' : q * sz + sz ≤ cells.size := by rw [Nat.add_mul, Nat.one_mul] at h1; exact h1
    have hfold := foldl_cells' (q * sz) v.cells cells (by omega)
    have hsize : (v.cells.zipIdx.foldl (fun (cs : Array Value) (x : Value × Nat) => cs.setIfInBounds (q * sz + x.2) x.1) cells).size = cells.size := by
      have := congrArg List.length hfold
      rw [Array.length_toList] at this
      rw [this]
      simp only [List.length_append, List.length_take, List.length_drop, Array.length_toList]
      omega
    obtain ⟨cells', h2, h3⟩ := fill_seq sz vals (q + 1) (v.cells.zipIdx.foldl (fun (cs : Array Value) (x : Value × Nat) => cs.setIfInBounds (q * sz + x.2) x.1) cells) (fun x hx => hs x (by simp [hx])) (by rw [hsize]; simpa [Nat.add_assoc, Nat.add_comm 1] using h)
    refine ⟨cells', ?_, ?_⟩
    · simp only [List.zipIdx_cons, List.map_cons, Instr.fill]
      rw [if_neg (by simp; omega)]
      exact h2
    · rw [h3, hfold]
      have hlen : (cells.toList.take (q * sz)).length = q * sz := by simp; omega
      have e1 : (cells.toList.take (q * sz) ++ v.cells.toList ++ cells.toList.drop (q * sz + v.cells.size)).take ((q + 1) * sz) = cells.toList.take (q * sz) ++ v.cells.toList := by
        rw [List.take_append_of_le_length (by simp; rw [Nat.add_mul]; omega)]
        rw [List.take_of_length_le (by simp; rw [Nat.add_mul]; omega)]
      have e2 : (cells.toList.take (q * sz) ++ v.cells.toList ++ cells.toList.drop (q * sz + v.cells.size)).drop ((q + 1 + vals.length) * sz) = cells.toList.drop ((q + (v :: vals).length) * sz) := by
        rw [List.drop_append, List.drop_eq_nil_of_le (by simp; rw [Nat.add_mul, Nat.add_mul]; omega)]
        simp only [List.nil_append, List.drop_drop, List.length_append, hlen, Array.length_toList, hv, List.length_cons]
        congr 1
        rw [show q + (vals.length + 1) = q + 1 + vals.length by omega, Nat.add_mul, Nat.add_mul]
        omega
      rw [e1, e2]
      simp

theorem slBytes_of {t : TypeId} {bs z : Nat} (h : slBytes P t = some bs) (hz : slTy P t = some z) :
    ∃ e i v, P.underlying t = some (.slice e) ∧ P.info? e = some i ∧ i.zero = some v ∧ v.cells.size = i.size ∧ i.bytes = bs ∧ i.size = z := by
  obtain ⟨e, hu, hs⟩ := slTy_of hz
  unfold slBytes at h
  rw [hu] at h
  cases hT : P.info? e with
  | none => simp [hT] at h
  | some i =>
    simp only [hT, Option.bind_some] at h
    split at h
    · rename_i hv
      cases hZ : i.zero with
      | none => simp [hZ] at hv
      | some v =>
        simp only [hZ, Option.map_some, Option.some.injEq] at hv
        refine ⟨e, i, v, hu, hT, hZ, hv, by simpa using h, ?_⟩
        simpa [szOf, hT] using hs
    · cases h

theorem sound_buildSliceT (hi : Inv g st w) (hf : FRel g n fr a) {t : TypeId} {m : Nat} {ps : Array (Nat × Operand)} (h : match slTy P t, slBytes P t with
    | some z, some _ => ps.toList.map (·.1) = List.range m ∧ m * z ≤ 16777216 ∧ (∀ x ∈ ps.toList, (ev fr x.2).fine = true ∧ (ev fr x.2).cells.length = z) ∧
      newT st fun j => k (.sl (.tok j) z (ps.toList.map fun x => ev fr x.2)) fr (st.give j)
    | _, _ => False) (o : Oper) (ho : o.op = .buildSlice t m ps) : Out P n g a ((execOp a.eval o).run P w) k := by
  split at h
  · rename_i z bs hz hbs
    obtain ⟨hr, hsmall, hps, hk⟩ := h
    obtain ⟨e, i, v, hu, hT, hZ, hv, hb, hsz⟩ := slBytes_of hbs hz
    have hs := run_sizeOf_some (P := P) (t := e) (z := z) (by simp [szOf, hT, hsz]) w
    have hlenps : ps.toList.length = m := by have := congrArg List.length hr; simpa using this
    have hV := V1s.evs hf (ps.toList.map (·.2)) (fun x hx => by obtain ⟨y, hy, rfl⟩ := List.mem_map.1 hx; exact (hps y hy).1)
    simp only [List.map_map] at hV
    have hvals : ∀ u ∈ ps.toList.map (a.eval ∘ fun x => x.2), u.cells.size = z := by
      intro u hu'
      obtain ⟨x, hx, rfl⟩ := List.mem_map.1 hu'
      have := ((ev_ok hf x.2).fine (hps x hx).1).toRs.length
      simp only [Array.length_toList] at this
      rw [Function.comp, this, (hps x hx).2]
    have hzc : ((if m * z = 0 then (pure #[] : _root_.Go.Sem (Array Value)) else do pure (← zeroValue e).cells).run P w) = .ok (if m * z = 0 then #[] else v.cells) w := by
      split
      · rfl
      · simp [zeroValue, typeInfo, hT, hZ]
    obtain ⟨cells', hc1, hc2⟩ := fill_seq z (ps.toList.map (a.eval ∘ fun x => x.2)) 0 ((Array.range (m * z)).map ((if m * z = 0 then #[] else v.cells)[· % (if m * z = 0 then #[] else v.cells).size]!)) hvals (by simp only [List.length_map, hlenps, Nat.zero_add, Array.size_map, Array.size_range]; exact Nat.le_refl _)
    have hparts : (ps.map fun (i, x) => (i, a.eval x)).toList = ((ps.toList.map (a.eval ∘ fun x => x.2)).zipIdx 0).map fun x => (x.2, x.1) := by
      apply List.ext_getElem?
      intro j
      simp only [Array.toList_map, List.getElem?_map, List.getElem?_zipIdx, Nat.zero_add]
      cases hx : ps.toList[j]? with
      | none => simp
      | some x =>
        have h1 : (ps.toList.map (·.1))[j]? = some x.1 := by simp only [List.getElem?_map, hx, Option.map_some]
        rw [hr, List.getElem?_range (by rw [← hlenps]; exact (List.getElem?_eq_some_iff.1 hx).1)] at h1
        cases h1
        simp
    have hus : cells'.toList = (ps.toList.map (a.eval ∘ fun x => x.2)).flatMap fun v => v.cells.toList := by
      rw [hc2]
      simp only [Nat.zero_mul, List.take_zero, List.nil_append, Nat.zero_add]
      rw [List.drop_eq_nil_of_le (by simp only [List.length_map, hlenps, Array.length_toList, Array.size_map, Array.size_range]; exact Nat.le_refl _)]
      simp
    have hlen := V1s.flatLen hV (sz := z) (fun d hd => by obtain ⟨x, hx, rfl⟩ := List.mem_map.1 hd; exact (hps x hx).2)
    rw [← hus] at hlen
    simp only [List.length_map, hlenps] at hlen
    have hrun : (execOp a.eval o).run P w = .ok (.value (.slice (some ⟨w.heap.size, 0, none⟩) m m)) (w.alloc (.cells cells' e)) := by
      simp only [execOp, ho, Instr.buildSlice, Sem.run_bind, run_underlying hu, Result.andThen_ok, hs]
      rw [if_neg (by omega)]
      by_cases hmz : m * z = 0
      · rw [if_pos hmz] at hc1
        have e0 : ∀ f f' : Nat → Value, (Array.range (m * z)).map f = (Array.range (m * z)).map f' := fun f f' => by rw [hmz]; simp
        rw [e0 _ (fun _ => default)] at hc1
        simp only [if_pos hmz, hparts, Sem.run_pure, Sem.run_bind, Result.andThen_ok]
        rw [e0 _ (fun _ => default), hc1]
        simp [newRow]
      · rw [if_neg hmz] at hc1
        have hzr : (zeroValue e).run P w = .ok v w := by simp [zeroValue, typeInfo, hT, hZ]
        simp only [if_neg hmz, hparts, Sem.run_bind, hzr, Sem.run_pure, Result.andThen_ok, hc1]
        simp [newRow]
    obtain ⟨j, g', hj, l, hG, hA, hI⟩ := hi.newTok e (0, 0) cells'.toList [] m m z (fzOk_zero _) hlen (Nat.le_refl _) (by simp; simpa using Nat.le_of_eq hlen.symm)
    simp only [List.append_nil, Array.toArray_toList] at hI
    refine .inl ⟨g', _, _, fr, _, _, hrun, l, hI, hf.mono l, VT.mkOne ?_ (by simp), hk j hj⟩
    simp only [R]
    refine .inr ⟨w.heap.size, 0, m, by simp only [List.length_map, hlenps], by simp only [List.length_map, hlenps]; exact Nat.le_refl _, ?_, ?_⟩
    · simp only [Own.lies, hG, List.length_map, hlenps]
    · refine Re.ofVals (hV.mono l) (fun d hd => by obtain ⟨x, hx, rfl⟩ := List.mem_map.1 hd; exact (hps x hx).2) ?_
      rw [← hus]; exact hA
  · exact h.elim
theorem VT.frz {ow : Own} {sz : Nat} {es : List D} {v : Value} (h : VT g (.sl ow sz es) v) : VT g (.sl .frozen sz es) v := by
  refine VT.mkOne ?_ (by simp)
  simp only [R]
  rcases h.sl with ⟨_, h2, oa, _, rfl⟩ | ⟨b, p, cap, rfl, h2, _, h4⟩
  · exact .inl ⟨trivial, h2, oa, trivial, rfl⟩
  · exact .inr ⟨b, p, cap, rfl, h2, trivial, h4⟩

theorem Out.frz {r : Result Next} {z : Nat} {l : List D} (h : Out P n g a r fun d fr' st' => ∃ j, d = .sl (.tok j) z l ∧ fr' = fr ∧ st' = st.give j) (hk : k (.sl .frozen z l) fr st) : Out P n g a r k := by
  rcases h with ⟨g', v, d, fr', st', w', h0, h1, h2, h3, h4, j, rfl, rfl, rfl⟩ | ⟨g', fr', st', w', h0, h1, h2, h3, j, h5, _, _⟩ | ⟨f, args, w', h0, h⟩
  · exact .inl ⟨g', v, _, fr', st, w', h0, h1, h2.weak (St.le_give (St.le.refl _) _), h3, h4.frz, hk⟩
  · cases h5
  · refine .inr (.inr ⟨f, args, w', h0, h.mono ?_⟩)
    rintro e w'' ⟨g', v, d, st', fr', h0, h1, h2, h3, h4, j, rfl, rfl, rfl⟩
    exact ⟨g', v, _, st, fr', h0, h1, h2.weak (St.le_give (St.le.refl _) _), h3, h4.frz, hk⟩

theorem sound_buildSlice (hi : Inv g st w) (hf : FRel g n fr a) {t : TypeId} {m : Nat} {ps : Array (Nat × Operand)} (o : Oper) (h : match slTy P t, slBytes P t with
    | some z, some _ => ps.toList.map (·.1) = List.range m ∧ m * z ≤ 16777216 ∧ (∀ x ∈ ps.toList, (ev fr x.2).fine = true ∧ (ev fr x.2).cells.length = z) ∧
      if o.dst.any (M.contains ·) = true then newT st fun j => k (.sl (.tok j) z (ps.toList.map fun x => ev fr x.2)) fr (st.give j) else k (.sl .frozen z (ps.toList.map fun x => ev fr x.2)) fr st
    | _, _ => False) (ho : o.op = .buildSlice t m ps) : Out P n g a ((execOp a.eval o).run P w) k := by
  split at h
  · rename_i z bs hz hbs
    obtain ⟨h1, h2, h3, h4⟩ := h
    split at h4
    · exact sound_buildSliceT hi hf (by rw [hz, hbs]; exact ⟨h1, h2, h3, h4⟩) o ho
    · exact Out.frz (sound_buildSliceT hi hf (k := fun d fr' st' => ∃ j, d = .sl (.tok j) z _ ∧ fr' = fr ∧ st' = st.give j) (by rw [hz, hbs]; exact ⟨h1, h2, h3, fun j _ => ⟨j, rfl, rfl, rfl⟩⟩) o ho) h4
  · exact h.elim

end ops
end Go.Proofs.YtddbidoaolnegaaGreatDoor
/- That the reckoning on abstract values is right: operation by operation (numbers, tests, slices, conversions, maps, builtins). No statement of the seat is proved here; no condition. -/
namespace Go.Proofs.YtddbidoaolnegaaGreatDoor
open Go Go.RowKit

theorem wrap_in (k : IntKind) (n : Int) (h1 : lo k ≤ n) (h2 : n ≤ hi k) : k.wrap n = n := by
  cases k <;> simp only [lo, hi] at h1 h2 <;> simp only [IntKind.wrap, IntKind.bits, IntKind.signed] <;> simp <;> omega

section ops
variable {P : Program} {M : List Tmp} {n : Nat} {g : Gh} {fr : Fr} {st : St} {w : World} {a : Act} {k : D → Fr → St → Prop}

theorem evInt_ok {op : BinOp} {kd : IntKind} {x y : Int} {c : D → Prop} (h : evInt op kd x y c) (w : World) (t : TypeId) : ∃ d v, c d ∧ (binOp op t (.int kd x) (.int kd y)).run P w = .ok v w ∧ VT g d v := by
  unfold evInt at h
  split at h
  · obtain ⟨h1, h2, h⟩ := h
    exact ⟨_, _, h, by simp [binOp_add, Op.intArith]; rfl, by rw [wrap_in kd _ h1 h2]; exact VT.mkInt _ _⟩
  · obtain ⟨h1, h2, h⟩ := h
    exact ⟨_, _, h, by simp [binOp_sub, Op.intArith]; rfl, by rw [wrap_in kd _ h1 h2]; exact VT.mkInt _ _⟩
  · obtain ⟨h1, h2, h⟩ := h
    exact ⟨_, _, h, by simp [binOp_mul, Op.intArith]; rfl, by rw [wrap_in kd _ h1 h2]; exact VT.mkInt _ _⟩
  · obtain ⟨h0, h1, h2, h⟩ := h
    refine ⟨_, .int kd (x / y), h, ?_, VT.mkInt _ _⟩
    have hne : y ≠ 0 := by omega
    have hle : x / y ≤ hi kd := Int.le_trans (Int.ediv_le_self _ h0) h2
    have hge : lo kd ≤ x / y := Int.le_trans (by cases kd <;> decide) (Int.ediv_nonneg h0 (by omega))
    simp [binOp_quo, Op.intDiv, hne, Int.tdiv_eq_ediv_of_nonneg h0, wrap_in kd _ hge hle]
  · obtain ⟨h0, h1, h2, h⟩ := h
    refine ⟨_, .int kd (x % y), h, ?_, VT.mkInt _ _⟩
    have hne : y ≠ 0 := by omega
    simp [binOp_rem, Op.intDiv, hne, Int.tmod_eq_emod_of_nonneg h0]
  · exact ⟨_, _, h, by simp [binOp_or, intBits_or], VT.mkInt _ _⟩
  · exact ⟨_, _, h, by simp [binOp_andNot, intBits_andNot], VT.mkInt _ _⟩
  · exact ⟨_, .bool (decide (x = y)), h, by simp [binOp_eql]; rfl, VT.mkBool _⟩
  · exact ⟨_, .bool (!decide (x = y)), h, by simp [binOp_neq]; rfl, VT.mkBool _⟩
  · exact ⟨_, _, h, by simp [binOp_lss], VT.mkBool _⟩
  · exact ⟨_, _, h, by simp [binOp_leq], VT.mkBool _⟩
  · exact ⟨_, _, h, by simp [binOp_gtr], VT.mkBool _⟩
  · exact ⟨_, _, h, by simp [binOp_geq], VT.mkBool _⟩
  · exact h.elim

theorem intsOf_ok : ∀ {cs : List D} {l : List Int} {vs : List Value}, intsOf cs = some l → Rs g cs vs → vs = l.map (Value.int .i64)
  | [], l, vs, h, hr => by simp [intsOf] at h; subst h; simpa [Rs] using hr
  | c :: cs, l, vs, h, hr => by
    cases c with
    | int kd m =>
      cases kd <;> simp only [intsOf] at h <;> first | (cases h; done) | skip
      cases hl : intsOf cs with
      | none => simp [hl] at h
      | some l' =>
        simp [hl] at h; subst h
        simp only [Rs, R] at hr
        obtain ⟨v, r, rfl, hv, _, hr⟩ := hr
        cases hv
        simp [intsOf_ok hl hr]
    | _ => simp [intsOf] at h

theorem toList_mk (s : List UInt8) : (ByteArray.mk s.toArray).toList = s := by
  have : ∀ b : ByteArray, b.toList = b.data.toList := ByteArray.toList_eq
  rw [this]

theorem run_equal {t : TypeId} {u v : Value} {b : Bool} {w : World} (h : ∀ d, (Op.equalIn (d + 1) t u v).run P w = .ok b w) : (Op.equal t u v).run P w = .ok b w := h 9999

theorem if_of {t : TypeId} (h : isIfTy P t = true) : ∃ ms, P.underlying t = some (.interface ms) := by
  unfold isIfTy at h
  cases hu : P.underlying t with
  | none => simp [hu] at h
  | some d => cases d <;> simp [hu] at h; exact ⟨_, rfl⟩
theorem ptr_of {t : TypeId} (h : isPtrTy P t = true) : ∃ e, P.underlying t = some (.pointer e) := by
  unfold isPtrTy at h
  cases hu : P.underlying t with
  | none => simp [hu] at h
  | some d => cases d <;> simp [hu] at h; exact ⟨_, rfl⟩
theorem map_of {t : TypeId} (h : isMapTy P t = true) : ∃ e f, P.underlying t = some (.map e f) := by
  unfold isMapTy at h
  cases hu : P.underlying t with
  | none => simp [hu] at h
  | some d => cases d <;> simp [hu] at h; exact ⟨_, _, rfl⟩
theorem sl_of {t : TypeId} (h : isSlTy P t = true) : ∃ e, P.underlying t = some (.slice e) := by
  unfold isSlTy at h
  cases hu : P.underlying t with
  | none => simp [hu] at h
  | some d => cases d <;> simp [hu] at h; exact ⟨_, rfl⟩
theorem str_of {t : TypeId} (h : isStr P t = true) : P.underlying t = some .string := by
  unfold isStr at h
  cases hu : P.underlying t with
  | none => simp [hu] at h
  | some d => cases d <;> simp [hu] at h; rfl

section eqs
variable {t : TypeId} (w : World) (d : Nat)
theorem eqIn_nilIface (h : isIfTy P t = true) : (Op.equalIn (d + 1) t .nilIface .nilIface).run P w = .ok true w := by
  obtain ⟨ms, hu⟩ := if_of h; simp [Op.equalIn, run_underlying hu]
theorem eqIn_ifaceNil (h : isIfTy P t = true) (q : TypeId) (u : Value) : (Op.equalIn (d + 1) t (.iface q u) .nilIface).run P w = .ok false w := by
  obtain ⟨ms, hu⟩ := if_of h; simp [Op.equalIn, run_underlying hu]
theorem eqIn_nilPtr (h : isPtrTy P t = true) : (Op.equalIn (d + 1) t (.pointer none) (.pointer none)).run P w = .ok true w := by
  obtain ⟨ms, hu⟩ := ptr_of h; simp [Op.equalIn, run_underlying hu]
theorem eqIn_ptrNil (h : isPtrTy P t = true) (q : Addr) : (Op.equalIn (d + 1) t (.pointer (some q)) (.pointer none)).run P w = .ok false w := by
  obtain ⟨ms, hu⟩ := ptr_of h; simp [Op.equalIn, run_underlying hu]
theorem eqIn_nilMap (h : isMapTy P t = true) : (Op.equalIn (d + 1) t (.map none) (.map none)).run P w = .ok true w := by
  obtain ⟨ms, _, hu⟩ := map_of h; simp [Op.equalIn, run_underlying hu]
theorem eqIn_mapNil (h : isMapTy P t = true) (q : Nat) : (Op.equalIn (d + 1) t (.map (some q)) (.map none)).run P w = .ok false w := by
  obtain ⟨ms, _, hu⟩ := map_of h; simp [Op.equalIn, run_underlying hu]
theorem eqIn_nilSl (h : isSlTy P t = true) : (Op.equalIn (d + 1) t (.slice none 0 0) (.slice none 0 0)).run P w = .ok true w := by
  obtain ⟨ms, hu⟩ := sl_of h; simp [Op.equalIn, run_underlying hu]
theorem eqIn_slNil (h : isSlTy P t = true) (q : Addr) (l c : Nat) : (Op.equalIn (d + 1) t (.slice (some q) l c) (.slice none 0 0)).run P w = .ok false w := by
  obtain ⟨ms, hu⟩ := sl_of h; simp [Op.equalIn, run_underlying hu]
end eqs

theorem guard_nil {op : BinOp} {t : TypeId} {x y : Operand} (h : (isLit x || isLit y) = true) : eqGuard op t x y .nilIface .nilIface = pure () := by
  cases x <;> first
    | exact eqGuard_nil_constL _ _ _ _
    | (cases y <;> first | exact eqGuard_nil_constR _ _ _ _ | simp [isLit] at h)

theorem VT.mkBin {c : D → Prop} {op : BinOp} {t : TypeId} {x y : Operand} {u v : Value} {b : Bool} (h : c (.bool b)) (hg : eqGuard op t x y u v = pure ()) (hr : (binOp op t u v).run P w = .ok (.bool b) w) :
    ∃ d r, c d ∧ (do eqGuard op t x y u v; binOp op t u v : _root_.Go.Sem Value).run P w = .ok r w ∧ VT g d r :=
  ⟨_, _, h, by simp [hg, hr], VT.mkBool b⟩

theorem evBin_ok {op : BinOp} {t : TypeId} {x y : Operand} {dx dy : D} {u v : Value} (hx : VT g dx u) (hy : VT g dy v) {c : D → Prop} (h : evBin P op t (isLit x || isLit y) dx dy c) :
    ∃ d r, c d ∧ (do eqGuard op t x y u v; binOp op t u v : _root_.Go.Sem Value).run P w = .ok r w ∧ VT g d r := by
  unfold evBin at h
  split at h
  · rename_i xs ys
    obtain ⟨au, rfl, ru⟩ := hx.agg
    obtain ⟨av, rfl, rv⟩ := hy.agg
    unfold evAgg at h
    split at h
    · rename_i p q hp hq
      obtain ⟨hE, hl, h⟩ := h
      have e1 := intsOf_ok hp ru
      have e2 := intsOf_ok hq rv
      have f1 : au = (p.map (Value.int .i64)).toArray := by rw [← e1]
      have f2 : av = (q.map (Value.int .i64)).toArray := by rw [← e2]
      obtain ⟨k1, k2, k3⟩ := hE w x y p q rfl hl
      refine ⟨_, .bool (decide (p = q)), h, ?_, VT.mkBool _⟩
      rw [f1, f2]
      simp [k1, binOp, k3]
    · exact h.elim
  · rename_i xs ys
    obtain ⟨au, rfl, ru⟩ := hx.agg
    obtain ⟨av, rfl, rv⟩ := hy.agg
    unfold evAgg at h
    split at h
    · rename_i p q hp hq
      obtain ⟨hE, hl, h⟩ := h
      have e1 := intsOf_ok hp ru
      have e2 := intsOf_ok hq rv
      have f1 : au = (p.map (Value.int .i64)).toArray := by rw [← e1]
      have f2 : av = (q.map (Value.int .i64)).toArray := by rw [← e2]
      obtain ⟨k1, k2, k3⟩ := hE w x y p q rfl hl
      refine ⟨_, .bool (!decide (p = q)), h, ?_, VT.mkBool _⟩
      rw [f1, f2]
      simp [k2, binOp, k3]
    · exact h.elim
  · obtain ⟨hlit, hT, h⟩ := h
    rw [hx.niliface, hy.niliface]
    exact VT.mkBin h (guard_nil hlit) (by simp [binOp, run_equal fun d => eqIn_nilIface w d hT])
  · obtain ⟨hlit, hT, h⟩ := h
    rw [hx.niliface, hy.niliface]
    exact VT.mkBin h (guard_nil hlit) (by simp [binOp, run_equal fun d => eqIn_nilIface w d hT])
  · obtain ⟨hT, h⟩ := h
    obtain ⟨q, rfl, _⟩ := hx.iface
    rw [hy.niliface]
    exact VT.mkBin h (by simp [eqGuard_at_iface]) (by simp [binOp, run_equal fun d => eqIn_ifaceNil w d hT _ _])
  · obtain ⟨hT, h⟩ := h
    obtain ⟨q, rfl, _⟩ := hx.iface
    rw [hy.niliface]
    exact VT.mkBin h (by simp [eqGuard_at_iface]) (by simp [binOp, run_equal fun d => eqIn_ifaceNil w d hT _ _])
  · rename_i kd p kd' q
    obtain ⟨h0, h1, h⟩ := h
    rw [hx.int, hy.int]
    exact ⟨_, _, h, by simp [eqGuard, binOp_shl, shift_shl kd kd' p q h0 h1], VT.mkInt _ _⟩
  · rename_i kd p kd' q
    obtain ⟨h0, h1, h⟩ := h
    rw [hx.int, hy.int]
    exact ⟨_, _, h, by simp [eqGuard, binOp_shr, shift_shr kd kd' p q h0 h1], VT.mkInt _ _⟩
  · rename_i kd p kd' q _ _
    obtain ⟨rfl, h⟩ := h
    rw [hx.int, hy.int]
    obtain ⟨d, r, h1, h2, h3⟩ := evInt_ok (P := P) (g := g) h w t
    exact ⟨d, r, h1, by simp [eqGuard_at_int, h2], h3⟩
  · rename_i p q
    rw [hx.str, hy.str]
    exact ⟨_, .bool (decide (p = q)), h, by simp [eqGuard_at_string, binOp, Op.stringOp, toList_mk, Bool.beq_eq_decide_eq], VT.mkBool _⟩
  · rename_i p q
    rw [hx.str, hy.str]
    exact ⟨_, .bool (!decide (p = q)), h, by simp [eqGuard_at_string, binOp, Op.stringOp, toList_mk, Bool.beq_eq_decide_eq], VT.mkBool _⟩
  · obtain ⟨hT, h⟩ := h
    rw [hx.nilptr, hy.nilptr]
    exact VT.mkBin h (by simp [eqGuard_at_pointer]) (by simp [binOp, run_equal fun d => eqIn_nilPtr w d hT])
  · obtain ⟨hT, h⟩ := h
    rw [hx.ptr, hy.nilptr]
    exact VT.mkBin h (by simp [eqGuard_at_pointer]) (by simp [binOp, run_equal fun d => eqIn_ptrNil w d hT _])
  · obtain ⟨hT, h⟩ := h
    obtain ⟨b, p, us, rfl, _⟩ := hx.eptr
    rw [hy.nilptr]
    exact VT.mkBin h (by simp [eqGuard_at_pointer]) (by simp [binOp, run_equal fun d => eqIn_ptrNil w d hT _])
  · obtain ⟨hT, h⟩ := h
    rw [hx.nilptr, hy.nilptr]
    exact VT.mkBin h (by simp [eqGuard_at_pointer]) (by simp [binOp, run_equal fun d => eqIn_nilPtr w d hT])
  · obtain ⟨hT, h⟩ := h
    rw [hx.ptr, hy.nilptr]
    exact VT.mkBin h (by simp [eqGuard_at_pointer]) (by simp [binOp, run_equal fun d => eqIn_ptrNil w d hT _])
  · obtain ⟨hT, h⟩ := h
    obtain ⟨b, p, us, rfl, _⟩ := hx.eptr
    rw [hy.nilptr]
    exact VT.mkBin h (by simp [eqGuard_at_pointer]) (by simp [binOp, run_equal fun d => eqIn_ptrNil w d hT _])
  · obtain ⟨hT, h⟩ := h
    rw [hx.map, hy.nilmap]
    exact VT.mkBin h (by simp [eqGuard_at_map]) (by simp [binOp, run_equal fun d => eqIn_mapNil w d hT _])
  · obtain ⟨hT, h⟩ := h
    rw [hx.nilmap, hy.nilmap]
    exact VT.mkBin h (by simp [eqGuard_at_map]) (by simp [binOp, run_equal fun d => eqIn_nilMap w d hT])
  · obtain ⟨hT, h⟩ := h
    have hv : v = .slice none 0 0 := by
      rcases hy.sl with ⟨_, _, oa, ho, e⟩ | ⟨_, _, _, _, _, hl, _⟩
      · cases ho; exact e
      · exact hl.elim
    subst hv
    rcases hx.sl with ⟨_, he, oa, _, rfl⟩ | ⟨b, p, cap, rfl, _⟩
    · cases oa with
      | none => exact VT.mkBin (h true fun _ => he) (by simp [eqGuard_at_slice]) (by simp [binOp, run_equal fun d => eqIn_nilSl w d hT])
      | some q => exact VT.mkBin (h false fun h => by cases h) (by simp [eqGuard_at_slice]) (by simp [binOp, run_equal fun d => eqIn_slNil w d hT _ _ _])
    · exact VT.mkBin (h false fun h => by cases h) (by simp [eqGuard_at_slice]) (by simp [binOp, run_equal fun d => eqIn_slNil w d hT _ _ _])
  · rename_i p q
    obtain ⟨hT, h⟩ := h
    have hu : P.underlying t = some .bool := by unfold isBoolTy at hT; split at hT <;> simp_all
    rw [hx.bool, hy.bool]
    exact VT.mkBin h (by simp [eqGuard_at_bool]) (by simp [binOp, run_equal_bool _ _ _ _ hu, Bool.beq_eq_decide_eq])
  · rename_i p q
    obtain ⟨hT, h⟩ := h
    have hu : P.underlying t = some .bool := by unfold isBoolTy at hT; split at hT <;> simp_all
    rw [hx.bool, hy.bool]
    exact VT.mkBin h (by simp [eqGuard_at_bool]) (by simp [binOp, run_equal_bool _ _ _ _ hu, Bool.beq_eq_decide_eq])
  · exact h.elim
end ops
end Go.Proofs.YtddbidoaolnegaaGreatDoor
/- That the reckoning on abstract values is right: operation by operation (slices, conversions, maps, builtins, calls). No statement of the seat is proved here; no condition. -/
namespace Go.Proofs.YtddbidoaolnegaaGreatDoor
open Go Go.RowKit

section ops
variable {P : Program} {M : List Tmp} {n : Nat} {g : Gh} {fr : Fr} {st : St} {w : World} {a : Act} {k : D → Fr → St → Prop}

theorem sound_not (hi : Inv g st w) (hf : FRel g n fr a) {t : TypeId} {x : Operand} (h : (ev fr x).asBool fun b => k (.bool (!b)) fr st) (o : Oper) (ho : o.op = .unOp .not t x) :
    Out P n g a ((execOp a.eval o).run P w) k := by
  obtain ⟨b, hb, hk⟩ := asBool_of h
  have hx := ((ev_ok hf x).of_eq hb).bool
  exact Out.next hi hf (by simp [execOp, ho, Op.unary, hx]) (VT.mkBool _) hk

theorem sound_bin (hi : Inv g st w) (hf : FRel g n fr a) {op : BinOp} {t u : TypeId} {x y : Operand} (h : evBin P op t (isLit x || isLit y) (ev fr x) (ev fr y) fun d => k d fr st) (o : Oper) (ho : o.op = .binOp op t x y u) :
    Out P n g a ((execOp a.eval o).run P w) k := by
  obtain ⟨d, r, h1, h2, h3⟩ := evBin_ok (P := P) (w := w) (ev_ok hf x) (ev_ok hf y) h
  refine Out.next hi hf (v := r) ?_ h3 h1
  have h2' : ((eqGuard op t x y (a.eval x) (a.eval y)).run P w).andThen (fun _ w' => (binOp op t (a.eval x) (a.eval y)).run P w') = .ok r w := by simpa using h2
  simp only [execOp, ho, Sem.run_bind, h2', Result.andThen_ok, Sem.run_pure]

/-! Slices of slices. -/
theorem optB_of {o : Option Operand} {df : Int} {q : Int → Prop} (h : optB fr o df q) : ∃ i, q i ∧ (o = none → i = df) ∧ ∀ x, o = some x → ∃ kd, ev fr x = .int kd i := by
  cases o with
  | none => exact ⟨df, h, fun _ => rfl, fun x hx => by cases hx⟩
  | some x =>
    obtain ⟨kd, i, he, hq⟩ := asInt_of h
    exact ⟨i, hq, (fun hn => by cases hn), (fun y hy => by cases hy; exact ⟨kd, he⟩)⟩

theorem run_bounds (hf : FRel g n fr a) {isSl : Bool} {len cap : Nat} {lo hi : Option Operand} {l h : Int}
    (hlo0 : lo = none → l = 0) (hlo : ∀ x, lo = some x → ∃ kd, ev fr x = .int kd l) (hhi0 : hi = none → h = len) (hhi : ∀ x, hi = some x → ∃ kd, ev fr x = .int kd h)
    (h0 : 0 ≤ l) (h1 : l ≤ h) (h2 : h ≤ cap) (w : World) :
    (Instr.sliceBounds isSl len cap (lo.map a.eval) (hi.map a.eval) none).run P w = .ok (l.toNat, h.toNat, cap) w := by
  have hH : (match hi.map a.eval with | some v => Instr.sliceBound v cap (if isSl then .sliceAcap else .sliceAlen) | none => pure len : _root_.Go.Sem Nat).run P w = .ok h.toNat w := by
    cases hi with
    | none => simp [hhi0 rfl]
    | some x =>
      obtain ⟨kd, he⟩ := hhi x rfl
      have := ((ev_ok hf x).of_eq he).int
      simp only [Option.map_some, this, Instr.sliceBound, asIntOf, Sem.run_bind, Sem.run_pure, Result.andThen_ok]
      rw [if_pos ⟨by omega, by omega⟩]; rfl
  have hL : (match lo.map a.eval with | some v => Instr.sliceBound v h.toNat .sliceB | none => pure 0 : _root_.Go.Sem Nat).run P w = .ok l.toNat w := by
    cases lo with
    | none => simp [hlo0 rfl]
    | some x =>
      obtain ⟨kd, he⟩ := hlo x rfl
      have := ((ev_ok hf x).of_eq he).int
      simp only [Option.map_some, this, Instr.sliceBound, asIntOf, Sem.run_bind, Sem.run_pure, Result.andThen_ok]
      rw [if_pos ⟨by omega, by omega⟩]; rfl
  unfold Instr.sliceBounds
  cases hi with
  | none =>
    cases lo with
    | none => simp [hlo0 rfl, hhi0 rfl]
    | some x =>
      simp only [Option.map_some, Option.map_none] at hL hH ⊢
      simp only [Sem.run_bind, Sem.run_pure, Result.andThen_ok] at hL hH ⊢
      have hh : h.toNat = len := by rw [hhi0 rfl]; simp
      rw [hh] at hL
      simp [hL, hh]
  | some y =>
    cases lo with
    | none =>
      simp only [Option.map_some, Option.map_none] at hL hH ⊢
      simp only [Sem.run_bind, Sem.run_pure, Result.andThen_ok] at hL hH ⊢
      simp [hH, hlo0 rfl]
    | some x =>
      simp only [Option.map_some] at hL hH ⊢
      simp only [Sem.run_bind, Sem.run_pure, Result.andThen_ok] at hL hH ⊢
      simp [hH, hL]

theorem sound_slice (hi : Inv g st w) (hf : FRel g n fr a) {t : TypeId} {x : Operand} {lo hi' : Option Operand} (h : evSlice P t (ev fr x) fr lo hi' fun d => k d fr st) (o : Oper) (ho : o.op = .slice t x lo hi' none) :
    Out P n g a ((execOp a.eval o).run P w) k := by
  have hx := ev_ok hf x
  unfold evSlice at h
  split at h
  · rename_i ow sz es he
    rw [he] at hx
    obtain ⟨hT, h⟩ := h
    obtain ⟨l, h, hl0, hl⟩ := optB_of h
    obtain ⟨u, ⟨h0, h1, h2, hk⟩, hu0, hu⟩ := optB_of h
    obtain ⟨e, hue, hz⟩ := slTy_of hT
    have hs := run_sizeOf_some (P := P) hz w
    rcases hx.sl with ⟨_, rfl, oa, _, hv⟩ | ⟨b, p, cap, hv, hcap, _, hRe⟩
    · have hl' : l = 0 := by simp at h2; omega
      have hu' : u = 0 := by simp at h2; omega
      subst hl' hu'
      have hb := run_bounds (P := P) (isSl := true) (len := 0) (cap := 0) hf (lo := lo) (hi := hi') hl0 hl (by simpa using hu0) hu (by omega) (by omega) (by simp) w
      refine Out.next hi hf (v := .slice oa 0 0) ?_ (VT.mkOne ?_ (by simp)) hk
      · cases oa <;> simp [execOp, ho, hv, Instr.sliceAt, Instr.slice, run_underlying hue, hb, hs]
      · simp only [R]; exact .inl ⟨trivial, by simp, oa, trivial, rfl⟩
    · have hb := run_bounds (P := P) (isSl := true) (len := es.length) (cap := cap) hf (lo := lo) (hi := hi') hl0 hl hu0 hu h0 h1 (by omega) w
      have hlen : ((es.take u.toNat).drop l.toNat).length = u.toNat - l.toNat := by simp; omega
      by_cases hc : cap = l.toNat
      · have hemp : (es.take u.toNat).drop l.toNat = [] := List.drop_eq_nil_of_le (by simp; omega)
        refine Out.next hi hf (v := .slice (some ⟨b, p, none⟩) (u.toNat - l.toNat) (cap - l.toNat)) ?_ (VT.mkOne ?_ (by simp)) hk
        · subst hc
          simp [execOp, ho, hv, Instr.sliceAt, Instr.slice, run_underlying hue, hb, hs]
        · simp only [R]; exact .inr ⟨b, p, cap - l.toNat, by rw [hlen], by rw [hlen]; omega, trivial, by rw [hemp]; simp [Re]⟩
      · refine Out.next hi hf (v := .slice (some ⟨b, p + l.toNat * sz, none⟩) (u.toNat - l.toNat) (cap - l.toNat)) ?_ (VT.mkOne ?_ (by simp)) hk
        · simp [execOp, ho, hv, Instr.sliceAt, Instr.slice, run_underlying hue, hb, hs, hc, Addr.add_lit]
        · simp only [R]
          refine .inr ⟨b, p + l.toNat * sz, cap - l.toNat, by rw [hlen], by rw [hlen]; omega, trivial, Re.drop _ (by simp; omega) (Re.take _ hRe)⟩
  · rename_i r q he
    rw [he] at hx
    split at h
    · rename_i m sz hT
      obtain ⟨hpos, h⟩ := h
      obtain ⟨l, h, hl0, hl⟩ := optB_of h
      obtain ⟨u, ⟨h0, h1, h2, h3, hk⟩, hu0, hu⟩ := optB_of h
      obtain ⟨e, hue, hz⟩ := arTy_of hT
      have hs := run_sizeOf_some (P := P) hz w
      have hb := run_bounds (P := P) (isSl := false) (len := m) (cap := m) hf (lo := lo) (hi := hi') hl0 hl hu0 hu h0 h1 h2 w
      have hne : m ≠ l.toNat := by omega
      refine Out.next hi hf (v := .slice (some ⟨r, q + l.toNat * sz, none⟩) (u.toNat - l.toNat) (m - l.toNat)) ?_ (VT.mkOne ?_ (by simp)) hk
      · simp [execOp, ho, hx.ptr, Instr.sliceAt, Instr.sureAddr, run_underlying hue, hb, hs, hne, Addr.add_lit]
      · simp only [R]
        exact ⟨m - l.toNat, by rw [show (u - l).toNat = u.toNat - l.toNat by omega], by omega, hpos⟩
    · exact h.elim
  · exact h.elim

theorem part_ok {t : TypeId} {l : Option Nat} (hT : ldTy P t = some l) {cs : List D} {arr : Array Value} {o : Nat} {c : D → Prop} (hr : Rs g cs arr.toList) (h : ldCs (some l) cs o c) (w : World) :
    ∃ d v, c d ∧ (part t arr o).run P w = .ok v w ∧ VT g d v := by
  have hlen := hr.length
  simp only [Array.length_toList] at hlen
  cases l with
  | some m =>
    obtain ⟨h1, h2⟩ := run_ldTy_agg hT w
    obtain ⟨hn, hk⟩ := h
    refine ⟨_, .agg (arr.extract o (o + m)), hk, by simp [part, h1, h2], VT.ofV1 ⟨_, rfl, ?_⟩⟩
    have : (arr.extract o (o + m)).toList = (arr.toList.drop o).take m := by simp [List.extract_eq_take_drop]
    rw [this]
    exact (hr.drop o).take m
  | none =>
    obtain ⟨h1, _⟩ := run_ldTy_one hT w
    obtain ⟨hn, hfl, hk⟩ := h
    have ho : o < arr.size := by omega
    have hcs : cs.getD o .any = cs[o] := by simp [List.getD, hn]
    rw [hcs] at hfl hk
    have hg := hr.get (i := o) (c := cs[o]) (v := arr[o]) (by simp [hn]) (by simp [ho])
    exact ⟨_, arr[o], hk, by simp [part, h1, ho], VT.ofV1 (V1.ofOne hg.1 hg.2 (D.flat_agg hfl))⟩

theorem sound_field (hi : Inv g st w) (hf : FRel g n fr a) {s : TypeId} {x : Operand} {f : Nat} (h : match partOf P s f, ev fr x with
    | some (o, l), .agg cs => ldCs (some l) cs o fun d => k d fr st
    | _, _ => False) (o : Oper) (ho : o.op = .field s x f) : Out P n g a ((execOp a.eval o).run P w) k := by
  have hx := ev_ok hf x
  split at h
  · rename_i q l cs hp he
    rw [he] at hx
    obtain ⟨arr, hv, hr⟩ := hx.agg
    obtain ⟨fs, fd, hu, hfd, hoff, hT⟩ := partOf_of hp
    obtain ⟨d, v, hk, hrun, hv'⟩ := part_ok (P := P) hT hr h w
    refine Out.next hi hf (v := v) ?_ hv' hk
    simp [execOp, ho, hv, Instr.field, run_underlying hu, hfd, asAgg, hoff, hrun]
  · exact h.elim

theorem sound_index (hi : Inv g st w) (hf : FRel g n fr a) {t : TypeId} {x y : Operand} (h : (ev fr y).asInt fun _ i => match ev fr x with
    | .agg cs => arTy P t = some (cs.length, 1) ∧ 0 ≤ i ∧ i.toNat < cs.length ∧ (cs.getD i.toNat .any).flat = true ∧ arEl P t = some none ∧ k (cs.getD i.toNat .any) fr st
    | .str s => isStr P t = true ∧ 0 ≤ i ∧ i.toNat < s.length ∧ k (.int .u8 (s.getD i.toNat 0).toNat) fr st
    | _ => False) (o : Oper) (ho : o.op = .index t x y) : Out P n g a ((execOp a.eval o).run P w) k := by
  have hx := ev_ok hf x
  have hy := ev_ok hf y
  obtain ⟨kd, i, hi', h⟩ := asInt_of h
  rw [hi'] at hy
  split at h
  · rename_i cs he
    rw [he] at hx
    obtain ⟨hA, h0, h1, hfl, hT, hk⟩ := h
    obtain ⟨arr, hv, hr⟩ := hx.agg
    obtain ⟨e, hu, hz⟩ := arTy_of hA
    simp only [arEl, hu] at hT
    have hlt : i < (cs.length : Int) := by omega
    have hs := run_sizeOf_some (P := P) hz w
    obtain ⟨d, v, ⟨hk', _⟩, hrun, hv'⟩ := part_ok (P := P) (c := fun d => k d fr st ∧ True) hT hr (o := i.toNat) ⟨h1, hfl, hk, trivial⟩ w
    refine Out.next hi hf (v := v) ?_ hv' hk'
    simp [execOp, ho, hv, hy.int, Instr.index, asIntOf, run_underlying hu, h0, hlt, hs, hrun]
  · rename_i s he
    rw [he] at hx
    obtain ⟨hT, h0, h1, hk⟩ := h
    have hu := str_of hT
    refine Out.next hi hf (v := .int .u8 (s.getD i.toNat 0).toNat) ?_ (VT.mkInt _ _) hk
    have hget : (ByteArray.mk s.toArray)[i.toNat]? = some (s.getD i.toNat 0) := by
      have hsz : i.toNat < (ByteArray.mk s.toArray).size := by simpa [ByteArray.size] using h1
      have h2 : (ByteArray.mk s.toArray)[i.toNat]? = some ((ByteArray.mk s.toArray)[i.toNat]'hsz) := getElem?_pos (ByteArray.mk s.toArray) i.toNat hsz
      rw [h2]
      simp [List.getD, h1, ByteArray.getElem_eq_getElem_data]
    simp [execOp, ho, hx.str, hy.int, Instr.index, asIntOf, run_underlying hu, h0, hget]
  · exact h.elim
end ops
end Go.Proofs.YtddbidoaolnegaaGreatDoor
