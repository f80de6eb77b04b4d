/-
PART OF A CLAIM: NP, KE, KF, P1, P2, P3, P4. No statement of the seat is proved here; no condition. -/
import Derived.DeepKeys5
import Derived.Test.YtddbidoaolnegaaGreatDoorWO7
set_option linter.all false
/- An append in a region whose order is open, the value laid into its place in the next region. No statement of the seat is proved here; no condition. -/
namespace Go.Proofs.YtddbidoaolnegaaGreatDoor
open Go Go.RowKit
set_option maxHeartbeats 1000000

def lst3 (c i : Nat) : Array Bool := (List.replicate (c + i) true ++ List.replicate (4 - i) false).toArray

section
variable {P : Program} {n : Nat} {ops ops2 : Array Oper} {fr : Fr} {st : St}

theorem wpOps_value {Q : Exit → Act → World → Prop} {a : Act} {w w' : World} {i : Nat} {rest : List Nat} {oi : Oper} (hi : ops[i]? = some oi) (hg : oi.guard = none) {v : Value} (h : (execOp a.eval oi).run P w = .ok (.value v) w') (hk : wpOps P ops Q rest (a.put oi.dst v) w') : wpOps P ops Q (i :: rest) a w := by
  unfold wpOps
  rw [hi]
  have : Region.wanted oi (yielded ops a.tmps) = true := by simp [Region.wanted, hg]
  simp only [this, if_true]
  left
  unfold Oper.wp
  rw [h]; exact hk
theorem wpOps_skip {Q : Exit → Act → World → Prop} {a : Act} {w w' : World} {i : Nat} {rest : List Nat} {oi : Oper} (hi : ops[i]? = some oi) (hg : oi.guard = none) (h : (execOp a.eval oi).run P w = .ok .skip w') (hk : wpOps P ops Q rest (a.put oi.dst undef) w') : wpOps P ops Q (i :: rest) a w := by
  unfold wpOps
  rw [hi]
  have : Region.wanted oi (yielded ops a.tmps) = true := by simp [Region.wanted, hg]
  simp only [this, if_true]
  left
  unfold Oper.wp
  rw [h]; exact hk

theorem W.late3 {id id2 c : Nat} {Q : Exit → Fr → St → Prop} (hm : P.follows .mixedOrders = true) (M : List Tmp) (t : PT) (hok : okP (ops.extract 0 c) t = true) (hpre : preB ops c = true) (hsz : ops.size = c + 4)
    {tS tE tM : TypeId} {s0 s3 s4 s5 s6 s7 s8 s10 s11 : Tmp} {f z q bs : Nat}
    (o10 : ∃ x, ops[c + 1]? = some x ∧ x.guard = none ∧ x.dst = some s10 ∧ x.op = .nilCheck (.tmp s0))
    (o11 : ∃ x, ops[c + 2]? = some x ∧ x.guard = none ∧ x.dst = some s11 ∧ x.op = .fieldAddr tM (.tmp s10) f)
    (o12 : ∃ x, ops[c + 3]? = some x ∧ x.guard = none ∧ x.dst = none ∧ x.op = .store tS (.tmp s11) (.tmp s7))
    (hs2 : ops2.size = 2)
    (o8 : ∃ x, ops2[0]? = some x ∧ x.guard = none ∧ x.dst = some s8 ∧ x.op = .indexAddr tS (.tmp s7) (.tmp s5))
    (o9 : ∃ x, ops2[1]? = some x ∧ x.guard = none ∧ x.dst = none ∧ x.op = .store tE (.tmp s8) (.tmp s4))
    (sz : slTy P tS = some z ∧ szOf P tE = some z ∧ szOf P tS = some 1 ∧ offOf P tM f = some q) (lt : s7 < n ∧ s8 < n ∧ s10 < n ∧ s11 < n)
    (ne : (s7 ≠ s0 ∧ s7 ≠ s4 ∧ s7 ≠ s5) ∧ (s8 ≠ s4) ∧ (s10 ≠ s4 ∧ s10 ≠ s5 ∧ s10 ≠ s7) ∧ (s11 ≠ s4 ∧ s11 ≠ s5 ∧ s11 ≠ s7) ∧ s8 ≠ s10 ∧ s8 ≠ s11 ∧ s10 ≠ s11)
    (hbs : slBytes P tS = some bs)
    (hap : ∃ x cl, ops[c]? = some x ∧ x.guard = none ∧ x.dst = some s7 ∧ x.op = .call cl ∧ cl.callee = .builtin .append ∧ cl.args = #[.tmp s3, .tmp s6] ∧ cl.argTypes = #[tS, tS])
    (h0 : Array.replicate c true ++ falses 4 = lst3 c 0)
    (hR : ∀ i, i ≤ 4 → Region.ready .any ops (lst3 c i) = if i < 4 then [c + i] else [])
    (hL : ∀ i, i < 4 → (lst3 c i).setIfInBounds (c + i) true = lst3 c (i + 1))
    (h : evT P M n (ops.toList.take c).toArray (fun fr st => ∃ r q0 sz ow es es5 cs y0, Pre P n r q0 q z sz bs tS ow es es5 cs y0 s0 s3 s4 s5 s6 s7 s8 s10 s11 (fun fr st => Q .normal fr st) fr st) t [] fr st) :
    W P n (.seq (.region id ops true) (.region id2 ops2 false)) Q fr st := by
  have e : (ops.toList.take c).toArray = ops.extract 0 c := by apply Array.ext'; simp
  rw [e] at h
  intro g w a hi hf
  simp only [okP, Bool.and_eq_true] at hok
  refine wp_seq (wp_region_any hm ?_)
  have hes : (ops.extract 0 c).size = c := by simp; omega
  have hA := absF_wp (P := P) (n := n) (M := M) (ops := ops.extract 0 c) (Q := fun e fr st => match e with
      | .normal => ∃ r q0 sz ow es es5 cs y0, Pre P n r q0 q z sz bs tS ow es es5 cs y0 s0 s3 s4 s5 s6 s7 s8 s10 s11 (fun fr st => Q .normal fr st) fr st
      | e => Q e fr st) (g0 := g) c (Array.replicate c false) [] g fr st a { w with drawn := w.drawn + 1 } (Gh.le.refl g) hi.draw hf (by
    have := evT_ok (P := P) (M := M) (n := n) (ops := ops.extract 0 c) t c (Array.replicate c false) [] fr st (by have := Nat.le_of_ble_eq_true hok.2; rwa [hes] at this) (by have := hok.1; rwa [hes] at this) (fun k o ho hk => by
      simp [Array.getD_eq_getD_getElem?, Array.getElem?_replicate] at hk
      split at hk <;> simp at hk) ⟨fun _ hy => (by cases hy)⟩ ⟨fun _ hy => (by cases hy)⟩ h
    simpa using this)
  have hS := wpAny_split (P := P) (ops := ops) (Q := Exit.then ((Code.region id2 ops2 false).wp P (lift g n Q)) (lift g n Q)) (m := 4) hpre (by omega) ?_ ?_ ?_ c (Array.replicate c false) a _ (by simp) hA
  · rw [hsz]
    have e : Array.replicate (c + 4) false = Array.replicate c false ++ falses (ops.size - c) := by
      rw [hsz, show c + 4 - c = 4 by omega]
      apply Array.ext'
      simp [falses, List.replicate_append_replicate]
    rw [e]; exact hS
  · rintro a w ⟨_, g1, fr, st, l1, hi, hf, r, q0, sz', ow, es, es5, cs, y0, hp⟩
    rw [hsz, show c + 4 - c = 4 by omega, h0]
    refine ⟨fun he => (by rw [hR 0 (by omega)] at he; simp at he), fun k hk => ?_⟩
    rw [hR 0 (by omega)] at hk
    simp only [Nat.zero_lt_succ, if_true, Nat.add_zero, List.mem_singleton] at hk
    subst hk
    rw [show (lst3 k 0).setIfInBounds k true = lst3 k 1 from hL 0 (by omega)]
    obtain ⟨x, cl, x1, x2, x3, x4, x5, x6, x7⟩ := hap
    obtain ⟨ow6, z6, f6⟩ := hp.f6
    have hv3 : VT g1 (.sl ow sz' es) (a.eval (.tmp s3)) := by have := hf.slot s3; rwa [hp.f3] at this
    have hv6 : VT g1 (.sl ow6 z6 [y0]) (a.eval (.tmp s6)) := by have := hf.slot s6; rwa [f6] at this
    have hv4 : VT g1 (.agg es5) (a.eval (.tmp s4)) := by have := hf.slot s4; rwa [hp.f4] at this
    have hv5 : a.eval (.tmp s5) = .int .i64 es.length := by have := hf.slot s5; rw [hp.f5] at this; exact this.int
    have hv0 : a.eval (.tmp s0) = .pointer (some ⟨r, q0, none⟩) := by have := hf.slot s0; rw [hp.f0] at this; exact this.ptr
    obtain ⟨z1, z2, z3, z4⟩ := sz
    obtain ⟨us0, hsrc⟩ := src_sl (P := P) hi hv6 (z := z) (by simpa using hp.len.2)
    have hR4 := (hv4.fine rfl).toRs
    have hRs4 : Rs g1 es5 (a.eval (.tmp s4)).cells.toList := hR4
    have husl : (a.eval (.tmp s4)).cells.toList.length = z := by rw [hRs4.length]; exact hp.len.1
    obtain ⟨el, hu, hz0⟩ := slTy_of z1
    obtain ⟨g2, j, w2, b, p, cap, hrun, l2, hj, hLt, hV⟩ := late_append (ty := x.type) (s := tS) hi hv3 ⟨el, hu⟩ z1 hbs hsrc husl (e := .agg es5) (by simpa [R] using hRs4) hRs4.one hp.big hp.own
    obtain ⟨⟨n1, n2, n3⟩, n4, ⟨n5, n6, n7⟩, ⟨n8, n9, n10⟩, n11, n12, n13⟩ := ne
    obtain ⟨y7, y8, y10, y11⟩ := lt
    refine wpOp_value x1 x2 (v := .slice (some ⟨b, p, none⟩) (es.length + 1) cap) (w' := w2) ?_ ?_
    · have hm2 : (#[Operand.tmp s3, Operand.tmp s6] : Array Operand).map a.eval = #[a.eval (.tmp s3), a.eval (.tmp s6)] := by apply Array.ext'; rw [Array.toList_map]; rfl
      simp [execOp, x4, resolve, x5, x6, x7, hm2, invoke, builtin, hrun]
    rw [x3]
    have hany : ∀ {fr : Fr} {a : Act} (s : Tmp), FRel g2 n fr a → FRel g2 n (fr.put s .any) a := fun {fr a} s h => ⟨h.size, h.defers, fun i => by
      unfold Fr.put
      split
      · exact trivial
      · exact h.slot i⟩
    have hf2 := hany s11 (hany s10 (hany s8 ((hf.mono l2).put (i := s7) y7 hV)))
    have hdr : Rs g2 [.sl (.tok j) z (es ++ [.agg es5])] [.slice (some ⟨b, p, none⟩) (es.length + 1) cap] := (hV.fine rfl).toRs
    have v0 : (a.put (some s7) (.slice (some ⟨b, p, none⟩) (es.length + 1) cap)).eval (.tmp s0) = .pointer (some ⟨r, q0, none⟩) := (put_ne n1.symm _).trans hv0
    have v4 : (a.put (some s7) (.slice (some ⟨b, p, none⟩) (es.length + 1) cap)).tmps.getD s4 undef = a.eval (.tmp s4) := by rw [put_ne n2.symm]; rfl
    have v5 : (a.put (some s7) (.slice (some ⟨b, p, none⟩) (es.length + 1) cap)).tmps.getD s5 undef = .int .i64 es.length := by rw [put_ne n3.symm]; exact hv5
    have v7 : (a.put (some s7) (.slice (some ⟨b, p, none⟩) (es.length + 1) cap)).tmps.getD s7 undef = .slice (some ⟨b, p, none⟩) (es.length + 1) cap := put_get hf.size y7 _
    generalize hE : a.eval (.tmp s4) = ev4 at *
    generalize a.put (some s7) (.slice (some ⟨b, p, none⟩) (es.length + 1) cap) = a1 at *
    have a8 : ((((fr.put s7 (.sl (.tok j) z (es ++ [.agg es5]))).put s8 .any).put s10 .any).put s11 .any) s10 = .any := by simp [Fr.put]
    have a11 : ((((fr.put s7 (.sl (.tok j) z (es ++ [.agg es5]))).put s8 .any).put s10 .any).put s11 .any) s11 = .any := by simp [Fr.put]
    have a9 : ((((fr.put s7 (.sl (.tok j) z (es ++ [.agg es5]))).put s8 .any).put s10 .any).put s11 .any) s8 = .any := by simp [Fr.put]
    -- the check
    refine ⟨fun he => (by rw [hR 1 (by omega)] at he; simp at he), fun k' hk => ?_⟩
    rw [hR 1 (by omega)] at hk
    simp only [show (1 : Nat) < 4 by omega, if_true, List.mem_singleton] at hk
    subst hk
    rw [hL 1 (by omega)]
    obtain ⟨x, x1, x2, x3, x4⟩ := o10
    refine wpOp_value x1 x2 (v := .pointer (some ⟨r, q0, none⟩)) (w' := w2) (by simp [execOp, x4, v0]) ?_
    rw [x3]
    replace hf2 := hf2.putAny a8 (.pointer (some ⟨r, q0, none⟩))
    have v10 : (a1.put (some s10) (.pointer (some ⟨r, q0, none⟩))).eval (.tmp s10) = .pointer (some ⟨r, q0, none⟩) := put_get (by have := hf2.size; simpa [Act.put] using this) y10 _
    replace v4 : (a1.put (some s10) (.pointer (some ⟨r, q0, none⟩))).tmps.getD s4 undef = ev4 := by rw [put_ne n5.symm]; exact v4
    replace v5 : (a1.put (some s10) (.pointer (some ⟨r, q0, none⟩))).tmps.getD s5 undef = .int .i64 es.length := by rw [put_ne n6.symm]; exact v5
    replace v7 : (a1.put (some s10) (.pointer (some ⟨r, q0, none⟩))).tmps.getD s7 undef = .slice (some ⟨b, p, none⟩) (es.length + 1) cap := by rw [put_ne n7.symm]; exact v7
    generalize a1.put (some s10) (.pointer (some ⟨r, q0, none⟩)) = a2 at *
    -- the field
    refine ⟨fun he => (by rw [hR 2 (by omega)] at he; simp at he), fun k' hk => ?_⟩
    rw [hR 2 (by omega)] at hk
    simp only [show (2 : Nat) < 4 by omega, if_true, List.mem_singleton] at hk
    subst hk
    rw [hL 2 (by omega)]
    obtain ⟨x, x1, x2, x3, x4⟩ := o11
    refine wpOp_value x1 x2 (v := .pointer (some ⟨r, q0 + q, none⟩)) (w' := w2) (by have := run_fieldPlace z4 r q0 w2; simp [execOp, x4, v10, this]) ?_
    rw [x3]
    replace hf2 := hf2.putAny a11 (.pointer (some ⟨r, q0 + q, none⟩))
    have v11 : (a2.put (some s11) (.pointer (some ⟨r, q0 + q, none⟩))).eval (.tmp s11) = .pointer (some ⟨r, q0 + q, none⟩) := put_get (by have := hf2.size; simpa [Act.put] using this) y11 _
    replace v4 : (a2.put (some s11) (.pointer (some ⟨r, q0 + q, none⟩))).tmps.getD s4 undef = ev4 := by rw [put_ne n8.symm]; exact v4
    replace v5 : (a2.put (some s11) (.pointer (some ⟨r, q0 + q, none⟩))).tmps.getD s5 undef = .int .i64 es.length := by rw [put_ne n9.symm]; exact v5
    replace v7 : (a2.put (some s11) (.pointer (some ⟨r, q0 + q, none⟩))).eval (.tmp s7) = .slice (some ⟨b, p, none⟩) (es.length + 1) cap := (put_ne n10.symm _).trans v7
    generalize a2.put (some s11) (.pointer (some ⟨r, q0 + q, none⟩)) = a3 at *
    -- the header
    refine ⟨fun he => (by rw [hR 3 (by omega)] at he; simp at he), fun k' hk => ?_⟩
    rw [hR 3 (by omega)] at hk
    simp only [show (3 : Nat) < 4 by omega, if_true, List.mem_singleton] at hk
    subst hk
    rw [hL 3 (by omega)]
    obtain ⟨x, x1, x2, x3, x4⟩ := o12
    have m1 : (ownSt st ow j).mem r = some (.cells cs) := by rw [ownSt_mem]; exact hp.mem.1
    obtain ⟨s1, s2⟩ := hLt.store (P := P) (q := q0 + q) (xs := [.sl (.tok j) z (es ++ [.agg es5])]) m1 hdr (by simpa using hp.mem.2)
    have hs := run_sizeOf_some (P := P) z3 w2
    refine wpOp_skip x1 x2 (w' := w2.setCells r (q0 + q) [.slice (some ⟨b, p, none⟩) (es.length + 1) cap]) ?_ ?_
    · have hsv : (storeVar tS ⟨r, q0 + q, none⟩ (.slice (some ⟨b, p, none⟩) (es.length + 1) cap)).run P w2 = .ok () (w2.setCells r (q0 + q) [.slice (some ⟨b, p, none⟩) (es.length + 1) cap]) := by
        simp [storeVar, hs, Value.cells, s1]
      simp [execOp, x4, v11, v7, Instr.storeAt, Instr.sureAddr, hsv]
    rw [x3]
    refine ⟨by rw [hR 4 (by omega)]; rfl, ?_⟩
    -- the next region
    show (Code.region id2 ops2 false).wp P (lift g n Q) _ _
    refine wp_region ?_
    rw [hs2, show List.range 2 = [0, 1] from rfl]
    obtain ⟨x, x1, x2, x3, x4⟩ := o8
    have hs := run_sizeOf_some (P := P) hz0 (w2.setCells r (q0 + q) [.slice (some ⟨b, p, none⟩) (es.length + 1) cap])
    have v5' : a3.eval (.tmp s5) = .int .i64 es.length := v5
    refine wpOps_value x1 x2 (v := .pointer (some ⟨b, p + es.length * z, none⟩)) (w' := w2.setCells r (q0 + q) [.slice (some ⟨b, p, none⟩) (es.length + 1) cap]) ?_ ?_
    · have hlt : (es.length : Int) < (es.length : Int) + 1 := by omega
      have e3 : (a3.put none undef).eval = a3.eval := rfl
      rw [e3]
      simp [execOp, x4, v7, v5', Instr.indexAt, asIntOf, run_underlying hu, hlt, hs, Addr.add_lit]
    rw [x3]
    obtain ⟨x, x1, x2, x3, x4⟩ := o9
    replace hf2 := hf2.putAny a9 (.pointer (some ⟨b, p + es.length * z, none⟩))
    have v8 : ((a3.put none undef).put (some s8) (.pointer (some ⟨b, p + es.length * z, none⟩))).eval (.tmp s8) = .pointer (some ⟨b, p + es.length * z, none⟩) := put_get (by have := hf2.size; simpa [Act.put] using this) y8 _
    have v4' : ((a3.put none undef).put (some s8) (.pointer (some ⟨b, p + es.length * z, none⟩))).eval (.tmp s4) = ev4 := (put_ne n4.symm _).trans v4
    have hs := run_sizeOf_some (P := P) z2 (w2.setCells r (q0 + q) [.slice (some ⟨b, p, none⟩) (es.length + 1) cap])
    have hlay := s2.lay (P := P)
    refine wpOps_skip x1 x2 (w' := (w2.setCells r (q0 + q) [.slice (some ⟨b, p, none⟩) (es.length + 1) cap]).setCells b (p + es.length * z) ev4.cells.toList) ?_ ?_
    · have hc : ev4.cells.size = z := by rw [← husl]; simp
      have hsv : (storeVar tE ⟨b, p + es.length * z, none⟩ ev4).run P (w2.setCells r (q0 + q) [.slice (some ⟨b, p, none⟩) (es.length + 1) cap]) = .ok () ((w2.setCells r (q0 + q) [.slice (some ⟨b, p, none⟩) (es.length + 1) cap]).setCells b (p + es.length * z) ev4.cells.toList) := by
        simp [storeVar, hs, hc, hlay]
      simp [execOp, x4, v8, v4', Instr.storeAt, Instr.sureAddr, hsv]
    rw [x3]
    exact ⟨rfl, g2, _, _, l1.trans l2, s2.inv, hf2, hp.next j hj⟩
  · rintro ch a w ⟨h1, g', fr, st, h2, h3, h4, h5⟩; exact ⟨h1, g', fr, st, h2, h3, h4, h5⟩
  · rintro ⟨a, w, h1, g', fr, st, h2, h3, h4, h5⟩; exact ⟨a, w, h1, g', fr, st, h2, h3, h4, h5⟩
end
end Go.Proofs.YtddbidoaolnegaaGreatDoor
/- Levels: how the program holds them against each other; what may be a key. No statement of the seat is proved here; no condition. -/
namespace Go.Proofs.YtddbidoaolnegaaGreatDoor
open Go Go.RowKit
set_option maxRecDepth 10000

theorem laidOut : laidOutB P = true := by kernel_rfl
theorem und78 : P.underlying 78 = some (.struct (P.fieldsOf 78)) := by kernel_rfl
theorem flds78 : (P.fieldsOf 78).toList.map (fun f => (f.name, f.type, f.offset)) = [("C", 3, 0), ("P", 76, 1)] := by kernel_rfl
theorem und76 : P.underlying 76 = some (.array 4 3) := by kernel_rfl
theorem und3 : P.underlying 3 = some (.int .i64) := by kernel_rfl
theorem plain3 : P.plainKey 3 = true := by kernel_rfl
theorem cells3 : P.cellsOf 3 = 1 := by kernel_rfl
theorem cells76 : P.cellsOf 76 = 4 := by kernel_rfl
theorem stood78 : P.stoodInHeld 78 = false := by kernel_rfl
theorem guard78 : P.eqGuardType P.depth 78 = false := by kernel_rfl
theorem info3 : ∃ i, P.info? 3 = some i := info_of_underlying und3
theorem info76 : ∃ i, P.info? 76 = some i := info_of_underlying und76

theorem run_part76 (w : World) (xs : Array Value) (off : Nat) : (part 76 xs off).run P w = .ok (.agg (xs.extract off (off + 4))) w := by
  obtain ⟨i, hi⟩ := info76
  have hs := run_sizeOf (P := P) w hi
  rw [cells76] at hs
  simp [part, isAgg, run_underlying und76, hs]

theorem eqI78 : EqI P 78 5 := by
  intro w x y a b ha hb
  obtain ⟨a0, a1, a2, a3, a4, rfl⟩ : ∃ a0 a1 a2 a3 a4, a = [a0, a1, a2, a3, a4] := by
    match a, ha with
    | [a0, a1, a2, a3, a4], _ => exact ⟨_, _, _, _, _, rfl⟩
  obtain ⟨b0, b1, b2, b3, b4, rfl⟩ : ∃ a0 a1 a2 a3 a4, b = [a0, a1, a2, a3, a4] := by
    match b, hb with
    | [a0, a1, a2, a3, a4], _ => exact ⟨_, _, _, _, _, rfl⟩
  refine ⟨?_, ?_, ?_⟩
  · simp [eqGuard, guard78]
  · simp [eqGuard, guard78]
  · have hF := flds78
    rcases hfs : (P.fieldsOf 78).toList with _ | ⟨f, _ | ⟨g, _ | ⟨h, r⟩⟩⟩
    · rw [hfs] at hF; simp at hF
    · rw [hfs] at hF; simp at hF
    · rw [hfs] at hF
      simp only [List.map_cons, List.map_nil, List.cons.injEq, Prod.mk.injEq, and_true] at hF
      obtain ⟨⟨fn, ft, fo⟩, gn, gt, go⟩ := hF
      obtain ⟨i3, hi3⟩ := info3
      show (Op.equalIn (9998 + 1 + 1) 78 _ _).run P w = _
      rw [run_equalIn_struct w _ _ _ _ und78 stood78, hfs]
      have p0 : ∀ (xs : Array Value) (o : Nat) (v : Value), xs[o]? = some v → (part 3 xs o).run P w = .ok v w := fun xs o v h => run_part_plain w plain3 h
      have e3 : ∀ d u v, (Op.equalIn (d + 1) 3 (.int .i64 u) (.int .i64 v)).run P w = .ok (u == v) w := fun d u v => run_equalIn_int w d 3 .i64 .i64 u v und3
      simp only [Op.eqFields, fn, ft, fo, gn, gt, go, ne_eq, String.reduceEq, not_false_eq_true, if_true, Sem.run_bind]
      rw [p0 _ 0 (.int .i64 a0) (by simp)]
      simp only [Result.andThen_ok]
      rw [p0 _ 0 (.int .i64 b0) (by simp)]
      simp only [Result.andThen_ok, e3]
      by_cases h0 : a0 = b0
      · subst h0
        simp only [beq_self_eq_true, Bool.not_true, Bool.false_eq_true, if_false, Sem.run_bind, run_part76, Result.andThen_ok]
        rw [run_equalIn_array w _ _ _ und76 hi3, cells3]
        have hr : List.range 4 = [0, 1, 2, 3] := rfl
        simp only [hr, Op.eqItems, Sem.run_bind]
        rw [p0 _ (0 * 1) (.int .i64 a1) (by simp), Result.andThen_ok, p0 _ (0 * 1) (.int .i64 b1) (by simp), Result.andThen_ok]
        simp only [Result.andThen_ok, e3]
        by_cases h1 : a1 = b1
        · subst h1
          simp only [beq_self_eq_true, Bool.not_true, Bool.false_eq_true, if_false, Sem.run_bind, Result.andThen_ok]
          rw [p0 _ (1 * 1) (.int .i64 a2) (by simp), Result.andThen_ok, p0 _ (1 * 1) (.int .i64 b2) (by simp), Result.andThen_ok]
          simp only [Result.andThen_ok, e3]
          by_cases h2 : a2 = b2
          · subst h2
            simp only [beq_self_eq_true, Bool.not_true, Bool.false_eq_true, if_false, Sem.run_bind, Result.andThen_ok]
            rw [p0 _ (2 * 1) (.int .i64 a3) (by simp), Result.andThen_ok, p0 _ (2 * 1) (.int .i64 b3) (by simp), Result.andThen_ok]
            simp only [Result.andThen_ok, e3]
            by_cases h3 : a3 = b3
            · subst h3
              simp only [beq_self_eq_true, Bool.not_true, Bool.false_eq_true, if_false, Sem.run_bind, Result.andThen_ok]
              rw [p0 _ (3 * 1) (.int .i64 a4) (by simp), Result.andThen_ok, p0 _ (3 * 1) (.int .i64 b4) (by simp), Result.andThen_ok]
              simp only [Result.andThen_ok, e3]
              by_cases h4 : a4 = b4
              · subst h4; simp
              · simp [h4]
            · simp [h3]
          · simp [h2]
        · simp [h1]
      · simp [h0]
    · rw [hfs] at hF; simp at hF
end Go.Proofs.YtddbidoaolnegaaGreatDoor
/- What may be a key of the program's maps. No statement of the seat is proved here; no condition. -/
namespace Go.Proofs.YtddbidoaolnegaaGreatDoor
open Go Go.RowKit
set_option maxRecDepth 10000

theorem und9 : P.underlying 9 = some .string := by kernel_rfl
theorem und5 : P.underlying 5 = some (.int .u8) := by kernel_rfl
theorem und174 : P.underlying 174 = some (.array 4 78) := by kernel_rfl
theorem und175 : P.underlying 175 = some (.array 3 3) := by kernel_rfl
theorem und177 : P.underlying 177 = some (.struct (P.fieldsOf 177)) := by kernel_rfl
theorem flds177 : (P.fieldsOf 177).toList.map (fun f => (f.name, f.type, f.offset)) = [("kind", 5, 0), ("n", 3, 1), ("s", 9, 2), ("levels", 3, 3), ("ls", 174, 4), ("kids", 175, 24)] := by kernel_rfl
theorem cells5 : P.cellsOf 5 = 1 := by kernel_rfl
theorem cells9 : P.cellsOf 9 = 1 := by kernel_rfl
theorem cells78 : P.cellsOf 78 = 5 := by kernel_rfl
theorem cells174 : P.cellsOf 174 = 20 := by kernel_rfl
theorem cells175 : P.cellsOf 175 = 3 := by kernel_rfl
theorem cells177 : P.cellsOf 177 = 27 := by kernel_rfl
theorem keyT78 : P.keyType 78 = true := by kernel_rfl
theorem keyT177 : P.keyType 177 = true := by kernel_rfl

theorem keyed9 : Maps.Keyed P 9 := Maps.string_keyed und9
theorem keyed3 : Maps.Keyed P 3 := Maps.int_keyed und3
theorem size10k : P.types.size + 2 ≤ 10000 := Nat.le_of_ble_eq_true (by kernel_rfl)
theorem row78 : 78 < P.types.size := Nat.le_of_ble_eq_true (by kernel_rfl)
theorem row177 : 177 < P.types.size := Nat.le_of_ble_eq_true (by kernel_rfl)
theorem keyed78 : Maps.Keyed P 78 := Maps.Keyed.of_law (deep_law_gate laidOut size10k row78 keyT78 (by rw [und78]))
theorem keyed177 : Maps.Keyed P 177 := Maps.Keyed.of_law (deep_law_gate laidOut size10k row177 keyT177 (by rw [und177]))

theorem keyOk9 {s : List UInt8} (h : s.length < 9223372036854775808) : KeyOk P 9 (.string ⟨s.toArray⟩) := by
  refine ⟨keyed9, .string s, ?_⟩
  simp only [keyOf, und9, mapKey]
  rw [if_pos (by simp [ByteArray.size, maxLen]; omega)]

theorem wf64 {n : Int} (h1 : -9223372036854775808 ≤ n) (h2 : n ≤ 9223372036854775807) : (Lit.int .i64 n).wf = true := by
  simp [Lit.wf, IntKind.min, IntKind.max, IntKind.bits, IntKind.signed] <;> omega
theorem wf8 {n : Int} (h1 : 0 ≤ n) (h2 : n ≤ 255) : (Lit.int .u8 n).wf = true := by
  simp [Lit.wf, IntKind.min, IntKind.max, IntKind.bits, IntKind.signed] <;> omega
theorem keyOk3 {n : Int} (h1 : -9223372036854775808 ≤ n) (h2 : n ≤ 9223372036854775807) : KeyOk P 3 (.int .i64 n) := by
  refine ⟨keyed3, .int .i64 n, ?_⟩
  simp only [keyOf, und3, mapKey]
  rw [if_pos ⟨trivial, wf64 h1 h2⟩]

theorem kl3 (d : Nat) {n : Int} (h1 : -9223372036854775808 ≤ n) (h2 : n ≤ 9223372036854775807) : ∃ L, P.keyLits (d + 1) 3 [.int .i64 n] = some L := by
  unfold Program.keyLits
  simp only [und3]
  rw [if_pos ⟨trivial, wf64 h1 h2⟩]
  exact ⟨_, rfl⟩
theorem kl5 (d : Nat) {n : Int} (h1 : 0 ≤ n) (h2 : n ≤ 255) : ∃ L, P.keyLits (d + 1) 5 [.int .u8 n] = some L := by
  unfold Program.keyLits
  simp only [und5]
  rw [if_pos ⟨trivial, wf8 h1 h2⟩]
  exact ⟨_, rfl⟩
theorem kl9 (d : Nat) {s : List UInt8} (h : s.length < 9223372036854775808) : ∃ L, P.keyLits (d + 1) 9 [.string ⟨s.toArray⟩] = some L := by
  unfold Program.keyLits
  simp only [und9]
  rw [if_pos (by simp [ByteArray.size, maxLen]; omega)]
  exact ⟨_, rfl⟩

theorem mapM_some {α β : Type} (f : α → Option β) : ∀ (l : List α), (∀ a ∈ l, ∃ b, f a = some b) → ∃ bs, l.mapM f = some bs
  | [], _ => ⟨[], by simp⟩
  | a :: l, h => by
    obtain ⟨b, hb⟩ := h a (by simp)
    obtain ⟨bs, hbs⟩ := mapM_some f l (fun x hx => h x (by simp [hx]))
    exact ⟨b :: bs, by simp [List.mapM_cons, hb, hbs]⟩

/-- An array of so many elements. -/
theorem klArr (d : Nat) {t e : TypeId} {n : Nat} (hu : P.underlying t = some (.array n e)) {cs : List Value} (hc : cs.length = P.cellsOf t)
    (h : ∀ i, i < n → ∃ L, P.keyLits d e ((cs.drop (i * P.cellsOf e)).take (P.cellsOf e)) = some L) : ∃ L, P.keyLits (d + 1) t cs = some L := by
  unfold Program.keyLits
  simp only [hu]
  rw [if_pos hc]
  obtain ⟨bs, hbs⟩ := mapM_some _ (List.range n) (fun i hi => h i (List.mem_range.1 hi))
  exact ⟨_, by rw [hbs]; rfl⟩
theorem klStr (d : Nat) {t : TypeId} {fs : Array Field} (hu : P.underlying t = some (.struct fs)) {cs : List Value} (hc : cs.length = P.cellsOf t) (hn : fs.all (·.name != "_") = true)
    (h : ∀ x ∈ fs.toList.map (fun f => (f.name, f.type, f.offset)), ∃ L, P.keyLits d x.2.1 ((cs.drop x.2.2).take (P.cellsOf x.2.1)) = some L) : ∃ L, P.keyLits (d + 1) t cs = some L := by
  unfold Program.keyLits
  simp only [hu]
  rw [if_pos ⟨hc, hn⟩]
  obtain ⟨bs, hbs⟩ := mapM_some (fun f : Field => P.keyLits d f.type ((cs.drop f.offset).take (P.cellsOf f.type))) fs.toList (fun f hf => h _ (List.mem_map.2 ⟨f, hf, rfl⟩))
  exact ⟨_, by rw [hbs]; rfl⟩

theorem names78 : (P.fieldsOf 78).all (·.name != "_") = true := by kernel_rfl
theorem names177 : (P.fieldsOf 177).all (·.name != "_") = true := by kernel_rfl

def iv (n : Int) : Value := .int .i64 n
def fits (n : Int) : Prop := -9223372036854775808 ≤ n ∧ n ≤ 9223372036854775807

theorem drop_take1 {α : Type} (l : List α) (i : Nat) (a : α) (h : l[i]? = some a) : (l.drop i).take 1 = [a] := by
  have hi : i < l.length := by
    rcases Nat.lt_or_ge i l.length with h' | h'
    · exact h'
    · rw [List.getElem?_eq_none h'] at h; cases h
  rw [List.drop_eq_getElem_cons hi]
  rw [List.getElem?_eq_getElem hi] at h
  simp at h
  simp [h]

/-- Ints, one by one. -/
theorem klInts (d : Nat) {t : TypeId} {n : Nat} (hu : P.underlying t = some (.array n 3)) (hc : P.cellsOf t = n) {p : List Int} (hp : p.length = n) (h : ∀ x ∈ p, fits x) : ∃ L, P.keyLits (d + 2) t (p.map iv) = some L := by
  refine klArr (d + 1) hu (by rw [hc, List.length_map, hp]) fun i hi => ?_
  rw [cells3, Nat.mul_one, drop_take1 _ i (iv (p[i]'(by omega))) (by simp [show i < p.length by omega])]
  have := h (p[i]'(by omega)) (List.getElem_mem _)
  exact kl3 d this.1 this.2

theorem klLv (d : Nat) {c : Int} {p : List Int} (hp : p.length = 4) (hc : fits c) (h : ∀ x ∈ p, fits x) : ∃ L, P.keyLits (d + 3) 78 (iv c :: p.map iv) = some L := by
  refine klStr (d + 2) und78 (by simp [hp, cells78]) names78 fun x hx => ?_
  rw [flds78] at hx
  simp only [List.mem_cons, List.not_mem_nil, or_false] at hx
  rcases hx with rfl | rfl
  · rw [cells3]; exact kl3 (d + 1) hc.1 hc.2
  · rw [cells76]
    have e : ((iv c :: p.map iv).drop 1).take 4 = p.map iv := by simp [List.take_of_length_le, hp]
    rw [e]
    exact klInts d und76 cells76 hp h

theorem keyOk78 {c : Int} {p : List Int} (hp : p.length = 4) (hc : fits c) (h : ∀ x ∈ p, fits x) : KeyOk P 78 (.agg (iv c :: p.map iv).toArray) := by
  refine ⟨keyed78, ?_⟩
  have hs : ∃ d, P.types.size + 1 = d + 3 := ⟨P.types.size + 1 - 3, by have : 10 ≤ P.types.size + 1 := Nat.le_of_ble_eq_true (by kernel_rfl); omega⟩
  obtain ⟨d, hd⟩ := hs
  obtain ⟨L, hL⟩ := klLv d hp hc h
  refine ⟨.string (keyBytes L), ?_⟩
  simp only [keyOf, und78]
  rw [if_pos (by rw [keyT78]; simp [Value.formed, und78, cells78, hp]), hd]
  simp only [Value.cells, hL, Option.map_some]

/-- Four levels' cells. -/
def LvC (cs : List Value) : Prop := ∃ (c : Int) (p : List Int), cs = iv c :: p.map iv ∧ p.length = 4 ∧ fits c ∧ ∀ x ∈ p, fits x

theorem kl174 (d : Nat) {cs : List Value} (hc : cs.length = 20) (h : ∀ i, i < 4 → LvC ((cs.drop (i * 5)).take 5)) : ∃ L, P.keyLits (d + 4) 174 cs = some L := by
  refine klArr (d + 3) und174 (by rw [cells174, hc]) fun i hi => ?_
  rw [cells78]
  obtain ⟨c, p, e, hp, h1, h2⟩ := h i hi
  rw [e]
  exact klLv d hp h1 h2

theorem keyOk177 {k n len : Int} {s : List UInt8} {ls : List Value} {ks : List Int} (hk : 0 ≤ k ∧ k ≤ 255) (hn : fits n) (hs : s.length < 9223372036854775808) (hlen : fits len)
    (hls : ls.length = 20) (hl : ∀ i, i < 4 → LvC ((ls.drop (i * 5)).take 5)) (hks : ks.length = 3) (hkf : ∀ x ∈ ks, fits x) :
    KeyOk P 177 (.agg (.int .u8 k :: iv n :: .string ⟨s.toArray⟩ :: iv len :: (ls ++ ks.map iv)).toArray) := by
  refine ⟨keyed177, ?_⟩
  have hsz : ∃ d, P.types.size + 1 = d + 5 := ⟨P.types.size + 1 - 5, by have : 10 ≤ P.types.size + 1 := Nat.le_of_ble_eq_true (by kernel_rfl); omega⟩
  obtain ⟨d, hd⟩ := hsz
  have : ∃ L, P.keyLits (d + 5) 177 (.int .u8 k :: iv n :: .string ⟨s.toArray⟩ :: iv len :: (ls ++ ks.map iv)) = some L := by
    refine klStr (d + 4) und177 (by simp [hls, hks, cells177]) names177 fun x hx => ?_
    rw [flds177] at hx
    simp only [List.mem_cons, List.not_mem_nil, or_false] at hx
    rcases hx with rfl | rfl | rfl | rfl | rfl | rfl
    · rw [cells5]; exact kl5 (d + 3) hk.1 hk.2
    · rw [cells3]; exact kl3 (d + 3) hn.1 hn.2
    · rw [cells9]; exact kl9 (d + 3) hs
    · rw [cells3]; exact kl3 (d + 3) hlen.1 hlen.2
    · rw [cells174]
      have e : ((Value.int .u8 k :: iv n :: .string ⟨s.toArray⟩ :: iv len :: (ls ++ ks.map iv)).drop 4).take 20 = ls := by simp [← hls]
      rw [e]
      exact kl174 d hls hl
    · rw [cells175]
      have e : ((Value.int .u8 k :: iv n :: .string ⟨s.toArray⟩ :: iv len :: (ls ++ ks.map iv)).drop 24).take 3 = ks.map iv := by
        rw [show (24 : Nat) = 20 + 1 + 1 + 1 + 1 from rfl]
        simp only [List.drop_succ_cons]
        rw [List.drop_left' hls]
        exact List.take_of_length_le (by simp [hks])
      rw [e]
      exact klInts (d + 2) und175 cells175 hks hkf
  obtain ⟨L, hL⟩ := this
  refine ⟨.string (keyBytes L), ?_⟩
  simp only [keyOf, und177]
  rw [if_pos (by rw [keyT177]; simp [Value.formed, und177, cells177, hls, hks]), hd]
  simp only [Value.cells, hL, Option.map_some]
end Go.Proofs.YtddbidoaolnegaaGreatDoor
/- Names: the walks. No statement of the seat is proved here; no condition. -/
namespace Go.Proofs.YtddbidoaolnegaaGreatDoor
open Go Go.RowKit
open Nat renaming reduceLT → zA, reduceEqDiff → zB, reduceBEq → zC, reduceAdd → zD, reduceMul → zE, reduceSub → zF, reduceLeDiff → zG, mul_one → zH, zero_add → zI, add_zero → zJ
open Int renaming toNat_natCast → zK, reduceAdd → zL, reduceLE → zM, reduceLT → zN, natCast_nonneg → zO
open Go.Proofs.YtddbidoaolnegaaGreatDoor renaming evI_plain → ya, evI_guard → yb, evT_rd → yc, evT_rdg → yd, evT_act → ye, evT_actg → yf, evI_done → yg, evT_two → yh, evT_nil → yi, W.seqG → yj, W.block → yk, W.regionI → yl, W.cond → ym, W.skip → yn, W.ret → yo, W.exit → yp, gdD_split → yq, newT_intro → yr, newB_intro → ys, W.draw → yt, St.set_del → yu, St.give_take → yv, AGo.go → yw, IGo.go → yx, TGo.go → yy, Goes.go → yz
attribute [local go_sem] zK zP zQ zH zI zJ zO
attribute [local irreducible] W evI evT evL evOp evBin gdD Sem newT newB fillD bldOf
set_option maxRecDepth 10000
set_option maxHeartbeats 1000000

/-- May a byte stand in a name? -/
def letterB (c : Nat) : Bool := (97 ≤ c && c ≤ 122) || (65 ≤ c && c ≤ 90) || (48 ≤ c && c ≤ 57) || c == 95 || c == 46 || c == 39
def nameB (s : List UInt8) : Bool := s.all (fun c => letterB c.toNat) && decide (1 ≤ s.length) && decide (s.length ≤ 32)

theorem nameB_bad {s : List UInt8} {i : Nat} (hi : i < s.length) (h : letterB (s.getD i 0).toNat = false) : nameB s = false := by
  have : s.all (fun c => letterB c.toNat) = false := by
    rw [List.all_eq_false]
    exact ⟨s.getD i 0, by simp [List.getD, hi], by rw [h]; simp⟩
  simp [nameB, this]
theorem nameB_good {s : List UInt8} (h : ∀ j, j < s.length → letterB (s.getD j 0).toNat = true) : nameB s = (decide (1 ≤ s.length) && decide (s.length ≤ 32)) := by
  have : s.all (fun c => letterB c.toNat) = true := by
    rw [List.all_eq_true]
    intro c hc
    obtain ⟨j, hj, rfl⟩ := List.getElem_of_mem hc
    have := h j hj
    simpa [List.getD, hj] using this
  simp [nameB, this]

theorem lt_succ_all {p : Nat → Prop} {i : Nat} (h : ∀ j, j < i → p j) (hi : p i) : ∀ j, j < i + 1 → p j := fun j hj => by
  rcases Nat.lt_or_ge j i with h1 | h1
  · exact h j h1
  · have : j = i := by omega
    rw [this]; exact hi

theorem nameB_end {s : List UInt8} (h : ∀ j, j < s.length → letterB (s.getD j 0).toNat = true) : nameB s = (!decide (s = []) && decide ((s.length : Int) ≤ 32)) := by
  rw [nameB_good h]
  have h2 : decide ((s.length : Int) ≤ 32) = decide (s.length ≤ 32) := decide_eq_decide.2 (by omega)
  rw [h2]
  cases s <;> simp

theorem sem103 (c : Nat) (st : St) (k : D → St → Prop) (hk : k (.bool (letterB c)) st) : Sem P 103 [.int .u8 c] st k := by
  refine Sem.of_body Tryz.call103 Tryz.func103 rfl Tryz.ntmps103 (by simp) ?_
  repeat' first | refine yj fun N hN => ?_ | refine yk ?_ | refine yl [] ?_ | ((first | refine ya rfl rfl fun N hN => ?_ | refine yb rfl rfl rfl rfl fun N hN => ?_ | refine ym ?_ | refine yo ?_ | refine yp ?_); simp only [go_sem, ↓reduceIte, zA, zB, zC, zD, zE, zF, zG, zL, zM, zN, reduceCtorEq, Tryz.results103]) | ((first | refine yg rfl ?_ | refine yn ?_); try simp only [go_sem]) | ((first | refine yx hN _ _ ?_ | refine yz hN _ _ ?_); clear hN N) | ((first | refine yq (fun h => ?_) (fun h => ?_) | (apply And.intro <;> intro h)) <;> (try simp only [zS, zT, zU, zV, Bool.not_true, Bool.not_false] at h) <;> (first | (exfalso; omega) | simp only [go_sem, ↓reduceIte, zA, zB, zC, zD, zE, zF, zG, zL, zM, zN, reduceCtorEq, h] | skip)) | clear hN N | fail
  all_goals first
    | (rw [show letterB c = true from by simp only [letterB, Bool.or_eq_true, Bool.and_eq_true, decide_eq_true_eq, beq_iff_eq]; omega] at hk; exact hk)
    | (rw [show letterB c = false from by simp only [letterB, Bool.or_eq_false_iff, Bool.and_eq_false_iff, decide_eq_false_iff_not, beq_eq_false_iff_ne]; omega] at hk; exact hk)
    | skip

theorem sem73 (s : List UInt8) (st : St) (k : D → St → Prop) (hs : s.length < 140737488355328) (hk : k (.bool (nameB s)) st) : Sem P 73 [.str s] st k := by
  refine Sem.of_body Tryz.call73 Tryz.func73 rfl Tryz.ntmps73 (by simp) ?_
  repeat' first | refine yj fun N hN => ?_ | refine yk ?_ | refine yl [] ?_ | (refine ya rfl rfl fun N hN => ?_; simp only [go_sem, ↓reduceIte, zA, zB, zC, zD, zE, zF, zG, zL, zM, zN, reduceCtorEq, Tryz.results73]) | (refine yg rfl ?_; try simp only [go_sem]) | ((first | refine yx hN _ _ ?_ | refine yz hN _ _ ?_); clear hN N) | fail
  refine W.loopN (fun m fr st' => st' = st ∧ ∃ i, i + m = s.length ∧ (∀ j, j < i → letterB (s.getD j 0).toNat = true) ∧ fr 0 = .str s ∧ fr 6 = .int .i64 i ∧ fr 5 = .int .i64 s.length) ?_ s.length _ _ ⟨rfl, 0, by simp, by simp, by simp only [go_sem, ↓reduceIte, zA, zB, zC, zD, zE, zF, zG, zL, zM, zN, reduceCtorEq], by simp only [go_sem, ↓reduceIte, zA, zB, zC, zD, zE, zF, zG, zL, zM, zN, reduceCtorEq]; rfl, by simp only [go_sem, ↓reduceIte, zA, zB, zC, zD, zE, zF, zG, zL, zM, zN, reduceCtorEq]⟩
  rintro m N' ih fr _ ⟨rfl, i, hi, hl, f0, f6, f5⟩
  repeat' first | refine yj fun N hN => ?_ | refine yk ?_ | refine yl [] ?_ | ((first | refine ya rfl rfl fun N hN => ?_ | refine yb rfl rfl rfl rfl fun N hN => ?_ | refine ym ?_ | refine yo ?_ | refine yp ?_); simp only [go_sem, ↓reduceIte, zA, zB, zC, zD, zE, zF, zG, zL, zM, zN, reduceCtorEq, f0, f6, f5, Tryz.results73]) | ((first | refine yg rfl ?_ | refine yn ?_); try simp only [go_sem]) | ((first | refine yx hN _ _ ?_ | refine yz hN _ _ ?_); clear hN N) | (refine sem103 _ _ _ ?_; try simp only [go_sem, ↓reduceIte, zA, zB, zC, zD, zE, zF, zG, zL, zM, zN, reduceCtorEq, f0, f6, f5]) | ((first | refine yq (fun h => ?_) (fun h => ?_) | (apply And.intro <;> intro h)) <;> (try simp only [zS, zT, zU, zV, Bool.not_true, Bool.not_false] at h) <;> (first | (exfalso; omega) | simp only [go_sem, ↓reduceIte, zA, zB, zC, zD, zE, zF, zG, zL, zM, zN, reduceCtorEq, f0, f6, f5, h] | skip)) | (refine And.intro ?_ ?_; · omega) | clear hN N | fail
  all_goals first
    | (refine ih.back (m - 1) ?_ _ _ ⟨rfl, i + 1, ?_, lt_succ_all hl ?_, ?_, ?_, ?_⟩
       · omega
       · omega
       · simpa using h
       · simp only [go_sem, ↓reduceIte, zA, zB, zC, zD, zE, zF, zG, zL, zM, zN, reduceCtorEq, f0]
       · simp only [go_sem, ↓reduceIte, zA, zB, zC, zD, zE, zF, zG, zL, zM, zN, reduceCtorEq]; rfl
       · simp only [go_sem, ↓reduceIte, zA, zB, zC, zD, zE, zF, zG, zL, zM, zN, reduceCtorEq, f5])
    | (rw [nameB_bad (i := i) (by omega) (by simpa using h)] at hk; exact hk)
    | (rw [nameB_end (fun j hj => hl j (by omega))] at hk
       simpa [h] using hk)
    | skip

theorem getD_map {α : Type} (f : α → D) (l : List α) (a : α) {i : Nat} (h : i < l.length) : (l.map f).getD i .any = f (l.getD i a) := by
  simp [List.getD, h]

theorem sem23 (s : List UInt8) (st : St) (k : D → St → Prop) (hs : s.length < 140737488355328) (hk : k (.bool (nameB s)) st) : Sem P 23 [.str s] st k := by
  refine Sem.drop ?_
  refine Sem.of_body Tryz.call23 Tryz.func23 rfl Tryz.ntmps23 (by simp) ?_
  repeat' first | refine yj fun N hN => ?_ | refine yk ?_ | refine yl [] ?_ | (refine ya rfl rfl fun N hN => ?_; simp only [go_sem, ↓reduceIte, zA, zB, zC, zD, zE, zF, zG, zL, zM, zN, reduceCtorEq, Tryz.results23]) | (refine yg rfl ?_; try simp only [go_sem]) | ((first | refine yx hN _ _ ?_ | refine yz hN _ _ ?_); clear hN N) | ((refine yr fun j hj => ?_; (try have hj0 := St.tok_of_give hj)); try simp only [go_sem, ↓reduceIte, zA, zB, zC, zD, zE, zF, zG, zL, zM, zN, reduceCtorEq]) | fail
  refine W.loopN (fun m fr st' => st' = st.give j ∧ ∃ i, i + m = s.length ∧ (∀ j, j < i → letterB (s.getD j 0).toNat = true) ∧ fr 0 = .str s ∧ fr 8 = .int .i64 i ∧ fr 7 = .int .i64 s.length ∧ fr 6 = .sl (.tok j) 1 (byD s)) ?_ s.length _ _ ⟨rfl, 0, by simp, by simp, by simp only [go_sem, ↓reduceIte, zA, zB, zC, zD, zE, zF, zG, zL, zM, zN, reduceCtorEq], by simp only [go_sem, ↓reduceIte, zA, zB, zC, zD, zE, zF, zG, zL, zM, zN, reduceCtorEq]; rfl, by simp only [go_sem, ↓reduceIte, zA, zB, zC, zD, zE, zF, zG, zL, zM, zN, reduceCtorEq], by simp only [go_sem, ↓reduceIte, zA, zB, zC, zD, zE, zF, zG, zL, zM, zN, reduceCtorEq]⟩
  rintro m N' ih fr _ ⟨rfl, i, hi, hl, f0, f8, f7, f6⟩
  rcases Nat.lt_or_ge i s.length with hlt | hge
  · have hc : ((i : Int) < s.length) = True := eq_true (by omega)
    have hg := byD_getD s hlt
    repeat' first | refine yj fun N hN => ?_ | refine yk ?_ | refine yl [] ?_ | ((first | refine ya rfl rfl fun N hN => ?_ | refine yb rfl rfl rfl rfl fun N hN => ?_ | refine ym ?_ | refine yo ?_); simp only [go_sem, ↓reduceIte, zA, zB, zC, zD, zE, zF, zG, zL, zM, zN, reduceCtorEq, f0, f8, f7, f6, hg, hc, Tryz.results23]) | ((first | refine yg rfl ?_ | refine yn ?_); try simp only [go_sem]) | ((first | refine yx hN _ _ ?_ | refine yz hN _ _ ?_); clear hN N) | ((first | refine yq (fun h => ?_) (fun h => ?_) | (apply And.intro <;> intro h)) <;> (try simp only [zS, zT, zU, zV, Bool.not_true, Bool.not_false] at h) <;> (first | (exfalso; omega) | simp only [go_sem, ↓reduceIte, zA, zB, zC, zD, zE, zF, zG, zL, zM, zN, reduceCtorEq, f0, f8, f7, f6, hg, hc, h] | skip)) | (refine And.intro ?_ ?_; · omega) | clear hN N | fail
    all_goals first
      | (refine ih.back (m - 1) ?_ _ _ ⟨rfl, i + 1, ?_, lt_succ_all hl ?_, ?_, ?_, ?_, ?_⟩
         · omega
         · omega
         · simp only [letterB, Bool.or_eq_true, Bool.and_eq_true, decide_eq_true_eq, beq_iff_eq]; omega
         · simp only [go_sem, ↓reduceIte, zA, zB, zC, zD, zE, zF, zG, zL, zM, zN, reduceCtorEq, f0]
         · simp only [go_sem, ↓reduceIte, zA, zB, zC, zD, zE, zF, zG, zL, zM, zN, reduceCtorEq]; rfl
         · simp only [go_sem, ↓reduceIte, zA, zB, zC, zD, zE, zF, zG, zL, zM, zN, reduceCtorEq, f7]
         · simp only [go_sem, ↓reduceIte, zA, zB, zC, zD, zE, zF, zG, zL, zM, zN, reduceCtorEq, f6])
      | (refine ⟨st, St.le_give (St.le.refl _) _, ?_⟩
         rw [nameB_bad (i := i) (by omega) (by simp only [letterB, Bool.or_eq_false_iff, Bool.and_eq_false_iff, decide_eq_false_iff_not, beq_eq_false_iff_ne]; omega)] at hk; exact hk)
  · have hc : ((i : Int) < s.length) = False := eq_false (by omega)
    repeat' first | refine yj fun N hN => ?_ | refine yl [] ?_ | ((first | refine ya rfl rfl fun N hN => ?_ | refine yb rfl rfl rfl rfl fun N hN => ?_ | refine ym ?_ | refine yo ?_ | refine yp ?_); simp only [go_sem, ↓reduceIte, zA, zB, zC, zD, zE, zF, zG, zL, zM, zN, reduceCtorEq, f0, f8, f7, f6, hc, Tryz.results23]) | (refine yg rfl ?_; try simp only [go_sem]) | ((first | refine yx hN _ _ ?_ | refine yz hN _ _ ?_); clear hN N) | (refine yq (fun h => ?_) (fun h => ?_) <;> (try simp only [zS, zT, zU, zV, Bool.not_true, Bool.not_false] at h) <;> (first | (exfalso; omega) | simp only [go_sem, ↓reduceIte, zA, zB, zC, zD, zE, zF, zG, zL, zM, zN, reduceCtorEq, f0, f8, f7, f6, hc, h] | skip)) | clear hN N | fail
    all_goals
      refine ⟨st, St.le_give (St.le.refl _) _, ?_⟩
      rw [nameB_end (fun j hj => hl j (by omega))] at hk
      simpa [h] using hk
end Go.Proofs.YtddbidoaolnegaaGreatDoor
/- Numbers as bytes: the walks. No statement of the seat is proved here; no condition. -/
namespace Go.Proofs.YtddbidoaolnegaaGreatDoor
open Go Go.RowKit
open Nat renaming reduceLT → zA, reduceEqDiff → zB, reduceBEq → zC, reduceAdd → zD, reduceMul → zE, reduceSub → zF, reduceLeDiff → zG, mul_one → zH, zero_add → zI, add_zero → zJ
open Int renaming toNat_natCast → zK, reduceAdd → zL, reduceLE → zM, reduceLT → zN, natCast_nonneg → zO
open Go.Proofs.YtddbidoaolnegaaGreatDoor renaming evI_plain → ya, evI_guard → yb, evT_rd → yc, evT_rdg → yd, evT_act → ye, evT_actg → yf, evI_done → yg, evT_two → yh, evT_nil → yi, W.seqG → yj, W.block → yk, W.regionI → yl, W.cond → ym, W.skip → yn, W.ret → yo, W.exit → yp, gdD_split → yq, newT_intro → yr, newB_intro → ys, W.draw → yt, St.set_del → yu, St.give_take → yv, AGo.go → yw, IGo.go → yx, TGo.go → yy, Goes.go → yz
attribute [local go_sem] zK zP zQ zH zI zJ zO
attribute [local irreducible] W evI evT evL evOp evBin gdD Sem newT newB fillD bldOf
set_option maxRecDepth 10000
set_option maxHeartbeats 1000000

/-- A number's bytes. -/
def num (n : Nat) : List UInt8 := if h : n < 128 then [UInt8.ofNat n] else UInt8.ofNat (128 + n % 128) :: num (n / 128)
theorem num_small {n : Nat} (h : n < 128) : num n = [UInt8.ofNat n] := by rw [num, dif_pos h]
theorem num_big {n : Nat} (h : ¬ n < 128) : num n = UInt8.ofNat (128 + n % 128) :: num (n / 128) := by rw [num, dif_neg h]
theorem num_len : ∀ (k n : Nat), n < 128 ^ (k + 1) → (num n).length ≤ k + 1
  | 0, n, h => by rw [num_small (by simpa using h)]; simp
  | k + 1, n, h => by
    by_cases hn : n < 128
    · rw [num_small hn]; simp
    · rw [num_big hn]
      have h1 : n / 128 < 128 ^ (k + 1) := by
        rw [Nat.div_lt_iff_lt_mul (by omega)]
        rw [Nat.pow_succ] at h; exact h
      have := num_len k (n / 128) h1
      simp; omega
theorem num_len64 {n : Nat} (h : n < 18446744073709551616) : (num n).length ≤ 10 := num_len 9 n (Nat.lt_trans h (by decide))

theorem wrap_u8 (n : Nat) : IntKind.u8.wrap (n : Int) = ((n % 256 : Nat) : Int) := by
  simp [IntKind.wrap, IntKind.bits, IntKind.signed]
theorem or128 (n : Nat) : bits .or .u8 (IntKind.u8.wrap (n : Int)) 128 = (((UInt8.ofNat (128 + n % 128)).toNat : Nat) : Int) := by
  rw [wrap_u8]
  have h : ∀ x : Fin 256, bits .or .u8 ((x.val : Nat) : Int) 128 = (((UInt8.ofNat (128 + x.val % 128)).toNat : Nat) : Int) := by decide
  have := h ⟨n % 256, Nat.mod_lt _ (by decide)⟩
  simp only at this
  rw [this]
  rw [show n % 256 % 128 = n % 128 by omega]
theorem wrap_small {n : Nat} (h : n < 128) : IntKind.u8.wrap (n : Int) = (((UInt8.ofNat n).toNat : Nat) : Int) := by
  rw [wrap_u8]; simp

theorem sem19 (ow : Own) (z : Nat) (b : List UInt8) (n : Nat) (st : St) (k : D → St → Prop) (hb : b.length < 1000000000) (hn : n < 18446744073709551616)
    (hk : ∀ j, st.tok j = false → k (.sl (.tok j) 1 (byD (b ++ num n))) (st.give j)) : Sem P 19 [.sl ow z (byD b), .int .u64 n] st k := by
  refine Sem.of_body Tryz.call19 Tryz.func19 rfl Tryz.ntmps19 (by simp) ?_
  repeat' first | refine yj fun N hN => ?_ | refine yk ?_ | refine yl [] ?_ | (refine ya rfl rfl fun N hN => ?_; simp only [go_sem, ↓reduceIte, zA, zB, zC, zD, zE, zF, zG, zL, zM, zN, reduceCtorEq, Tryz.results19]) | (refine yg rfl ?_; try simp only [go_sem]) | ((first | refine yx hN _ _ ?_ | refine yz hN _ _ ?_); clear hN N) | rw [yv hj] | ((refine yr fun j hj => ?_; (try have hj0 := St.tok_of_give hj)); try simp only [go_sem, ↓reduceIte, zA, zB, zC, zD, zE, zF, zG, zL, zM, zN, reduceCtorEq]) | (refine And.intro ?_ ?_; · omega) | fail
  refine W.loopN (fun m fr st' => ∃ j pre, st.tok j = false ∧ st' = st.give j ∧ pre ++ num m = num n ∧ m < 18446744073709551616 ∧ fr 1 = .int .u64 m ∧ fr 5 = .sl (.tok j) 1 (byD (b ++ pre))) ?_ n _ _ ⟨_, [], hj0, rfl, rfl, hn, by simp only [go_sem, ↓reduceIte, zA, zB, zC, zD, zE, zF, zG, zL, zM, zN, reduceCtorEq], by simp only [go_sem, ↓reduceIte, zA, zB, zC, zD, zE, zF, zG, zL, zM, zN, reduceCtorEq, List.append_nil]⟩
  rintro m N' ih fr _ ⟨j, pre, hj, rfl, hp, hm, f1, f5⟩
  have hl := num_len64 hn
  rw [← hp, List.length_append] at hl
  by_cases hc : m < 128
  · have hc' : ((128 : Int) ≤ m) = False := eq_false (by omega)
    have hv := wrap_small hc
    repeat' first | refine yj fun N hN => ?_ | refine yl [] ?_ | ((first | refine ya rfl rfl fun N hN => ?_ | refine ym ?_ | refine yo ?_ | refine yp ?_); simp only [go_sem, ↓reduceIte, zA, zB, zC, zD, zE, zF, zG, zL, zM, zN, reduceCtorEq, f1, f5, hc', hv, Tryz.results19]) | (refine yg rfl ?_; try simp only [go_sem]) | ((first | refine yx hN _ _ ?_ | refine yz hN _ _ ?_); clear hN N) | rw [yv hj] | ((refine yr fun j hj => ?_; (try have hj0 := St.tok_of_give hj)); try simp only [go_sem, ↓reduceIte, zA, zB, zC, zD, zE, zF, zG, zL, zM, zN, reduceCtorEq, f1, f5, hc', hv]) | (refine And.intro ?_ ?_; · omega) | clear hN N | fail
    all_goals (
      rw [num_small hc] at hp
      have := hk j hj0
      rw [← hp, ← List.append_assoc, byD_append] at this
      exact this)
  · have hc' : ((128 : Int) ≤ m) = True := eq_true (by omega)
    have hv := or128 m
    repeat' first | refine yj fun N hN => ?_ | refine yk ?_ | refine yl [] ?_ | ((first | refine ya rfl rfl fun N hN => ?_ | refine ym ?_); simp only [go_sem, ↓reduceIte, zA, zB, zC, zD, zE, zF, zG, zL, zM, zN, reduceCtorEq, f1, f5, hc', hv, Tryz.results19]) | ((first | refine yg rfl ?_ | refine yn ?_); try simp only [go_sem]) | ((first | refine yx hN _ _ ?_ | refine yz hN _ _ ?_); clear hN N) | rw [yv hj] | ((refine yr fun j hj => ?_; (try have hj0 := St.tok_of_give hj)); try simp only [go_sem, ↓reduceIte, zA, zB, zC, zD, zE, zF, zG, zL, zM, zN, reduceCtorEq, f1, f5, hc', hv]) | (refine And.intro ?_ ?_; · omega) | clear hN N | fail
    all_goals (
      rw [num_big hc] at hp
      refine ih.back (m / 128) (by omega) _ _ ⟨j, pre ++ [UInt8.ofNat (128 + m % 128)], hj0, rfl, by rw [List.append_assoc]; exact hp, by omega, ?_, ?_⟩
      · simp only [go_sem, ↓reduceIte, zA, zB, zC, zD, zE, zF, zG, zL, zM, zN, reduceCtorEq]; rfl
      · simp only [go_sem, ↓reduceIte, zA, zB, zC, zD, zE, zF, zG, zL, zM, zN, reduceCtorEq]; rw [← List.append_assoc, byD_append (b ++ pre)]; rfl)

theorem sem89 (ow : Own) (z : Nat) (b s : List UInt8) (st : St) (k : D → St → Prop) (hb : b.length < 100000000) (hs : s.length < 1000000)
    (hno : nameB s = false → k (.tup [.sl .nil 0 [], .int .i64 5]) st)
    (hk : ∀ j, nameB s = true → st.tok j = false → k (.tup [.sl (.tok j) 1 (byD (b ++ num s.length ++ s)), .int .i64 0]) (st.give j)) : Sem P 89 [.sl ow z (byD b), .str s] st k := by
  have hw := wrap_u64 (n := s.length) (by omega)
  have hl := num_len64 (n := s.length) (by omega)
  refine Sem.of_body Tryz.call89 Tryz.func89 rfl Tryz.ntmps89 (by simp) ?_
  repeat' first | refine yj fun N hN => ?_ | refine yl [] ?_ | ((first | refine ya rfl rfl fun N hN => ?_ | refine ym ?_ | refine yo ?_); simp only [go_sem, ↓reduceIte, zA, zB, zC, zD, zE, zF, zG, zL, zM, zN, reduceCtorEq, hw, Tryz.results89]) | ((first | refine yg rfl ?_ | refine yn ?_); try simp only [go_sem]) | ((first | refine yx hN _ _ ?_ | refine yz hN _ _ ?_); clear hN N) | (refine sem73 _ _ _ (by omega) ?_; try simp only [go_sem, ↓reduceIte, zA, zB, zC, zD, zE, zF, zG, zL, zM, zN, reduceCtorEq, hw]) | (refine sem19 _ _ _ _ _ _ (by omega) (by omega) fun j hj => ?_; try simp only [go_sem, ↓reduceIte, zA, zB, zC, zD, zE, zF, zG, zL, zM, zN, reduceCtorEq, hw]) | rw [yv hj] | ((apply And.intro <;> intro h) <;> (try simp only [zS, zT, zU, zV, Bool.not_true, Bool.not_false] at h) <;> (first | (exfalso; omega) | simp only [go_sem, ↓reduceIte, zA, zB, zC, zD, zE, zF, zG, zL, zM, zN, reduceCtorEq, hw, h] | skip)) | ((refine yr fun j hj => ?_; (try have hj0 := St.tok_of_give hj)); try simp only [go_sem, ↓reduceIte, zA, zB, zC, zD, zE, zF, zG, zL, zM, zN, reduceCtorEq, hw]) | (refine And.intro ?_ ?_; · omega) | clear hN N | fail
  · exact hno h
  · have := hk _ (by assumption) (by assumption)
    rw [byD_append] at this
    exact this
end Go.Proofs.YtddbidoaolnegaaGreatDoor
/- Levels: the walks. No statement of the seat is proved here; no condition. -/
namespace Go.Proofs.YtddbidoaolnegaaGreatDoor
open Go Go.RowKit
open Nat renaming reduceLT → zA, reduceEqDiff → zB, reduceBEq → zC, reduceAdd → zD, reduceMul → zE, reduceSub → zF, reduceLeDiff → zG, mul_one → zH, zero_add → zI, add_zero → zJ
open Int renaming toNat_natCast → zK, reduceAdd → zL, reduceLE → zM, reduceLT → zN, natCast_nonneg → zO
open Go.Proofs.YtddbidoaolnegaaGreatDoor renaming evI_plain → ya, evI_guard → yb, evT_rd → yc, evT_rdg → yd, evT_act → ye, evT_actg → yf, evI_done → yg, evT_two → yh, evT_nil → yi, W.seqG → yj, W.block → yk, W.regionI → yl, W.cond → ym, W.skip → yn, W.ret → yo, W.exit → yp, gdD_split → yq, newT_intro → yr, newB_intro → ys, W.draw → yt, St.set_del → yu, St.give_take → yv, AGo.go → yw, IGo.go → yx, TGo.go → yy, Goes.go → yz
attribute [local go_sem] zK zP zQ zH zI zJ zO
attribute [local irreducible] W evI evT evL evOp evBin gdD Sem newT newB fillD bldOf
set_option maxRecDepth 10000
set_option maxHeartbeats 1000000

structure Lv where
  c : Int
  p : List Int
  n : p.length = 4
def Lv.d (l : Lv) : D := .agg (.int .i64 l.c :: l.p.map (.int .i64))

/-- One entry is as it may be. -/
def entB (c p : Int) : Bool := decide (-1 ≤ p) && decide (p ≤ 1099511627776) && !(decide (c ≤ p) && decide (0 ≤ p) && decide (0 < c))
def lvB (l : Lv) : Bool := decide (0 ≤ l.c) && decide (l.c ≤ 1099511627776) && l.p.all (entB l.c)

theorem all_bad {p : List Int} {q : Int → Bool} {i : Nat} (hi : i < p.length) (h : q (p.getD i 0) = false) : p.all q = false := by
  rw [List.all_eq_false]
  exact ⟨p.getD i 0, by simp [List.getD, hi], by rw [h]; simp⟩
theorem all_good {p : List Int} {q : Int → Bool} (h : ∀ j, j < p.length → q (p.getD j 0) = true) : p.all q = true := by
  rw [List.all_eq_true]
  intro c hc
  obtain ⟨j, hj, rfl⟩ := List.getElem_of_mem hc
  have := h j hj
  simpa [List.getD, hj] using this

end Go.Proofs.YtddbidoaolnegaaGreatDoor
/- Levels as bytes: the walks. No statement of the seat is proved here; no condition. -/
namespace Go.Proofs.YtddbidoaolnegaaGreatDoor
open Go Go.RowKit
open Nat renaming reduceLT → zA, reduceEqDiff → zB, reduceBEq → zC, reduceAdd → zD, reduceMul → zE, reduceSub → zF, reduceLeDiff → zG, mul_one → zH, zero_add → zI, add_zero → zJ
open Int renaming toNat_natCast → zK, reduceAdd → zL, reduceLE → zM, reduceLT → zN, natCast_nonneg → zO
open Go.Proofs.YtddbidoaolnegaaGreatDoor renaming evI_plain → ya, evI_guard → yb, evT_rd → yc, evT_rdg → yd, evT_act → ye, evT_actg → yf, evI_done → yg, evT_two → yh, evT_nil → yi, W.seqG → yj, W.block → yk, W.regionI → yl, W.cond → ym, W.skip → yn, W.ret → yo, W.exit → yp, gdD_split → yq, newT_intro → yr, newB_intro → ys, W.draw → yt, St.set_del → yu, St.give_take → yv, AGo.go → yw, IGo.go → yx, TGo.go → yy, Goes.go → yz
attribute [local go_sem] zK zP zQ zH zI zJ zO
attribute [local irreducible] W evI evT evL evOp evBin gdD Sem newT newB fillD bldOf
set_option maxRecDepth 10000
set_option maxHeartbeats 1000000

/-- A level's bytes. -/
def lvNum (l : Lv) : List UInt8 := num l.c.toNat ++ l.p.flatMap fun n => num (n + 1).toNat

theorem wrap_u64i {n : Int} (h1 : 0 ≤ n) (h2 : n < 18446744073709551616) : IntKind.u64.wrap n = (n.toNat : Int) := by
  have := wrap_u64 (n := n.toNat) (by omega)
  rwa [show ((n.toNat : Nat) : Int) = n by omega] at this ⊢

theorem sem118 (ow : Own) (z : Nat) (b : List UInt8) (l : Lv) (st : St) (k : D → St → Prop) (hb : b.length < 100000000) (hc : 0 ≤ l.c ∧ l.c ≤ 1099511627776) (hp : ∀ i, i < 4 → -1 ≤ l.p.getD i 0 ∧ l.p.getD i 0 ≤ 1099511627776)
    (hk : ∀ j, st.tok j = false → k (.sl (.tok j) 1 (byD (b ++ lvNum l))) (st.give j)) : Sem P 118 [.sl ow z (byD b), .eptr l.d 0] st k := by
  have hn := l.n
  refine Sem.drop ?_
  refine Sem.of_body Tryz.call118 Tryz.func118 rfl Tryz.ntmps118 (by simp) ?_
  unfold Lv.d
  have hw := wrap_u64i hc.1 (by omega)
  repeat' first | refine yj fun N hN => ?_ | refine yk ?_ | refine yl [] ?_ | (refine ya rfl rfl fun N hN => ?_; simp only [go_sem, ↓reduceIte, zA, zB, zC, zD, zE, zF, zG, zL, zM, zN, reduceCtorEq, hw, hn, Tryz.results118]) | (refine yg rfl ?_; try simp only [go_sem]) | ((first | refine yx hN _ _ ?_ | refine yz hN _ _ ?_); clear hN N) | (refine sem19 _ _ _ _ _ _ (by omega) (by omega) fun j hj => ?_; try simp only [go_sem, ↓reduceIte, zA, zB, zC, zD, zE, zF, zG, zL, zM, zN, reduceCtorEq, hw, hn]) | fail
  have hle : (st.give j).le (st.give j) := St.le.refl _
  have ht : (l.p.map (D.int .i64)).take 4 = l.p.map (D.int .i64) := List.take_of_length_le (by simp [hn])
  refine W.loopN (fun m fr st' => ∃ i, i + m = 4 ∧ ∃ j, st.tok j = false ∧ (st.give j).le st' ∧ fr 13 = .int .i64 i ∧ fr 12 = .agg (l.p.map (.int .i64)) ∧ fr 0 = .sl (.tok j) 1 (byD (b ++ num l.c.toNat ++ (l.p.take i).flatMap fun n => num (n + 1).toNat)) ∧ ((l.p.take i).flatMap fun n => num (n + 1).toNat).length ≤ 10 * i) ?_ 4 _ _
    ⟨0, by simp, j, hj, hle, by simp only [go_sem, ↓reduceIte, zA, zB, zC, zD, zE, zF, zG, zL, zM, zN, reduceCtorEq]; rfl, by simp only [go_sem, ↓reduceIte, zA, zB, zC, zD, zE, zF, zG, zL, zM, zN, reduceCtorEq, ht], by simp only [go_sem, ↓reduceIte, zA, zB, zC, zD, zE, zF, zG, zL, zM, zN, reduceCtorEq, List.take_zero, List.flatMap_nil, List.append_nil], by simp⟩
  rintro m N' ih fr st' ⟨i, hi, j, hj, hle, f13, f12, f0, hbd⟩
  have hlc := num_len64 (n := l.c.toNat) (by omega)
  rcases Nat.lt_or_ge i 4 with hlt | hge
  · have hg : (l.p.map (D.int .i64)).getD i .any = .int .i64 (l.p.getD i 0) := getD_map _ _ 0 (by omega)
    have h4 : (i : Int) < 4 := by omega
    have hpi := hp i hlt
    have hw2 := wrap_u64i (n := l.p.getD i 0 + 1) (by omega) (by omega)
    have hlc2 := num_len64 (n := (l.p.getD i 0 + 1).toNat) (by omega)
    have htk : l.p.take (i + 1) = l.p.take i ++ [l.p.getD i 0] := by
      rw [List.take_add_one]
      simp [List.getD, show i < l.p.length by omega]
    have hb2 : (b ++ num l.c.toNat ++ (l.p.take i).flatMap fun n => num (n + 1).toNat).length < 1000000000 := by simp only [List.length_append]; omega
    repeat' first | refine yj fun N hN => ?_ | refine yk ?_ | refine yl [] ?_ | ((first | refine ya rfl rfl fun N hN => ?_ | refine ym ?_); simp only [go_sem, ↓reduceIte, zA, zB, zC, zD, zE, zF, zG, zL, zM, zN, reduceCtorEq, f13, f12, f0, hg, hn, hlt, h4, hw2, Tryz.results118]) | ((first | refine yg rfl ?_ | refine yn ?_); try simp only [go_sem]) | ((first | refine yx hN _ _ ?_ | refine yz hN _ _ ?_); clear hN N) | (refine sem19 _ _ _ _ _ _ hb2 (by omega) fun j hj => ?_; try simp only [go_sem, ↓reduceIte, zA, zB, zC, zD, zE, zF, zG, zL, zM, zN, reduceCtorEq, f13, f12, f0, hg, hn, hlt, h4, hw2]) | (refine And.intro ?_ ?_; · omega) | clear hN N | fail
    all_goals (
      refine ih.back (m - 1) (by omega) _ _ ⟨i + 1, by omega, _, St.tok_false_of_le ((St.le_give (St.le.refl _) _).trans hle) hj, St.give_mono ((St.le_give (St.le.refl _) _).trans hle) _, ?_, ?_, ?_, ?_⟩
      · simp only [go_sem, ↓reduceIte, zA, zB, zC, zD, zE, zF, zG, zL, zM, zN, reduceCtorEq]; rfl
      · simp only [go_sem, ↓reduceIte, zA, zB, zC, zD, zE, zF, zG, zL, zM, zN, reduceCtorEq, f12]
      · simp only [go_sem, ↓reduceIte, zA, zB, zC, zD, zE, zF, zG, zL, zM, zN, reduceCtorEq]; rw [htk, List.flatMap_append]; simp only [List.flatMap_cons, List.flatMap_nil, List.append_nil, List.append_assoc]
      · rw [htk, List.flatMap_append]; simp only [List.flatMap_cons, List.flatMap_nil, List.append_nil, List.length_append]; omega)
  · have h4 : ¬ (i : Int) < 4 := by omega
    have hall : l.p.take i = l.p := List.take_of_length_le (by omega)
    rw [hall] at f0
    repeat' first | refine yj fun N hN => ?_ | refine yl [] ?_ | ((first | refine ya rfl rfl fun N hN => ?_ | refine ym ?_ | refine yo ?_ | refine yp ?_); simp only [go_sem, ↓reduceIte, zA, zB, zC, zD, zE, zF, zG, zL, zM, zN, reduceCtorEq, f13, f12, f0, h4, Tryz.results118]) | (refine yg rfl ?_; try simp only [go_sem]) | ((first | refine yx hN _ _ ?_ | refine yz hN _ _ ?_); clear hN N) | clear hN N | fail
    all_goals exact ⟨_, hle, by have := hk j hj; rw [lvNum, ← List.append_assoc] at this; exact this⟩
end Go.Proofs.YtddbidoaolnegaaGreatDoor
