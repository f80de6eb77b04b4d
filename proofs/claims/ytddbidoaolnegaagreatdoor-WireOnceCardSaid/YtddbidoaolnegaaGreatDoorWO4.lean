/-
PART OF A CLAIM: K, L, N, O. No statement of the seat is proved here; no condition. -/
import Derived.Laws.MakeOwn
import Derived.Test.YtddbidoaolnegaaGreatDoorWO3
set_option linter.all false
/- That the reckoning on abstract values is right: operation by operation (conversions, maps, builtins, calls). No statement of the seat is proved here; no condition. -/
namespace Go.Proofs.YtddbidoaolnegaaGreatDoor
open Go Go.RowKit

/-- The model's mark on a block, behind its last cell. -/
theorem Inv.mark {g : Gh} {st : St} {w : World} (h : Inv g st w) {b : Nat} (hb : g.base ≤ b) (hm : st.mem b = none) {arr : Array Value} {el : TypeId} {fz : Nat × Nat} (hh : w.heap[b]? = some (.cells arr el fz)) :
    Inv g st (w.freeze ⟨b, arr.size, none⟩ 1) := by
  have other : ∀ x, x ≠ b → (w.freeze ⟨b, arr.size, none⟩ 1).heap[x]? = w.heap[x]? := fun x hx => by
    simp [World.freeze, Array.getElem?_modify, Ne.symm hx]
  have same : ∃ fz', (w.freeze ⟨b, arr.size, none⟩ 1).heap[b]? = some (.cells arr el fz') ∧ (fzOk fz arr.size → fzOk fz' arr.size) := by
    refine ⟨if fz.1 = fz.2 then (arr.size, arr.size + 1) else (min fz.1 arr.size, max fz.2 (arr.size + 1)), ?_, fun hf => ?_⟩
    · simp [World.freeze, Array.getElem?_modify, hh]
    · split
      · exact .inr (Nat.le_refl _)
      · rename_i hne
        rcases hf with hf | hf
        · exact absurd hf hne
        · exact .inr (by show arr.size ≤ min fz.1 arr.size; omega)
  obtain ⟨fz', hs, hfz⟩ := same
  have cell : ∀ a : Addr, (w.freeze ⟨b, arr.size, none⟩ 1).cell? a = w.cell? a := fun a => by
    by_cases hab : a.block = b
    · subst hab; simp [World.cell?, hs, hh]
    · exact World.cell?_of_block (w := w) (other _ hab)
  refine ⟨⟨h.below.os, h.below.tape, h.below.output, ?_, fun k hk => (other k (by omega)).trans (h.below.block k hk)⟩, ?_, fun b' o v hv => by rw [cell]; exact h.fz _ _ _ hv, fun r ob hr => ?_, fun i hi => ?_, h.apart, h.fin⟩
  · have := h.below.size; simpa [World.freeze] using this
  · have := h.base; simpa [World.freeze] using this
  · obtain ⟨k1, k2, k3⟩ := h.mem r ob hr
    have hne : r ≠ b := fun e => by rw [e, hm] at hr; cases hr
    exact ⟨k1, k2, Ob.ok_mono (Gh.le.refl g) (other r hne) k3⟩
  · obtain ⟨t, k1, k2⟩ := h.tok i hi
    refine ⟨t, k1, k2.new, k2.clear, k2.room, ?_, k2.free⟩
    by_cases hb' : t.b = b
    · obtain ⟨arr2, el2, fz2, e1, e2, e3⟩ := k2.lies
      rw [hb', hh] at e1; cases e1
      rw [hb']
      exact ⟨arr, el, fz', hs, hfz e2, e3⟩
    · rw [other _ hb']; exact k2.lies

theorem bytes_world (w : World) (e : TypeId) (s : ByteArray) :
    Go.Lib.bytesWorld w e s = w.drew.alloc (.cells (Go.Lib.bytesCells w e s) e ((Go.Lib.bytesCells w e s).size, (Go.Lib.bytesCells w e s).size + 1)) := by
  have h1 := Go.Lib.bytesWorld_at_new w e s
  have h2 := fun j hj => Go.Lib.bytesWorld_at_old w e s j hj
  have h3 := Go.Lib.bytesWorld_size w e s
  have hheap : (Go.Lib.bytesWorld w e s).heap = w.heap.push (.cells (Go.Lib.bytesCells w e s) e ((Go.Lib.bytesCells w e s).size, (Go.Lib.bytesCells w e s).size + 1)) := by
    apply Array.ext_getElem?
    intro j
    rw [Array.getElem?_push]
    split
    · rename_i hj; rw [hj, h1]
    · rename_i hj
      rcases Nat.lt_or_ge j w.heap.size with hl | hl
      · exact h2 j hl
      · rw [Array.getElem?_eq_none (by omega), Array.getElem?_eq_none hl]
  have h4 : ∀ x : World, x.heap = (w.drew.alloc (.cells (Go.Lib.bytesCells w e s) e ((Go.Lib.bytesCells w e s).size, (Go.Lib.bytesCells w e s).size + 1))).heap → x.tape = w.tape → x.drawn = w.drawn + 1 → x.os = w.os → x.output = w.output →
      x = w.drew.alloc (.cells (Go.Lib.bytesCells w e s) e ((Go.Lib.bytesCells w e s).size, (Go.Lib.bytesCells w e s).size + 1)) := by
    intro x a b c d e
    cases x
    simp only at a b c d e
    subst a b c d e
    rfl
  exact h4 _ hheap rfl rfl rfl rfl

section ops
variable {P : Program} {M : List Tmp} {n : Nat} {g : Gh} {fr : Fr} {st : St} {w : World} {a : Act} {k : D → Fr → St → Prop}

theorem below_drew (w : World) : Below w.heap.size w w.drew := (Below.refl _ _).drew
theorem Inv.drew (h : Inv g st w) : Inv g st w.drew := h.ext (below_drew w)

theorem bytesOf_ok : ∀ {es : List D} {l : List UInt8} {us : List Value}, bytesOf es = some l → (∃ sz b p, Re g sz es b p ∧ us.length = es.length * sz ∧ g.At b p us) → ∃ ns : List Int, us = ns.map (Value.int .u8) ∧ l = ns.map fun n => UInt8.ofNat n.toNat
  | [], l, us, h, ⟨sz, b, p, _, hl, _⟩ => by
    simp [bytesOf] at h; subst h
    have : us = [] := List.eq_nil_of_length_eq_zero (by simpa using hl)
    exact ⟨[], by simp [this], rfl⟩
  | c :: es, l, us, h, ⟨sz, b, p, hr, hlen, hA⟩ => by
    cases c with
    | int kd m =>
      cases kd <;> simp only [bytesOf] at h <;> first | (cases h; done) | skip
      cases hl : bytesOf es with
      | none => simp [hl] at h
      | some l' =>
        simp [hl] at h; subst h
        simp only [Re, R] at hr
        obtain ⟨⟨vs, hvl, hvA, rfl⟩, hr2⟩ := hr
        simp at hvl
        subst hvl
        cases us with
        | nil => simp at hlen
        | cons u us =>
          have hu : u = .int .u8 m := by
            have e1 := hA 0 u rfl
            have e2 := hvA 0 _ rfl
            rw [e1] at e2; exact Option.some.inj e2
          obtain ⟨ns, e1, e2⟩ := bytesOf_ok (us := us) hl ⟨1, b, p + 1, hr2, by simpa using hlen, fun j u hj => by
            have := hA (j + 1) u (by simpa using hj)
            rwa [show p + (j + 1) = p + 1 + j by omega] at this⟩
          exact ⟨m :: ns, by simp [hu, e1], by simp [e2]⟩
    | _ => simp [bytesOf] at h

theorem foldl_push (ns : List Int) : ∀ (b : ByteArray), (ns.foldl (fun r n => r.push (UInt8.ofNat n.toNat)) b) = ⟨b.data ++ (ns.map fun n => UInt8.ofNat n.toNat).toArray⟩ := by
  induction ns with
  | nil => intro b; simp
  | cons n ns ih =>
    intro b
    simp only [List.foldl_cons, ih]
    congr 1
    apply Array.ext'
    simp [ByteArray.push]

theorem isBytes_of {t : TypeId} (h : isBytes P t = true) : ∃ e, P.underlying t = some (.slice e) ∧ P.underlying e = some (.int .u8) := by
  unfold isBytes at h
  split at h
  · rename_i e hu
    refine ⟨e, hu, ?_⟩
    cases he : P.underlying e with
    | none => simp [he] at h
    | some d =>
      cases d with
      | int kd => cases kd <;> simp [he] at h; rfl
      | _ => simp [he] at h
  · cases h

theorem sound_convStr (hi : Inv g st w) (hf : FRel g n fr a) {s d : TypeId} {x : Operand} {ow : Own} {sz : Nat} {es : List D} (he : ev fr x = .sl ow sz es) (hd : isStr P d = true)
    (h : match bytesOf es with | some b => slTy P s = some sz ∧ isBytes P s = true ∧ k (.str b) fr st | none => False) (o : Oper) (ho : o.op = .convert s d x) : Out P n g a ((execOp a.eval o).run P w) k := by
  have hx := (ev_ok hf x).of_eq he
  have hud := str_of hd
  split at h
  · rename_i b hb
    obtain ⟨hT, hB, hk⟩ := h
    obtain ⟨e, hus, hue⟩ := isBytes_of hB
    rcases hx.sl with ⟨_, rfl, oa, _, hv⟩ | ⟨bl, p, cap, hv, hcap, _, hRe⟩
    · simp [bytesOf] at hb; subst hb
      refine Out.next hi hf (v := .string ⟨#[]⟩) ?_ (VT.mkOne (by simp [R]) (by simp)) hk
      cases oa <;> simp [execOp, ho, hv, convert, run_underlying hus, run_underlying hud, run_underlying hue, Conv.bytesToString] <;> rfl
    · obtain ⟨us, h1, h2, _, _⟩ := Re.flat hRe
      obtain ⟨ns, e1, e2⟩ := bytesOf_ok (g := g) hb ⟨sz, bl, p, hRe, h1, h2⟩
      have hsz : us.length = es.length := by
        obtain ⟨e', hu', hz'⟩ := slTy_of hT
        rw [hus] at hu'; cases hu'
        cases es with
        | nil => simpa using h1
        | cons c es =>
          have : ∃ m, c = .int .u8 m := by
            cases c with
            | int kd m => cases kd <;> simp [bytesOf] at hb; exact ⟨m, rfl⟩
            | _ => simp [bytesOf] at hb
          obtain ⟨m, rfl⟩ := this
          simp only [Re, R] at hRe
          obtain ⟨⟨vs, q1, _, rfl⟩, _⟩ := hRe
          simp at q1; subst q1
          simpa using h1
      have hload := run_loadCells_list (P := P) w ⟨bl, p, none⟩ us (fun j v hj => by rw [Addr.add_lit]; exact hi.at h2 j v hj)
      rw [hsz, e1] at hload
      have hr := run_bytesToString (P := P) w ⟨bl, p, none⟩ es.length cap ns hload
      rw [foldl_push] at hr
      refine Out.next hi hf (v := .string ⟨b.toArray⟩) ?_ (VT.mkOne (by simp [R]) (by simp)) hk
      have hr' : (Conv.bytesToString (.slice (some ⟨bl, p, none⟩) es.length cap)).run P w = .ok (.string ⟨b.toArray⟩) w := by
        rw [hr, e2]
        have : ∀ x : Array UInt8, ByteArray.empty.data ++ x = x := fun x => by
          have : ByteArray.empty.data = #[] := rfl
          rw [this]; simp
        rw [this]
      simp [execOp, ho, hv, convert, run_underlying hus, run_underlying hud, run_underlying hue, hr']
  · exact h.elim

theorem sound_conv (hi : Inv g st w) (hf : FRel g n fr a) {s d : TypeId} {x : Operand} (h : evConv P s d (ev fr x) st fun d st' => k d fr st') (o : Oper) (ho : o.op = .convert s d x) : Out P n g a ((execOp a.eval o).run P w) k := by
  have hx := ev_ok hf x
  unfold evConv at h
  split at h
  · rename_i kd m he
    rw [he] at hx
    split at h
    · rename_i kd' hT
      obtain ⟨hs, hk⟩ := h
      have hud : P.underlying d = some (.int kd') := by
        unfold intTy at hT
        split at hT
        · cases hT; assumption
        · cases hT
      obtain ⟨ds, hds⟩ := Option.isSome_iff_exists.1 hs
      refine Out.next hi hf (v := .int kd' (kd'.wrap m)) ?_ (VT.mkInt _ _) hk
      have : (convert s d (.int kd m)).run P w = .ok (.int kd' (kd'.wrap m)) w := by
        simp only [convert, Sem.run_bind, run_underlying hds, run_underlying hud, Result.andThen_ok]
        cases ds <;> simp [Conv.intToInt]
      simp [execOp, ho, hx.int, this]
    · exact h.elim
  · rename_i b he
    rw [he] at hx
    obtain ⟨hT, hB, hS, hk⟩ := h
    obtain ⟨e, hus, hue⟩ := isBytes_of hB
    have hr := Go.Lib.run_convert_string_bytes (P := P) w s d e ⟨b.toArray⟩ (str_of hS) hus hue
    rw [bytes_world] at hr
    have hcap := grownCap_ge w (ByteArray.mk b.toArray).size 0 e
    have hsize : (ByteArray.mk b.toArray).size = b.length := by simp [ByteArray.size]
    have hcells : Go.Lib.bytesCells w e ⟨b.toArray⟩ = ((b.map fun (c : UInt8) => Value.int .u8 c.toNat) ++ List.replicate (grownCap w b.length 0 e - b.length) (Value.int .u8 0)).toArray := by
      apply Array.ext'
      simp [Go.Lib.bytesCells, hsize]
    rw [hsize] at hcap
    obtain ⟨j, g', hj, l, hG, hA, hI⟩ := hi.drew.newTok e ((Go.Lib.bytesCells w e ⟨b.toArray⟩).size, (Go.Lib.bytesCells w e ⟨b.toArray⟩).size + 1) (b.map fun c => Value.int .u8 c.toNat)
      (List.replicate (grownCap w b.length 0 e - b.length) (.int .u8 0)) b.length (grownCap w b.length 0 e) 1 (.inr (by rw [hcells]; simp)) (by simp) hcap (by simp; omega)
    rw [← hcells] at hI
    refine .inl ⟨g', _, _, fr, _, _, by simp [execOp, ho, hx.str, hr]; rfl, l, hI, hf.mono l, VT.mkOne ?_ (by simp), hk j hj⟩
    simp only [R]
    refine .inr ⟨w.heap.size, 0, grownCap w b.length 0 e, by simp [hsize], by simpa using hcap, by simp only [Own.lies, hG, List.length_map]; rfl, ?_⟩
    have hA' : g'.At w.heap.size 0 (b.map fun c => Value.int .u8 c.toNat) := hA
    clear hA hG hI hcells hk hr hj he hx
    have gen : ∀ (b : List UInt8) (q : Nat), g'.At w.heap.size q (b.map fun c => Value.int .u8 c.toNat) → Re g' 1 (b.map fun c => D.int .u8 c.toNat) w.heap.size q := by
      intro b
      induction b with
      | nil => intro q _; simp [Re]
      | cons c b ih =>
        intro q hq
        simp only [List.map_cons, Re, R]
        exact ⟨⟨[.int .u8 c.toNat], rfl, fun j u hj => by
          cases j with
          | zero => simp at hj; subst hj; exact hq 0 _ rfl
          | succ j => simp at hj, rfl⟩, ih (q + 1) fun j u hj => by
          have := hq (j + 1) u (by simpa using hj)
          rwa [show q + (j + 1) = q + 1 + j by omega] at this⟩
    exact gen b 0 hA'
  · rename_i i sz es he
    split at h
    · rename_i hd
      exact sound_convStr hi hf he hd h o ho
    · rename_i hd
      rw [he] at hx
      obtain ⟨rfl, hB, hti, hk⟩ := h
      obtain ⟨e, hus, hue⟩ := isBytes_of hB
      rcases hx.sl with ⟨hm, _, _⟩ | ⟨bl, p, cap, hv, hcap, hl, hRe⟩
      · exact hm.elim
      · obtain ⟨t, hG, ok⟩ := hi.tok i hti
        rw [show g.G i = _ from hl] at hG; cases hG
        obtain ⟨arr, el, fz, hh, hfz, hsz⟩ := ok.lies
        have hI := hi.mark ok.new ok.clear hh
        refine .inl ⟨g, _, _, fr, _, _, ?_, Gh.le.refl g, hI, hf, hx, hk⟩
        have hshape : w.shape? bl = some (el, arr.size) := by simp [World.shape?, show w.heap[bl]? = _ from hh]
        simp [execOp, ho, hv, convert, run_underlying hus, run_underlying hue, markStringish, hshape]
  · rename_i ow sz es hne he
    obtain ⟨hd, h⟩ := h
    exact sound_convStr hi hf he hd h o ho
  · exact h.elim
end ops
end Go.Proofs.YtddbidoaolnegaaGreatDoor
/- That the reckoning on abstract values is right: operation by operation (maps, builtins, calls), and all together. No statement of the seat is proved here; no condition. -/
namespace Go.Proofs.YtddbidoaolnegaaGreatDoor
open Go Go.RowKit

section maps
variable {g : Gh}
theorem MR.get : ∀ {xs : List (Value × D)} {es : List MapEntry}, MR g xs es → xs.length = es.length ∧ ∀ (i : Nat) x e, xs[i]? = some x → es[i]? = some e → e.key = x.1 ∧ R g x.2 [e.val] ∧ e.val.oneCell' = true
  | [], es, h => by simp [MR] at h; subst h; simp
  | x :: xs, _, ⟨e, r, rfl, h1, h2, h3, h⟩ => by
    obtain ⟨k1, k2⟩ := MR.get h
    refine ⟨by simp [k1], fun i y f hy hf => ?_⟩
    cases i with
    | zero => simp at hy hf; subst hy hf; exact ⟨h1, h2, h3⟩
    | succ i => exact k2 i y f (by simpa using hy) (by simpa using hf)
theorem MR.of : ∀ {xs : List (Value × D)} {es : List MapEntry}, xs.length = es.length → (∀ (i : Nat) x e, xs[i]? = some x → es[i]? = some e → e.key = x.1 ∧ R g x.2 [e.val] ∧ e.val.oneCell' = true) → MR g xs es
  | [], es, h, _ => by simpa [MR] using h.symm
  | x :: xs, [], h, _ => by simp at h
  | x :: xs, e :: r, h, k => by
    obtain ⟨h1, h2, h3⟩ := k 0 x e rfl rfl
    exact ⟨e, r, rfl, h1, h2, h3, MR.of (by simpa using h) fun i y f hy hf => k (i + 1) y f (by simpa using hy) (by simpa using hf)⟩

theorem find_none {es : List (Value × D)} {v : Value} (h : ∀ x ∈ es, x.1 ≠ v) : find es v = none := by
  unfold find
  rw [List.find?_eq_none.2]
  · rfl
  · intro x hx; simpa using h x hx
theorem find_some {es : List (Value × D)} {v : Value} {j : Nat} {x : Value × D} (hnd : (es.map (·.1)).Nodup) (hj : es[j]? = some x) (hx : x.1 = v) : find es v = some x.2 := by
  unfold find
  induction es generalizing j with
  | nil => simp at hj
  | cons y es ih =>
    simp only [List.map_cons, List.nodup_cons] at hnd
    by_cases hy : y.1 = v
    · cases j with
      | zero => simp at hj; subst hj; simp [List.find?_cons, hx]
      | succ j =>
        exfalso
        have : x.1 ∈ es.map (·.1) := List.mem_map.2 ⟨x, List.mem_of_getElem? (by simpa using hj), rfl⟩
        rw [hx, ← hy] at this
        exact hnd.1 this
    · cases j with
      | zero => simp at hj; subst hj; exact absurd hx hy
      | succ j =>
        have := ih hnd.2 (j := j) (by simpa using hj)
        simpa [List.find?_cons, hy] using this
theorem upd_new {es : List (Value × D)} {v : Value} {d : D} (h : ∀ x ∈ es, x.1 ≠ v) : upd es v d = es ++ [(v, d)] := by
  unfold upd
  rw [if_neg]
  simp only [List.any_eq_true, not_exists, not_and]
  intro x hx; simpa using h x hx
open Classical in
theorem upd_old {es : List (Value × D)} {v : Value} {d : D} (h : ∃ x ∈ es, x.1 = v) : (upd es v d).length = es.length ∧ (upd es v d).map (·.1) = es.map (·.1) ∧ ∀ (i : Nat) x, es[i]? = some x → (upd es v d)[i]? = some (if x.1 = v then (v, d) else x) := by
  obtain ⟨x, hx, hv⟩ := h
  have hany : es.any (fun x => decide (x.1 = v)) = true := List.any_eq_true.2 ⟨x, hx, by simpa using hv⟩
  unfold upd
  rw [if_pos hany]
  refine ⟨by simp, ?_, fun i x hi => by simp [hi]⟩
  rw [List.map_map]
  apply List.map_congr_left
  intro y _
  simp only [Function.comp]
  split
  · rename_i h; exact h.symm
  · rfl
end maps

section ops
variable {P : Program} {M : List Tmp} {n : Nat} {g : Gh} {fr : Fr} {st : St} {w : World} {a : Act} {k : D → Fr → St → Prop}

theorem keyC_ok {d : D} {v u : Value} (h : keyC d = some v) (hr : R g d [u]) : u = v := by
  cases d <;> simp [keyC] at h <;> subst h <;> simpa [R] using hr
theorem keyCs_ok : ∀ {ds : List D} {vs us : List Value}, keyCs ds = some vs → Rs g ds us → us = vs
  | [], vs, us, h, hr => by simp [keyCs] at h; simp [Rs] at hr; rw [hr, ← h]
  | d :: ds, vs, us, h, hr => by
    simp only [keyCs] at h
    cases hd : keyC d with
    | none => simp [hd] at h
    | some v =>
      cases hds : keyCs ds with
      | none => simp [hd, hds] at h
      | some vs' =>
        simp [hd, hds] at h; subst h
        simp only [Rs] at hr
        obtain ⟨u, r, rfl, h1, _, h2⟩ := hr
        rw [keyC_ok hd h1, keyCs_ok hds h2]
theorem keyV_ok {d : D} {v u : Value} (h : keyV d = some v) (hr : VT g d u) : u = v := by
  cases d with
  | agg cs =>
    obtain ⟨arr, rfl, hrs⟩ := hr.agg
    simp only [keyV] at h
    cases hc : keyCs cs with
    | none => simp [hc] at h
    | some l =>
      simp [hc] at h; subst h
      rw [← keyCs_ok hc hrs]
  | int kd m => simp [keyV, keyC] at h; rw [hr.int, h]
  | str s => simp [keyV, keyC] at h; rw [hr.str, h]
  | _ => simp [keyV, keyC] at h

theorem mapTy_of {t : TypeId} {x : TypeId × TypeId} (h : mapTy P t = some x) : P.underlying t = some (.map x.1 x.2) := by
  unfold mapTy at h
  split at h
  · cases h; assumption
  · cases h

theorem zeroD_of {e : TypeId} {z : D} (h : zeroD P e = some z) (w : World) : ∃ v, (zeroValue e).run P w = .ok v w ∧ ofV v = z := by
  unfold zeroD at h
  cases hT : P.info? e with
  | none => simp [hT] at h
  | some i =>
    cases hZ : i.zero with
    | none => simp [hT, hZ] at h
    | some v => simp [hT, hZ] at h; exact ⟨v, by simp [zeroValue, typeInfo, hT, hZ], h⟩

/-- What a map says of a key. -/
theorem findKey_run {K : TypeId} {v : Value} (hv : KeyOk P K v) {es : List (Value × D)} {arr : Array MapEntry} (hes : ∀ e ∈ es, KeyOk P K e.1) (hm : MR g es arr.toList) (w : World) :
    ((Instr.findKey K v arr.toList).run P w = .ok none w ∧ ∀ x ∈ es, x.1 ≠ v) ∨ ∃ (j : Nat) (e : MapEntry) (x : Value × D), (Instr.findKey K v arr.toList).run P w = .ok (some (j, e.val)) w ∧ arr.toList[j]? = some e ∧ es[j]? = some x ∧ x.1 = v ∧ e.key = v := by
  obtain ⟨hK, l, hl⟩ := hv
  obtain ⟨hlen, hget⟩ := hm.get
  have hkeys : ∀ e ∈ arr.toList, ∃ l, keyOf P K e.key = some l := fun e he => by
    obtain ⟨j, hj⟩ := List.getElem?_of_mem he
    have hj' : j < es.length := by rw [hlen]; exact (List.getElem?_eq_some_iff.1 hj).1
    have := hget j es[j] e (by simp [hj']) hj
    rw [this.1]
    exact (hes _ (List.getElem_mem hj')).2
  rcases hK.find w hl arr.toList hkeys with ⟨h1, h2⟩ | ⟨j, e, h1, h2, h3⟩
  · refine .inl ⟨h1, fun x hx => ?_⟩
    obtain ⟨j, hj⟩ := List.getElem?_of_mem hx
    have hj' : j < arr.toList.length := by rw [← hlen]; exact (List.getElem?_eq_some_iff.1 hj).1
    have := hget j x arr.toList[j] hj (by simp at hj'; simp [hj'])
    rw [← this.1]
    exact h2 _ (List.getElem_mem hj')
  · have hj' : j < es.length := by rw [hlen]; exact (List.getElem?_eq_some_iff.1 h2).1
    have := hget j es[j] e (by simp [hj']) h2
    exact .inr ⟨j, e, es[j], h1, h2, by simp [hj'], by rw [← this.1, h3], h3⟩

theorem sound_lookup (hi : Inv g st w) (hf : FRel g n fr a) {t : TypeId} {x y : Operand} (h : match mapTy P t, keyV (ev fr y), zeroD P ((mapTy P t).getD (0, 0)).2 with
    | some (K, _), some v, some z => KeyOk P K v ∧ z.flat = true ∧ match ev fr x with
      | .nilmap => k (.tup [z, .bool false]) fr st
      | .map r => asMap (st.mem r) fun K' es => K' = K ∧ (∀ e ∈ es, KeyOk P K e.1 ∧ e.2.flat = true) ∧ k (.tup [(find es v).getD z, .bool (find es v).isSome]) fr st
      | _ => False
    | _, _, _ => False) (o : Oper) (ho : o.op = .lookup t x y true) : Out P n g a ((execOp a.eval o).run P w) k := by
  have hx := ev_ok hf x
  have hy := ev_ok hf y
  split at h
  · rename_i K E v z hT hk hz
    obtain ⟨hKey, hzf, h⟩ := h
    have hy' := keyV_ok hk hy
    have hu := mapTy_of hT
    simp only [hT, Option.getD_some] at hz
    obtain ⟨zv, hzr, hzo⟩ := zeroD_of (P := P) hz w
    have hzV : R g z [zv] ∧ zv.oneCell' = true := by
      have := ofV_ok g zv
      rw [hzo] at this
      exact this.flat hzf
    obtain ⟨hK, l, hl⟩ := hKey
    have mk : ∀ (d : D) (u : Value) (b : Bool), R g d [u] → u.oneCell' = true → d.flat = true → VT g (.tup [d, .bool b]) (.tuple #[u, .bool b]) := fun d u b h1 h2 h3 =>
      ⟨#[u, .bool b], rfl, u, [.bool b], rfl, V1.ofOne h1 h2 (D.flat_agg h3), .bool b, [], rfl, V1.ofOne (by simp [R]) rfl (by simp), rfl⟩
    split at h
    · rename_i he
      rw [he] at hx
      refine Out.next hi hf (v := .tuple #[zv, .bool false]) ?_ (mk z zv false hzV.1 hzV.2 hzf) h
      have hc := hK.check w true hl
      have hf0 : (Instr.findKey K v []).run P w = .ok none w := by
        rcases hK.find w hl [] (by simp) with ⟨h1, _⟩ | ⟨j, e, _, h2, _⟩
        · exact h1
        · simp at h2
      simp [execOp, ho, hx.nilmap, hy', Instr.lookup, run_underlying hu, hc, hf0, hzr]
    · rename_i r he
      rw [he] at hx
      obtain ⟨K', es, hm, rfl, hes, h⟩ := asMap_of h
      obtain ⟨_, _, arr, clk, hh, hMR, hnd⟩ := hi.mem r _ hm
      have hc := hK.check w arr.isEmpty hl
      have hobj : (getObj r).run P w = .ok (.map arr clk) w := by simp [getObj, _root_.Go.Sem.run, hh]
      rcases findKey_run (P := P) ⟨hK, l, hl⟩ (fun e he => (hes e he).1) hMR w with ⟨h1, h2⟩ | ⟨j, e, q, h1, h2, h3, h4, h5⟩
      · rw [find_none h2] at h
        refine Out.next hi hf (v := .tuple #[zv, .bool false]) ?_ (mk z zv false hzV.1 hzV.2 hzf) h
        simp [execOp, ho, hx.map, hy', Instr.lookup, run_underlying hu, hobj, hc, h1, hzr]
      · rw [find_some hnd h3 h4] at h
        obtain ⟨hlen, hget⟩ := hMR.get
        obtain ⟨k1, k2, k3⟩ := hget j q e h3 h2
        have hqf := (hes q (List.mem_of_getElem? h3)).2
        refine Out.next hi hf (v := .tuple #[e.val, .bool true]) ?_ (mk q.2 e.val true k2 k3 hqf) h
        simp [execOp, ho, hx.map, hy', Instr.lookup, run_underlying hu, hobj, hc, h1]
    · exact h.elim
  · exact h.elim

open Classical in
theorem sound_mapUpdate (hi : Inv g st w) (hf : FRel g n fr a) {t : TypeId} {x y z : Operand} (h : match mapTy P t, keyV (ev fr y) with
    | some (K, _), some v => KeyOk P K v ∧ (ev fr z).flat = true ∧ match ev fr x with
      | .map r => asMap (st.mem r) fun K' es => K' = K ∧ (∀ e ∈ es, KeyOk P K e.1) ∧ k (.tup []) fr (st.set r (.map K (upd es v (ev fr z))))
      | _ => False
    | _, _ => False) (o : Oper) (ho : o.op = .mapUpdate t x y z) : Out P n g a ((execOp a.eval o).run P w) k := by
  have hx := ev_ok hf x
  have hy := ev_ok hf y
  split at h
  · rename_i K E v hT hk
    obtain ⟨hKey, hzf, h⟩ := h
    have hz := (ev_ok hf z).flat hzf
    have hy' := keyV_ok hk hy
    have hu := mapTy_of hT
    obtain ⟨hK, l, hl⟩ := hKey
    split at h
    · rename_i r he
      rw [he] at hx
      obtain ⟨K', es, hm, rfl, hes, h⟩ := asMap_of h
      obtain ⟨_, _, arr, clk, hh, hMR, hnd⟩ := hi.mem r _ hm
      have hc := hK.check w false hl
      have hobj : (getObj r).run P w = .ok (.map arr clk) w := by simp [getObj, _root_.Go.Sem.run, hh]
      have hset : ∀ o', (setObj r o').run P w = .ok () { w with heap := w.heap.setIfInBounds r o' } := fun o' => by simp [setObj, _root_.Go.Sem.run, hh]
      obtain ⟨hlen, hget⟩ := hMR.get
      rcases findKey_run (P := P) ⟨hK, l, hl⟩ hes hMR w with ⟨h1, h2⟩ | ⟨j, e, q, h1, h2, h3, h4, h5⟩
      · rw [upd_new h2] at h
        have hMR' : MR g (es ++ [(v, ev fr z)]) (arr.push { key := v, val := a.eval z, born := clk }).toList := by
          refine MR.of (by simp [hlen]) fun i p f hp hf' => ?_
          rcases Nat.lt_or_ge i es.length with hlt | hge
          · rw [List.getElem?_append_left hlt] at hp
            rw [Array.toList_push, List.getElem?_append_left (by omega)] at hf'
            exact hget i p f hp hf'
          · rw [List.getElem?_append_right hge] at hp
            rw [Array.toList_push, List.getElem?_append_right (by omega)] at hf'
            rw [← hlen] at hf'
            cases hi0 : i - es.length with
            | zero => rw [hi0] at hp hf'; simp at hp hf'; subst hp hf'; exact ⟨rfl, hz.1, hz.2⟩
            | succ m => rw [hi0] at hp; simp at hp
        have hI := hi.setMap hm (arr.push { key := v, val := a.eval z, born := clk }) (clk + 1) hMR' (by
          rw [List.map_append, List.nodup_append]
          refine ⟨hnd, by simp, fun p hp q hq => ?_⟩
          simp at hq; subst hq
          obtain ⟨y', hy1, rfl⟩ := List.mem_map.1 hp
          exact h2 y' hy1)
        refine .inr (.inl ⟨g, fr, _, _, ?_, Gh.le.refl g, hI, hf, h⟩)
        simp [execOp, ho, hx.map, hy', Instr.mapUpdate, run_underlying hu, hobj, hc, h1, hset]
      · obtain ⟨u1, u2, u3⟩ := upd_old (es := es) (v := v) (d := ev fr z) ⟨q, List.mem_of_getElem? h3, h4⟩
        have hj : j < arr.size := by have := (List.getElem?_eq_some_iff.1 h2).1; simpa using this
        have hMR' : MR g (upd es v (ev fr z)) (arr.modify j fun e => { e with key := v, val := a.eval z }).toList := by
          refine MR.of (by rw [u1, hlen]; simp) fun i p f hp hf' => ?_
          have hi1 : i < es.length := by rw [← u1]; exact (List.getElem?_eq_some_iff.1 hp).1
          have hes' : es[i]? = some es[i] := by simp [hi1]
          rw [u3 i _ hes'] at hp
          rw [Array.getElem?_toList, Array.getElem?_modify] at hf'
          by_cases hij : j = i
          · subst hij
            rw [h3] at hes'; 
            have hq : es[j] = q := (Option.some.inj hes').symm
            rw [hq, if_pos h4] at hp
            rw [if_pos rfl, ← Array.getElem?_toList, h2] at hf'
            simp at hp hf'; subst hp hf'
            exact ⟨rfl, hz.1, hz.2⟩
          · rw [if_neg hij] at hf'
            have hne : es[i].1 ≠ v := fun hc' => by
              apply hij
              have hjl : j < es.length := (List.getElem?_eq_some_iff.1 h3).1
              have hjv : es[j].1 = v := by
                have : es[j] = q := Option.some.inj ((List.getElem?_eq_getElem hjl).symm.trans h3)
                rw [this, h4]
              have hnd' := List.pairwise_iff_getElem.1 hnd
              rcases Nat.lt_trichotomy i j with hl' | hl' | hl'
              · exact absurd (show (es.map (·.1))[i]'(by simpa using hi1) = (es.map (·.1))[j]'(by simpa using hjl) by rw [List.getElem_map, List.getElem_map, hc', hjv]) (hnd' i j (by simpa using hi1) (by simpa using hjl) hl')
              · exact hl'.symm
              · exact absurd (show (es.map (·.1))[j]'(by simpa using hjl) = (es.map (·.1))[i]'(by simpa using hi1) by rw [List.getElem_map, List.getElem_map, hc', hjv]) (hnd' j i (by simpa using hjl) (by simpa using hi1) hl')
            rw [if_neg hne] at hp
            cases hp
            exact hget i _ f hes' (by simpa using hf')
        have hI := hi.setMap hm (arr.modify j fun e => { e with key := v, val := a.eval z }) clk hMR' (by rw [u2]; exact hnd)
        refine .inr (.inl ⟨g, fr, _, _, ?_, Gh.le.refl g, hI, hf, h⟩)
        have hstay := hK.stays w hl
        have hkey : ((arr[j]?).map (·.key)).getD v = v := by
          have : arr[j]? = some e := by simpa using h2
          simp [this, h5]
        simp only [execOp, ho, hx.map, hy', Instr.mapUpdate, Sem.run_bind, run_underlying hu, hobj, hc, h1, Result.andThen_ok, hkey, hstay, hset, Sem.run_pure]
    · exact h.elim
  · exact h.elim
end ops
end Go.Proofs.YtddbidoaolnegaaGreatDoor
/- That the reckoning on abstract values is right: operation by operation (builtins, calls), and all together. No statement of the seat is proved here; no condition. -/
namespace Go.Proofs.YtddbidoaolnegaaGreatDoor
open Go Go.RowKit

section ops
variable {P : Program} {M : List Tmp} {n : Nat} {g : Gh} {fr : Fr} {st : St} {w : World} {a : Act} {k : D → Fr → St → Prop}

/-- What a builtin gives, before it goes into a slot. -/
def BOut (P : Program) (g : Gh) (w : World) (s : _root_.Go.Sem Value) (k : D → St → Prop) : Prop :=
  ∃ g' v d st' w', s.run P w = .ok v w' ∧ g.le g' ∧ Inv g' st' w' ∧ VT g' d v ∧ k d st'

theorem BOut.same (hi : Inv g st w) {s : _root_.Go.Sem Value} {v : Value} {d : D} {k : D → St → Prop} (hs : s.run P w = .ok v w) (hv : VT g d v) (hk : k d st) : BOut P g w s k :=
  ⟨g, v, d, st, w, hs, Gh.le.refl g, hi, hv, hk⟩

theorem size_mk (s : List UInt8) : (ByteArray.mk s.toArray).size = s.length := by simp [ByteArray.size]

theorem b_len (hi : Inv g st w) {t ty : TypeId} {ts : Array TypeId} {d : D} {v : Value} {args : Array Value} (h0 : ts[0]? = some t) (ha : args[0]? = some v) (hv : VT g d v) {k : D → St → Prop} (h : evLen P t d st fun d => k d st) : BOut P g w (Builtin.len_ ts ty args) k := by
  unfold evLen at h
  split at h
  · obtain ⟨hT, h⟩ := h
    obtain ⟨e, hu⟩ := sl_of hT
    rcases hv.sl with ⟨_, rfl, oa, _, rfl⟩ | ⟨b, p, cap, rfl, _⟩
    · exact BOut.same hi (v := .int .i64 0) (by simp [Builtin.len_, h0, ha, run_underlying hu, goInt]) (VT.mkInt _ _) (by simpa using h)
    · exact BOut.same hi (by simp [Builtin.len_, h0, ha, run_underlying hu, goInt]) (VT.mkInt _ _) h
  · obtain ⟨hT, h⟩ := h
    obtain ⟨e, hu⟩ := sl_of hT
    obtain ⟨cap, rfl, _⟩ := hv.msl
    exact BOut.same hi (by simp [Builtin.len_, h0, ha, run_underlying hu, goInt]) (VT.mkInt _ _) h
  · rename_i s
    obtain ⟨hT, h⟩ := h
    have hu := str_of hT
    rw [hv.str] at ha
    exact BOut.same hi (v := .int .i64 s.length) (by simp [Builtin.len_, h0, ha, run_underlying hu, goInt, size_mk]) (VT.mkInt _ _) h
  · obtain ⟨hT, h⟩ := h
    obtain ⟨e, f, hu⟩ := map_of hT
    rw [hv.nilmap] at ha
    exact BOut.same hi (v := .int .i64 0) (by simp [Builtin.len_, h0, ha, run_underlying hu, goInt]) (VT.mkInt _ _) h
  · rename_i r
    obtain ⟨hT, h⟩ := h
    obtain ⟨e, f, hu⟩ := map_of hT
    rw [hv.map] at ha
    obtain ⟨K, es, hm, h⟩ := asMap_of h
    obtain ⟨_, _, arr, clk, hh, hMR, _⟩ := hi.mem r _ hm
    have hobj : (getObj r).run P w = .ok (.map arr clk) w := by simp [getObj, _root_.Go.Sem.run, hh]
    have hl := hMR.get.1
    simp only [Array.length_toList] at hl
    exact BOut.same hi (v := .int .i64 es.length) (by simp [Builtin.len_, h0, ha, run_underlying hu, goInt, hobj, hl]) (VT.mkInt _ _) h
  · exact h.elim

/-- What an append takes its new elements from. -/
structure Src (P : Program) (g : Gh) (w : World) (z : Nat) (ys : List D) (v : Value) (us : List Value) : Prop where
  len : ∀ w, (Builtin.lenOf v).run P w = .ok ys.length w
  first : ∀ w', Below w.heap.size w w' → (Builtin.firstCells z ys.length v).run P w' = .ok us.toArray w'
  size : us.length = ys.length * z
  one : ∀ u ∈ us, u.oneCell' = true
  re : ∀ (g' : Gh) (b' p' : Nat), g.le g' → g'.At b' p' us → Re g' z ys b' p'

theorem src_sl (hi : Inv g st w) {ow : Own} {sz z : Nat} {ys : List D} {v : Value} (hv : VT g (.sl ow sz ys) v) (hz : ∀ y ∈ ys, y.cells.length = z) : ∃ us, Src P g w z ys v us := by
  rcases hv.sl with ⟨_, rfl, oa, _, rfl⟩ | ⟨b, p, cap, rfl, hcap, _, hRe⟩
  · exact ⟨[], fun w => by simp [Builtin.lenOf], fun w' _ => by cases oa <;> simp [Builtin.firstCells, loadCells, loadCellsFrom], by simp, by simp, fun _ _ _ _ _ => by simp [Re]⟩
  · obtain ⟨us, h1, h2, h3, h4⟩ := Re.flat hRe
    have hzz : ys = [] ∨ sz = z := by
      cases ys with
      | nil => exact .inl rfl
      | cons y ys =>
        right
        simp only [Re] at hRe
        obtain ⟨⟨vs, q1, _, q3⟩, _⟩ := hRe
        have := q3.toRs.length
        rw [hz y (by simp)] at this
        omega
    have hlen : us.length = ys.length * z := by
      rcases hzz with rfl | rfl
      · simpa using h1
      · exact h1
    refine ⟨us, fun w => by simp [Builtin.lenOf], fun w' hb => ?_, hlen, h3, fun g' b' p' l hA => ?_⟩
    · have := run_loadCells_list (P := P) w' ⟨b, p, none⟩ us (fun j u hj => by
        rw [Addr.add_lit]
        have hc := h2 j u hj
        rw [hb.cell (p := ⟨b, p + j, none⟩) (hi.ltF hc)]
        exact hi.fz _ _ _ hc)
      rw [hlen] at this
      simpa [Builtin.firstCells] using this
    · rcases hzz with rfl | rfl
      · simp [Re]
      · exact h4 g' b' p' l hA

theorem Re.bytes {b : Nat} : ∀ (l : List UInt8) (q : Nat), g.At b q (l.map fun c => Value.int .u8 c.toNat) → Re g 1 (l.map fun c => D.int .u8 c.toNat) b q
  | [], q, _ => by simp [Re]
  | c :: l, q, hq => by
    simp only [List.map_cons, Re, R]
    exact ⟨⟨[.int .u8 c.toNat], rfl, fun j u hj => by
      cases j with
      | zero => simp at hj; subst hj; exact hq 0 _ rfl
      | succ j => simp at hj, rfl⟩, Re.bytes l (q + 1) fun j u hj => by
      have := hq (j + 1) u (by simpa using hj)
      rwa [show q + (j + 1) = q + 1 + j by omega] at this⟩

theorem src_str {s : List UInt8} {v : Value} (hv : VT g (.str s) v) : Src P g w 1 (s.map fun c => D.int .u8 c.toNat) v (s.map fun c => Value.int .u8 c.toNat) := by
  rw [hv.str]
  refine ⟨fun w => by simp [Builtin.lenOf, ByteArray.size], fun w' _ => ?_, by simp, by intro u hu; obtain ⟨c, _, rfl⟩ := List.mem_map.1 hu; rfl, fun g' b' p' _ hA => Re.bytes s p' hA⟩
  have : ((ByteArray.mk s.toArray).extract 0 s.length).data = s.toArray := by
    rw [ByteArray.data_extract]; simp
  simp [Builtin.firstCells, this]

theorem b_append (hi : Inv g st w) {t s ty : TypeId} {d : D} {v u : Value} {ys : List D} {us : List Value} (hv : VT g d v) (hsd : P.underlying s = some .string ∨ ∃ e', P.underlying s = some (.slice e'))
    (hsrc : ∀ z, slTy P t = some z → (∀ y ∈ ys, y.fine = true ∧ y.cells.length = z) → Src P g w z ys u us) {k : D → St → Prop} (h : evAppend P t d ys st k) :
    BOut P g w (Builtin.append_ #[t, s] ty #[v, u]) k := by
  unfold evAppend at h
  split at h
  · rename_i ow sz es
    split at h
    · rename_i z bs hz hbs
      obtain ⟨hys, hbig, h⟩ := h
      obtain ⟨e, i, zv, hu, hT, hZ, hzs, hb, hsz⟩ := slBytes_of hbs hz
      have src := hsrc z hz hys
      have hsize := run_sizeOf_some (P := P) (t := e) (z := z) (by simp [szOf, hT, hsz])
      -- the way by which a new block is made
      have grow : ∀ (base : Option Addr) (sLen sCap : Nat) (olds : List Value), v = .slice base sLen sCap → sLen = es.length → olds.length = es.length * z →
          (∀ w', Below w.heap.size w w' → (Builtin.firstCells z sLen v).run P w' = .ok olds.toArray w') → (∀ (g' : Gh) (b' p' : Nat), g.le g' → g'.At b' p' olds → Re g' z es b' p') → ¬ (sLen + ys.length ≤ sCap) →
          (∀ (g' : Gh) (j : Nat) (w' : World), st.tok j = false → g.le g' → Inv g' (st.give j) w' → ∃ st', Inv g' st' w' ∧ k (.sl (.tok j) z (es ++ ys)) st') →
          BOut P g w (Builtin.append_ #[t, s] ty #[v, u]) k := by
        intro base sLen sCap olds hv0 hl0 hol hfirst hre hroom hk
        subst hv0 hl0
        have hcap := grownCap_ge w (es.length + ys.length) sCap e
        have hns : Builtin.nextslicecap (es.length + ys.length) sCap * bs ≤ 281474976710656 := by
          have h1 := nextslicecap_le (need := es.length + ys.length) (old := sCap) (by omega)
          have h2 : Builtin.nextslicecap (es.length + ys.length) sCap * bs ≤ 2 * (es.length + ys.length) * bs := Nat.mul_le_mul_right _ h1
          have h3 : 2 * (es.length + ys.length) * bs ≤ (es.length + ys.length) * (2 * bs + 2) := by
            rw [show 2 * (es.length + ys.length) * bs = (es.length + ys.length) * (2 * bs) by rw [Nat.mul_comm 2, Nat.mul_assoc]]
            exact Nat.mul_le_mul_left _ (by omega)
          omega
        have hneed : es.length + ys.length ≤ 281474976710656 := by
          have : (es.length + ys.length) * 1 ≤ (es.length + ys.length) * (2 * bs + 2) := Nat.mul_le_mul_left _ (by omega)
          omega
        have hzc : (Builtin.zeroCells zv.cells (grownCap w (es.length + ys.length) sCap e - (es.length + ys.length))).toList.length = (grownCap w (es.length + ys.length) sCap e - (es.length + ys.length)) * z := by
          simp [Builtin.zeroCells, hzs, hsz]
        have e1 : (grownCap w (es.length + ys.length) sCap e) * z = es.length * z + ys.length * z + (grownCap w (es.length + ys.length) sCap e - (es.length + ys.length)) * z := by
          rw [← Nat.add_mul, ← Nat.add_mul]; congr 1; omega
        obtain ⟨j, g', hj, l, hG, hA, hI⟩ := hi.drew.newTok e (0, 0) (olds ++ us) (Builtin.zeroCells zv.cells (grownCap w (es.length + ys.length) sCap e - (es.length + ys.length))).toList
          (es.length + ys.length) (grownCap w (es.length + ys.length) sCap e) z (fzOk_zero _) (by simp [hol, src.size, Nat.add_mul]) hcap (by rw [List.length_append, List.length_append, hzc, hol, src.size]; omega)
        obtain ⟨st', hI', hk'⟩ := hk g' j _ hj l hI
        refine ⟨g', .slice (some ⟨w.heap.size, 0, none⟩) (es.length + ys.length) (grownCap w (es.length + ys.length) sCap e), _, st', _, ?_, l, hI', VT.mkOne ?_ (by simp), hk'⟩
        · have hz0 := fun w => show (zeroValue e).run P w = .ok zv w by simp [zeroValue, typeInfo, hT, hZ]
          have hti := fun w => show (typeInfo e).run P w = .ok i w by simp [typeInfo, hT]
          have hc1 : ¬ ((↑(es.length + ys.length) : Int) > IntKind.i64.max ∧ (false = true ∨ i.bytes = 0)) := by
            rw [IntKind.max_i64]; omega
          have hc2 : ¬ (Builtin.nextslicecap (es.length + ys.length) sCap * i.bytes > 2 ^ 48) := by rw [hb]; omega
          have hfo := hfirst w.drew (below_drew w)
          have hfn := src.first w.drew (below_drew w)
          have harr : (olds ++ us ++ (Builtin.zeroCells zv.cells (grownCap w (es.length + ys.length) sCap e - (es.length + ys.length))).toList).toArray = olds.toArray ++ us.toArray ++ Builtin.zeroCells zv.cells (grownCap w (es.length + ys.length) sCap e - (es.length + ys.length)) := by
            apply Array.ext'; simp
          rw [harr]
          have c1 : ¬ (9223372036854775807 < (es.length : Int) + (ys.length : Int) ∧ bs = 0) := by omega
          have c2 : ¬ 281474976710656 < Builtin.nextslicecap (es.length + ys.length) sCap * bs := by omega
          rcases hsd with hsd | ⟨e', hsd⟩ <;>
            simp [Builtin.append_, run_underlying hu, run_underlying hsd, hsize, src.len, hroom, hti, hb, c1, c2, hfo, hfn, hz0, newRow, Question.forced, grownCap]
          all_goals (congr 2; apply Array.ext'; simp)
        · simp only [R]
          refine .inr ⟨w.heap.size, 0, grownCap w (es.length + ys.length) sCap e, by simp, by simpa using hcap, by simp only [Own.lies, List.length_append]; exact hG, ?_⟩
          refine Re.append (hre g' _ _ l fun j' x hx => hA j' x (by rw [List.getElem?_append_left (List.getElem?_eq_some_iff.1 hx).1]; exact hx)) (src.re g' _ _ l fun j' x hx => ?_)
          have := hA (olds.length + j') x (by rw [List.getElem?_append_right (by omega)]; simpa using hx)
          rwa [hol, ← Nat.add_assoc] at this
      split at h
      · rename_i i
        obtain ⟨rfl, hti, hk⟩ := h
        rcases hv.sl with ⟨hm, _, _⟩ | ⟨b, p, cap, rfl, hcap, hl, hRe⟩
        · exact hm.elim
        · obtain ⟨t', hG, ok⟩ := hi.tok i hti
          have hG' : g.G i = some ⟨b, p, es.length, cap, sz⟩ := hl
          rw [hG'] at hG; cases hG
          obtain ⟨olds, o1, o2, o3, o4⟩ := Re.flat hRe
          by_cases hroom : es.length + ys.length ≤ cap
          · obtain ⟨arr, el, fz, hh, hfz, hsz'⟩ := ok.lies
            simp only at hh hsz'
            obtain ⟨j, g', hj, l, hGj, hA, hI⟩ := hi.grow hti hG' us ys.length src.size hroom
            have hmul : es.length * sz + ys.length * sz ≤ cap * sz := by rw [← Nat.add_mul]; exact Nat.mul_le_mul_right _ hroom
            have hst := run_storeCells_cells (P := P) b (p + es.length * sz) us 0 w (fun q hq => by
              have hlt : p + es.length * sz + q < arr.size := by have := src.size; omega
              simp [World.cell?, show w.heap[b]? = _ from hh, hlt]) (fun q hq => by
              have := hfz.off (p + es.length * sz + q) (by have := src.size; omega)
              simp only [World.frozen?, show w.heap[b]? = _ from hh]
              simpa using this) src.one
            simp only [Nat.add_zero] at hst
            refine ⟨g', .slice (some ⟨b, p, none⟩) (es.length + ys.length) cap, _, _, _, ?_, l, hI, VT.mkOne ?_ (by simp), hk j hj⟩
            · have hfn := src.first w (Below.refl _ _)
              rcases hsd with hsd | ⟨e', hsd⟩ <;>
                simp [Builtin.append_, run_underlying hu, run_underlying hsd, hsize, src.len, hroom, hfn, Addr.add_lit, hst]
            · simp only [R]
              refine .inr ⟨b, p, cap, by simp, by simpa using hroom, by simp only [Own.lies, List.length_append]; exact hGj, Re.append (Re.mono l _ _ _ _ hRe) (src.re g' _ _ l hA)⟩
          · refine grow (some ⟨b, p, none⟩) es.length cap olds rfl rfl o1 (fun w' hb' => ?_) o4 hroom fun g' j w' hj l hI => ?_
            · have := run_loadCells_list (P := P) w' ⟨b, p, none⟩ olds (fun q u hq => by
                rw [Addr.add_lit]
                have hc := o2 q u hq
                rw [hb'.cell (p := ⟨b, p + q, none⟩) (hi.ltF hc)]
                exact hi.fz _ _ _ hc)
              rw [o1] at this
              simpa [Builtin.firstCells] using this
            · refine ⟨_, hI.weak (st' := (st.take i).give j) ⟨fun _ _ h => h, fun q hq => ?_⟩, hk j hj⟩
              rw [St.tok_give] at hq ⊢
              split at hq
              · rename_i e; rw [if_pos e]
              · rename_i e; rw [if_neg e]
                rw [St.tok_take] at hq
                split at hq
                · cases hq
                · exact hq
      · obtain ⟨hne, hk⟩ := h
        rcases hv.sl with ⟨_, rfl, oa, rfl, rfl⟩ | ⟨_, _, _, _, _, hl, _⟩
        · have hpos : 0 < ys.length := List.length_pos_iff.2 hne
          refine grow none 0 0 [] rfl rfl (by simp) (fun w' _ => by simp [Builtin.firstCells]) (fun _ _ _ _ _ => by simp [Re]) (by simp; omega) fun g' j w' hj l hI => ⟨_, hI, ?_⟩
          simpa using hk j hj
        · exact hl.elim
      · exact h.elim
    · exact h.elim
  · exact h.elim

theorem b_copy (hi : Inv g st w) {t s ty : TypeId} {d d' : D} {v u : Value} (hv : VT g d v) (hu : VT g d' u) {k : D → St → Prop} (h : evCopy P t d d' st k) : BOut P g w (Builtin.copy_ #[t, s] ty #[v, u]) k := by
  unfold evCopy at h
  split at h
  · rename_i r o m sz ow sz' es
    obtain ⟨hT, rfl, hes, h⟩ := h
    obtain ⟨cs, hm, hle, hk⟩ := asCells_of h
    obtain ⟨e, hue, hz⟩ := slTy_of hT
    have hsize := run_sizeOf_some (P := P) hz
    obtain ⟨cap, rfl, hcap, hpos⟩ := hv.msl
    have fin : ∀ (us : List Value) (c : Nat), c = min es.length m → us.length = c * sz' → Rs g ((es.take m).flatMap D.cells) us → (Builtin.lenOf u).run P w = .ok es.length w →
        (Builtin.firstCells sz' c u).run P w = .ok us.toArray w → BOut P g w (Builtin.copy_ #[t, s] ty #[.slice (some ⟨r, o, none⟩) m cap, u]) k := by
      intro us c hc hlen hrs hl hf
      have hxl := hrs.length
      have hst := run_store_cells (P := P) hi hm hrs (by rw [← hxl, hlen, hc]; exact hle)
      have hI := hi.store hm hrs (by rw [← hxl, hlen, hc]; exact hle)
      refine ⟨g, .int .i64 c, _, _, _, ?_, Gh.le.refl g, hI, VT.mkInt _ _, by rw [hc]; exact hk⟩
      simp [Builtin.copy_, run_underlying hue, hl, hsize, ← hc, Nat.min_def, goInt] at hf ⊢
      have e1 : (if es.length ≤ m then es.length else m) = c := by rw [hc, Nat.min_def]
      rw [e1]
      simp [hf, hst]
    have rsOf : ∀ (xs : List D) (b p : Nat), Re g sz' xs b p → (∀ x ∈ xs, x.cells.length = sz') → ∃ us, us.length = xs.length * sz' ∧ g.At b p us ∧ Rs g (xs.flatMap D.cells) us := by
      intro xs
      induction xs with
      | nil => intro b p _ _; exact ⟨[], by simp, fun j u h => by simp at h, rfl⟩
      | cons x xs ih =>
        intro b p h hx
        simp only [Re] at h
        obtain ⟨⟨vs, h1, h2, h3⟩, h4⟩ := h
        obtain ⟨us, k1, k2, k3⟩ := ih b (p + sz') h4 (fun y hy => hx y (by simp [hy]))
        refine ⟨vs ++ us, by simp [h1, k1, Nat.add_mul, Nat.add_comm], fun j q hj => ?_, by simpa using h3.toRs.append k3⟩
        rcases Nat.lt_or_ge j vs.length with hlt | hge
        · rw [List.getElem?_append_left hlt] at hj; exact h2 j q hj
        · rw [List.getElem?_append_right hge] at hj
          have := k2 _ _ hj
          rwa [show p + sz' + (j - vs.length) = p + j by omega] at this
    rcases hu.sl with ⟨_, rfl, oa, _, rfl⟩ | ⟨b, p, cap', rfl, hcap', _, hRe⟩
    · exact fin [] 0 (by simp) (by simp) (by simp [Rs]) (by simp [Builtin.lenOf]) (by cases oa <;> simp [Builtin.firstCells, loadCells, loadCellsFrom])
    · obtain ⟨us, h1, h2, h3⟩ := rsOf (es.take m) b p (Re.take m hRe) (fun x hx => (hes x (List.mem_of_mem_take hx)).1)
      have hc : (es.take m).length = min es.length m := by simp [Nat.min_comm]
      refine fin us _ rfl (by rw [h1, hc]) h3 (by simp [Builtin.lenOf]) ?_
      have := run_loadCells_list (P := P) w ⟨b, p, none⟩ us (fun q x hq => by rw [Addr.add_lit]; exact hi.at h2 q x hq)
      rw [h1, hc] at this
      simpa [Builtin.firstCells] using this
  · exact h.elim
end ops
end Go.Proofs.YtddbidoaolnegaaGreatDoor
/- That the reckoning on abstract values is right: all operations together; regions; functions. No statement of the seat is proved here; no condition. -/
namespace Go.Proofs.YtddbidoaolnegaaGreatDoor
open Go Go.RowKit

section ops
variable {P : Program} {M : List Tmp} {n : Nat} {g : Gh} {fr : Fr} {st : St} {w : World} {a : Act} {k : D → Fr → St → Prop}

theorem sound_makeSlice (hi : Inv g st w) (hf : FRel g n fr a) {t : TypeId} {x y : Operand} (h : (ev fr x).asInt fun _ p => (ev fr y).asInt fun _ b => match slTy P t, slBytes P t with
    | some z, some bs => p = 0 ∧ 0 ≤ b ∧ b * (bs + 1) ≤ 281474976710656 ∧ newT st fun j => k (.sl (.tok j) z []) fr (st.give j)
    | _, _ => False) (o : Oper) (ho : o.op = .makeSlice t x y) : Out P n g a ((execOp a.eval o).run P w) k := by
  obtain ⟨kd, p, he, h⟩ := asInt_of h
  obtain ⟨kd', b, he', h⟩ := asInt_of h
  have hx := ((ev_ok hf x).of_eq he).int
  have hy := ((ev_ok hf y).of_eq he').int
  split at h
  · rename_i z bs hz hbs
    obtain ⟨rfl, h0, hle, hk⟩ := h
    obtain ⟨e, i, zv, hu, hT, hZ, hzs, hb, hsz⟩ := slBytes_of hbs hz
    have hb1 : b ≤ 281474976710656 := by
      have h1 : b * 1 ≤ b * (bs + 1) := Int.mul_le_mul_of_nonneg_left (by omega) h0
      omega
    have hbb : (bs : Int) * b ≤ 281474976710656 := by
      have h1 : b * bs ≤ b * (bs + 1) := Int.mul_le_mul_of_nonneg_left (by omega) h0
      rw [Int.mul_comm]; omega
    obtain ⟨cells, hlen, hrun⟩ : ∃ cells : List Value, cells.length = b.toNat * z ∧ (Instr.makeSlice t (.int kd 0) (.int kd' b)).run P w = .ok (.slice (some ⟨w.heap.size, 0, none⟩) 0 b.toNat) (w.alloc (.cells cells.toArray e)) := by
      have := run_make (P := P) w t e i zv hu hT hZ kd kd' 0 b (Int.le_refl _) h0 (by rw [hb]; exact hbb) (by omega)
      refine ⟨(madeCells zv.cells (b.toNat * i.size)).toList, by simp [size_madeCells, hsz], ?_⟩
      simpa using this
    obtain ⟨j, g', hj, l, hG, hA, hI⟩ := hi.newTok e (0, 0) [] cells 0 b.toNat z (fzOk_zero _) (by simp) (Nat.zero_le _) (by simp [hlen])
    refine .inl ⟨g', .slice (some ⟨w.heap.size, 0, none⟩) 0 b.toNat, _, fr, _, w.alloc (.cells cells.toArray e), by simp [execOp, ho, hx, hy, hrun], l, by simpa using hI, hf.mono l, VT.mkOne ?_ (by simp), hk j hj⟩
    simp only [R]
    exact .inr ⟨w.heap.size, 0, b.toNat, rfl, Nat.zero_le _, hG, by simp [Re]⟩
  · exact h.elim

theorem BOut.out (hf : FRel g n fr a) {s : _root_.Go.Sem Value} {c : D → St → Prop} (h : BOut P g w s c) (hk : ∀ d st', c d st' → k d fr st') {r : Result Next}
    (hr : r = ((do let x ← s; pure (Next.value x) : _root_.Go.Sem Next).run P w)) : Out P n g a r k := by
  obtain ⟨g', v, d, st', w', h1, h2, h3, h4, h5⟩ := h
  exact .inl ⟨g', v, d, fr, st', w', by simp [hr, h1], h2, h3, hf.mono h2, h4, hk d st' h5⟩

theorem map1 {α β : Type} {f : α → β} {l : List α} {x : β} (h : l.map f = [x]) : ∃ o, l = [o] ∧ f o = x := by
  cases l with
  | nil => simp at h
  | cons a l => cases l with
    | nil => simp at h; exact ⟨a, rfl, h⟩
    | cons b l => simp at h
theorem map2 {α β : Type} {f : α → β} {l : List α} {x y : β} (h : l.map f = [x, y]) : ∃ o p, l = [o, p] ∧ f o = x ∧ f p = y := by
  cases l with
  | nil => simp at h
  | cons a l =>
    simp only [List.map_cons, List.cons.injEq] at h
    obtain ⟨b, hb, hy⟩ := map1 h.2
    exact ⟨a, b, by rw [hb], h.1, hy⟩

theorem sound_builtin (hi : Inv g st w) (hf : FRel g n fr a) {b : Builtin} {c : Call} (h : evBuiltin P b c.argTypes.toList (c.args.toList.map (ev fr)) st fun d st' => k d fr st') (o : Oper) (hc : c.callee = .builtin b) (ho : o.op = .call c) :
    Out P n g a ((execOp a.eval o).run P w) k := by
  have hev := fun x => ev_ok hf x
  have one : ∀ {o1 : Operand}, c.args.toList = [o1] → c.args.map a.eval = #[a.eval o1] := fun h1 => by apply Array.ext'; simp [h1]
  have two : ∀ {o1 o2 : Operand}, c.args.toList = [o1, o2] → c.args.map a.eval = #[a.eval o1, a.eval o2] := fun h1 => by apply Array.ext'; simp [h1]
  have ty1 : ∀ {t : TypeId}, c.argTypes.toList = [t] → c.argTypes = #[t] := fun h1 => by apply Array.ext'; simp [h1]
  have ty2 : ∀ {t s : TypeId}, c.argTypes.toList = [t, s] → c.argTypes = #[t, s] := fun h1 => by apply Array.ext'; simp [h1]
  unfold evBuiltin at h
  split at h
  · rename_i t x hts hx
    obtain ⟨o1, h1, rfl⟩ := map1 hx
    refine BOut.out hf (b_len hi (ts := #[t]) (ty := o.type) (args := #[a.eval o1]) rfl rfl (hev o1) h) (fun _ _ h => h) ?_
    simp [execOp, ho, resolve, hc, one h1, ty1 hts, invoke, builtin]
  · rename_i t s x ow sz ys hts hx
    obtain ⟨o1, o2, h1, rfl, he⟩ := map2 hx
    obtain ⟨hT, h⟩ := h
    obtain ⟨e', hu⟩ := sl_of hT
    have hy := (hev o2).of_eq he
    have key : ∃ us, ∀ z, slTy P t = some z → (∀ y ∈ ys, y.fine = true ∧ y.cells.length = z) → Src P g w z ys (a.eval o2) us := by
      cases hz : slTy P t with
      | none => exact ⟨[], fun z h => by cases h⟩
      | some z =>
        by_cases hall : ∀ y ∈ ys, y.cells.length = z
        · obtain ⟨us, hs⟩ := src_sl (P := P) hi hy hall
          exact ⟨us, fun z' h _ => by cases h; exact hs⟩
        · exact ⟨[], fun z' h h' => by cases h; exact absurd (fun y hy => (h' y hy).2) hall⟩
    obtain ⟨us, key⟩ := key
    refine BOut.out hf (b_append hi (t := t) (s := s) (ty := o.type) (hev o1) (.inr ⟨e', hu⟩) key h) (fun _ _ h => h) ?_
    simp [execOp, ho, resolve, hc, two h1, ty2 hts, invoke, builtin]
  · rename_i t s x b hts hx
    obtain ⟨o1, o2, h1, rfl, he⟩ := map2 hx
    obtain ⟨hT, hz, h⟩ := h
    have hu := str_of hT
    have hy := (hev o2).of_eq he
    refine BOut.out hf (b_append hi (t := t) (s := s) (ty := o.type) (u := a.eval o2) (us := b.map fun c => Value.int .u8 c.toNat) (hev o1) (.inl hu) (fun z hz' _ => by rw [hz] at hz'; cases hz'; exact src_str hy) h) (fun _ _ h => h) ?_
    simp [execOp, ho, resolve, hc, two h1, ty2 hts, invoke, builtin]
  · rename_i t s x y hts hx
    obtain ⟨o1, o2, h1, rfl, rfl⟩ := map2 hx
    refine BOut.out hf (b_copy hi (t := t) (s := s) (ty := o.type) (hev o1) (hev o2) h) (fun _ _ h => h) ?_
    simp [execOp, ho, resolve, hc, two h1, ty2 hts, invoke, builtin]
  · rename_i ka p kb q hx
    obtain ⟨o1, o2, h1, e1, e2⟩ := map2 hx
    obtain ⟨rfl, hk⟩ := h
    have v1 := ((hev o1).of_eq e1).int
    have v2 := ((hev o2).of_eq e2).int
    refine Out.next hi hf (v := .int ka (max p q)) ?_ (VT.mkInt _ _) hk
    have : (if q > p then q else p) = max p q := by omega
    simp [execOp, ho, resolve, hc, two h1, invoke, builtin, Builtin.max_, v1, v2, Builtin.max2, this]
  · rename_i ka p kb q hx
    obtain ⟨o1, o2, h1, e1, e2⟩ := map2 hx
    obtain ⟨rfl, hk⟩ := h
    have v1 := ((hev o1).of_eq e1).int
    have v2 := ((hev o2).of_eq e2).int
    refine Out.next hi hf (v := .int ka (min p q)) ?_ (VT.mkInt _ _) hk
    have : (if q < p then q else p) = min p q := by omega
    simp [execOp, ho, resolve, hc, two h1, invoke, builtin, Builtin.min_, v1, v2, Builtin.min2, this]
  · exact h.elim

theorem V1s.append : ∀ {ds es : List D} {vs us : List Value}, V1s g ds vs → V1s g es us → V1s g (ds ++ es) (vs ++ us)
  | [], _, _, _, h, h' => by simp [V1s] at h; simpa [h] using h'
  | d :: ds, _, _, _, ⟨v, r, rfl, h1, h2⟩, h' => ⟨v, r ++ _, rfl, h1, V1s.append h2 h'⟩

theorem V1s.ofRs : ∀ {ds : List D} {vs : List Value}, Rs g ds vs → flats ds = true → V1s g ds vs
  | [], _, h, _ => h
  | d :: ds, _, h, hf => by
    simp only [Rs] at h
    obtain ⟨v, r, rfl, h1, h2, h3⟩ := h
    simp only [flats, Bool.and_eq_true] at hf
    exact ⟨v, r, rfl, V1.ofOne h1 h2 (D.flat_agg hf.1), V1s.ofRs h3 hf.2⟩

theorem sound_call (hi : Inv g st w) (hf : FRel g n fr a) {f : Operand} {c : Call} {q : FuncId} {x y : List D} (he : ev fr f = .fn q x y) (hx : flats x = true) (hy : flats y = true)
    (hargs : ∀ z ∈ c.args.toList, (ev fr z).fine = true) (h : Sem P q (x ++ c.args.toList.map (ev fr) ++ y) st fun d st' => k d fr st') (o : Oper) (hc : c.callee = .value f) (ho : o.op = .call c) :
    Out P n g a ((execOp a.eval o).run P w) k := by
  obtain ⟨u, v, hv, hu, hw⟩ := ((ev_ok hf f).of_eq he).fn
  obtain ⟨hcall, hs⟩ := h
  have hV := ((V1s.ofRs hu hx).append (V1s.evs hf c.args.toList hargs)).append (V1s.ofRs hw hy)
  have hC := hs g w _ hi hV
  refine .inr (.inr ⟨q, (u.toList ++ c.args.toList.map a.eval ++ v.toList).toArray, w, ?_, hC.mono ?_⟩)
  · have harr : u ++ c.args.map a.eval ++ v = (u.toList ++ c.args.toList.map a.eval ++ v.toList).toArray := by apply Array.ext'; simp
    simp only [execOp, ho, resolve, hc, hv, Deferred.ofValue, Sem.run_bind, Sem.run_pure, Result.andThen_ok, invoke]
    rw [harr]; exact hcall _ w
  · rintro e w' ⟨g', v', d, st', rfl, h1, h2, h3, h4⟩
    exact ⟨g', v', d, st', fr, rfl, h1, h2, hf.mono h1, h3, h4⟩
end ops
end Go.Proofs.YtddbidoaolnegaaGreatDoor
