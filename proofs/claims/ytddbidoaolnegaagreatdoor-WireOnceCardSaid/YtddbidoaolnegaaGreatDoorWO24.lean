/-
PART OF A CLAIM: RI, RD, RE, RF, RG. No statement of the seat is proved here; no condition. -/
import Derived.Laws.RangeString
import Derived.RangeFuncOwn
import Derived.WalkKit
import Derived.LaidEql
import Derived.Stop.Asserts
import Derived.RowKitTokens
import Derived.Test.YtddbidoaolnegaaGreatDoorWO5
import Derived.Test.YtddbidoaolnegaaGreatDoorWO7
import Derived.Test.YtddbidoaolnegaaGreatDoorWO8
import Derived.Test.YtddbidoaolnegaaGreatDoorWO23
set_option linter.all false
/- A range over a string, of one byte each: its two operations. No statement of the seat is proved here; no condition. -/
namespace Go.Proofs.YtddbidoaolnegaaGreatDoor
open Go Go.RowKit
set_option maxHeartbeats 1000000

theorem Inv.putIter {g : Gh} {st : St} {w : World} (h : Inv g st w) {r : Nat} {s : List UInt8} {pos : Nat} (pos' : Nat) (hr : st.mem r = some (.iter s pos)) : Inv g (st.set r (.iter s pos')) (w.putObj r (.stringIter ⟨s.toArray⟩ pos')) := by
  obtain ⟨hb, hF, hok⟩ := h.mem r _ hr
  have hok' : w.heap[r]? = some (.stringIter ⟨s.toArray⟩ pos) := hok
  have hlt := h.lt hr
  have other : ∀ i, i ≠ r → (w.putObj r (.stringIter ⟨s.toArray⟩ pos')).heap[i]? = w.heap[i]? := fun i hi => by
    simp [World.putObj, Array.getElem?_setIfInBounds_ne hi.symm]
  have same : (w.putObj r (.stringIter ⟨s.toArray⟩ pos')).heap[r]? = some (.stringIter ⟨s.toArray⟩ pos') := by
    simp [World.putObj, hlt]
  have hsz : (w.putObj r (.stringIter ⟨s.toArray⟩ pos')).heap.size = w.heap.size := by simp [World.putObj]
  refine ⟨h.below.grown (grownBy_putObj' w r _) (Nat.le_trans h.base (Nat.le_refl _)) (fun k e => by cases e; exact hb), by rw [hsz]; exact h.base, fun b o v hv => ?_, fun x ob hx' => ?_, fun i hi => ?_, h.apart, h.fin⟩
  · have hne : b ≠ r := fun e => by rw [e, hF] at hv; cases hv
    rw [World.cell?_of_block (w := w) (other b hne)]
    exact h.fz _ _ _ hv
  · rw [St.mem_set] at hx'
    split at hx'
    · subst x; cases hx'
      exact ⟨hb, hF, same⟩
    · rename_i hne
      obtain ⟨k1, k2, k3⟩ := h.mem x ob hx'
      exact ⟨k1, k2, Ob.ok_mono (Gh.le.refl g) (other x hne) k3⟩
  · obtain ⟨t, k1, k2⟩ := h.tok i hi
    have hne : t.b ≠ r := fun e => by have := k2.clear; rw [e, hr] at this; cases this
    refine ⟨t, k1, k2.new, ?_, k2.room, ?_, k2.free⟩
    · rw [St.mem_set, if_neg hne]; exact k2.clear
    · rw [other _ hne]; exact k2.lies

theorem run_next_at {P : Program} (w : World) (r : Nat) (s : ByteArray) (pos : Nat) (ty : TypeId) (h : w.heap[r]? = some (.stringIter s pos)) (hl : pos < s.size) (ha : (s[pos]'hl).toNat < 128) :
    (Instr.next (.pointer (some ⟨r, 0, none⟩)) true ty).run P w = .ok (.tuple #[.bool true, .int .i64 pos, .int .i32 (s[pos]'hl).toNat]) (w.putObj r (.stringIter s (pos + 1))) := by
  simp only [Instr.next, getObj, setObj, Sem.run_bind, Sem.run, h, Result.andThen, hl, if_true, decode_ascii s pos hl ha]
  simp [goInt, Sem.run, h, World.putObj]
theorem run_next_over {P : Program} (w : World) (r : Nat) (s : ByteArray) (pos : Nat) (ty : TypeId) (h : w.heap[r]? = some (.stringIter s pos)) (hl : ¬ pos < s.size) :
    (Instr.next (.pointer (some ⟨r, 0, none⟩)) true ty).run P w = .ok (.tuple #[.bool false]) w := by
  simp [Instr.next, getObj, Sem.run, h, hl]

section
variable {P : Program} {n : Nat} {fr : Fr} {st : St} {Q : Exit → Fr → St → Prop}

theorem W.rng {id : Nat} {o : Oper} {d : Tmp} {t : TypeId} {s : List UInt8} (hs : P.underlying t = some .string) (hg : o.guard = none) (hd : o.dst = some d) (hop : o.op = .range t (.const (.string ⟨s.toArray⟩))) (hn : d < n)
    (h : ∀ r, st.mem r = none → Q .normal (fr.put d (.ptr r 0)) (st.set r (.iter s 0))) : W P n (.region id #[o] false) Q fr st := by
  intro g w a hi hf
  refine wp_region ?_
  rw [show List.range (#[o] : Array Oper).size = [0] from rfl]
  refine wpOps_value (oi := o) rfl hg (v := .pointer (some ⟨w.heap.size, 0, none⟩)) (w' := w.iter ⟨s.toArray⟩ 0) ?_ ?_
  · have := run_range_string (P := P) w t ⟨s.toArray⟩ hs
    simp [execOp, hop, Act.eval, this]
  · rw [hd]
    have hI := hi.newOb (.stringIter ⟨s.toArray⟩ 0) (.iter s 0) (heap_alloc_new w _)
    have hm : st.mem w.heap.size = none := by
      cases hc : st.mem w.heap.size with
      | none => rfl
      | some ob => exact absurd (hi.lt hc) (Nat.lt_irrefl _)
    exact ⟨rfl, g, _, _, Gh.le.refl g, hI, hf.put hn (VT.mkPtr _ _), h _ hm⟩

theorem W.nxt {id : Nat} {o o2 : Oper} {d d2 s0 : Tmp} {r pos : Nat} {s : List UInt8} (hg : o.guard = none) (hd : o.dst = some d) (hop : o.op = .next (.tmp s0) true) (hg2 : o2.guard = none) (hd2 : o2.dst = some d2) (hop2 : o2.op = .extract (.tmp d) 0) (hn : d < n ∧ d2 < n)
    (hr : fr s0 = .ptr r 0) (hm : st.mem r = some (.iter s pos)) (ha : ∀ x ∈ s, x.toNat < 128)
    (hlt : pos < s.length → Q .normal ((fr.put d .any).put d2 (.bool true)) (st.set r (.iter s (pos + 1)))) (hge : ¬ pos < s.length → Q .normal ((fr.put d .any).put d2 (.bool false)) st) : W P n (.region id #[o, o2] false) Q fr st := by
  intro g w a hi hf
  refine wp_region ?_
  rw [show List.range (#[o, o2] : Array Oper).size = [0, 1] from rfl]
  have hv : a.eval (.tmp s0) = .pointer (some ⟨r, 0, none⟩) := by have := hf.slot s0; rw [hr] at this; exact this.ptr
  have hh : w.heap[r]? = some (.stringIter ⟨s.toArray⟩ pos) := (hi.mem r _ hm).2.2
  by_cases hp : pos < s.length
  · have hp' : pos < (⟨s.toArray⟩ : ByteArray).size := by simpa [ByteArray.size] using hp
    have hx : ((⟨s.toArray⟩ : ByteArray)[pos]'hp').toNat < 128 := ha _ (by show s.toArray[pos] ∈ s; simp)
    refine wpOps_value (oi := o) rfl hg (v := .tuple #[.bool true, .int .i64 pos, .int .i32 ((⟨s.toArray⟩ : ByteArray)[pos]'hp').toNat]) (w' := w.putObj r (.stringIter ⟨s.toArray⟩ (pos + 1))) ?_ ?_
    · have := run_next_at (P := P) w r ⟨s.toArray⟩ pos o.type hh hp' hx
      simp [execOp, hop, hv, this]
    · rw [hd]
      have hf1 : FRel g n (fr.put d .any) (a.put (some d) (.tuple #[.bool true, .int .i64 pos, .int .i32 ((⟨s.toArray⟩ : ByteArray)[pos]'hp').toNat])) := hf.put hn.1 trivial
      have e1 : (a.put (some d) (.tuple #[.bool true, .int .i64 pos, .int .i32 ((⟨s.toArray⟩ : ByteArray)[pos]'hp').toNat])).eval (.tmp d) = .tuple #[.bool true, .int .i64 pos, .int .i32 ((⟨s.toArray⟩ : ByteArray)[pos]'hp').toNat] := put_get hf.size hn.1 _
      refine wpOps_value (oi := o2) rfl hg2 (v := .bool true) (w' := w.putObj r (.stringIter ⟨s.toArray⟩ (pos + 1))) (by simp [execOp, hop2, e1, Instr.extract]) ?_
      rw [hd2]
      exact ⟨rfl, g, _, _, Gh.le.refl g, hi.putIter (pos + 1) hm, hf1.put hn.2 (VT.mkBool true), hlt hp⟩
  · have hp' : ¬ pos < (⟨s.toArray⟩ : ByteArray).size := by simpa [ByteArray.size] using hp
    refine wpOps_value (oi := o) rfl hg (v := .tuple #[.bool false]) (w' := w) ?_ ?_
    · have := run_next_over (P := P) w r ⟨s.toArray⟩ pos o.type hh hp'
      simp [execOp, hop, hv, this]
    · rw [hd]
      have hf1 : FRel g n (fr.put d .any) (a.put (some d) (.tuple #[.bool false])) := hf.put hn.1 trivial
      have e1 : (a.put (some d) (.tuple #[.bool false])).eval (.tmp d) = .tuple #[.bool false] := put_get hf.size hn.1 _
      refine wpOps_value (oi := o2) rfl hg2 (v := .bool false) (w' := w) (by simp [execOp, hop2, e1, Instr.extract]) ?_
      rw [hd2]
      exact ⟨rfl, g, _, _, Gh.le.refl g, hi, hf1.put hn.2 (VT.mkBool false), hge hp⟩
end
end Go.Proofs.YtddbidoaolnegaaGreatDoor
/- Decode of two short files: the walks. No statement of the seat is proved here; no condition. -/
namespace Go.Proofs.YtddbidoaolnegaaGreatDoor
open Go Go.RowKit
open Nat renaming reduceLT → zA, reduceEqDiff → zB, reduceBEq → zC, reduceAdd → zD, reduceMul → zE, reduceSub → zF, reduceLeDiff → zG, mul_one → zH, zero_add → zI, add_zero → zJ
open Int renaming toNat_natCast → zK, reduceAdd → zL, reduceLE → zM, reduceLT → zN, natCast_nonneg → zO
open Go.Proofs.YtddbidoaolnegaaGreatDoor renaming evI_plain → ya, evI_guard → yb, evT_rd → yc, evT_rdg → yd, evT_act → ye, evT_actg → yf, evI_done → yg, evT_two → yh, evT_nil → yi, W.seqG → yj, W.block → yk, W.regionI → yl, W.cond → ym, W.skip → yn, W.ret → yo, W.exit → yp, gdD_split → yq, newT_intro → yr, newB_intro → ys, W.draw → yt, St.set_del → yu, St.give_take → yv, AGo.go → yw, IGo.go → yx, TGo.go → yy, Goes.go → yz
attribute [local go_sem] zK zP zQ zH zI zJ zO
attribute [local irreducible] W evI evT evL evOp evBin gdD Sem newT newB fillD bldOf
set_option maxRecDepth 10000
set_option maxHeartbeats 4000000

theorem sem32b {bs : List UInt8} {a : Nat} {b s : Int} {p q : Nat} {c1 c2 c3 : D} {st : St} {k : D → St → Prop} (most : Nat) (hm2 : most < 1000000000) (hb : b ≠ 0) (hp : st.mem p = some (.cells [.ptr q 0, c1, c2, c3])) (hq : st.mem q = some (.cells (rdC bs a b s))) (f : D)
    (hk : k (.tup []) st) : Sem P 32 [.ptr p 0, .int .i64 most, f] st k := by
  refine Sem.of_body Tryz.call32 Tryz.func32 rfl Tryz.ntmps32 (by simp) ?_
  repeat' first | refine yj fun N hN => ?_ | refine yk ?_ | refine yl [] ?_ | (refine ya rfl rfl fun N hN => ?_; simp only [go_sem, ↓reduceIte, zA, zB, zC, zD, zE, zF, zG, zL, zM, zN, reduceCtorEq, Tryz.results32]) | (refine yg rfl ?_; try simp only [go_sem]) | ((first | refine yx hN _ _ ?_ | refine yz hN _ _ ?_); clear hN N) | (refine sem69b most hm2 hb hp hq ?_; try simp only [go_sem, ↓reduceIte, zA, zB, zC, zD, zE, zF, zG, zL, zM, zN, reduceCtorEq]) | fail
  refine W.loopN (fun m' fr' st' => m' = 1 ∧ fr' = _ ∧ st' = _) ?_ 1 _ _ ⟨rfl, rfl, rfl⟩
  rintro m' N' ih fr' st' ⟨rfl, rfl, rfl⟩
  have h0 : ¬ (0 : Int) < 0 := by omega
  repeat' first | refine yj fun N hN => ?_ | refine yl [] ?_ | ((first | refine ya rfl rfl fun N hN => ?_ | refine yb rfl rfl rfl rfl fun N hN => ?_ | refine ym ?_ | refine yp ?_); simp only [go_sem, ↓reduceIte, zA, zB, zC, zD, zE, zF, zG, zL, zM, zN, reduceCtorEq, h0, Tryz.results32]) | (refine yg rfl ?_; try simp only [go_sem]) | ((first | refine yx hN _ _ ?_ | refine yz hN _ _ ?_); clear hN N) | clear hN N | fail
  all_goals exact hk

theorem sem11_1 (ow : Own) (st : St) (k : D → St → Prop) (hk : ∀ st', k (.tup [.sl .nil 0 [], .niliface]) st') : Sem P 11 [.sl ow 1 (byD [66, 84, 78, 49, 0, 0, 1, 2, 0, 0])] st k := by
  generalize hbs : [66, 84, 78, 49, 0, 0, 1, 2, 0, (0 : UInt8)] = bs at *
  have hne : bs ≠ [] := by subst hbs; simp
  have hlen : bs.length = 10 := by subst hbs; rfl
  have hl : bs.length < 1000000000 := by omega
  have hl1 : ((bs.length : Nat) : Int) = 10 := by omega
  have htk : List.take (Int.toNat 4) (byD bs) = byD [66, 84, 78, 49] := by subst hbs; rfl
  have n4 : NumAt bs 4 0 1 := by subst hbs; exact NumAt.one (c := 0) rfl (by decide) (by decide)
  have n5 : NumAt bs 5 0 1 := by subst hbs; exact NumAt.one (c := 0) rfl (by decide) (by decide)
  have n6 : NumAt bs 6 1 1 := by subst hbs; exact NumAt.one (c := 1) rfl (by decide) (by decide)
  have n8 : NumAt bs 8 0 1 := by subst hbs; exact NumAt.one (c := 0) rfl (by decide) (by decide)
  have n9 : NumAt bs 9 0 1 := by subst hbs; exact NumAt.one (c := 0) rfl (by decide) (by decide)
  refine Sem.of_body Tryz.call11 Tryz.func11 rfl Tryz.ntmps11 (by simp) ?_
  repeat' first | (refine W.rng (id := 6) (d := 32) (s := [66, 84, 78, 49]) Tryz.underlying9 rfl rfl rfl (by decide) fun ri hri => ?_) | refine yj fun N hN => ?_ | refine yk ?_ | refine yl [4, 5, 31] ?_ | ((first | refine ya rfl rfl fun N hN => ?_ | refine yb rfl rfl rfl rfl fun N hN => ?_ | refine ym ?_); simp only [go_sem, ↓reduceIte, zA, zB, zC, zD, zE, zF, zG, zL, zM, zN, reduceCtorEq, hl1, htk, Tryz.results11]) | ((first | refine yg rfl ?_ | refine yn ?_); try simp only [go_sem]) | ((first | refine yx hN _ _ ?_ | refine yz hN _ _ ?_); clear hN N) | (refine sem30 bs hne hl _ _ _ _ fun q hq0 => ?_; try simp only [go_sem, ↓reduceIte, zA, zB, zC, zD, zE, zF, zG, zL, zM, zN, reduceCtorEq, hl1, htk]) | ((refine ys fun r hr => ?_; (try have hrn := (St.set_none hr).1); (try have hrn2 := Ne.symm (St.set_none hr).1)); try simp only [go_sem, ↓reduceIte, zA, zB, zC, zD, zE, zF, zG, zL, zM, zN, reduceCtorEq, hl1, htk]) | fail
  rename_i p hp0 hpq1 hpq2
  obtain ⟨r4, rfl⟩ : ∃ x, x = r := ⟨r, rfl⟩
  have hri1 := hri
  simp only [St.set_none_iff] at hri1
  have hr1 := hr
  simp only [St.set_none_iff] at hr1
  have hne1 : (p ≠ q ∧ q ≠ p) ∧ (r4 ≠ p ∧ p ≠ r4) ∧ (r4 ≠ q ∧ q ≠ r4) ∧ (ri ≠ r4 ∧ r4 ≠ ri) ∧ (ri ≠ p ∧ p ≠ ri) ∧ (ri ≠ q ∧ q ≠ ri) := ⟨⟨hpq1, hpq2⟩, hr1.1, hr1.2.1, hri1.1, hri1.2.1, hri1.2.2.1⟩
  refine W.loopN (fun m' fr' st' => ∃ i : Nat, i + m' = 5 ∧ i ≤ 4 ∧ fr' 32 = .ptr ri 0 ∧ fr' 4 = .ptr r4 0 ∧ st'.mem r4 = some (.cells [.ptr p 0]) ∧ st'.mem p = some (.cells [.ptr q 0, .sl .nil 0 [], .sl .nil 0 [], .sl .nil 0 []]) ∧ st'.mem q = some (.cells (rdC bs i 0 0)) ∧ st'.mem ri = some (.iter [66, 84, 78, 49] i)) ?_ 5 _ _
    ⟨0, rfl, by omega, by simp only [go_sem, ↓reduceIte, zA, zB, zC, zD, zE, zF, zG, zL, zM, zN, reduceCtorEq], by simp only [go_sem, ↓reduceIte, zA, zB, zC, zD, zE, zF, zG, zL, zM, zN, reduceCtorEq], by simp only [go_sem, ↓reduceIte, zA, zB, zC, zD, zE, zF, zG, zL, zM, zN, reduceCtorEq, hne1], by simp only [go_sem, ↓reduceIte, zA, zB, zC, zD, zE, zF, zG, zL, zM, zN, reduceCtorEq, hne1], by simp only [go_sem, ↓reduceIte, zA, zB, zC, zD, zE, zF, zG, zL, zM, zN, reduceCtorEq, hne1]; rfl, by simp only [go_sem, ↓reduceIte, zA, zB, zC, zD, zE, zF, zG, zL, zM, zN, reduceCtorEq, hne1]⟩
  clear hr hri hp0 hri1 hr1 hq0 hpq1 hpq2 hrn hrn2
  rintro m' N' ih fr' st' ⟨i, hi, hi4, f32, f4, mr, mp, mq, mi⟩
  refine W.seqG fun N2 hN2 => ?_
  refine W.nxt (id := 7) (d := 33) (d2 := 34) (s0 := 32) rfl rfl rfl rfl rfl rfl (by decide) f32 mi (by decide) (fun hlt => ?_) (fun hge => ?_)
  · refine Goes.go hN2 _ _ ?_
    clear hN2 N2
    have hlt4 : i < 4 := hlt
    obtain ⟨c, rest, hdr⟩ : ∃ c rest, bs.drop i = c :: rest := by
      cases hd : bs.drop i with
      | nil => exact absurd (List.drop_eq_nil_iff.1 hd) (by omega)
      | cons c rest => exact ⟨c, rest, rfl⟩
    repeat' first | refine yj fun N hN => ?_ | refine yk ?_ | refine yl [4, 5, 31] ?_ | ((first | refine ya rfl rfl fun N hN => ?_ | refine ym ?_); simp only [go_sem, ↓reduceIte, zA, zB, zC, zD, zE, zF, zG, zL, zM, zN, reduceCtorEq, f32, f4, mr, mp, hne1, Tryz.results11]) | ((first | refine yg rfl ?_ | refine yn ?_); try simp only [go_sem]) | ((first | refine yx hN _ _ ?_ | refine yz hN _ _ ?_); clear hN N) | (refine sem31 bs i 0 c rest q _ _ (Int.natCast_nonneg i) (by omega) hl (by simp only [go_sem, ↓reduceIte, zA, zB, zC, zD, zE, zF, zG, zL, zM, zN, reduceCtorEq, mq, hne1]) (by rw [Int.toNat_natCast]; exact hdr) ?_; try simp only [go_sem, ↓reduceIte, zA, zB, zC, zD, zE, zF, zG, zL, zM, zN, reduceCtorEq, f32, f4, mr, mp, hne1]) | clear hN N | fail
    refine ih.back (m' - 1) (by omega) _ _ ⟨i + 1, by omega, by omega, by simp only [go_sem, ↓reduceIte, zA, zB, zC, zD, zE, zF, zG, zL, zM, zN, reduceCtorEq, f32], by simp only [go_sem, ↓reduceIte, zA, zB, zC, zD, zE, zF, zG, zL, zM, zN, reduceCtorEq, f4], by simp only [go_sem, ↓reduceIte, zA, zB, zC, zD, zE, zF, zG, zL, zM, zN, reduceCtorEq, mr, hne1], by simp only [go_sem, ↓reduceIte, zA, zB, zC, zD, zE, zF, zG, zL, zM, zN, reduceCtorEq, mp, hne1], by simp only [go_sem, ↓reduceIte, zA, zB, zC, zD, zE, zF, zG, zL, zM, zN, reduceCtorEq]; rfl, by simp only [go_sem, ↓reduceIte, zA, zB, zC, zD, zE, zF, zG, zL, zM, zN, reduceCtorEq, hne1]⟩
  · obtain rfl : i = 4 := by
      have : ¬ i < 4 := hge
      omega
    refine Goes.go hN2 _ _ ?_
    clear hN2 N2 ih
    have mq4 : st'.mem q = some (.cells (rdC bs (4 : Nat) 0 0)) := mq
    have nb : True := trivial
    repeat' first | refine yj fun N hN => ?_ | refine yl [4, 5, 31] ?_ | ((first | refine ya rfl rfl fun N hN => ?_ | refine ym ?_ | refine yp ?_); simp only [go_sem, ↓reduceIte, zA, zB, zC, zD, zE, zF, zG, zL, zM, zN, reduceCtorEq, f32, f4, mr, mp, hne1, nb, Tryz.results11]) | (refine yg rfl ?_; try simp only [go_sem]) | ((first | refine yx hN _ _ ?_ | refine yz hN _ _ ?_); clear hN N) | (refine sem32 (s := 0) (q := q) (c1 := .sl .nil 0 []) (c2 := .sl .nil 0 []) (c3 := .sl .nil 0 []) n4 4096 (by decide) (by decide) hl (by simp only [go_sem, ↓reduceIte, zA, zB, zC, zD, zE, zF, zG, zL, zM, zN, reduceCtorEq, mp, hne1, nb]) (by simp only [go_sem, ↓reduceIte, zA, zB, zC, zD, zE, zF, zG, zL, zM, zN, reduceCtorEq, mq4, hne1, nb]) 33 [] [.ptr r4 0] rfl rfl (fun i st' => i = 0 ∧ st' = _) ⟨rfl, rfl⟩ (fun i st' h => absurd h (by omega)) (fun st' h => ?_); obtain ⟨_, rfl⟩ := h; try simp only [go_sem, ↓reduceIte, zA, zB, zC, zD, zE, zF, zG, zL, zM, zN, reduceCtorEq, f32, f4, mr, mp, hne1, nb]) | (refine sem32 (s := 0) (q := q) (c1 := .sl .nil 0 []) (c2 := .sl .nil 0 []) (c3 := .sl .nil 0 []) n5 4096 (by decide) (by decide) hl (by simp only [go_sem, ↓reduceIte, zA, zB, zC, zD, zE, zF, zG, zL, zM, zN, reduceCtorEq, mp, hne1, nb]) (by simp only [go_sem, ↓reduceIte, zA, zB, zC, zD, zE, zF, zG, zL, zM, zN, reduceCtorEq, hne1, nb]) 35 [.ptr p 0] [] rfl rfl (fun i st' => i = 0 ∧ st' = _) ⟨rfl, rfl⟩ (fun i st' h => absurd h (by omega)) (fun st' h => ?_); obtain ⟨_, rfl⟩ := h; try simp only [go_sem, ↓reduceIte, zA, zB, zC, zD, zE, zF, zG, zL, zM, zN, reduceCtorEq, f32, f4, mr, mp, hne1, nb]) | ((refine ys fun r hr => ?_; (have hr1 := hr; try simp only [St.set_none_iff, St.mem_give, St.mem_take] at hr1); (first | have nbq := mem_ne mr hr1 | have nbq := mem_ne mr hr1.2 | have nbq := mem_ne mr hr1.2.2 | have nbq := mem_ne mr hr1.2.2.2 | have nbq := mem_ne mr hr1.2.2.2.2); have nb := And.intro nb nbq; (first | have nbq := mem_ne mp hr1 | have nbq := mem_ne mp hr1.2 | have nbq := mem_ne mp hr1.2.2 | have nbq := mem_ne mp hr1.2.2.2 | have nbq := mem_ne mp hr1.2.2.2.2); have nb := And.intro nb nbq; (first | have nbq := mem_ne mq4 hr1 | have nbq := mem_ne mq4 hr1.2 | have nbq := mem_ne mq4 hr1.2.2 | have nbq := mem_ne mq4 hr1.2.2.2 | have nbq := mem_ne mq4 hr1.2.2.2.2); have nb := And.intro nb nbq; have nb := And.intro nb hr1); try simp only [go_sem, ↓reduceIte, zA, zB, zC, zD, zE, zF, zG, zL, zM, zN, reduceCtorEq, f32, f4, mr, mp, hne1, nb]) | clear hN N | fail
    refine sem32 (s := 0) (q := q) (c1 := .sl .nil 0 []) (c2 := .sl .nil 0 []) (c3 := .sl .nil 0 []) n6 65536 (by decide) (by decide) hl (by simp only [go_sem, ↓reduceIte, zA, zB, zC, zD, zE, zF, zG, zL, zM, zN, reduceCtorEq, mp, hne1, nb]) (by simp only [go_sem, ↓reduceIte, zA, zB, zC, zD, zE, zF, zG, zL, zM, zN, reduceCtorEq, hne1, nb]) 36 [.ptr p 0] [] rfl rfl
      (fun i s => (i = 0 ∧ s.mem p = some (.cells [.ptr q 0, .sl .nil 0 [], .sl .nil 0 [], .sl .nil 0 []]) ∧ s.mem q = some (.cells (rdC bs (7 : Nat) 0 0)) ∧ s.mem r4 = some (.cells [.ptr p 0]) ∧ s.mem r = some (.cells [.sl .nil 0 []])) ∨
        (i = 1 ∧ ∃ c3, s.mem p = some (.cells [.ptr q 0, .sl .nil 0 [], .sl .nil 0 [], c3]) ∧ s.mem q = some (.cells (rdC bs (9 : Nat) 0 0)) ∧ s.mem r4 = some (.cells [.ptr p 0]) ∧ s.mem r = some (.cells [.sl .nil 0 []])))
      (.inl ⟨rfl, by simp only [go_sem, ↓reduceIte, zA, zB, zC, zD, zE, zF, zG, zL, zM, zN, reduceCtorEq, mp, hne1, nb], by simp only [go_sem, ↓reduceIte, zA, zB, zC, zD, zE, zF, zG, zL, zM, zN, reduceCtorEq, hne1, nb], by simp only [go_sem, ↓reduceIte, zA, zB, zC, zD, zE, zF, zG, zL, zM, zN, reduceCtorEq, mr, hne1, nb], by simp only [go_sem, ↓reduceIte, zA, zB, zC, zD, zE, zF, zG, zL, zM, zN, reduceCtorEq, hne1, nb]⟩) (fun i s hi hJ => ?_) (fun s hJ => ?_)
    · rcases hJ with ⟨rfl, j1, j2, j3, j4⟩ | ⟨h, _⟩
      · refine ⟨⟨(7 : Nat), 0, _, _, _, j1, j2⟩, ?_⟩
        refine sem36v (a := 7) (n := 0) (m := 1) [0, 0] hl (by omega) (by subst hbs; rfl) n8 (by decide) j1 j2 (fun st2 c3' k1 k2 k3 => ?_)
        exact .inr ⟨rfl, c3', k1, k2, k3 r4 hne1.2.1.1 hne1.2.2.1.1 _ j3, k3 r (by simp only [go_sem, ↓reduceIte, zA, zB, zC, zD, zE, zF, zG, zL, zM, zN, reduceCtorEq, nb, not_false_eq_true]) (by simp only [go_sem, ↓reduceIte, zA, zB, zC, zD, zE, zF, zG, zL, zM, zN, reduceCtorEq, nb, not_false_eq_true]) _ j4⟩
      · omega
    rcases hJ with ⟨h, _⟩ | ⟨_, c3, j1, j2, j3, j4⟩
    · omega
    clear mr mp mq mq4 mi f32
    have hlt0 : ((bs.length : Nat) : Int) - ((10 : Nat) : Int) = 0 := by omega
    repeat' first | refine yj fun N hN => ?_ | refine yl [4, 5, 31] ?_ | ((first | refine ya rfl rfl fun N hN => ?_ | refine ym ?_ | refine yo ?_); simp only [go_sem, ↓reduceIte, zA, zB, zC, zD, zE, zF, zG, zL, zM, zN, reduceCtorEq, f4, j1, j2, j3, j4, hne1, nb, hlt0, Int.lt_irrefl, Tryz.results11]) | ((first | refine yg rfl ?_ | refine yn ?_); try simp only [go_sem]) | ((first | refine yx hN _ _ ?_ | refine yz hN _ _ ?_); clear hN N) | (refine sem39 (bs := bs) (a := (10 : Nat)) (b := 0) (s := 0) (by simp only [go_sem, ↓reduceIte, zA, zB, zC, zD, zE, zF, zG, zL, zM, zN, reduceCtorEq]) (by omega) (by omega) hl ?_; try simp only [go_sem, ↓reduceIte, zA, zB, zC, zD, zE, zF, zG, zL, zM, zN, reduceCtorEq, f4, j1, j2, j3, j4, hne1, nb, hlt0, Int.lt_irrefl]) | (refine sem42 (bs := bs) (a := (10 : Nat)) (b := 0) (s := 0) (by simp only [go_sem, ↓reduceIte, zA, zB, zC, zD, zE, zF, zG, zL, zM, zN, reduceCtorEq]) ?_; try simp only [go_sem, ↓reduceIte, zA, zB, zC, zD, zE, zF, zG, zL, zM, zN, reduceCtorEq, f4, j1, j2, j3, j4, hne1, nb, hlt0, Int.lt_irrefl]) | (refine sem32 (s := 0) (q := q) (c1 := .sl .nil 0 []) (c2 := .sl .nil 0 []) (c3 := c3) n9 256 (by decide) (by decide) hl j1 j2 37 [] [.ptr r 0, .ptr r4 0] rfl rfl (fun i st' => i = 0 ∧ st' = _) ⟨rfl, rfl⟩ (fun i st' h => absurd h (by omega)) (fun st' h => ?_); obtain ⟨_, rfl⟩ := h; try simp only [go_sem, ↓reduceIte, zA, zB, zC, zD, zE, zF, zG, zL, zM, zN, reduceCtorEq, f4, j1, j2, j3, j4, hne1, nb, hlt0, Int.lt_irrefl]) | fail
    all_goals exact hk _
theorem sem11_2 (ow : Own) (st : St) (k : D → St → Prop) (hk : ∀ st', k (.tup [.sl .nil 0 [], .iface 48 (.eptr (.agg [.int .i64 8, .int .i64 6]) 0)]) st') : Sem P 11 [.sl ow 1 (byD [66, 84, 78, 49, 0, 0, 1, 4, 0, 0, 0])] st k := by
  generalize hbs : [66, 84, 78, 49, 0, 0, 1, 4, 0, 0, (0 : UInt8)] = bs at *
  have hne : bs ≠ [] := by subst hbs; simp
  have hlen : bs.length = 11 := by subst hbs; rfl
  have hl : bs.length < 1000000000 := by omega
  have hl1 : ((bs.length : Nat) : Int) = 11 := by omega
  have htk : List.take (Int.toNat 4) (byD bs) = byD [66, 84, 78, 49] := by subst hbs; rfl
  have n4 : NumAt bs 4 0 1 := by subst hbs; exact NumAt.one (c := 0) rfl (by decide) (by decide)
  have n5 : NumAt bs 5 0 1 := by subst hbs; exact NumAt.one (c := 0) rfl (by decide) (by decide)
  have n6 : NumAt bs 6 1 1 := by subst hbs; exact NumAt.one (c := 1) rfl (by decide) (by decide)
  have n8 : NumAt bs 8 0 1 := by subst hbs; exact NumAt.one (c := 0) rfl (by decide) (by decide)
  refine Sem.of_body Tryz.call11 Tryz.func11 rfl Tryz.ntmps11 (by simp) ?_
  repeat' first | (refine W.rng (id := 6) (d := 32) (s := [66, 84, 78, 49]) Tryz.underlying9 rfl rfl rfl (by decide) fun ri hri => ?_) | refine yj fun N hN => ?_ | refine yk ?_ | refine yl [4, 5, 31] ?_ | ((first | refine ya rfl rfl fun N hN => ?_ | refine yb rfl rfl rfl rfl fun N hN => ?_ | refine ym ?_); simp only [go_sem, ↓reduceIte, zA, zB, zC, zD, zE, zF, zG, zL, zM, zN, reduceCtorEq, hl1, htk, Tryz.results11]) | ((first | refine yg rfl ?_ | refine yn ?_); try simp only [go_sem]) | ((first | refine yx hN _ _ ?_ | refine yz hN _ _ ?_); clear hN N) | (refine sem30 bs hne hl _ _ _ _ fun q hq0 => ?_; try simp only [go_sem, ↓reduceIte, zA, zB, zC, zD, zE, zF, zG, zL, zM, zN, reduceCtorEq, hl1, htk]) | ((refine ys fun r hr => ?_; (try have hrn := (St.set_none hr).1); (try have hrn2 := Ne.symm (St.set_none hr).1)); try simp only [go_sem, ↓reduceIte, zA, zB, zC, zD, zE, zF, zG, zL, zM, zN, reduceCtorEq, hl1, htk]) | fail
  rename_i p hp0 hpq1 hpq2
  obtain ⟨r4, rfl⟩ : ∃ x, x = r := ⟨r, rfl⟩
  have hri1 := hri
  simp only [St.set_none_iff] at hri1
  have hr1 := hr
  simp only [St.set_none_iff] at hr1
  have hne1 : (p ≠ q ∧ q ≠ p) ∧ (r4 ≠ p ∧ p ≠ r4) ∧ (r4 ≠ q ∧ q ≠ r4) ∧ (ri ≠ r4 ∧ r4 ≠ ri) ∧ (ri ≠ p ∧ p ≠ ri) ∧ (ri ≠ q ∧ q ≠ ri) := ⟨⟨hpq1, hpq2⟩, hr1.1, hr1.2.1, hri1.1, hri1.2.1, hri1.2.2.1⟩
  refine W.loopN (fun m' fr' st' => ∃ i : Nat, i + m' = 5 ∧ i ≤ 4 ∧ fr' 32 = .ptr ri 0 ∧ fr' 4 = .ptr r4 0 ∧ st'.mem r4 = some (.cells [.ptr p 0]) ∧ st'.mem p = some (.cells [.ptr q 0, .sl .nil 0 [], .sl .nil 0 [], .sl .nil 0 []]) ∧ st'.mem q = some (.cells (rdC bs i 0 0)) ∧ st'.mem ri = some (.iter [66, 84, 78, 49] i)) ?_ 5 _ _
    ⟨0, rfl, by omega, by simp only [go_sem, ↓reduceIte, zA, zB, zC, zD, zE, zF, zG, zL, zM, zN, reduceCtorEq], by simp only [go_sem, ↓reduceIte, zA, zB, zC, zD, zE, zF, zG, zL, zM, zN, reduceCtorEq], by simp only [go_sem, ↓reduceIte, zA, zB, zC, zD, zE, zF, zG, zL, zM, zN, reduceCtorEq, hne1], by simp only [go_sem, ↓reduceIte, zA, zB, zC, zD, zE, zF, zG, zL, zM, zN, reduceCtorEq, hne1], by simp only [go_sem, ↓reduceIte, zA, zB, zC, zD, zE, zF, zG, zL, zM, zN, reduceCtorEq, hne1]; rfl, by simp only [go_sem, ↓reduceIte, zA, zB, zC, zD, zE, zF, zG, zL, zM, zN, reduceCtorEq, hne1]⟩
  clear hr hri hp0 hri1 hr1 hq0 hpq1 hpq2 hrn hrn2
  rintro m' N' ih fr' st' ⟨i, hi, hi4, f32, f4, mr, mp, mq, mi⟩
  refine W.seqG fun N2 hN2 => ?_
  refine W.nxt (id := 7) (d := 33) (d2 := 34) (s0 := 32) rfl rfl rfl rfl rfl rfl (by decide) f32 mi (by decide) (fun hlt => ?_) (fun hge => ?_)
  · refine Goes.go hN2 _ _ ?_
    clear hN2 N2
    have hlt4 : i < 4 := hlt
    obtain ⟨c, rest, hdr⟩ : ∃ c rest, bs.drop i = c :: rest := by
      cases hd : bs.drop i with
      | nil => exact absurd (List.drop_eq_nil_iff.1 hd) (by omega)
      | cons c rest => exact ⟨c, rest, rfl⟩
    repeat' first | refine yj fun N hN => ?_ | refine yk ?_ | refine yl [4, 5, 31] ?_ | ((first | refine ya rfl rfl fun N hN => ?_ | refine ym ?_); simp only [go_sem, ↓reduceIte, zA, zB, zC, zD, zE, zF, zG, zL, zM, zN, reduceCtorEq, f32, f4, mr, mp, hne1, Tryz.results11]) | ((first | refine yg rfl ?_ | refine yn ?_); try simp only [go_sem]) | ((first | refine yx hN _ _ ?_ | refine yz hN _ _ ?_); clear hN N) | (refine sem31 bs i 0 c rest q _ _ (Int.natCast_nonneg i) (by omega) hl (by simp only [go_sem, ↓reduceIte, zA, zB, zC, zD, zE, zF, zG, zL, zM, zN, reduceCtorEq, mq, hne1]) (by rw [Int.toNat_natCast]; exact hdr) ?_; try simp only [go_sem, ↓reduceIte, zA, zB, zC, zD, zE, zF, zG, zL, zM, zN, reduceCtorEq, f32, f4, mr, mp, hne1]) | clear hN N | fail
    refine ih.back (m' - 1) (by omega) _ _ ⟨i + 1, by omega, by omega, by simp only [go_sem, ↓reduceIte, zA, zB, zC, zD, zE, zF, zG, zL, zM, zN, reduceCtorEq, f32], by simp only [go_sem, ↓reduceIte, zA, zB, zC, zD, zE, zF, zG, zL, zM, zN, reduceCtorEq, f4], by simp only [go_sem, ↓reduceIte, zA, zB, zC, zD, zE, zF, zG, zL, zM, zN, reduceCtorEq, mr, hne1], by simp only [go_sem, ↓reduceIte, zA, zB, zC, zD, zE, zF, zG, zL, zM, zN, reduceCtorEq, mp, hne1], by simp only [go_sem, ↓reduceIte, zA, zB, zC, zD, zE, zF, zG, zL, zM, zN, reduceCtorEq]; rfl, by simp only [go_sem, ↓reduceIte, zA, zB, zC, zD, zE, zF, zG, zL, zM, zN, reduceCtorEq, hne1]⟩
  · obtain rfl : i = 4 := by
      have : ¬ i < 4 := hge
      omega
    refine Goes.go hN2 _ _ ?_
    clear hN2 N2 ih
    have mq4 : st'.mem q = some (.cells (rdC bs (4 : Nat) 0 0)) := mq
    have nb : True := trivial
    repeat' first | refine yj fun N hN => ?_ | refine yl [4, 5, 31] ?_ | ((first | refine ya rfl rfl fun N hN => ?_ | refine ym ?_ | refine yp ?_); simp only [go_sem, ↓reduceIte, zA, zB, zC, zD, zE, zF, zG, zL, zM, zN, reduceCtorEq, f32, f4, mr, mp, hne1, nb, Tryz.results11]) | (refine yg rfl ?_; try simp only [go_sem]) | ((first | refine yx hN _ _ ?_ | refine yz hN _ _ ?_); clear hN N) | (refine sem32 (s := 0) (q := q) (c1 := .sl .nil 0 []) (c2 := .sl .nil 0 []) (c3 := .sl .nil 0 []) n4 4096 (by decide) (by decide) hl (by simp only [go_sem, ↓reduceIte, zA, zB, zC, zD, zE, zF, zG, zL, zM, zN, reduceCtorEq, mp, hne1, nb]) (by simp only [go_sem, ↓reduceIte, zA, zB, zC, zD, zE, zF, zG, zL, zM, zN, reduceCtorEq, mq4, hne1, nb]) 33 [] [.ptr r4 0] rfl rfl (fun i st' => i = 0 ∧ st' = _) ⟨rfl, rfl⟩ (fun i st' h => absurd h (by omega)) (fun st' h => ?_); obtain ⟨_, rfl⟩ := h; try simp only [go_sem, ↓reduceIte, zA, zB, zC, zD, zE, zF, zG, zL, zM, zN, reduceCtorEq, f32, f4, mr, mp, hne1, nb]) | (refine sem32 (s := 0) (q := q) (c1 := .sl .nil 0 []) (c2 := .sl .nil 0 []) (c3 := .sl .nil 0 []) n5 4096 (by decide) (by decide) hl (by simp only [go_sem, ↓reduceIte, zA, zB, zC, zD, zE, zF, zG, zL, zM, zN, reduceCtorEq, mp, hne1, nb]) (by simp only [go_sem, ↓reduceIte, zA, zB, zC, zD, zE, zF, zG, zL, zM, zN, reduceCtorEq, hne1, nb]) 35 [.ptr p 0] [] rfl rfl (fun i st' => i = 0 ∧ st' = _) ⟨rfl, rfl⟩ (fun i st' h => absurd h (by omega)) (fun st' h => ?_); obtain ⟨_, rfl⟩ := h; try simp only [go_sem, ↓reduceIte, zA, zB, zC, zD, zE, zF, zG, zL, zM, zN, reduceCtorEq, f32, f4, mr, mp, hne1, nb]) | ((refine ys fun r hr => ?_; (have hr1 := hr; try simp only [St.set_none_iff, St.mem_give, St.mem_take] at hr1); (first | have nbq := mem_ne mr hr1 | have nbq := mem_ne mr hr1.2 | have nbq := mem_ne mr hr1.2.2 | have nbq := mem_ne mr hr1.2.2.2 | have nbq := mem_ne mr hr1.2.2.2.2); have nb := And.intro nb nbq; (first | have nbq := mem_ne mp hr1 | have nbq := mem_ne mp hr1.2 | have nbq := mem_ne mp hr1.2.2 | have nbq := mem_ne mp hr1.2.2.2 | have nbq := mem_ne mp hr1.2.2.2.2); have nb := And.intro nb nbq; (first | have nbq := mem_ne mq4 hr1 | have nbq := mem_ne mq4 hr1.2 | have nbq := mem_ne mq4 hr1.2.2 | have nbq := mem_ne mq4 hr1.2.2.2 | have nbq := mem_ne mq4 hr1.2.2.2.2); have nb := And.intro nb nbq; have nb := And.intro nb hr1); try simp only [go_sem, ↓reduceIte, zA, zB, zC, zD, zE, zF, zG, zL, zM, zN, reduceCtorEq, f32, f4, mr, mp, hne1, nb]) | clear hN N | fail
    refine sem32 (s := 0) (q := q) (c1 := .sl .nil 0 []) (c2 := .sl .nil 0 []) (c3 := .sl .nil 0 []) n6 65536 (by decide) (by decide) hl (by simp only [go_sem, ↓reduceIte, zA, zB, zC, zD, zE, zF, zG, zL, zM, zN, reduceCtorEq, mp, hne1, nb]) (by simp only [go_sem, ↓reduceIte, zA, zB, zC, zD, zE, zF, zG, zL, zM, zN, reduceCtorEq, hne1, nb]) 36 [.ptr p 0] [] rfl rfl
      (fun i s => (i = 0 ∧ s.mem p = some (.cells [.ptr q 0, .sl .nil 0 [], .sl .nil 0 [], .sl .nil 0 []]) ∧ s.mem q = some (.cells (rdC bs (7 : Nat) 0 0)) ∧ s.mem r4 = some (.cells [.ptr p 0]) ∧ s.mem r = some (.cells [.sl .nil 0 []])) ∨
        (i = 1 ∧ ∃ c3, s.mem p = some (.cells [.ptr q 0, .sl .nil 0 [], .sl .nil 0 [], c3]) ∧ s.mem q = some (.cells (rdC bs (9 : Nat) 6 (8 : Nat))) ∧ s.mem r4 = some (.cells [.ptr p 0]) ∧ s.mem r = some (.cells [.sl .nil 0 []])))
      (.inl ⟨rfl, by simp only [go_sem, ↓reduceIte, zA, zB, zC, zD, zE, zF, zG, zL, zM, zN, reduceCtorEq, mp, hne1, nb], by simp only [go_sem, ↓reduceIte, zA, zB, zC, zD, zE, zF, zG, zL, zM, zN, reduceCtorEq, hne1, nb], by simp only [go_sem, ↓reduceIte, zA, zB, zC, zD, zE, zF, zG, zL, zM, zN, reduceCtorEq, mr, hne1, nb], by simp only [go_sem, ↓reduceIte, zA, zB, zC, zD, zE, zF, zG, zL, zM, zN, reduceCtorEq, hne1, nb]⟩) (fun i s hi hJ => ?_) (fun s hJ => ?_)
    · rcases hJ with ⟨rfl, j1, j2, j3, j4⟩ | ⟨h, _⟩
      · refine ⟨⟨(7 : Nat), 0, _, _, _, j1, j2⟩, ?_⟩
        refine sem36a (a := 7) (n := 0) (m := 1) [0, 0, 0] hl (by omega) (by subst hbs; rfl) n8 j1 j2 (fun st2 c3' k1 k2 k3 => ?_)
        exact .inr ⟨rfl, c3', k1, k2, k3 r4 hne1.2.1.1 hne1.2.2.1.1 _ j3, k3 r (by simp only [go_sem, ↓reduceIte, zA, zB, zC, zD, zE, zF, zG, zL, zM, zN, reduceCtorEq, nb, not_false_eq_true]) (by simp only [go_sem, ↓reduceIte, zA, zB, zC, zD, zE, zF, zG, zL, zM, zN, reduceCtorEq, nb, not_false_eq_true]) _ j4⟩
      · omega
    rcases hJ with ⟨h, _⟩ | ⟨_, c3, j1, j2, j3, j4⟩
    · omega
    clear mr mp mq mq4 mi f32
    have hlt0 : ((bs.length : Nat) : Int) - ((9 : Nat) : Int) = 2 := by omega
    have h02 : (0 : Int) < 2 := by omega
    have h60 : ((6 : Int) = 0) = False := by decide
    repeat' first | refine yj fun N hN => ?_ | refine yl [4, 5, 31] ?_ | ((first | refine ya rfl rfl fun N hN => ?_ | refine yc rfl rfl fun N hN => ?_ | refine ye rfl rfl fun N hN => ?_ | (refine yw hN _ _ ?_; clear hN N) | refine ym ?_ | refine yo ?_); simp only [go_sem, ↓reduceIte, zA, zB, zC, zD, zE, zF, zG, zL, zM, zN, reduceCtorEq, f4, j1, j2, j3, j4, hne1, nb, hlt0, h02, h60, Tryz.results11]) | ((first | refine yg rfl ?_ | refine yi ?_); try simp only [go_sem]) | ((first | refine yx hN _ _ ?_ | refine yz hN _ _ ?_ | refine yy hN _ ?_); clear hN N) | refine yt (id := 15) mixed [4, 5, 31] (.rd 0 (.rd 1 (.rd 2 (.rd 3 (.act 4 [3, 2, 1, 0] (.act 5 [3, 2, 1, 0] (.act 6 [3, 2, 1, 0] (.act 7 [3, 2, 1, 0] (.act 8 [3, 2, 1, 0] (.act 9 [] (.nil))))))))))) (by kernel_rfl) ?_ | (refine sem32b 256 (by decide) (by decide) j1 j2 _ ?_; try simp only [go_sem, ↓reduceIte, zA, zB, zC, zD, zE, zF, zG, zL, zM, zN, reduceCtorEq, f4, j1, j2, j3, j4, hne1, nb, hlt0, h02, h60]) | (refine sem39 (bs := bs) (a := (9 : Nat)) (b := 6) (s := (8 : Nat)) j2 (by omega) (by omega) hl ?_; try simp only [go_sem, ↓reduceIte, zA, zB, zC, zD, zE, zF, zG, zL, zM, zN, reduceCtorEq, f4, j1, j2, j3, j4, hne1, nb, hlt0, h02, h60]) | (refine sem42 (bs := bs) (a := (9 : Nat)) (b := 6) (s := (8 : Nat)) j2 ?_; try simp only [go_sem, ↓reduceIte, zA, zB, zC, zD, zE, zF, zG, zL, zM, zN, reduceCtorEq, f4, j1, j2, j3, j4, hne1, nb, hlt0, h02, h60]) | (refine sem41 (bs := bs) (a := (9 : Nat)) (b := 6) (s := (8 : Nat)) j2 ?_; try simp only [go_sem, ↓reduceIte, zA, zB, zC, zD, zE, zF, zG, zL, zM, zN, reduceCtorEq, f4, j1, j2, j3, j4, hne1, nb, hlt0, h02, h60]) | (refine sem40b (bs := bs) (a := (9 : Nat)) (b := 6) (s := (8 : Nat)) 3 _ (by decide) j2 ?_; try simp only [go_sem, ↓reduceIte, zA, zB, zC, zD, zE, zF, zG, zL, zM, zN, reduceCtorEq, f4, j1, j2, j3, j4, hne1, nb, hlt0, h02, h60]) | clear hN N | fail
    all_goals exact hk _
end Go.Proofs.YtddbidoaolnegaaGreatDoor
/- errors.As at a target that is a pointer to a pointer to a Fault, and a Fault for an error. No statement of the seat is proved here; no condition. -/
namespace Go.Proofs.YtddbidoaolnegaaGreatDoor
open Go.RowKit Go.Extern.Stop Go.Stop Go.Extern

/-- errors.As(nil, target). -/
theorem as_nil (t : Value) (w : World) :
    Calls Tryz.prog 15 #[.nilIface, t] w fun e w' => e = .returned (.bool false) ∧ w' = w := by
  go_enter Tryz.func15, Tryz.ntmps15
  go_wp2
  go_ret
  exact ⟨rfl, rfl⟩

/-! ### CLOSED FACTS ON THE MODEL's ENTRIES FOR internal/reflectlite, at this program's types: 48: *p.E · 50: **p.E · 39: error · 147: reflectlite's rtype · 1: how many package-level variables the dump has -/
theorem As.valueOf50 (t : Addr) (w : World) : (ReflectliteValue.unpack (.iface 50 (.pointer (some t)))).run Tryz.prog w
    = .ok (.agg #[.pointer (some ⟨1, 50, none⟩), .pointer (some ⟨w.heap.size, 0, none⟩), .int .u64 150]) (w.alloc (.cells #[.pointer (some t)] 50)) := by kernel_rfl
theorem As.type50 (a : Addr) (w : World) : (ReflectliteValue.methodAny (ReflectliteValue.valueError "reflectlite.Value.Type" 0) (fun t _ _ _ => ReflectliteType.toType t) #[.agg #[.pointer (some ⟨1, 50, none⟩), .pointer (some a), .int .u64 150]]).run Tryz.prog w
    = .ok (.iface 147 (.agg #[.pointer (some ⟨1, 50, none⟩)])) w := by kernel_rfl
theorem As.methodKind (h : Value) (w : World) : (Go.method 324 147 (.agg #[h]) "Kind").run Tryz.prog w = .ok (138, h) w := by kernel_rfl
theorem As.kind50 (w : World) : ((ReflectliteType.abiMethod fun t => (fun a : Nat => Value.int IntKind.u8 (a : Int)) <$> Rtype.kind t) #[.pointer (some ⟨1, 50, none⟩)]).run Tryz.prog w = .ok (.int .u8 22) w := by kernel_rfl
theorem As.kind48 (w : World) : ((ReflectliteType.abiMethod fun t => (fun a : Nat => Value.int IntKind.u8 (a : Int)) <$> Rtype.kind t) #[.pointer (some ⟨1, 48, none⟩)]).run Tryz.prog w = .ok (.int .u8 22) w := by kernel_rfl

/-! ### THE ENTRIES THAT READ OR WRITE MEMORY: laws with a premise on the cell (after Derived/Lib/ReflectliteSlice.lean's manner: each unfolding a lemma of its own, by rfl) -/
theorem rlm (z : _root_.Go.Sem Value) (f : TypeId → Addr → Nat → Nat → _root_.Go.Sem Value) (v : Value) :
    ReflectliteValue.method z f #[v] = (do match ← ReflectliteValue.parts v with | none => z | some (t, a, fl) => f t a fl (fl % 32)) := rfl
theorem As.parts50 (a : Addr) (w : World) : (ReflectliteValue.parts (.agg #[.pointer (some ⟨1, 50, none⟩), .pointer (some a), .int .u64 150])).run Tryz.prog w = .ok (some (50, a, 150)) w := by kernel_rfl
/-- (Value).IsNil at the Value of a **p.E that is not nil. -/
theorem As.isNil50 (a p : Addr) (W : World) (ha : W.cell? a = some (.pointer (some p))) :
    (ReflectliteValue.method (ReflectliteValue.valueError "reflectlite.Value.IsNil" 0) ReflectliteValue.isNil #[.agg #[.pointer (some ⟨1, 50, none⟩), .pointer (some a), .int .u64 150]]).run Tryz.prog W = .ok (.bool false) W := by
  rw [rlm]
  simp only [Sem.run_bind, As.parts50, Result.andThen]
  simp [ReflectliteValue.isNil, loadVar, isAgg, underlying, Tryz.underlying50, ha, Result.andThen]

theorem As.methodElem (h : Value) (w : World) : (Go.method 324 147 (.agg #[h]) "Elem").run Tryz.prog w = .ok (151, .agg #[h]) w := by kernel_rfl
theorem As.methodImplements (h : Value) (w : World) : (Go.method 324 147 (.agg #[h]) "Implements").run Tryz.prog w = .ok (152, .agg #[h]) w := by kernel_rfl
theorem As.methodAssignableTo (h : Value) (w : World) : (Go.method 324 147 (.agg #[h]) "AssignableTo").run Tryz.prog w = .ok (149, .agg #[h]) w := by kernel_rfl
theorem As.elem50 (w : World) : (ReflectliteType.method ReflectliteType.elem #[.agg #[.pointer (some ⟨1, 50, none⟩)]]).run Tryz.prog w = .ok (.iface 147 (.agg #[.pointer (some ⟨1, 48, none⟩)])) w := by kernel_rfl
theorem As.implements48 (w : World) : (ReflectliteType.relation "Implements" ReflectliteType.implements_ #[.agg #[.pointer (some ⟨1, 48, none⟩)], .iface 147 (.agg #[.pointer (some ⟨1, 39, none⟩)])]).run Tryz.prog w = .ok (.bool true) w := by kernel_rfl
theorem As.typeOf48 (v : Value) (w : World) : (ReflectliteType.typeOf #[.iface 48 v]).run Tryz.prog w = .ok (.iface 147 (.agg #[.pointer (some ⟨1, 48, none⟩)])) w := by kernel_rfl
theorem As.assignable48 (w : World) : (ReflectliteType.relation "AssignableTo" ReflectliteType.assignableTo #[.agg #[.pointer (some ⟨1, 48, none⟩)], .iface 147 (.agg #[.pointer (some ⟨1, 48, none⟩)])]).run Tryz.prog w = .ok (.bool true) w := by kernel_rfl
theorem As.valueOf48 (e : Addr) (w : World) : (ReflectliteValue.unpack (.iface 48 (.pointer (some e)))).run Tryz.prog w
    = .ok (.agg #[.pointer (some ⟨1, 48, none⟩), .pointer (some ⟨w.heap.size, 0, none⟩), .int .u64 150]) (w.alloc (.cells #[.pointer (some e)] 48)) := by kernel_rfl

theorem As.elemOf50 (w : World) : (Rtype.elem? 50).run Tryz.prog w = .ok (some 48) w := by kernel_rfl
theorem As.mk48 (p : Addr) (w : World) : (ReflectliteValue.mk 48 p ReflectliteValue.flagAddr).run Tryz.prog w = .ok (.agg #[.pointer (some ⟨1, 48, none⟩), .pointer (some p), .int .u64 406]) w := by kernel_rfl
/-- (Value).Elem at the Value of a **p.E that is not nil: the Value of the *p.E variable that it points to, addressable. -/
theorem As.elemV50 (a p : Addr) (W : World) (ha : W.cell? a = some (.pointer (some p))) :
    (ReflectliteValue.method (ReflectliteValue.valueError "reflectlite.Value.Elem" 0) ReflectliteValue.elem #[.agg #[.pointer (some ⟨1, 50, none⟩), .pointer (some a), .int .u64 150]]).run Tryz.prog W
      = .ok (.agg #[.pointer (some ⟨1, 48, none⟩), .pointer (some p), .int .u64 406]) W := by
  rw [rlm]
  simp only [Sem.run_bind, As.parts50, Result.andThen]
  simp [ReflectliteValue.elem, loadVar, isAgg, underlying, Tryz.underlying50, ha, Result.andThen, As.elemOf50, As.mk48]
theorem rls (v x : Value) : ReflectliteValue.set #[v, x] = (do
    let (some (dst, a, fl), some (src, b, _)) := (← ReflectliteValue.parts v, ← ReflectliteValue.parts x)
      | unsupported (.noEntry "extern/(internal/reflectlite.Value).Set.zeroValue")
    if fl / ReflectliteValue.flagAddr % 2 == 0 then unsupported (.noEntry "extern/(internal/reflectlite.Value).Set.unaddressable")
    let val ← loadVar src b
    if ← Rtype.directlyAssignable dst src then storeVar dst a val
    else if ← Rtype.implements dst src then
      if (← Rtype.kind src) == 20 then
        match val with
        | .nilIface => unsupported (.noEntry "extern/reflectlite: a nil value of one interface type handed on as a value of another")
        | _ => storeVar dst a val
      else storeVar dst a (.iface src val)
    else panicString ("reflectlite.Set: value of type " ++ (← Rtype.spelt src) ++ " is not assignable to type " ++ (← Rtype.spelt dst))
    pure (.tuple #[])) := rfl
theorem As.parts48a (a : Addr) (w : World) : (ReflectliteValue.parts (.agg #[.pointer (some ⟨1, 48, none⟩), .pointer (some a), .int .u64 406])).run Tryz.prog w = .ok (some (48, a, 406)) w := by kernel_rfl
theorem As.parts48 (a : Addr) (w : World) : (ReflectliteValue.parts (.agg #[.pointer (some ⟨1, 48, none⟩), .pointer (some a), .int .u64 150])).run Tryz.prog w = .ok (some (48, a, 150)) w := by kernel_rfl
theorem As.direct48 (w : World) : (Rtype.directlyAssignable 48 48).run Tryz.prog w = .ok true w := by kernel_rfl
theorem As.size48 (w : World) : (sizeOf 48).run Tryz.prog w = .ok 1 w := by kernel_rfl
/-- (Value).Set: the *p.E variable at 'ta' gets what the Value's own variable 'b' holds. -/
theorem As.set48 (ta b e : Addr) (old : Value) (W : World) (hb : W.cell? b = some (.pointer (some e))) (ht : W.cell? ta = some old) (hf : W.frozen? ta = false) :
    (ReflectliteValue.set #[.agg #[.pointer (some ⟨1, 48, none⟩), .pointer (some ta), .int .u64 406], .agg #[.pointer (some ⟨1, 48, none⟩), .pointer (some b), .int .u64 150]]).run Tryz.prog W
      = .ok (.tuple #[]) (W.setCell ta (.pointer (some e))) := by
  rw [rls]
  simp only [Sem.run_bind, As.parts48a, As.parts48, Result.andThen]
  simp [ReflectliteValue.flagAddr, loadVar, isAgg, underlying, Tryz.underlying48, hb, Result.andThen, As.direct48, storeVar, Value.cells, storeCells, Addr.add]
  rw [run_store Tryz.prog W ta _ _ (by rfl)]
  simp [ht, hf]

set_option maxHeartbeats 4000000 in
theorem as_hit (e t : Addr) (old : Value) (w : World) (hg : w.cell? ⟨0, 0, none⟩ = some (.iface 147 (.agg #[.pointer (some ⟨1, 39, none⟩)]))) (ht0 : w.cell? t = some old) (hf0 : w.frozen? t = false) :
    Calls Tryz.prog 15 #[.iface 48 (.pointer (some e)), .iface 50 (.pointer (some t))] w fun ev w' => ev = .returned (.bool true) ∧ w' = ((((w.alloc (.cells #[.pointer (some t)] 50)).alloc (.cells #[.pointer (some ⟨1, 50, none⟩), .pointer (some ⟨w.heap.size, 0, none⟩), .int .u64 150] 103)).alloc (.cells #[.pointer (some ⟨1, 50, none⟩), .pointer (some ⟨w.heap.size, 0, none⟩), .int .u64 150] 103)).alloc (.cells #[.pointer (some e)] 48)).setCell t (.pointer (some e)) := by
  have hh46 := @run_callFunc_extern Tryz.prog 46 _ (fun args => ReflectliteValue.unpack (args.getD 0 (.tuple #[]))) Tryz.func46 (by kernel_rfl) (by kernel_rfl) (by kernel_rfl) (by kernel_rfl)
  have hh47 := @run_callFunc_extern Tryz.prog 47 _ (ReflectliteValue.methodAny (ReflectliteValue.valueError "reflectlite.Value.Type" 0) (fun t _ _ _ => ReflectliteType.toType t)) Tryz.func47 (by kernel_rfl) (by kernel_rfl) (by kernel_rfl) (by kernel_rfl)
  have hh48 := @run_callFunc_extern Tryz.prog 48 _ (ReflectliteValue.method (ReflectliteValue.valueError "reflectlite.Value.IsNil" 0) ReflectliteValue.isNil) Tryz.func48 (by kernel_rfl) (by kernel_rfl) (by kernel_rfl) (by kernel_rfl)
  have hh138 := @run_callFunc_extern Tryz.prog 138 _ (ReflectliteType.abiMethod fun t => do pure (.int .u8 (← Rtype.kind t))) Tryz.func138 (by kernel_rfl) (by kernel_rfl) (by kernel_rfl) (by kernel_rfl)
  have hh151 := @run_callFunc_extern Tryz.prog 151 _ (ReflectliteType.method ReflectliteType.elem) Tryz.func151 (by kernel_rfl) (by kernel_rfl) (by kernel_rfl) (by kernel_rfl)
  have hh152 := @run_callFunc_extern Tryz.prog 152 _ (ReflectliteType.relation "Implements" ReflectliteType.implements_) Tryz.func152 (by kernel_rfl) (by kernel_rfl) (by kernel_rfl) (by kernel_rfl)
  have hh50 := @run_callFunc_extern Tryz.prog 50 _ ReflectliteType.typeOf Tryz.func50 (by kernel_rfl) (by kernel_rfl) (by kernel_rfl) (by kernel_rfl)
  have hh149 := @run_callFunc_extern Tryz.prog 149 _ (ReflectliteType.relation "AssignableTo" ReflectliteType.assignableTo) Tryz.func149 (by kernel_rfl) (by kernel_rfl) (by kernel_rfl) (by kernel_rfl)
  have hh85 := @run_callFunc_extern Tryz.prog 85 _ (ReflectliteValue.method (ReflectliteValue.valueError "reflectlite.Value.Elem" 0) ReflectliteValue.elem) Tryz.func85 (by kernel_rfl) (by kernel_rfl) (by kernel_rfl) (by kernel_rfl)
  have hh86 := @run_callFunc_extern Tryz.prog 86 _ ReflectliteValue.set Tryz.func86 (by kernel_rfl) (by kernel_rfl) (by kernel_rfl) (by kernel_rfl)
  have tO := As.typeOf48
  have mA := As.methodAssignableTo
  have a25 := As.assignable48
  have v25 := As.valueOf48
  have f6 := As.valueOf50
  have f7 := As.type50
  have mK := As.methodKind
  have mE := As.methodElem
  have mI := As.methodImplements
  have k27 := As.kind50
  have k25 := As.kind48
  have e27 := As.elem50
  have i25 := As.implements48
  have n8 := As.isNil50 ⟨w.heap.size, 0, none⟩ t ((w.alloc (.cells #[.pointer (some t)] 50)).alloc (.cells #[.pointer (some ⟨1, 50, none⟩), .pointer (some ⟨w.heap.size, 0, none⟩), .int .u64 150] 103)) (by simp)
  have hlt : 0 < w.heap.size := by
    rcases Nat.eq_zero_or_pos w.heap.size with h0 | h
    · simp [World.cell?, h0] at hg
    · exact h
  have hg2 : ((w.alloc (.cells #[.pointer (some t)] 50)).alloc (.cells #[.pointer (some ⟨1, 50, none⟩), .pointer (some ⟨w.heap.size, 0, none⟩), .int .u64 150] 103)).cell? ⟨0, 0, none⟩ = some (.iface 147 (.agg #[.pointer (some ⟨1, 39, none⟩)])) := by
    rw [World.cell?_alloc_lt _ _ ⟨0, 0, none⟩ (by simp), World.cell?_alloc_lt _ _ ⟨0, 0, none⟩ hlt]; exact hg
  have htl : t.block < w.heap.size := by
    rcases Nat.lt_or_ge t.block w.heap.size with h | h
    · exact h
    · simp [World.cell?, Array.getElem?_eq_none h] at ht0
  have el := As.elemV50 ⟨w.heap.size, 0, none⟩ t (((w.alloc (.cells #[.pointer (some t)] 50)).alloc (.cells #[.pointer (some ⟨1, 50, none⟩), .pointer (some ⟨w.heap.size, 0, none⟩), .int .u64 150] 103)).alloc (.cells #[.pointer (some ⟨1, 50, none⟩), .pointer (some ⟨w.heap.size, 0, none⟩), .int .u64 150] 103)) (by rw [World.cell?_alloc_lt _ _ ⟨w.heap.size, 0, none⟩ (by simp; omega)]; simp)
  have st := As.set48 t ⟨w.heap.size + 1 + 1 + 1, 0, none⟩ e old ((((w.alloc (.cells #[.pointer (some t)] 50)).alloc (.cells #[.pointer (some ⟨1, 50, none⟩), .pointer (some ⟨w.heap.size, 0, none⟩), .int .u64 150] 103)).alloc (.cells #[.pointer (some ⟨1, 50, none⟩), .pointer (some ⟨w.heap.size, 0, none⟩), .int .u64 150] 103)).alloc (.cells #[.pointer (some e)] 48))
    (by rw [World.cell?_alloc_at _ _ _ _ (by simp)]; rfl)
    (by rw [World.cell?_alloc_lt _ _ t (by simp; omega), World.cell?_alloc_lt _ _ t (by simp; omega), World.cell?_alloc_lt _ _ t (by simp; omega), World.cell?_alloc_lt _ _ t htl]; exact ht0)
    (by rw [World.frozen?_alloc_old _ _ t (by simp; omega), World.frozen?_alloc_old _ _ t (by simp; omega), World.frozen?_alloc_old _ _ t (by simp; omega), World.frozen?_alloc_old _ _ t (Nat.ne_of_lt htl)]; exact hf0)
  go_enter Tryz.func15, Tryz.ntmps15
  go_wp2
  refine wp_loop_rounds 1 ?_
  rw [rounds_succ]
  go_wp2
  go_ret
  exact ⟨rfl, rfl⟩
end Go.Proofs.YtddbidoaolnegaaGreatDoor
/- errors.Is at a Fault: its number, and another. No statement of the seat is proved here; no condition. -/
namespace Go.Proofs.YtddbidoaolnegaaGreatDoor
open Go.RowKit Go.Extern.Stop Go.Stop Go.Extern

theorem fault_unwrap (b o : Nat) (m : Int) (w : World) (h : w.cell? ⟨b, o + 1, none⟩ = some (.int .i64 m)) : Calls Tryz.prog 143 #[.pointer (some ⟨b, o, none⟩)] w fun e w' => e = .returned (.iface 26 (.int .i64 m)) ∧ w' = w := by
  go_enter Tryz.func143, Tryz.ntmps143
  go_wp2
  go_ret
  exact ⟨rfl, rfl⟩

theorem Is.typeOf26 (v : Value) (w : World) : (ReflectliteType.typeOf #[.iface 26 v]).run Tryz.prog w = .ok (.iface 147 (.agg #[.pointer (some ⟨1, 26, none⟩)])) w := by kernel_rfl
theorem Is.methodComparable (h : Value) (w : World) : (Go.method 324 147 (.agg #[h]) "Comparable").run Tryz.prog w = .ok (150, .agg #[h]) w := by kernel_rfl
theorem Is.methodUnwrap (h : Value) (w : World) : (Go.method 324 48 h "Unwrap").run Tryz.prog w = .ok (143, h) w := by kernel_rfl

theorem Is.eq1 (a : Option Addr) (n : Int) (w : World) : (binOp .eql 39 (.iface 48 (.pointer a)) (.iface 26 (.int .i64 n))).run Tryz.prog w = .ok (.bool false) w := by kernel_rfl
theorem Is.eq2 (m n : Int) (w : World) : (binOp .eql 39 (.iface 26 (.int .i64 m)) (.iface 26 (.int .i64 n))).run Tryz.prog w = .ok (.bool (m == n)) w := by kernel_rfl

theorem Is.ta48_159 (v : Value) (w : World) : (Instr.typeAssert (.iface 48 v) 39 159 true).run Tryz.prog w = .ok (.tuple #[.nilIface, .bool false]) w := run_typeAssert_lacksB Tryz.underlying159 (by kernel_rfl) (by kernel_rfl) v 39 w
theorem Is.ta48_154 (v : Value) (w : World) : (Instr.typeAssert (.iface 48 v) 39 154 true).run Tryz.prog w = .ok (.tuple #[.iface 48 v, .bool true]) w := by kernel_rfl
theorem Is.ta26_159 (v : Value) (w : World) : (Instr.typeAssert (.iface 26 v) 39 159 true).run Tryz.prog w = .ok (.tuple #[.nilIface, .bool false]) w := run_typeAssert_lacksB Tryz.underlying159 (by kernel_rfl) (by kernel_rfl) v 39 w
theorem Is.ta26_154 (v : Value) (w : World) : (Instr.typeAssert (.iface 26 v) 39 154 true).run Tryz.prog w = .ok (.tuple #[.nilIface, .bool false]) w := run_typeAssert_lacksB Tryz.underlying154 (by kernel_rfl) (by kernel_rfl) v 39 w
theorem Is.ta26_156 (v : Value) (w : World) : (Instr.typeAssert (.iface 26 v) 39 156 true).run Tryz.prog w = .ok (.tuple #[.nilIface, .bool false]) w := run_typeAssert_lacksB Tryz.underlying156 (by kernel_rfl) (by kernel_rfl) v 39 w

set_option maxRecDepth 100000 in
set_option maxHeartbeats 4000000 in
theorem is_one (b o : Nat) (m t : Int) (w : World) (h : w.cell? ⟨b, o + 1, none⟩ = some (.int .i64 m)) :
    Calls Tryz.prog 51 #[.iface 48 (.pointer (some ⟨b, o, none⟩)), .iface 26 (.int .i64 t), .bool true] w fun e w' => e = .returned (.bool (decide (m = t))) ∧ w' = w := by
  have mU := Is.methodUnwrap
  have e1 := Is.eq1
  have e2 := Is.eq2
  have t0 := Is.ta48_159
  have t1 := Is.ta48_154
  have t2 := Is.ta26_159
  have t3 := Is.ta26_154
  have t4 := Is.ta26_156
  go_enter Tryz.func51, Tryz.ntmps51
  go_wp2
  refine wp_loop_rounds 2 ?_
  rw [rounds_succ]
  go_wp2
  rw [rounds_succ]
  have hm : (m == t) = decide (m = t) := rfl
  by_cases c : m = t
  · have c1 : (m == t) = true := by rw [hm]; exact decide_eq_true c
    go_wp2
    go_ret
    exact ⟨by simp [c], rfl⟩
  · have c1 : (m == t) = false := by rw [hm]; exact decide_eq_false c
    go_wp2
    go_ret
    exact ⟨by simp [c], rfl⟩

theorem Is.comparable26 (w : World) : (ReflectliteType.method (fun t => do Rtype.noPackHeld "Comparable" t; (fun a => Value.bool a.comparable) <$> typeInfo t) #[.agg #[.pointer (some ⟨1, 26, none⟩)]]).run Tryz.prog w = .ok (.bool true) w := by kernel_rfl

set_option maxRecDepth 100000 in
set_option maxHeartbeats 4000000 in
theorem is_all (b o : Nat) (m t : Int) (w : World) (h : w.cell? ⟨b, o + 1, none⟩ = some (.int .i64 m)) :
    Calls Tryz.prog 16 #[.iface 48 (.pointer (some ⟨b, o, none⟩)), .iface 26 (.int .i64 t)] w fun e w' => e = .returned (.bool (decide (m = t))) ∧ w' = w := by
  have h50 := @run_callFunc_extern Tryz.prog 50 _ ReflectliteType.typeOf Tryz.func50 (by kernel_rfl) (by kernel_rfl) (by kernel_rfl) (by kernel_rfl)
  have h150 := @run_callFunc_extern Tryz.prog 150 _ (ReflectliteType.method (fun t => do Rtype.noPackHeld "Comparable" t; pure (.bool (← typeInfo t).comparable))) Tryz.func150 (by kernel_rfl) (by kernel_rfl) (by kernel_rfl) (by kernel_rfl)
  have tO := Is.typeOf26
  have mC := Is.methodComparable
  have cC := Is.comparable26
  go_enter Tryz.func16, Tryz.ntmps16
  go_wp2_with (go_at_call 51; refine (is_one b o m t _ h).mono ?_; rintro e w' ⟨rfl, rfl⟩)
  go_ret
  exact ⟨rfl, rfl⟩
end Go.Proofs.YtddbidoaolnegaaGreatDoor
/- errors.As and errors.Is at a Fault, abstractly; slices that are nil. No statement of the seat is proved here; no condition. -/
namespace Go.Proofs.YtddbidoaolnegaaGreatDoor
open Go Go.RowKit

theorem eptr_two {g : Gh} {p m : Int} {v : Value} (h : V1 g (.iface 48 (.eptr (.agg [.int .i64 p, .int .i64 m]) 0)) v) : ∃ b o, v = .iface 48 (.pointer (some ⟨b, o, none⟩)) ∧ R g (.eptr (.agg [.int .i64 p, .int .i64 m]) 0) [.pointer (some ⟨b, o, none⟩)] ∧ g.F b (o + 1) = some (.int .i64 m) := by
  have h1 : R g (.iface 48 (.eptr (.agg [.int .i64 p, .int .i64 m]) 0)) [v] := h.1
  simp only [R] at h1
  obtain ⟨u, hu, b, o, us, hu2, hat, hr⟩ := h1
  cases hu
  cases hu2
  refine ⟨b, o, rfl, ?_, ?_⟩
  · simp only [R]
    exact ⟨b, o, us, rfl, hat, hr⟩
  · simp only [Rs, R] at hr
    obtain ⟨_, _, rfl, _, _, _, _, rfl, h5, _, rfl⟩ := hr
    cases h5
    exact hat 1 _ rfl

theorem sem16 (p m t : Int) (st : St) (k : D → St → Prop) (hk : k (.bool (decide (m = t))) st) : Sem P 16 [.iface 48 (.eptr (.agg [.int .i64 p, .int .i64 m]) 0), .iface 26 (.int .i64 t)] st k := by
  refine ⟨Tryz.call16, fun g w vs hi hv => ?_⟩
  obtain ⟨v1, r, rfl, h1, v2, r2, rfl, h2, rfl⟩ := hv
  obtain ⟨b, o, rfl, _, hF⟩ := eptr_two h1
  obtain rfl : v2 = .iface 26 (.int .i64 t) := by
    have h3 : R g (.iface 26 (.int .i64 t)) [v2] := h2.1
    simp only [R] at h3
    obtain ⟨u, hu, hu2⟩ := h3
    cases hu; cases hu2; rfl
  refine (is_all b o m t w (hi.fz _ _ _ hF)).mono fun e w' ⟨he, hw⟩ => ?_
  subst he hw
  exact ⟨g, _, _, st, rfl, Gh.le.refl g, hi, VT.mkBool _, hk⟩

theorem sem15 (p m : Int) (r : Nat) (x : D) (st : St) (k : D → St → Prop) (hr : st.mem r = some (.cells [x])) (hk : k (.bool true) (st.set r (.cells [.eptr (.agg [.int .i64 p, .int .i64 m]) 0]))) :
    Sem P 15 [.iface 48 (.eptr (.agg [.int .i64 p, .int .i64 m]) 0), .iface 50 (.ptr r 0)] st k := by
  refine ⟨Tryz.call15, fun g w vs hi hv => ?_⟩
  obtain ⟨v1, q, rfl, h1, v2, q2, rfl, h2, rfl⟩ := hv
  obtain ⟨b, o, rfl, hR, hF⟩ := eptr_two h1
  obtain rfl : v2 = .iface 50 (.pointer (some ⟨r, 0, none⟩)) := by
    have h3 : R g (.iface 50 (.ptr r 0)) [v2] := h2.1
    simp only [R] at h3
    obtain ⟨u, hu, hu2⟩ := h3
    cases hu; cases hu2; rfl
  have hglob : w.cell? ⟨0, 0, none⟩ = some (.iface 147 (.agg #[.pointer (some ⟨1, 39, none⟩)])) := by
    have hb := hi.below.cell (p := ⟨0, 0, none⟩) (Nat.lt_of_lt_of_le g.glob.1 (Nat.le_refl _))
    rw [hb]; exact g.glob.2
  obtain ⟨_, _, arr, el, fz, hh, hfz, hcs⟩ := hi.mem r _ hr
  have hl := hcs.length
  simp only [Array.length_toList, List.length_cons, List.length_nil] at hl
  have ht : w.cell? ⟨r, 0, none⟩ = some (arr[0]'(by omega)) := by
    have : 0 < arr.size := by omega
    simp [World.cell?, hh, this]
  have hf : w.frozen? ⟨r, 0, none⟩ = false := by
    have := hfz.off 0 (by omega)
    simp only [World.frozen?, hh]
    simpa using this
  refine (as_hit ⟨b, o, none⟩ ⟨r, 0, none⟩ _ w hglob ht hf).mono fun e w' ⟨he, hw⟩ => ?_
  subst he
  have hb4 : Below w.heap.size w ((((w.alloc (.cells #[.pointer (some ⟨r, 0, none⟩)] 50)).alloc (.cells #[.pointer (some ⟨1, 50, none⟩), .pointer (some ⟨w.heap.size, 0, none⟩), .int .u64 150] 103)).alloc (.cells #[.pointer (some ⟨1, 50, none⟩), .pointer (some ⟨w.heap.size, 0, none⟩), .int .u64 150] 103)).alloc (.cells #[.pointer (some ⟨b, o, none⟩)] 48)) :=
    ((((Below.refl _ w).alloc (Nat.le_refl _) _).alloc (by simp) _).alloc (by simp; omega) _).alloc (by simp; omega) _
  have hi4 := hi.ext hb4
  have hst := hi4.store (o := 0) (xs := [.eptr (.agg [.int .i64 p, .int .i64 m]) 0]) (us := [.pointer (some ⟨b, o, none⟩)]) hr (by simp only [Rs]; exact ⟨_, _, rfl, hR, rfl, rfl⟩) (by simp)
  refine ⟨g, _, _, _, rfl, Gh.le.refl g, ?_, VT.mkBool _, hk⟩
  rw [hw]
  exact hst

/-- A slice that is nil has elements of whatever size. -/
theorem V1.nil {g : Gh} {a b : Nat} {v : Value} (h : V1 g (.sl .nil a []) v) : V1 g (.sl .nil b []) v := by
  refine ⟨?_, h.2⟩
  have h1 := h.1
  simp only [R] at h1 ⊢
  rcases h1 with h1 | ⟨_, _, _, _, _, h1, _⟩
  · exact .inl h1
  · exact h1.elim
theorem Sem.nilArg {P : Program} {f : FuncId} {a b : Nat} {st : St} {k : D → St → Prop} (h : Sem P f [.sl .nil b []] st k) : Sem P f [.sl .nil a []] st k :=
  ⟨h.1, fun g w vs hi hv => h.2 g w vs hi (by obtain ⟨v, r, rfl, h1, rfl⟩ := hv; exact ⟨v, [], rfl, h1.nil, rfl⟩)⟩
theorem Sem.nilT {P : Program} {f : FuncId} {args : List D} {st : St} {k : D → St → Prop} (h : Sem P f args st fun d st' => (∃ x, d = .tup [.sl .nil 0 [], x] ∧ k (.tup [.sl .nil 1 [], x]) st') ∨ k d st') : Sem P f args st k :=
  ⟨h.1, fun g w vs hi hv => (h.2 g w vs hi hv).mono fun e w' ⟨g', v, d, st', h1, h2, h3, h4, h5⟩ => by
    rcases h5 with ⟨x, rfl, hk⟩ | hk
    · refine ⟨g', v, _, st', h1, h2, h3, ?_, hk⟩
      obtain ⟨arr, ha, u, r, hu, hn, hr⟩ := h4
      exact ⟨arr, ha, u, r, hu, hn.nil, hr⟩
    · exact ⟨g', v, d, st', h1, h2, h3, h4, hk⟩⟩
theorem V1.frz {g : Gh} {ow : Own} {z : Nat} {es : List D} {v : Value} (h : V1 g (.sl ow z es) v) : V1 g (.sl .frozen z es) v := VT.frozen (v := v) h
/-- Bytes, handed on as such to which nobody appends. -/
theorem Sem.frzT {P : Program} {f : FuncId} {args : List D} {st : St} {k : D → St → Prop}
    (h : Sem P f args st fun d st' => ∃ ow z es x, d = .tup [.sl ow z es, x] ∧ (ow = .nil ∧ es = [] ∨ z = 1) ∧ k (.tup [.sl .frozen 1 es, x]) st') : Sem P f args st k :=
  ⟨h.1, fun g w vs hi hv => (h.2 g w vs hi hv).mono fun e w' ⟨g', v, d, st', h1, h2, h3, h4, ow, z, es, x, h5, h6, hk⟩ => by
    subst h5
    refine ⟨g', v, _, st', h1, h2, h3, ?_, hk⟩
    obtain ⟨arr, ha, u, r, hu, hn, hr⟩ := h4
    refine ⟨arr, ha, u, r, hu, ?_, hr⟩
    rcases h6 with ⟨rfl, rfl⟩ | rfl
    · exact (hn.nil (b := 1)).frz
    · exact hn.frz⟩
end Go.Proofs.YtddbidoaolnegaaGreatDoor
