/-
PART OF A CLAIM: RM, RN. No statement of the seat is proved here; no condition. -/
import Derived.Test.YtddbidoaolnegaaGreatDoorWO8
import Derived.Test.YtddbidoaolnegaaGreatDoorWO24
import Derived.Test.YtddbidoaolnegaaGreatDoorWO25
set_option linter.all false
/- What is known may be forgotten in part: slices as such to which nobody appends; a level of a term, read. No statement of the seat is proved here; no condition. -/
namespace Go.Proofs.YtddbidoaolnegaaGreatDoor
open Go Go.RowKit

/-- Whatever is the one is the other one, too. -/
def Coe (d e : D) : Prop := ∀ g vs, R g d vs → R g e vs
def Coes : List D → List D → Prop
  | [], [] => True
  | d :: ds, e :: es => Coe d e ∧ Coes ds es
  | _, _ => False
theorem Coe.refl (d : D) : Coe d d := fun _ _ h => h
theorem Coes.refl : ∀ ds : List D, Coes ds ds
  | [] => trivial
  | d :: ds => ⟨Coe.refl d, Coes.refl ds⟩
theorem Coes.rs {g : Gh} : ∀ {ds es : List D} {vs : List Value}, Coes ds es → Rs g ds vs → Rs g es vs
  | [], [], _, _, h => h
  | d :: ds, e :: es, vs, c, h => by
    simp only [Rs] at h ⊢
    obtain ⟨v, r, h1, h2, h3, h4⟩ := h
    exact ⟨v, r, h1, c.1 g _ h2, h3, c.2.rs h4⟩
theorem Coes.re {g : Gh} {sz : Nat} : ∀ {ds es : List D} {b p : Nat}, Coes ds es → Re g sz ds b p → Re g sz es b p
  | [], [], _, _, _, h => h
  | d :: ds, e :: es, b, p, c, h => by
    simp only [Re] at h ⊢
    obtain ⟨⟨us, h1, h2, h3⟩, h4⟩ := h
    exact ⟨⟨us, h1, h2, c.1 g _ h3⟩, c.2.re h4⟩
theorem Coes.len : ∀ {ds es : List D}, Coes ds es → ds.length = es.length
  | [], [], _ => rfl
  | _ :: ds, _ :: es, c => by simp [c.2.len]
theorem Coes.app : ∀ {a b c d : List D}, Coes a b → Coes c d → Coes (a ++ c) (b ++ d)
  | [], [], _, _, _, h => h
  | _ :: _, _ :: _, _, _, h1, h2 => ⟨h1.1, h1.2.app h2⟩
theorem Coe.agg {ds es : List D} (c : Coes ds es) : Coe (.agg ds) (.agg es) := fun g vs h => by
  simp only [R] at h ⊢
  exact c.rs h
theorem Coe.sl {ow : Own} {z : Nat} {ds es : List D} (c : Coes ds es) : Coe (.sl ow z ds) (.sl ow z es) := fun g vs h => by
  simp only [R] at h ⊢
  rcases h with ⟨h1, h2, h3⟩ | ⟨b, p, cap, h1, h2, h3, h4⟩
  · subst h2
    cases es with
    | nil => exact .inl ⟨h1, rfl, h3⟩
    | cons _ _ => exact c.elim
  · rw [c.len] at h1 h2 h3
    exact .inr ⟨b, p, cap, h1, h2, h3, c.re h4⟩
theorem Coe.frz (ow : Own) (z : Nat) (es : List D) : Coe (.sl ow z es) (.sl .frozen z es) := fun g vs h => by
  simp only [R] at h ⊢
  rcases h with ⟨_, h2, oa, _, h3⟩ | ⟨b, p, cap, h1, h2, _, h4⟩
  · exact .inl ⟨trivial, h2, oa, trivial, h3⟩
  · exact .inr ⟨b, p, cap, h1, h2, trivial, h4⟩
theorem Coe.nil (z z' : Nat) : Coe (.sl .nil z []) (.sl .frozen z' []) := fun g vs h => by
  simp only [R] at h ⊢
  rcases h with ⟨_, h2, oa, _, h3⟩ | ⟨b, p, cap, h1, h2, h3, _⟩
  · exact .inl ⟨trivial, h2, oa, trivial, h3⟩
  · exact h3.elim
theorem Coe.tab {o : Option Nat} {z : Nat} {es : List D} (h : o = none → es = []) : Coe (tabD o z es) (.sl .frozen z es) := by
  cases o with
  | none => rw [h rfl]; exact Coe.nil 0 z
  | some j => exact Coe.frz _ z es

def CoeT (d e : D) : Prop := ∀ g v, VT g d v → VT g e v
theorem CoeT.refl (d : D) : CoeT d d := fun _ _ h => h
theorem CoeT.agg {ds es : List D} (c : Coes ds es) : CoeT (.agg ds) (.agg es) := fun g v ⟨arr, h1, h2⟩ => ⟨arr, h1, c.rs h2⟩
theorem CoeT.slT {ow : Own} {z : Nat} {es : List D} {ow' : Own} {z' : Nat} {es' : List D} {x : D} (c : Coe (.sl ow z es) (.sl ow' z' es')) : CoeT (.tup [.sl ow z es, x]) (.tup [.sl ow' z' es', x]) := fun g v ⟨arr, h1, v1, r, h2, h3, h4⟩ =>
  ⟨arr, h1, v1, r, h2, ⟨c g _ h3.1, h3.2⟩, h4⟩

/-- A state of which less is known. -/
structure Wk (a b : St) : Prop where
  mem : ∀ r ob, b.mem r = some ob → a.mem r = some ob ∨ ∃ cs cs', a.mem r = some (.cells cs) ∧ ob = .cells cs' ∧ Coes cs cs'
  tok : ∀ i, b.tok i = true → a.tok i = true
theorem Wk.set {a : St} {r : Nat} {cs cs' : List D} (h : a.mem r = some (.cells cs)) (c : Coes cs cs') : Wk a (a.set r (.cells cs')) :=
  ⟨fun x ob hx => by
    rw [St.mem_set] at hx
    split at hx
    · subst x; cases hx; exact .inr ⟨cs, cs', h, rfl, c⟩
    · exact .inl hx, fun _ h => h⟩
theorem Inv.wk {g : Gh} {a b : St} {w : World} (h : Inv g a w) (k : Wk a b) : Inv g b w where
  below := h.below
  base := h.base
  fz := h.fz
  mem r ob hr := by
    rcases k.mem r ob hr with h1 | ⟨cs, cs', h1, rfl, c⟩
    · exact h.mem r ob h1
    · obtain ⟨x1, x2, arr, el, fz, x3, x4, x5⟩ := h.mem r _ h1
      exact ⟨x1, x2, arr, el, fz, x3, x4, c.rs x5⟩
  tok i hi := by
    obtain ⟨t, h1, h2⟩ := h.tok i (k.tok i hi)
    refine ⟨t, h1, h2.new, ?_, h2.room, h2.lies, h2.free⟩
    cases hm : b.mem t.b with
    | none => rfl
    | some o =>
      rcases k.mem _ _ hm with x | ⟨_, _, x, _⟩ <;> rw [h2.clear] at x <;> cases x
  apart i j s t hi hj := h.apart i j s t (k.tok i hi) (k.tok j hj)
  fin := h.fin
theorem Sem.wk {P : Program} {f : FuncId} {args : List D} {st : St} {k : D → St → Prop} (h : Sem P f args st fun d st' => ∃ e st'', CoeT d e ∧ Wk st' st'' ∧ k e st'') : Sem P f args st k :=
  ⟨h.1, fun g w vs hi hv => (h.2 g w vs hi hv).mono fun _ _ ⟨g', v, d, st', h1, h2, h3, h4, e, st'', hc, hw, hk⟩ => ⟨g', v, e, st'', h1, h2, h3.wk hw, hc _ _ h4, hk⟩⟩

open Nat renaming reduceLT → zA, reduceEqDiff → zB, reduceBEq → zC, reduceAdd → zD, reduceMul → zE, reduceSub → zF, reduceLeDiff → zG, mul_one → zH, zero_add → zI, add_zero → zJ
open Int renaming toNat_natCast → zK, reduceAdd → zL, reduceLE → zM, reduceLT → zN, natCast_nonneg → zO
open Go.Proofs.YtddbidoaolnegaaGreatDoor renaming evI_plain → ya, evI_guard → yb, evT_rd → yc, evT_rdg → yd, evT_act → ye, evT_actg → yf, evI_done → yg, evT_two → yh, evT_nil → yi, W.seqG → yj, W.block → yk, W.regionI → yl, W.cond → ym, W.skip → yn, W.ret → yo, W.exit → yp, gdD_split → yq, newT_intro → yr, newB_intro → ys, W.draw → yt, St.set_del → yu, St.give_take → yv, AGo.go → yw, IGo.go → yx, TGo.go → yy, Goes.go → yz
attribute [local go_sem] zK zP zQ zH zI zJ zO
attribute [local irreducible] W evI evT evL evOp evBin gdD Sem newT newB fillD bldOf
set_option maxRecDepth 10000
set_option maxHeartbeats 1000000

section
variable {bs : List UInt8} {a n m : Nat} {b s : Int} {p q : Nat} {c1 c2 c3 : D} {st : St} {k : D → St → Prop}

theorem sem76 {l : Lv} (hn : NumAt bs a n m) (hl : bs.length < 1000000000) {r1 r3 r4 : Nat} (h4 : st.mem r4 = some (.cells [.ptr r3 0])) (h1 : st.mem r1 = some (.cells [.ptr p 0])) {x0 x1 x2 x4 x5 x6 : D} {o : Option Nat} {ls : List D} (h3 : st.mem r3 = some (.cells [x0, x1, x2, tabD o 5 ls, x4, x5, x6])) (ho : Tab o ls st) (hls : ls.length < 1000000) {ow2 : Own} {es : List D}
    (hp : st.mem p = some (.cells [.ptr q 0, c1, .sl ow2 5 es, c3])) (hq : st.mem q = some (.cells (rdC bs a 0 s))) (hes : es.length < 1000000000) (hlt : n < es.length) (hg : es.getD n .any = l.d)
    (hk : ∀ j st', st'.mem r3 = some (.cells [x0, x1, x2, tabD (some j) 5 (ls ++ [l.d]), x4, x5, x6]) → st'.mem q = some (.cells (rdC bs (a + m : Nat) 0 s)) → Stp (fun x => x = r3 ∨ x = q) o j st st' → k (.tup []) st') : Sem P 76 [.ptr r4 0, .ptr r1 0] st k := by
  obtain ⟨c, p0, p1, p2, p3, rfl⟩ := lv_cases l
  have hpq := rd_ne hp hq
  have n3q : r3 ≠ q ∧ q ≠ r3 := by
    have : r3 ≠ q := fun e => by rw [e, hq] at h3; simp [rdC] at h3
    exact ⟨this, this.symm⟩
  have n3p : r3 ≠ p ∧ p ≠ r3 := by
    have : r3 ≠ p := fun e => by rw [e, hp] at h3; simp at h3
    exact ⟨this, this.symm⟩
  have n4q : r4 ≠ q ∧ q ≠ r4 := by
    have : r4 ≠ q := fun e => by rw [e, hq] at h4; simp [rdC] at h4
    exact ⟨this, this.symm⟩
  have n1q : r1 ≠ q ∧ q ≠ r1 := by
    have : r1 ≠ q := fun e => by rw [e, hq] at h1; simp [rdC] at h1
    exact ⟨this, this.symm⟩
  cases o with
  | none =>
    obtain rfl := ho.n rfl
    simp only [tabD] at h3
    refine Sem.of_body Tryz.call76 Tryz.func76 rfl Tryz.ntmps76 (by simp) ?_
    repeat' first | ((first | refine yc rfl rfl fun N hN => ?_ | refine ye rfl rfl fun N hN => ?_ | (refine yw hN _ _ ?_; clear hN N)); simp only [go_sem, ↓reduceIte, zA, zB, zC, zD, zE, zF, zG, zL, zM, zN, reduceCtorEq, h4, h1, h3, hp, hpq, n3q, n3p, n4q, n1q, Tryz.results76]) | (refine yi ?_; try simp only [go_sem]) | (refine yy hN _ ?_; clear hN N) | refine yt (id := 0) mixed [] (.rd 0 (.rd 1 (.rd 2 (.rd 3 (.rd 4 (.rd 5 (.act 6 [5, 4, 3, 2, 1, 0] (.act 7 [5, 4, 3, 2, 1, 0] (.act 8 [5, 4, 3, 2, 1, 0] (.act 9 [5, 4, 3, 2, 1, 0] (.act 10 [4, 3, 2, 1, 0] (.act 11 [4, 3, 2, 1, 0] (.act 12 [0] (.act 13 [] (.act 14 [] (.act 15 [] (.nil))))))))))))))))) (by kernel_rfl) ?_ | (refine sem77 hn hl hp hq ow2 hes hlt hg ?_; try simp only [go_sem, ↓reduceIte, zA, zB, zC, zD, zE, zF, zG, zL, zM, zN, reduceCtorEq, h4, h1, h3, hp, hpq, n3q, n3p, n4q, n1q]) | ((refine yr fun j hj => ?_; (try have hj0 := St.tok_of_give hj)); try simp only [go_sem, ↓reduceIte, zA, zB, zC, zD, zE, zF, zG, zL, zM, zN, reduceCtorEq, h4, h1, h3, hp, hpq, n3q, n3p, n4q, n1q]) | fail
    refine hk j _ (by simp only [go_sem, ↓reduceIte, zA, zB, zC, zD, zE, zF, zG, zL, zM, zN, reduceCtorEq, tabD]; rfl) (by simp only [go_sem, ↓reduceIte, zA, zB, zC, zD, zE, zF, zG, zL, zM, zN, reduceCtorEq, n3q]) (.mk0 (fun x hx ob ho => ?_) (fun i => rfl) hj)
    simp only [not_or] at hx
    simp only [go_sem, ↓reduceIte, zA, zB, zC, zD, zE, zF, zG, zL, zM, zN, reduceCtorEq, hx]; exact ho
  | some j0 =>
    have htok := ho.t j0 rfl
    simp only [tabD] at h3
    refine Sem.of_body Tryz.call76 Tryz.func76 rfl Tryz.ntmps76 (by simp) ?_
    repeat' first | ((first | refine yc rfl rfl fun N hN => ?_ | refine ye rfl rfl fun N hN => ?_ | (refine yw hN _ _ ?_; clear hN N)); simp only [go_sem, ↓reduceIte, zA, zB, zC, zD, zE, zF, zG, zL, zM, zN, reduceCtorEq, h4, h1, h3, hp, hpq, n3q, n3p, n4q, n1q, htok, Tryz.results76]) | (refine yi ?_; try simp only [go_sem]) | (refine yy hN _ ?_; clear hN N) | refine yt (id := 0) mixed [] (.rd 0 (.rd 1 (.rd 2 (.rd 3 (.rd 4 (.rd 5 (.act 6 [5, 4, 3, 2, 1, 0] (.act 7 [5, 4, 3, 2, 1, 0] (.act 8 [5, 4, 3, 2, 1, 0] (.act 9 [5, 4, 3, 2, 1, 0] (.act 10 [4, 3, 2, 1, 0] (.act 11 [4, 3, 2, 1, 0] (.act 12 [0] (.act 13 [] (.act 14 [] (.act 15 [] (.nil))))))))))))))))) (by kernel_rfl) ?_ | (refine sem77 hn hl hp hq ow2 hes hlt hg ?_; try simp only [go_sem, ↓reduceIte, zA, zB, zC, zD, zE, zF, zG, zL, zM, zN, reduceCtorEq, h4, h1, h3, hp, hpq, n3q, n3p, n4q, n1q, htok]) | ((refine yr fun j hj => ?_; (try have hj0 := St.tok_of_give hj)); try simp only [go_sem, ↓reduceIte, zA, zB, zC, zD, zE, zF, zG, zL, zM, zN, reduceCtorEq, h4, h1, h3, hp, hpq, n3q, n3p, n4q, n1q, htok]) | (refine And.intro ?_ ?_; · omega) | fail
    refine hk j _ (by simp only [go_sem, ↓reduceIte, zA, zB, zC, zD, zE, zF, zG, zL, zM, zN, reduceCtorEq, tabD]; rfl) (by simp only [go_sem, ↓reduceIte, zA, zB, zC, zD, zE, zF, zG, zL, zM, zN, reduceCtorEq, n3q]) (.mk1 (fun x hx ob ho => ?_) (fun i => rfl) hj)
    simp only [not_or] at hx
    simp only [go_sem, ↓reduceIte, zA, zB, zC, zD, zE, zF, zG, zL, zM, zN, reduceCtorEq, hx]; exact ho
end
end Go.Proofs.YtddbidoaolnegaaGreatDoor
/- A term of the file's, read: plain laws, and what the walk knows. No statement of the seat is proved here; no condition. -/
namespace Go.Proofs.YtddbidoaolnegaaGreatDoor
open Go Go.RowKit
open Nat renaming reduceLT → zA, reduceEqDiff → zB, reduceBEq → zC, reduceAdd → zD, reduceMul → zE, reduceSub → zF, reduceLeDiff → zG, mul_one → zH, zero_add → zI, add_zero → zJ
open Int renaming toNat_natCast → zK, reduceAdd → zL, reduceLE → zM, reduceLT → zN, natCast_nonneg → zO
open Go.Proofs.YtddbidoaolnegaaGreatDoor renaming evI_plain → ya, evI_guard → yb, evT_rd → yc, evT_rdg → yd, evT_act → ye, evT_actg → yf, evI_done → yg, evT_two → yh, evT_nil → yi, W.seqG → yj, W.block → yk, W.regionI → yl, W.cond → ym, W.skip → yn, W.ret → yo, W.exit → yp, gdD_split → yq, newT_intro → yr, newB_intro → ys, W.draw → yt, St.set_del → yu, St.give_take → yv, AGo.go → yw, IGo.go → yx, TGo.go → yy, Goes.go → yz
attribute [local go_sem] zK zP zQ zH zI zJ zO
attribute [local irreducible] W evI evT evL evOp evBin gdD Sem newT newB fillD bldOf
set_option maxRecDepth 10000
set_option maxHeartbeats 1000000

theorem W.gen {n : Nat} {c : Code} {Q : Exit → Fr → St → Prop} {fr : Fr} {st : St} (I : Fr → St → Prop) (h1 : I fr st) (h2 : ∀ fr st, I fr st → W P n c Q fr st) : W P n c Q fr st := h2 fr st h1

theorem Coes.n : Coes [] [] := trivial
theorem Coes.c {d e : D} {ds es : List D} (h : Coe d e) (k : Coes ds es) : Coes (d :: ds) (e :: es) := And.intro h k
theorem Coes.s {d : D} {ds es : List D} (k : Coes ds es) : Coes (d :: ds) (d :: es) := And.intro (Coe.refl d) k
/-- A term as the reader keeps it. -/
def szD (t : Tm) : D := .agg [.int .u8 t.k, .int .i64 t.n, .str t.s, .sl .frozen 5 (t.ls.map Lv.d), .sl .frozen 5 (t.ts.map Tm.d), .int .i64 t.size, .int .i64 t.deep]
structure M36 (bs : List UInt8) (st : St) (p q : Nat) (c1 c2 c3 : D) (s : Int) (r1 r3 r4 A : Nat) (kd : Nat) (nn : Int) (ss : List UInt8) (oL oT : Option Nat) (ls : List Lv) (ts : List Tm) (sz dp : Nat) (st' : St) : Prop where
  m1 : st'.mem r1 = some (.cells [.ptr p 0])
  m4 : st'.mem r4 = some (.cells [.ptr r3 0])
  m3 : st'.mem r3 = some (.cells [.int .u8 kd, .int .i64 nn, .str ss, tabD oL 5 (ls.map Lv.d), tabD oT 5 (ts.map Tm.d), .int .i64 sz, .int .i64 dp])
  mp : st'.mem p = some (.cells [.ptr q 0, c1, c2, c3])
  mq : st'.mem q = some (.cells (rdC bs A 0 s))
  fr : ∀ x, x ≠ p → x ≠ q → ∀ o, st.mem x = some o → x ≠ r1 ∧ x ≠ r3 ∧ x ≠ r4 ∧ st'.mem x = some o
  tk : ∀ i, st.tok i = true → st'.tok i = true ∧ oL ≠ some i ∧ oT ≠ some i
  tl : Tab oL (ls.map Lv.d) st'
  tt : Tab oT (ts.map Tm.d) st'
  ne : ∀ i, oL = some i → oT ≠ some i

theorem Tab.mkN (st : St) : Tab none [] st := ⟨fun _ => rfl, fun _ h => by cases h⟩
theorem Tab.mkS {j : Nat} {es : List D} {st : St} (h : st.tok j = true) : Tab (some j) es st := ⟨fun e => (by cases e), fun i hi => (by cases hi; exact h)⟩
theorem Tab.mono {o : Option Nat} {es : List D} {st st' : St} (h : Tab o es st) (ht : ∀ i, o = some i → st'.tok i = true) : Tab o es st' := ⟨h.n, ht⟩
theorem Tab.cons {o : Option Nat} {es : List D} {st : St} {z : Nat} (h : Tab o es st) (hne : es ≠ []) : ∃ ow, tabD o z es = .sl ow z es := by
  cases o with
  | none => exact absurd (h.n rfl) hne
  | some j => exact ⟨_, rfl⟩

section
variable {bs : List UInt8} {st st' : St} {p q : Nat} {c1 c2 c3 : D} {s : Int} {r1 r3 r4 A : Nat} {kd : Nat} {nn : Int} {ss : List UInt8} {oL oT : Option Nat} {ls : List Lv} {ts : List Tm} {sz dp : Nat}

theorem M36.pne (h : M36 bs st p q c1 c2 c3 s r1 r3 r4 A kd nn ss oL oT ls ts sz dp st') :
    (p ≠ q ∧ p ≠ r1 ∧ p ≠ r3 ∧ p ≠ r4 ∧ q ≠ r1 ∧ q ≠ r3 ∧ q ≠ r4 ∧ r1 ≠ r3 ∧ r1 ≠ r4 ∧ r3 ≠ r4) ∧ (q ≠ p ∧ r1 ≠ p ∧ r3 ≠ p ∧ r4 ≠ p ∧ r1 ≠ q ∧ r3 ≠ q ∧ r4 ≠ q ∧ r3 ≠ r1 ∧ r4 ≠ r1 ∧ r4 ≠ r3) := by
  have h1 := h.m1
  have h3 := h.m3
  have h4 := h.m4
  have hp := h.mp
  have hq := h.mq
  have a1 : p ≠ q := (rd_ne hp hq).1
  have a2 : p ≠ r1 := fun e => by rw [e, h1] at hp; simp at hp
  have a3 : p ≠ r3 := fun e => by rw [e, h3] at hp; simp at hp
  have a4 : p ≠ r4 := fun e => by rw [e, h4] at hp; simp at hp
  have a5 : q ≠ r1 := fun e => by rw [e, h1] at hq; simp [rdC] at hq
  have a6 : q ≠ r3 := fun e => by rw [e, h3] at hq; simp [rdC] at hq
  have a7 : q ≠ r4 := fun e => by rw [e, h4] at hq; simp [rdC] at hq
  have a8 : r1 ≠ r3 := fun e => by rw [e, h3] at h1; simp at h1
  have a9 : r1 ≠ r4 := fun e => by rw [e, h4] at h1; simp at h1; exact a3 h1.symm
  have a0 : r3 ≠ r4 := fun e => by rw [e, h4] at h3; simp at h3
  exact ⟨⟨a1, a2, a3, a4, a5, a6, a7, a8, a9, a0⟩, a1.symm, a2.symm, a3.symm, a4.symm, a5.symm, a6.symm, a7.symm, a8.symm, a9.symm, a0.symm⟩

/-- One level more. -/
theorem M36.lev (h : M36 bs st p q c1 c2 c3 s r1 r3 r4 A kd nn ss oL oT ls ts sz dp st') {A' j : Nat} {l : Lv} {st2 : St}
    (h3 : st2.mem r3 = some (.cells [.int .u8 kd, .int .i64 nn, .str ss, tabD (some j) 5 (ls.map Lv.d ++ [l.d]), tabD oT 5 (ts.map Tm.d), .int .i64 sz, .int .i64 dp])) (hq : st2.mem q = some (.cells (rdC bs A' 0 s))) (hs : Stp (fun x => x = r3 ∨ x = q) oL j st' st2) :
    M36 bs st p q c1 c2 c3 s r1 r3 r4 A' kd nn ss (some j) oT (ls ++ [l]) ts sz dp st2 := by
  obtain ⟨⟨a1, a2, a3, a4, a5, a6, a7, a8, a9, a0⟩, _⟩ := h.pne
  refine ⟨hs.mem _ (by simp [a8, Ne.symm a5]) _ h.m1, hs.mem _ (by simp [Ne.symm a0, Ne.symm a7]) _ h.m4, by rw [List.map_append]; exact h3, hs.mem _ (by simp [a1, a3]) _ h.mp, hq, fun x x1 x2 o ho => ?_, fun i hi => ?_, .mkS hs.tj, h.tt.mono fun i hi => ?_, fun i hi => ?_⟩
  · obtain ⟨y1, y2, y3, y4⟩ := h.fr x x1 x2 o ho
    exact ⟨y1, y2, y3, hs.mem x (by simp [y2, x2]) o y4⟩
  · obtain ⟨y1, y2, y3⟩ := h.tk i hi
    have := hs.tok i y2 y1
    exact ⟨this.1, fun e => this.2 (Option.some.inj e).symm, y3⟩
  · exact (hs.tok i (fun e => h.ne i e hi) (h.tt.t i hi)).1
  · cases hi
    intro e
    exact (hs.tok j (fun e2 => h.ne j e2 e) (h.tt.t j e)).2 rfl

/-- The number, the name; the reader stands elsewhere. -/
theorem M36.put (h : M36 bs st p q c1 c2 c3 s r1 r3 r4 A kd nn ss oL oT ls ts sz dp st') {A' sz' dp' : Nat} {nn' : Int} {ss' : List UInt8} {st2 : St}
    (h3 : st2.mem r3 = some (.cells [.int .u8 kd, .int .i64 nn', .str ss', tabD oL 5 (ls.map Lv.d), tabD oT 5 (ts.map Tm.d), .int .i64 sz', .int .i64 dp'])) (hq : st2.mem q = some (.cells (rdC bs A' 0 s))) (hm : ∀ x, x ≠ r3 → x ≠ q → st2.mem x = st'.mem x) (ht : st2.tok = st'.tok) :
    M36 bs st p q c1 c2 c3 s r1 r3 r4 A' kd nn' ss' oL oT ls ts sz' dp' st2 := by
  obtain ⟨⟨a1, a2, a3, a4, a5, a6, a7, a8, a9, a0⟩, _⟩ := h.pne
  refine ⟨by rw [hm _ a8 a5.symm]; exact h.m1, by rw [hm _ a0.symm a7.symm]; exact h.m4, h3, by rw [hm _ a3 a1]; exact h.mp, hq, fun x x1 x2 o ho => ?_, fun i hi => by rw [ht]; exact h.tk i hi, h.tl.mono fun i hi => by rw [ht]; exact h.tl.t i hi, h.tt.mono fun i hi => by rw [ht]; exact h.tt.t i hi, h.ne⟩
  obtain ⟨y1, y2, y3, y4⟩ := h.fr x x1 x2 o ho
  exact ⟨y1, y2, y3, by rw [hm x y2 x2]; exact y4⟩

/-- One term more. -/
theorem M36.kid (h : M36 bs st p q c1 c2 c3 s r1 r3 r4 A kd nn ss oL oT ls ts sz dp st') {A' j sz' dp' : Nat} {x : Tm} {e : D} (he : e = x.d) {st2 : St}
    (h3 : st2.mem r3 = some (.cells [.int .u8 kd, .int .i64 nn, .str ss, tabD oL 5 (ls.map Lv.d), .sl (.tok j) 5 (ts.map Tm.d ++ [e]), .int .i64 sz', .int .i64 dp'])) (hq : st2.mem q = some (.cells (rdC bs A' 0 s))) (hm : ∀ x, x ≠ r3 → x ≠ q → ∀ o, st'.mem x = some o → st2.mem x = some o)
    (hj : st2.tok j = true) (ht : ∀ i, oT ≠ some i → st'.tok i = true → st2.tok i = true ∧ i ≠ j) :
    M36 bs st p q c1 c2 c3 s r1 r3 r4 A' kd nn ss oL (some j) ls (ts ++ [x]) sz' dp' st2 := by
  obtain ⟨⟨a1, a2, a3, a4, a5, a6, a7, a8, a9, a0⟩, _⟩ := h.pne
  refine ⟨hm _ a8 a5.symm _ h.m1, hm _ a0.symm a7.symm _ h.m4, by rw [List.map_append, List.map_cons, List.map_nil, ← he]; exact h3, hm _ a3 a1 _ h.mp, hq, fun x x1 x2 o ho => ?_, fun i hi => ?_, h.tl.mono fun i hi => (ht i (fun e => h.ne i hi e) (h.tl.t i hi)).1, .mkS hj, fun i hi e => ?_⟩
  · obtain ⟨y1, y2, y3, y4⟩ := h.fr x x1 x2 o ho
    exact ⟨y1, y2, y3, hm x y2 x2 _ y4⟩
  · obtain ⟨y1, y2, y3⟩ := h.tk i hi
    have := ht i y3 y1
    exact ⟨this.1, y2, fun e => this.2 (Option.some.inj e).symm⟩
  · cases e
    exact (ht j (fun e => h.ne j hi e) (h.tl.t j hi)).2 rfl

theorem sizes_app : ∀ (a b : List Tm), Tm.sizes (a ++ b) = Tm.sizes a + Tm.sizes b
  | [], b => by simp [Tm.sizes]
  | x :: a, b => by rw [List.cons_append, Tm.sizes, Tm.sizes, sizes_app a b]; omega
theorem deeps_app : ∀ (a b : List Tm), Tm.deeps (a ++ b) = max (Tm.deeps a) (Tm.deeps b)
  | [], b => by simp [Tm.deeps]
  | x :: a, b => by rw [List.cons_append, Tm.deeps, Tm.deeps, deeps_app a b]; omega
theorem take_getD {α : Type} (l : List α) (z : α) {i : Nat} (h : i < l.length) : l.take (i + 1) = l.take i ++ [l.getD i z] := by
  rw [List.take_add_one]
  simp [List.getD_eq_getElem?_getD, List.getElem?_eq_getElem h]
end

theorem getD_appr {α : Type} (l m : List α) (i : Nat) (z : α) : (l ++ m).getD (l.length + i) z = m.getD i z := by
  simp [List.getD_eq_getElem?_getD, List.getElem?_append_right]
theorem getD_appl {α : Type} (l m : List α) {i : Nat} (z : α) (h : i < l.length) : (l ++ m).getD i z = l.getD i z := by
  simp [List.getD_eq_getElem?_getD, List.getElem?_append_left h]
/-- The numbers behind a term's kind. -/
def fldN (t : Tm) (iN : Nat) : List Nat := if t.k = 2 then [t.n.toNat] else if t.k = 3 then [iN, t.ls.length] else if t.k = 8 then [iN, t.n.toNat] else []
structure EntN (N : List (List UInt8)) (L : List Lv) (T : List Tm) (t : Tm) (iN : Nat) (iLs iTs : List Nat) : Prop where
  name : t.k = 3 ∨ t.k = 8 → iN < N.length ∧ N.getD iN [] = t.s
  ll : iLs.length = t.ls.length
  l : ∀ i, i < t.ls.length → iLs.getD i 0 < L.length ∧ L.getD (iLs.getD i 0) Lv.z = t.ls.getD i Lv.z
  tl : iTs.length = t.ts.length
  t : ∀ i, i < t.ts.length → iTs.getD i 0 < T.length ∧ T.getD (iTs.getD i 0) Tm.z = t.ts.getD i Tm.z

structure NodeF (t : Tm) : Prop where
  k1 : 1 ≤ t.k
  k8 : t.k ≤ 8
  kids : [D.int .i64 0, .int .i64 0, .int .i64 0, .int .i64 0, .int .i64 2, .int .i64 2, .int .i64 2, .int .i64 3, .int .i64 1].getD t.k .any = .int .i64 t.ts.length
  kidn : t.ts.length ≤ 3
  s0 : t.k ≠ 3 → t.k ≠ 8 → t.s = []
  n2 : t.k = 2 → 0 ≤ t.n ∧ t.n ≤ 1048576
  n8 : t.k = 8 → 0 ≤ t.n ∧ t.n < 12
  n0 : t.k ≠ 2 → t.k ≠ 8 → t.n = 0
  l1 : t.k = 1 → t.ls.length = 1
  l3 : t.k = 3 → t.ls.length ≤ 4
  l0 : t.k ≠ 1 → t.k ≠ 3 → t.ls = []
theorem nodeF {t : Tm} (h : nodeB t = true) : NodeF t := by
  simp only [nodeB, Bool.and_eq_true, decide_eq_true_eq] at h
  obtain ⟨⟨⟨⟨⟨h1, h2⟩, h3⟩, h4⟩, h5⟩, h6⟩ := h
  have hk : t.k = 1 ∨ t.k = 2 ∨ t.k = 3 ∨ t.k = 4 ∨ t.k = 5 ∨ t.k = 6 ∨ t.k = 7 ∨ t.k = 8 := by
    unfold kidsN at h1
    repeat' (split at h1)
    all_goals omega
  rcases hk with e | e | e | e | e | e | e | e <;> simp only [e, kidsN] at h2 h4 h5 h6 <;> (try simp at h2 h4 h5 h6) <;> constructor <;> (try simp [e, h2, h4, h5, h6]) <;> (try omega)
end Go.Proofs.YtddbidoaolnegaaGreatDoor
