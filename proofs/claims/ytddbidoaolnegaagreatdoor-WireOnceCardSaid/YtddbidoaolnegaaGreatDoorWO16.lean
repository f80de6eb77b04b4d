/-
PART OF A CLAIM: PG, PH. No statement of the seat is proved here; no condition. -/
import Derived.Test.YtddbidoaolnegaaGreatDoorWO8
import Derived.Test.YtddbidoaolnegaaGreatDoorWO15
set_option linter.all false
/- What a writer has written: plain laws; the writer's view of memory. No statement of the seat is proved here; no condition. -/
namespace Go.Proofs.YtddbidoaolnegaaGreatDoor
open Go Go.RowKit
open Nat renaming reduceLT → zA, reduceEqDiff → zB, reduceBEq → zC, reduceAdd → zD, reduceMul → zE, reduceSub → zF, reduceLeDiff → zG, mul_one → zH, zero_add → zI, add_zero → zJ
open Int renaming toNat_natCast → zK, reduceAdd → zL, reduceLE → zM, reduceLT → zN, natCast_nonneg → zO
open Go.Proofs.YtddbidoaolnegaaGreatDoor renaming evI_plain → ya, evI_guard → yb, evT_rd → yc, evT_rdg → yd, evT_act → ye, evT_actg → yf, evI_done → yg, evT_two → yh, evT_nil → yi, W.seqG → yj, W.block → yk, W.regionI → yl, W.cond → ym, W.skip → yn, W.ret → yo, W.exit → yp, gdD_split → yq, newT_intro → yr, newB_intro → ys, W.draw → yt, St.set_del → yu, St.give_take → yv, AGo.go → yw, IGo.go → yx, TGo.go → yy, Goes.go → yz
attribute [local go_sem] zK zP zQ zH zI zJ zO
attribute [local irreducible] W evI evT evL evOp evBin gdD Sem newT newB fillD bldOf
set_option maxRecDepth 10000
set_option maxHeartbeats 4000000

structure En where
  names : List (List UInt8)
  levels : List Lv
  terms : List Tm
  tb : List UInt8
  db : List UInt8
def En.z : En := ⟨[], [], [], [], []⟩
noncomputable def En.name (e : En) (s : List UInt8) : En := { e with names := addU e.names s }
noncomputable def En.level (e : En) (l : Lv) : En := { e with levels := addU e.levels l }
noncomputable def En.lvs (e : En) (ls : List Lv) : En := { e with levels := ls.foldl addU e.levels }
noncomputable def En.nodeN (e : En) (t : Tm) : En := if t.k = 3 ∨ t.k = 8 then e.name t.s else e
/-- The tables behind a node. -/
noncomputable def En.node (e : En) (t : Tm) : En := (e.nodeN t).lvs t.ls
/-- A node's bytes. -/
noncomputable def nodeBy (e : En) (t : Tm) : List UInt8 :=
  UInt8.ofNat t.k :: ((if t.k = 2 then num t.n.toNat else if t.k = 3 then num (pos e.names t.s) ++ num t.ls.length else if t.k = 8 then num (pos e.names t.s) ++ num t.n.toNat else []) ++
    t.ls.flatMap (fun l => num (pos e.levels l)) ++ t.ts.flatMap (fun x => num (pos e.terms x)))
open Classical in
mutual
noncomputable def termE : Tm → En → En
  | .mk k n s ls ts, e => if Tm.mk k n s ls ts ∈ e.terms then e else
      { (kidsE ts e).node (.mk k n s ls ts) with terms := (kidsE ts e).terms ++ [.mk k n s ls ts], tb := (kidsE ts e).tb ++ nodeBy ((kidsE ts e).node (.mk k n s ls ts)) (.mk k n s ls ts) }
noncomputable def kidsE : List Tm → En → En
  | [], e => e
  | t :: ts, e => kidsE ts (termE t e)
end
noncomputable def En.putT (e : En) (t : Tm) : En := { e.node t with terms := e.terms ++ [t], tb := e.tb ++ nodeBy (e.node t) t }
theorem termE_old {t : Tm} {e : En} (h : t ∈ e.terms) : termE t e = e := by cases t; rw [termE, if_pos h]
theorem termE_new {t : Tm} {e : En} (h : t ∉ e.terms) : termE t e = (kidsE t.ts e).putT t := by cases t; rw [termE, if_neg h]; rfl

def nmB (l : List (List UInt8)) : List UInt8 := l.flatMap fun s => num s.length ++ s
def lvBs (l : List Lv) : List UInt8 := l.flatMap lvNum
theorem nmB_add {l : List (List UInt8)} {s : List UInt8} (h : s ∉ l) : nmB (addU l s) = nmB l ++ num s.length ++ s := by
  rw [addU_new h, nmB, nmB, List.flatMap_append]; simp
theorem lvBs_add {l : List Lv} {s : Lv} (h : s ∉ l) : lvBs (addU l s) = lvBs l ++ lvNum s := by
  rw [addU_new h, lvBs, lvBs, List.flatMap_append]; simp

/-! The tables as the program has them. -/
def sV (s : List UInt8) : Value := .string ⟨s.toArray⟩
def lV (l : Lv) : Value := .agg (iv l.c :: l.p.map iv).toArray
noncomputable def nent (l : List (List UInt8)) : List (Value × D) := l.map fun s => (sV s, .int .i64 (pos l s))
noncomputable def lent (l : List Lv) : List (Value × D) := l.map fun x => (lV x, .int .i64 (pos l x))
noncomputable def tent (A : List Tm) (l : List Tm) : List (Value × D) := l.map fun x => (iv (pos A x), .int .i64 (pos l x))
theorem sV_inj {a b : List UInt8} (h : sV a = sV b) : a = b := congrArg Array.toList (ByteArray.mk.inj (Value.string.inj h))
theorem lV_inj {a b : Lv} (h : lV a = lV b) : a = b := by
  have e := congrArg Array.toList (Value.agg.inj h)
  have e1 := List.cons.inj e
  have e2 := iv_inj e1.1
  have e3 := map_iv_inj e1.2
  cases a; cases b
  simp only at e2 e3
  subst e2 e3
  rfl

theorem ent_add {α : Type} (f : α → Value) (l : List α) {x : α} (h : x ∉ l) :
    (addU l x).map (fun s => (f s, D.int .i64 (pos (addU l x) s))) = l.map (fun s => (f s, D.int .i64 (pos l s))) ++ [(f x, .int .i64 l.length)] := by
  have h1 : pos (addU l x) x = l.length := by rw [pos_addU, pos_not h]
  rw [addU_new h] at h1 ⊢
  rw [List.map_append, List.map_cons, List.map_nil, h1]
  congr 1
  exact List.map_congr_left fun y hy => by rw [pos_app [x] hy]

structure WC where
  rn : Option Nat
  rl : Option Nat
  rt : Option Nat
  nw : Own
  nz : Nat
  lw : Own
  lz : Nat
  tj : Option Nat
  dj : Option Nat
  o : Option Nat
def mapD (o : Option Nat) : D := match o with | none => .nilmap | some r => .map r
def bD (o : Option Nat) (b : List UInt8) : D := match o with | none => .sl .nil 0 [] | some j => .sl (.tok j) 1 (byD b)
def wCells (c : WC) (e : En) (ra : Nat) : List D :=
  [mapD c.rn, .sl c.nw c.nz (byD (nmB e.names)), mapD c.rl, .sl c.lw c.lz (byD (lvBs e.levels)), mapD c.rt, bD c.tj e.tb, .ptr ra 0, bD c.dj e.db, .bool false]
def WC.own (c : WC) (j : Nat) : Prop := c.tj = some j ∨ c.dj = some j ∨ c.o = some j
structure WS (rw ra rm : Nat) (e : En) (A : List Tm) (c : WC) (st : St) : Prop where
  w : st.mem rw = some (.cells (wCells c e ra))
  ar : AS ra rm A c.o st
  n0 : c.rn = none → e.names = []
  n1 : ∀ r, c.rn = some r → st.mem r = some (.map 9 (nent e.names))
  l0 : c.rl = none → e.levels = []
  l1 : ∀ r, c.rl = some r → st.mem r = some (.map 78 (lent e.levels))
  t0 : c.rt = none → e.terms = []
  t1 : ∀ r, c.rt = some r → st.mem r = some (.map 3 (tent A e.terms))
  b0 : c.tj = none → e.tb = []
  b1 : ∀ j, c.tj = some j → st.tok j = true
  d0 : c.dj = none → e.db = []
  d1 : ∀ j, c.dj = some j → st.tok j = true
  td : ∀ j, c.tj = some j → c.dj ≠ some j ∧ c.o ≠ some j
  od : ∀ j, c.dj = some j → c.o ≠ some j
structure KeepW (c : WC) (st : St) (c' : WC) (st' : St) : Prop where
  tok : ∀ j, ¬ c.own j → st.tok j = true → st'.tok j = true ∧ ¬ c'.own j
theorem KeepW.refl (c : WC) (st : St) : KeepW c st c st := ⟨fun _ h1 h2 => ⟨h2, h1⟩⟩
theorem KeepW.trans {c c' c'' : WC} {a b d : St} (h : KeepW c a c' b) (h' : KeepW c' b c'' d) : KeepW c a c'' d :=
  ⟨fun j h1 h2 => h'.tok j (h.tok j h1 h2).2 (h.tok j h1 h2).1⟩

theorem AS.tok1 {ra rm : Nat} {A : List Tm} {j : Nat} {st : St} (h : AS ra rm A (some j) st) : st.tok j = true := h.tok
theorem WS.tokA {rw ra rm : Nat} {e : En} {A : List Tm} {c : WC} {st : St} (h : WS rw ra rm e A c st) {j : Nat} (ho : c.o = some j) : st.tok j = true := by
  have := h.ar; rw [ho] at this; exact this.tok1
theorem WS.ownT {rw ra rm : Nat} {e : En} {A : List Tm} {c : WC} {st : St} (h : WS rw ra rm e A c st) {j : Nat} (ho : c.own j) : st.tok j = true := by
  rcases ho with x | x | x
  · exact h.b1 j x
  · exact h.d1 j x
  · exact h.tokA x

/-- The blocks that a writer has, told apart by what they hold. -/
theorem WS.ra_ne {rw ra rm : Nat} {e : En} {A : List Tm} {c : WC} {st : St} (h : WS rw ra rm e A c st) : rw ≠ ra ∧ rw ≠ rm ∧ ra ≠ rm := by
  refine ⟨fun x => ?_, fun x => ?_, fun x => ?_⟩
  · have a := h.w; rw [x, h.ar.ra] at a; simp [wCells] at a
  · have a := h.w; rw [x, h.ar.rm] at a; simp at a
  · have a := h.ar.ra; rw [x, h.ar.rm] at a; simp at a

/-- What else stays: a state in which a writer's parts are as they were, but for what is named. -/
structure Same (st s : St) (B : Nat → Prop) (T : Nat → Prop) : Prop where
  mem : ∀ r x, ¬ B r → st.mem r = some x → s.mem r = some x
  tok : ∀ j, ¬ T j → st.tok j = true → s.tok j = true

theorem AS.same {ra rm : Nat} {A : List Tm} {o : Option Nat} {st s : St} (h : AS ra rm A o st) (h1 : s.mem ra = st.mem ra) (h2 : s.mem rm = st.mem rm) (h3 : ∀ j, o = some j → s.tok j = true) : AS ra rm A o s :=
  ⟨by rw [h1]; exact h.ra, by rw [h2]; exact h.rm, by cases o with
    | none => have := h.tok; exact this
    | some j => exact h3 j rfl⟩

/-- The names have one more; or the writer's cells for the names are others. -/
theorem WS.upName {rw ra rm : Nat} {e : En} {A : List Tm} {c : WC} {st s : St} (h : WS rw ra rm e A c st) {rn : Nat} {nw : Own} {nz : Nat} {l : List (List UInt8)}
    (hm : s.mem rn = some (.map 9 (nent l))) (hw : s.mem rw = some (.cells (wCells { c with rn := some rn, nw := nw, nz := nz } { e with names := l } ra)))
    (hf : ∀ x, st.mem rn = some x → ∃ es, x = .map 9 es) (hs : ∀ r x, r ≠ rw → r ≠ rn → st.mem r = some x → s.mem r = some x) (ht : ∀ j, st.tok j = true → s.tok j = true) :
    WS rw ra rm { e with names := l } A { c with rn := some rn, nw := nw, nz := nz } s ∧ KeepW c st { c with rn := some rn, nw := nw, nz := nz } s := by
  obtain ⟨e1, e2, e3⟩ := h.ra_ne
  have no : ∀ {r K es}, st.mem r = some (.map K es) → K ≠ 9 → r ≠ rn := fun {r K es} hr hK x => by
    rw [x] at hr; obtain ⟨es', he⟩ := hf _ hr; injection he with a b; exact hK a
  have nc : ∀ {r cs}, st.mem r = some (.cells cs) → r ≠ rn := fun {r cs} hr x => by
    rw [x] at hr; obtain ⟨es', he⟩ := hf _ hr; cases he
  have nw' : ∀ {r K es}, st.mem r = some (.map K es) → r ≠ rw := fun {r K es} hr x => by rw [x, h.w] at hr; cases hr
  refine ⟨⟨hw, h.ar.same ?_ ?_ (fun j hj => ht j (h.tokA hj)), fun x => (by cases x), fun r x => (by cases x; exact hm), h.l0, fun r x => ?_, h.t0, fun r x => ?_, h.b0, fun j x => ht j (h.b1 j x), h.d0, fun j x => ht j (h.d1 j x), h.td, h.od⟩, ⟨fun j x y => ⟨ht j y, x⟩⟩⟩
  · rw [hs ra _ e1.symm (nc h.ar.ra) h.ar.ra, h.ar.ra]
  · rw [hs rm _ e2.symm (no h.ar.rm (by decide)) h.ar.rm, h.ar.rm]
  · exact hs r _ (nw' (h.l1 r x)) (no (h.l1 r x) (by decide)) (h.l1 r x)
  · exact hs r _ (nw' (h.t1 r x)) (no (h.t1 r x) (by decide)) (h.t1 r x)

theorem WS.upLevel {rw ra rm : Nat} {e : En} {A : List Tm} {c : WC} {st s : St} (h : WS rw ra rm e A c st) {rl : Nat} {lw : Own} {lz : Nat} {l : List Lv}
    (hm : s.mem rl = some (.map 78 (lent l))) (hw : s.mem rw = some (.cells (wCells { c with rl := some rl, lw := lw, lz := lz } { e with levels := l } ra)))
    (hf : ∀ x, st.mem rl = some x → ∃ es, x = .map 78 es) (hs : ∀ r x, r ≠ rw → r ≠ rl → st.mem r = some x → s.mem r = some x) (ht : ∀ j, st.tok j = true → s.tok j = true) :
    WS rw ra rm { e with levels := l } A { c with rl := some rl, lw := lw, lz := lz } s ∧ KeepW c st { c with rl := some rl, lw := lw, lz := lz } s := by
  obtain ⟨e1, e2, e3⟩ := h.ra_ne
  have no : ∀ {r K es}, st.mem r = some (.map K es) → K ≠ 78 → r ≠ rl := fun {r K es} hr hK x => by
    rw [x] at hr; obtain ⟨es', he⟩ := hf _ hr; injection he with a b; exact hK a
  have nc : ∀ {r cs}, st.mem r = some (.cells cs) → r ≠ rl := fun {r cs} hr x => by
    rw [x] at hr; obtain ⟨es', he⟩ := hf _ hr; cases he
  have nw' : ∀ {r K es}, st.mem r = some (.map K es) → r ≠ rw := fun {r K es} hr x => by rw [x, h.w] at hr; cases hr
  refine ⟨⟨hw, h.ar.same ?_ ?_ (fun j hj => ht j (h.tokA hj)), h.n0, fun r x => ?_, fun x => (by cases x), fun r x => (by cases x; exact hm), h.t0, fun r x => ?_, h.b0, fun j x => ht j (h.b1 j x), h.d0, fun j x => ht j (h.d1 j x), h.td, h.od⟩, ⟨fun j x y => ⟨ht j y, x⟩⟩⟩
  · rw [hs ra _ e1.symm (nc h.ar.ra) h.ar.ra, h.ar.ra]
  · rw [hs rm _ e2.symm (no h.ar.rm (by decide)) h.ar.rm, h.ar.rm]
  · exact hs r _ (nw' (h.n1 r x)) (no (h.n1 r x) (by decide)) (h.n1 r x)
  · exact hs r _ (nw' (h.t1 r x)) (no (h.t1 r x) (by decide)) (h.t1 r x)

/-- The terms have one more: their bytes go on by another token. -/
theorem WS.upTerm {rw ra rm : Nat} {e : En} {A : List Tm} {c : WC} {st s : St} (h : WS rw ra rm e A c st) {rt j : Nat} {l : List Tm} {tb : List UInt8}
    (hm : s.mem rt = some (.map 3 (tent A l))) (hw : s.mem rw = some (.cells (wCells { c with rt := some rt, tj := some j } { e with terms := l, tb := tb } ra)))
    (hf : ∀ x, st.mem rt = some x → ∃ es, x = .map 3 es) (hs : ∀ r x, r ≠ rw → r ≠ rt → st.mem r = some x → s.mem r = some x) (hj : st.tok j = false) (hj2 : s.tok j = true) (ht : ∀ i, c.tj ≠ some i → st.tok i = true → s.tok i = true) :
    WS rw ra rm { e with terms := l, tb := tb } A { c with rt := some rt, tj := some j } s ∧ KeepW c st { c with rt := some rt, tj := some j } s := by
  obtain ⟨e1, e2, e3⟩ := h.ra_ne
  have no : ∀ {r K es}, st.mem r = some (.map K es) → K ≠ 3 → r ≠ rt := fun {r K es} hr hK x => by
    rw [x] at hr; obtain ⟨es', he⟩ := hf _ hr; injection he with a b; exact hK a
  have nc : ∀ {r cs}, st.mem r = some (.cells cs) → r ≠ rt := fun {r cs} hr x => by
    rw [x] at hr; obtain ⟨es', he⟩ := hf _ hr; cases he
  have nw' : ∀ {r K es}, st.mem r = some (.map K es) → r ≠ rw := fun {r K es} hr x => by rw [x, h.w] at hr; cases hr
  have nj : ∀ {i}, st.tok i = true → i ≠ j := fun {i} hi x => by rw [x, hj] at hi; cases hi
  have to : ∀ i, c.o = some i → c.tj ≠ some i := fun i a b => (h.td i b).2 a
  have td : ∀ i, c.dj = some i → c.tj ≠ some i := fun i a b => (h.td i b).1 a
  refine ⟨⟨hw, h.ar.same ?_ ?_ (fun i hi => ht i (to i hi) (h.tokA hi)), h.n0, fun r x => ?_, h.l0, fun r x => ?_, fun x => (by cases x), fun r x => (by cases x; exact hm), fun x => (by cases x), fun i x => (by cases x; exact hj2), h.d0, fun i x => ht i (td i x) (h.d1 i x), ?_, h.od⟩,
    ⟨fun i x y => ⟨ht i (fun z => x (.inl z)) y, ?_⟩⟩⟩
  · rw [hs ra _ e1.symm (nc h.ar.ra) h.ar.ra, h.ar.ra]
  · rw [hs rm _ e2.symm (no h.ar.rm (by decide)) h.ar.rm, h.ar.rm]
  · exact hs r _ (nw' (h.n1 r x)) (no (h.n1 r x) (by decide)) (h.n1 r x)
  · exact hs r _ (nw' (h.l1 r x)) (no (h.l1 r x) (by decide)) (h.l1 r x)
  · intro i x
    cases x
    exact ⟨fun y => nj (h.d1 j y) rfl, fun y => nj (h.tokA y) rfl⟩
  · rintro (z | z | z)
    · cases z; exact nj y rfl
    · exact x (.inr (.inl z))
    · exact x (.inr (.inr z))

/-- The declarations' bytes are others. -/
theorem WS.upDecl {rw ra rm : Nat} {e : En} {A : List Tm} {c : WC} {st s : St} (h : WS rw ra rm e A c st) {j : Nat} {db : List UInt8}
    (hw : s.mem rw = some (.cells (wCells { c with dj := some j } { e with db := db } ra)))
    (hs : ∀ r x, r ≠ rw → st.mem r = some x → s.mem r = some x) (hj : st.tok j = false) (hj2 : s.tok j = true) (ht : ∀ i, c.dj ≠ some i → st.tok i = true → s.tok i = true) :
    WS rw ra rm { e with db := db } A { c with dj := some j } s ∧ KeepW c st { c with dj := some j } s := by
  obtain ⟨e1, e2, e3⟩ := h.ra_ne
  have nw' : ∀ {r K es}, st.mem r = some (.map K es) → r ≠ rw := fun {r K es} hr x => by rw [x, h.w] at hr; cases hr
  have nj : ∀ {i}, st.tok i = true → i ≠ j := fun {i} hi x => by rw [x, hj] at hi; cases hi
  refine ⟨⟨hw, h.ar.same ?_ ?_ (fun i hi => ht i (fun z => h.od i z hi) (h.tokA hi)), h.n0, fun r x => ?_, h.l0, fun r x => ?_, h.t0, fun r x => ?_, h.b0, fun i x => ht i (h.td i x).1 (h.b1 i x), fun x => (by cases x), fun i x => (by cases x; exact hj2), fun i x => ⟨fun y => ?_, (h.td i x).2⟩, fun i x y => ?_⟩,
    ⟨fun i x y => ⟨ht i (fun z => x (.inr (.inl z))) y, ?_⟩⟩⟩
  · rw [hs ra _ e1.symm h.ar.ra, h.ar.ra]
  · rw [hs rm _ e2.symm h.ar.rm, h.ar.rm]
  · exact hs r _ (nw' (h.n1 r x)) (h.n1 r x)
  · exact hs r _ (nw' (h.l1 r x)) (h.l1 r x)
  · exact hs r _ (nw' (h.t1 r x)) (h.t1 r x)
  · exact nj (h.b1 i x) (Option.some.inj y).symm
  · exact nj (h.tokA y) (Option.some.inj x).symm
  · rintro (z | z | z)
    · exact x (.inl z)
    · cases z; exact nj y rfl
    · exact x (.inr (.inr z))

/-- The arena has more. -/
theorem WS.upArena {rw ra rm : Nat} {e : En} {A A' : List Tm} {c : WC} {st s : St} (h : WS rw ra rm e A c st) {o' : Option Nat} (hA : AS ra rm A' o' s) (hK : KeepA ra rm c.o st o' s) (hsub : ∃ m, A' = A ++ m) (hk : ∀ t ∈ e.terms, t ∈ A) :
    WS rw ra rm e A' { c with o := o' } s ∧ KeepW c st { c with o := o' } s := by
  obtain ⟨e1, e2, e3⟩ := h.ra_ne
  have nm : ∀ {r K es}, st.mem r = some (.map K es) → K ≠ 177 → r ≠ ra ∧ r ≠ rm := fun {r K es} hr hK => by
    refine ⟨fun x => ?_, fun x => ?_⟩
    · rw [x, h.ar.ra] at hr; cases hr
    · rw [x, h.ar.rm] at hr; injection hr with a; injection a with a b; exact hK a.symm
  have mv : ∀ {r K es}, st.mem r = some (.map K es) → K ≠ 177 → s.mem r = some (.map K es) := fun {r K es} hr hK' => hK.mem r _ (nm hr hK').1 (nm hr hK').2 hr
  have hE : tent A' e.terms = tent A e.terms := by
    obtain ⟨m, rfl⟩ := hsub
    unfold tent
    exact List.map_congr_left fun x hx => by rw [pos_app m (hk x hx)]
  have to : ∀ i, c.tj = some i → c.o ≠ some i := fun i a => (h.td i a).2
  refine ⟨⟨hK.mem rw _ e1 e2 h.w, hA, h.n0, fun r x => mv (h.n1 r x) (by decide), h.l0, fun r x => mv (h.l1 r x) (by decide), h.t0, fun r x => by rw [hE]; exact mv (h.t1 r x) (by decide), h.b0, fun i x => (hK.tok i (to i x) (h.b1 i x)).1, h.d0, fun i x => (hK.tok i (h.od i x) (h.d1 i x)).1,
    fun i x => ⟨(h.td i x).1, (hK.tok i (to i x) (h.b1 i x)).2⟩, fun i x => (hK.tok i (h.od i x) (h.d1 i x)).2⟩, ⟨fun i x y => ⟨(hK.tok i (fun z => x (.inr (.inr z))) y).1, ?_⟩⟩⟩
  rintro (z | z | z)
  · exact x (.inl z)
  · exact x (.inr (.inl z))
  · exact (hK.tok i (fun z => x (.inr (.inr z))) y).2 z
end Go.Proofs.YtddbidoaolnegaaGreatDoor
/- The writer: numbers, names, levels: the walks. No statement of the seat is proved here; no condition. -/
namespace Go.Proofs.YtddbidoaolnegaaGreatDoor
open Go Go.RowKit
open Nat renaming reduceLT → zA, reduceEqDiff → zB, reduceBEq → zC, reduceAdd → zD, reduceMul → zE, reduceSub → zF, reduceLeDiff → zG, mul_one → zH, zero_add → zI, add_zero → zJ
open Int renaming toNat_natCast → zK, reduceAdd → zL, reduceLE → zM, reduceLT → zN, natCast_nonneg → zO
open Go.Proofs.YtddbidoaolnegaaGreatDoor renaming evI_plain → ya, evI_guard → yb, evT_rd → yc, evT_rdg → yd, evT_act → ye, evT_actg → yf, evI_done → yg, evT_two → yh, evT_nil → yi, W.seqG → yj, W.block → yk, W.regionI → yl, W.cond → ym, W.skip → yn, W.ret → yo, W.exit → yp, gdD_split → yq, newT_intro → yr, newB_intro → ys, W.draw → yt, St.set_del → yu, St.give_take → yv, AGo.go → yw, IGo.go → yx, TGo.go → yy, Goes.go → yz
attribute [local go_sem] zK zP zQ zH zI zJ zO
attribute [local irreducible] W evI evT evL evOp evBin gdD Sem newT newB fillD bldOf
set_option maxRecDepth 10000
set_option maxHeartbeats 4000000

theorem bD_sl {o : Option Nat} {b : List UInt8} (h : o = none → b = []) : ∃ ow z, bD o b = .sl ow z (byD b) ∧ ((o = none ∧ ow = .nil ∧ b = []) ∨ ∃ j, o = some j ∧ ow = .tok j ∧ z = 1) := by
  cases o with
  | none => rw [h rfl]; exact ⟨.nil, 0, rfl, .inl ⟨rfl, rfl, rfl⟩⟩
  | some j => exact ⟨.tok j, 1, rfl, .inr ⟨j, rfl, rfl, rfl⟩⟩
theorem mem_give_ne {st : St} {rw r : Nat} {x y : Ob} {j : Nat} (h : st.mem r = some x) (hr : r ≠ rw) : ((st.give j).set rw y).mem r = some x := by
  rw [St.mem_set, if_neg hr, St.mem_give, h]

theorem sem52 (n : Nat) (hn : n < 18446744073709551616) (rw ra rm : Nat) (e : En) (A : List Tm) (c : WC) (st : St) (hS : WS rw ra rm e A c st) (hb : e.db.length < 100000000) (k : D → St → Prop)
    (hk : ∀ c' st', WS rw ra rm { e with db := e.db ++ num n } A c' st' → KeepW c st c' st' → k (.tup []) st') : Sem P 52 [.ptr rw 0, .int .u64 n] st k := by
  obtain ⟨ow, z, hbd, _⟩ := bD_sl hS.d0
  have hw := hS.w
  rw [wCells, hbd] at hw
  refine Sem.of_body Tryz.call52 Tryz.func52 rfl Tryz.ntmps52 (by simp) ?_
  repeat' first | refine yl [] ?_ | (refine ya rfl rfl fun N hN => ?_; simp only [go_sem, ↓reduceIte, zA, zB, zC, zD, zE, zF, zG, zL, zM, zN, reduceCtorEq, hw, Tryz.results52]) | (refine yg rfl ?_; try simp only [go_sem]) | (refine yx hN _ _ ?_; clear hN N) | (refine sem19 _ _ _ _ _ _ (by omega) hn fun j hj => ?_; try simp only [go_sem, ↓reduceIte, zA, zB, zC, zD, zE, zF, zG, zL, zM, zN, reduceCtorEq, hw]) | fail
  obtain ⟨u1, u2⟩ := hS.upDecl (j := j) (db := e.db ++ num n) (s := (st.give j).set rw (.cells (wCells { c with dj := some j } { e with db := e.db ++ num n } ra))) (by rw [St.mem_set, if_pos rfl])
    (fun r x hr hx => mem_give_ne hx hr) hj (by simp [St.tok_give, St.tok_set]) (fun i _ hi => by simp [St.tok_give, St.tok_set, hi])
  exact hk _ _ u1 u2

theorem sem88 (ow : Own) (z : Nat) (b s : List UInt8) (rw : Nat) (c0 c1 c2 c3 c4 c5 c6 c7 : D) (st : St) (k : D → St → Prop) (hw : st.mem rw = some (.cells [c0, c1, c2, c3, c4, c5, c6, c7, .bool false])) (hn : nameB s = true) (hs : s.length < 1000000) (hb : b.length < 100000000)
    (hk : ∀ j, st.tok j = false → k (.sl (.tok j) 1 (byD (b ++ num s.length ++ s))) (st.give j)) : Sem P 88 [.sl ow z (byD b), .eptr (.str s) 0, .eptr (.ptr rw 0) 0] st k := by
  refine Sem.of_body Tryz.call88 Tryz.func88 rfl Tryz.ntmps88 (by simp) ?_
  repeat' first | refine yj fun N hN => ?_ | refine yl [] ?_ | ((first | refine ya rfl rfl fun N hN => ?_ | refine yc rfl rfl fun N hN => ?_ | refine ye rfl rfl fun N hN => ?_ | refine yf rfl rfl rfl rfl fun N hN => ?_ | (refine yw hN _ _ ?_; clear hN N) | refine yo ?_); simp only [go_sem, ↓reduceIte, zA, zB, zC, zD, zE, zF, zG, zL, zM, zN, reduceCtorEq, hw, Tryz.results88]) | ((first | refine yg rfl ?_ | refine yi ?_); try simp only [go_sem]) | ((first | refine yx hN _ _ ?_ | refine yz hN _ _ ?_ | refine yy hN _ ?_); clear hN N) | refine yt (id := 2) mixed [] (.rd 0 (.act 1 [0] (.act 2 [0] (.act 3 [0] (.act 4 [0] (.act 5 [0] (.act 6 [0] (.act 7 [0] (.act 8 [0] (.act 9 [] (.act 10 [] (.act 11 [] (.nil))))))))))))) (by kernel_rfl) ?_ | (refine sem89 _ _ _ _ _ _ hb hs (fun h => by rw [hn] at h; cases h) (fun j _ hj => ?_); try simp only [go_sem, ↓reduceIte, zA, zB, zC, zD, zE, zF, zG, zL, zM, zN, reduceCtorEq, hw]) | fail
  have := hk j hj
  rw [St.set_self (st := st.give j) (by rw [St.mem_give]; exact hw)]
  exact this

structure EOk (e : En) (A : List Tm) : Prop where
  names : ∀ s ∈ e.names, nameB s = true
  levels : ∀ l ∈ e.levels, l.wf
  terms : ∀ t ∈ e.terms, t ∈ A
/-- How much a writer has. -/
structure ESm (e : En) : Prop where
  n : e.names.length < 100000 ∧ (nmB e.names).length < 10000000
  l : e.levels.length < 100000 ∧ (lvBs e.levels).length < 10000000
  t : e.terms.length < 100000 ∧ e.tb.length < 10000000
  d : e.db.length < 10000000

theorem nameB_len {s : List UInt8} (h : nameB s = true) : s.length ≤ 32 := by
  simp only [nameB, Bool.and_eq_true, decide_eq_true_eq] at h; exact h.2
theorem keyV_str (s : List UInt8) : keyV (.str s) = some (sV s) := rfl
theorem nent_ok {l : List (List UInt8)} (h : ∀ s ∈ l, nameB s = true) : ∀ e ∈ nent l, KeyOk P 9 e.1 ∧ e.2.flat = true := by
  intro e he
  obtain ⟨t, ht, rfl⟩ := List.mem_map.1 he
  exact ⟨keyOk9 (by have := nameB_len (h t ht); omega), rfl⟩
theorem keyV_lv (l : Lv) : keyV l.d = some (lV l) := by
  simp only [keyV, Lv.d, keyCs, keyC, keyCs_ints, Option.bind_some, Option.map_some, lV]; rfl
theorem lv_key {l : Lv} (h : l.wf) : KeyOk P 78 (lV l) := keyOk78 l.n ⟨h.1, h.2.1⟩ (fun x hx => by
  obtain ⟨j, hj, rfl⟩ := List.getElem_of_mem hx
  have := h.2.2 j (by have := l.n; omega)
  simpa [List.getD, hj, fits] using this)
theorem lent_ok {l : List Lv} (h : ∀ s ∈ l, s.wf) : ∀ e ∈ lent l, KeyOk P 78 e.1 ∧ e.2.flat = true := by
  intro e he
  obtain ⟨t, ht, rfl⟩ := List.mem_map.1 he
  exact ⟨lv_key (h t ht), rfl⟩

theorem WS.upName2 {rw ra rm : Nat} {e : En} {A : List Tm} {c : WC} {st s : St} {k : D → St → Prop} {d : D} (h : WS rw ra rm e A c st) {rn : Nat} {nw : Own} {nz : Nat} {x : List UInt8}
    (hk : ∀ c' st', WS rw ra rm (e.name x) A c' st' → KeepW c st c' st' → k d st') (hx : x ∉ e.names) (hne : rn ≠ rw)
    (hm : s.mem rn = some (.map 9 (nent e.names ++ [(sV x, .int .i64 e.names.length)])))
    (hw : s.mem rw = some (.cells [.map rn, .sl nw nz (byD (nmB e.names ++ num x.length ++ x)), mapD c.rl, .sl c.lw c.lz (byD (lvBs e.levels)), mapD c.rt, bD c.tj e.tb, .ptr ra 0, bD c.dj e.db, .bool false]))
    (hf : ∀ y, st.mem rn = some y → ∃ es, y = .map 9 es) (hs : ∀ r y, r ≠ rw → r ≠ rn → st.mem r = some y → s.mem r = some y) (ht : ∀ j, st.tok j = true → s.tok j = true) : k d s := by
  have u := h.upName (s := s) (rn := rn) (nw := nw) (nz := nz) (l := addU e.names x) (by rw [hm, nent, nent, ent_add sV e.names hx]) (by rw [hw, wCells]; simp only [nmB_add hx]; rfl) hf hs ht
  exact hk _ _ u.1 u.2
theorem WS.upLevel2 {rw ra rm : Nat} {e : En} {A : List Tm} {c : WC} {st s : St} {k : D → St → Prop} {d : D} (h : WS rw ra rm e A c st) {rl : Nat} {lw : Own} {lz : Nat} {x : Lv}
    (hk : ∀ c' st', WS rw ra rm (e.level x) A c' st' → KeepW c st c' st' → k d st') (hx : x ∉ e.levels) (hne : rl ≠ rw)
    (hm : s.mem rl = some (.map 78 (lent e.levels ++ [(lV x, .int .i64 e.levels.length)])))
    (hw : s.mem rw = some (.cells [mapD c.rn, .sl c.nw c.nz (byD (nmB e.names)), .map rl, .sl lw lz (byD (lvBs e.levels ++ lvNum x)), mapD c.rt, bD c.tj e.tb, .ptr ra 0, bD c.dj e.db, .bool false]))
    (hf : ∀ y, st.mem rl = some y → ∃ es, y = .map 78 es) (hs : ∀ r y, r ≠ rw → r ≠ rl → st.mem r = some y → s.mem r = some y) (ht : ∀ j, st.tok j = true → s.tok j = true) : k d s := by
  have u := h.upLevel (s := s) (rl := rl) (lw := lw) (lz := lz) (l := addU e.levels x) (by rw [hm, lent, lent, ent_add lV e.levels hx]) (by rw [hw, wCells]; simp only [lvBs_add hx]; rfl) hf hs ht
  exact hk _ _ u.1 u.2

theorem sem87 (s : List UInt8) (hs : nameB s = true) (rw ra rm : Nat) (e : En) (A : List Tm) (c : WC) (st : St) (hS : WS rw ra rm e A c st) (hE : EOk e A) (hM : ESm e) (k : D → St → Prop)
    (hk : ∀ c' st', WS rw ra rm (e.name s) A c' st' → KeepW c st c' st' → k (.int .u64 (pos e.names s)) st') : Sem P 87 [.ptr rw 0, .str s, .fn 88 [] [.eptr (.str s) 0, .eptr (.ptr rw 0) 0]] st k := by
  have hlen := nameB_len hs
  obtain ⟨hn1, hn2⟩ := hM.n
  have hK : KeyOk P 9 (sV s) := keyOk9 (by omega)
  have hV := keyV_str s
  have hE1 := nent_ok hE.names
  have hE2 : ∀ e_1 ∈ nent e.names, KeyOk P 9 e_1.1 := fun x hx => (hE1 x hx).1
  have hpl := pos_le e.names s
  have hwp : IntKind.u64.wrap ((pos e.names s : Nat) : Int) = (pos e.names s : Nat) := wrap_u64 (by omega)
  have hel : ((nent e.names).length : Int) = e.names.length := by simp [nent]
  have hw := hS.w
  rw [wCells] at hw
  have nb : True := trivial
  cases hrn : c.rn with
  | none =>
    have h0 := hS.n0 hrn
    rw [hrn, show mapD none = .nilmap from rfl] at hw
    have hp0 : pos e.names s = 0 := by rw [h0]; rfl
    rw [hp0] at hk hwp
    have hF : find [] (sV s) = none := rfl
    have hU : ∀ d, upd [] (sV s) d = [(sV s, d)] := fun d => by rw [upd_new (by simp)]; rfl
    refine Sem.of_body Tryz.call87 Tryz.func87 rfl Tryz.ntmps87 (by simp) ?_
    repeat' first | refine yj fun N hN => ?_ | refine yl [] ?_ | ((first | refine ya rfl rfl fun N hN => ?_ | refine ym ?_ | refine yo ?_); simp only [go_sem, ↓reduceIte, zA, zB, zC, zD, zE, zF, zG, zL, zM, zN, reduceCtorEq, hw, hK, hV, hF, hU, List.not_mem_nil, implies_true, hwp, nb, Tryz.results87]) | (refine yg rfl ?_; try simp only [go_sem]) | ((first | refine yx hN _ _ ?_ | refine yz hN _ _ ?_); clear hN N) | (refine sem88 _ _ _ s rw _ _ _ _ _ _ _ _ _ _ (by simp only [go_sem, nb]; rfl) hs (by omega) (by omega) fun j hj => ?_; try simp only [go_sem, ↓reduceIte, zA, zB, zC, zD, zE, zF, zG, zL, zM, zN, reduceCtorEq, hw, hK, hV, hF, hU, List.not_mem_nil, implies_true, hwp, nb]) | ((refine ys fun r hr => ?_; (have hr1 := hr; try simp only [St.set_none_iff, St.mem_give, St.mem_take] at hr1); (first | have nbq := mem_ne hw hr1 | have nbq := mem_ne hw hr1.2 | have nbq := mem_ne hw hr1.2.2 | have nbq := mem_ne hw hr1.2.2.2 | have nbq := mem_ne hw hr1.2.2.2.2); have nb := And.intro nb nbq; have nb := And.intro nb hr1); try simp only [go_sem, ↓reduceIte, zA, zB, zC, zD, zE, zF, zG, zL, zM, zN, reduceCtorEq, hw, hK, hV, hF, hU, List.not_mem_nil, implies_true, hwp, nb]) | fail
    have hm : s ∉ e.names := by rw [h0]; simp
    have hrw : r ≠ rw := (mem_ne hw hr).2
    refine hS.upName2 (nw := .tok j) (nz := 1) (rn := r) hk hm hrw ?_ (by rw [St.mem_set, if_pos rfl]) (fun y hy => by rw [hr] at hy; cases hy) ?_ ?_
    · simp [St.mem_set, St.mem_give, hrw, h0, nent]
    · intro q y a1 a2 a3
      simp [St.mem_set, St.mem_give, a1, a2, a3]
    · intro q hq; simp [St.tok_give, St.tok_set, hq]
  | some rn =>
    have h1 := hS.n1 rn hrn
    rw [hrn, show mapD (some rn) = .map rn from rfl] at hw
    by_cases hm : s ∈ e.names
    · have hF : find (nent e.names) (sV s) = some (.int .i64 (pos e.names s)) := find_mem (f := sV) (g := fun x => .int .i64 (pos e.names x)) hm (fun a _ b _ h => sV_inj h)
      have hen : e.name s = e := by rw [En.name, addU_mem hm]
      rw [hen] at hk
      refine Sem.of_body Tryz.call87 Tryz.func87 rfl Tryz.ntmps87 (by simp) ?_
      repeat' first | refine yj fun N hN => ?_ | refine yl [] ?_ | ((first | refine ya rfl rfl fun N hN => ?_ | refine ym ?_ | refine yo ?_); simp only [go_sem, ↓reduceIte, zA, zB, zC, zD, zE, zF, zG, zL, zM, zN, reduceCtorEq, hw, h1, hK, hV, hE1, hF, hwp, Tryz.results87]) | ((first | refine yg rfl ?_ | refine yn ?_); try simp only [go_sem]) | ((first | refine yx hN _ _ ?_ | refine yz hN _ _ ?_); clear hN N) | (refine And.intro ?_ ?_; · omega) | fail
      exact hk c st hS (KeepW.refl c st)
    · have hmiss : ∀ x ∈ nent e.names, x.1 ≠ sV s := by
        intro x hx e2
        obtain ⟨a, ha, rfl⟩ := List.mem_map.1 hx
        exact hm (sV_inj e2 ▸ ha)
      have hF : find (nent e.names) (sV s) = none := find_none hmiss
      have hU : ∀ d, upd (nent e.names) (sV s) d = nent e.names ++ [(sV s, d)] := fun d => upd_new hmiss
      have hpn := pos_not hm
      rw [hpn] at hk hwp
      have hrr : rn ≠ rw := fun h => by rw [h, hS.w] at h1; cases h1
      have hrr2 := hrr.symm
      refine Sem.of_body Tryz.call87 Tryz.func87 rfl Tryz.ntmps87 (by simp) ?_
      repeat' first | refine yj fun N hN => ?_ | refine yl [] ?_ | ((first | refine ya rfl rfl fun N hN => ?_ | refine ym ?_ | refine yo ?_); simp only [go_sem, ↓reduceIte, zA, zB, zC, zD, zE, zF, zG, zL, zM, zN, reduceCtorEq, hw, h1, hK, hV, hE1, hE2, hF, hU, hwp, hel, hrr, hrr2, Tryz.results87]) | ((first | refine yg rfl ?_ | refine yn ?_); try simp only [go_sem]) | ((first | refine yx hN _ _ ?_ | refine yz hN _ _ ?_); clear hN N) | (refine sem88 _ _ _ s rw _ _ _ _ _ _ _ _ _ _ (by simp only [go_sem, hrr, hrr2, hw]; rfl) hs (by omega) (by omega) fun j hj => ?_; try simp only [go_sem, ↓reduceIte, zA, zB, zC, zD, zE, zF, zG, zL, zM, zN, reduceCtorEq, hw, h1, hK, hV, hE1, hE2, hF, hU, hwp, hel, hrr, hrr2]) | (refine And.intro ?_ ?_; · omega) | fail
      refine hS.upName2 (nw := .tok j) (nz := 1) (rn := rn) hk hm hrr ?_ (by rw [St.mem_set, if_pos rfl]) (fun y hy => by rw [h1] at hy; cases hy; exact ⟨_, rfl⟩) ?_ ?_
      · simp [St.mem_set, St.mem_give, hrr]
      · intro q y a1 a2 a3
        simp [St.mem_set, St.mem_give, a1, a2, a3]
      · intro q hq; simp [St.tok_give, St.tok_set, hq]

theorem sem53 (s : List UInt8) (hs : nameB s = true) (rw ra rm : Nat) (e : En) (A : List Tm) (c : WC) (st : St) (hS : WS rw ra rm e A c st) (hE : EOk e A) (hM : ESm e) (k : D → St → Prop)
    (hk : ∀ c' st', WS rw ra rm (e.name s) A c' st' → KeepW c st c' st' → k (.int .u64 (pos e.names s)) st') : Sem P 53 [.ptr rw 0, .str s] st k := by
  refine Sem.of_body Tryz.call53 Tryz.func53 rfl Tryz.ntmps53 (by simp) ?_
  repeat' first | refine yj fun N hN => ?_ | refine yl [] ?_ | ((first | refine ya rfl rfl fun N hN => ?_ | refine yc rfl rfl fun N hN => ?_ | refine ye rfl rfl fun N hN => ?_ | (refine yw hN _ _ ?_; clear hN N) | refine yo ?_); simp only [go_sem, ↓reduceIte, zA, zB, zC, zD, zE, zF, zG, zL, zM, zN, reduceCtorEq, Tryz.results53]) | ((first | refine yg rfl ?_ | refine yi ?_); try simp only [go_sem]) | ((first | refine yx hN _ _ ?_ | refine yz hN _ _ ?_ | refine yy hN _ ?_); clear hN N) | refine yt (id := 1) mixed [] (.rd 0 (.rd 1 (.rd 2 (.rd 3 (.act 4 [3, 2, 1, 0] (.act 5 [] (.act 6 [] (.nil)))))))) (by kernel_rfl) ?_ | (refine sem87 s hs rw ra rm e A c st hS hE hM _ (fun c' st' uS uK => ?_); try simp only [go_sem, ↓reduceIte, zA, zB, zC, zD, zE, zF, zG, zL, zM, zN, reduceCtorEq]) | fail
  all_goals exact hk c' st' uS uK

theorem wf_of_lvB {l : Lv} (h : lvB l = true) : (0 ≤ l.c ∧ l.c ≤ 1099511627776) ∧ (∀ i, i < 4 → -1 ≤ l.p.getD i 0 ∧ l.p.getD i 0 ≤ 1099511627776) ∧ l.wf := by
  simp only [lvB, Bool.and_eq_true, decide_eq_true_eq, List.all_eq_true] at h
  have hp : ∀ i, i < 4 → -1 ≤ l.p.getD i 0 ∧ l.p.getD i 0 ≤ 1099511627776 := fun i hi => by
    have hm := getD_mem l.p 0 (i := i) (by have := l.n; omega)
    have := h.2 _ hm
    simp only [entB, Bool.and_eq_true, decide_eq_true_eq] at this
    exact this.1
  exact ⟨h.1, hp, ⟨by omega, by omega, fun i hi => by have := hp i hi; omega⟩⟩

theorem sem117 (l : Lv) (hl : lvB l = true) (rw ra rm : Nat) (e : En) (A : List Tm) (c : WC) (st : St) (hS : WS rw ra rm e A c st) (hE : EOk e A) (hM : ESm e) (k : D → St → Prop)
    (hk : ∀ c' st', WS rw ra rm (e.level l) A c' st' → KeepW c st c' st' → k (.int .u64 (pos e.levels l)) st') : Sem P 117 [.ptr rw 2, l.d, .fn 118 [] [.eptr l.d 0]] st k := by
  obtain ⟨q1, q2, q3⟩ := wf_of_lvB hl
  obtain ⟨hn1, hn2⟩ := hM.l
  have hK : KeyOk P 78 (lV l) := lv_key q3
  have hV := keyV_lv l
  have hE1 := lent_ok hE.levels
  have hE2 : ∀ e_1 ∈ lent e.levels, KeyOk P 78 e_1.1 := fun x hx => (hE1 x hx).1
  have hpl := pos_le e.levels l
  have hwp : IntKind.u64.wrap ((pos e.levels l : Nat) : Int) = (pos e.levels l : Nat) := wrap_u64 (by omega)
  have hel : ((lent e.levels).length : Int) = e.levels.length := by simp [lent]
  have hw := hS.w
  rw [wCells] at hw
  have nb : True := trivial
  cases hrn : c.rl with
  | none =>
    have h0 := hS.l0 hrn
    rw [hrn, show mapD none = .nilmap from rfl] at hw
    have hp0 : pos e.levels l = 0 := by rw [h0]; rfl
    rw [hp0] at hk hwp
    have hF : find [] (lV l) = none := rfl
    have hU : ∀ d, upd [] (lV l) d = [(lV l, d)] := fun d => by rw [upd_new (by simp)]; rfl
    refine Sem.of_body Tryz.call117 Tryz.func117 rfl Tryz.ntmps117 (by simp) ?_
    repeat' first | refine yj fun N hN => ?_ | refine yl [] ?_ | ((first | refine ya rfl rfl fun N hN => ?_ | refine yc rfl rfl fun N hN => ?_ | refine ye rfl rfl fun N hN => ?_ | (refine yw hN _ _ ?_; clear hN N) | refine ym ?_ | refine yo ?_); simp only [go_sem, ↓reduceIte, zA, zB, zC, zD, zE, zF, zG, zL, zM, zN, reduceCtorEq, hw, hK, hV, hF, hU, List.not_mem_nil, implies_true, hwp, nb, Tryz.results117]) | ((first | refine yg rfl ?_ | refine yi ?_); try simp only [go_sem]) | ((first | refine yx hN _ _ ?_ | refine yz hN _ _ ?_ | refine yy hN _ ?_); clear hN N) | refine yt (id := 3) mixed [] (.rd 0 (.rd 1 (.rd 2 (.rd 3 (.act 4 [3, 2, 1, 0] (.act 5 [] (.act 6 [] (.rd 7 (.rd 8 (.act 9 [8] (.act 10 [] (.nil)))))))))))) (by kernel_rfl) ?_ | refine yt (id := 6) mixed [] (.rd 0 (.rd 1 (.rd 2 (.rd 3 (.rd 4 (.act 5 [4, 3, 2, 1, 0] (.act 6 [] (.nil)))))))) (by kernel_rfl) ?_ | (refine sem118 _ _ _ _ _ _ (by omega) q1 q2 fun j hj => ?_; try simp only [go_sem, ↓reduceIte, zA, zB, zC, zD, zE, zF, zG, zL, zM, zN, reduceCtorEq, hw, hK, hV, hF, hU, List.not_mem_nil, implies_true, hwp, nb]) | ((refine ys fun r hr => ?_; (have hr1 := hr; try simp only [St.set_none_iff, St.mem_give, St.mem_take] at hr1); (first | have nbq := mem_ne hw hr1 | have nbq := mem_ne hw hr1.2 | have nbq := mem_ne hw hr1.2.2 | have nbq := mem_ne hw hr1.2.2.2 | have nbq := mem_ne hw hr1.2.2.2.2); have nb := And.intro nb nbq; have nb := And.intro nb hr1); try simp only [go_sem, ↓reduceIte, zA, zB, zC, zD, zE, zF, zG, zL, zM, zN, reduceCtorEq, hw, hK, hV, hF, hU, List.not_mem_nil, implies_true, hwp, nb]) | fail
    have hm : l ∉ e.levels := by rw [h0]; simp
    have hrw : r ≠ rw := (mem_ne hw hr).2
    refine hS.upLevel2 (lw := .tok j) (lz := 1) (rl := r) hk hm hrw ?_ (by rw [St.mem_set, if_pos rfl]) (fun y hy => by rw [hr] at hy; cases hy) ?_ ?_
    · simp [St.mem_set, St.mem_give, hrw, h0, lent]
    · intro q y a1 a2 a3
      simp [St.mem_set, St.mem_give, a1, a2, a3]
    · intro q hq; simp [St.tok_give, St.tok_set, hq]
  | some rn =>
    have h1 := hS.l1 rn hrn
    rw [hrn, show mapD (some rn) = .map rn from rfl] at hw
    by_cases hm : l ∈ e.levels
    · have hF : find (lent e.levels) (lV l) = some (.int .i64 (pos e.levels l)) := find_mem (f := lV) (g := fun x => .int .i64 (pos e.levels x)) hm (fun a _ b _ h => lV_inj h)
      have hen : e.level l = e := by rw [En.level, addU_mem hm]
      rw [hen] at hk
      refine Sem.of_body Tryz.call117 Tryz.func117 rfl Tryz.ntmps117 (by simp) ?_
      repeat' first | refine yj fun N hN => ?_ | refine yl [] ?_ | ((first | refine ya rfl rfl fun N hN => ?_ | refine yc rfl rfl fun N hN => ?_ | refine ye rfl rfl fun N hN => ?_ | (refine yw hN _ _ ?_; clear hN N) | refine ym ?_ | refine yo ?_); simp only [go_sem, ↓reduceIte, zA, zB, zC, zD, zE, zF, zG, zL, zM, zN, reduceCtorEq, hw, h1, hK, hV, hE1, hF, hwp, Tryz.results117]) | ((first | refine yg rfl ?_ | refine yn ?_ | refine yi ?_); try simp only [go_sem]) | ((first | refine yx hN _ _ ?_ | refine yz hN _ _ ?_ | refine yy hN _ ?_); clear hN N) | refine yt (id := 3) mixed [] (.rd 0 (.rd 1 (.rd 2 (.rd 3 (.act 4 [3, 2, 1, 0] (.act 5 [] (.act 6 [] (.rd 7 (.rd 8 (.act 9 [8] (.act 10 [] (.nil)))))))))))) (by kernel_rfl) ?_ | (refine And.intro ?_ ?_; · omega) | fail
      exact hk c st hS (KeepW.refl c st)
    · have hmiss : ∀ x ∈ lent e.levels, x.1 ≠ lV l := by
        intro x hx e2
        obtain ⟨a, ha, rfl⟩ := List.mem_map.1 hx
        exact hm (lV_inj e2 ▸ ha)
      have hF : find (lent e.levels) (lV l) = none := find_none hmiss
      have hU : ∀ d, upd (lent e.levels) (lV l) d = lent e.levels ++ [(lV l, d)] := fun d => upd_new hmiss
      have hpn := pos_not hm
      rw [hpn] at hk hwp
      have hrr : rn ≠ rw := fun h => by rw [h, hS.w] at h1; cases h1
      have hrr2 := hrr.symm
      refine Sem.of_body Tryz.call117 Tryz.func117 rfl Tryz.ntmps117 (by simp) ?_
      repeat' first | refine yj fun N hN => ?_ | refine yl [] ?_ | ((first | refine ya rfl rfl fun N hN => ?_ | refine yc rfl rfl fun N hN => ?_ | refine ye rfl rfl fun N hN => ?_ | (refine yw hN _ _ ?_; clear hN N) | refine ym ?_ | refine yo ?_); simp only [go_sem, ↓reduceIte, zA, zB, zC, zD, zE, zF, zG, zL, zM, zN, reduceCtorEq, hw, h1, hK, hV, hE1, hE2, hF, hU, hwp, hel, hrr, hrr2, Tryz.results117]) | ((first | refine yg rfl ?_ | refine yn ?_ | refine yi ?_); try simp only [go_sem]) | ((first | refine yx hN _ _ ?_ | refine yz hN _ _ ?_ | refine yy hN _ ?_); clear hN N) | refine yt (id := 3) mixed [] (.rd 0 (.rd 1 (.rd 2 (.rd 3 (.act 4 [3, 2, 1, 0] (.act 5 [] (.act 6 [] (.rd 7 (.rd 8 (.act 9 [8] (.act 10 [] (.nil)))))))))))) (by kernel_rfl) ?_ | refine yt (id := 6) mixed [] (.rd 0 (.rd 1 (.rd 2 (.rd 3 (.rd 4 (.act 5 [4, 3, 2, 1, 0] (.act 6 [] (.nil)))))))) (by kernel_rfl) ?_ | (refine sem118 _ _ _ _ _ _ (by omega) q1 q2 fun j hj => ?_; try simp only [go_sem, ↓reduceIte, zA, zB, zC, zD, zE, zF, zG, zL, zM, zN, reduceCtorEq, hw, h1, hK, hV, hE1, hE2, hF, hU, hwp, hel, hrr, hrr2]) | (refine And.intro ?_ ?_; · omega) | fail
      refine hS.upLevel2 (lw := .tok j) (lz := 1) (rl := rn) hk hm hrr ?_ (by rw [St.mem_set, if_pos rfl]) (fun y hy => by rw [h1] at hy; cases hy; exact ⟨_, rfl⟩) ?_ ?_
      · simp [St.mem_set, St.mem_give, hrr]
      · intro q y a1 a2 a3
        simp [St.mem_set, St.mem_give, a1, a2, a3]
      · intro q hq; simp [St.tok_give, St.tok_set, hq]

theorem sem107 (l : Lv) (hl : lvB l = true) (rw ra rm : Nat) (e : En) (A : List Tm) (c : WC) (st : St) (hS : WS rw ra rm e A c st) (hE : EOk e A) (hM : ESm e) (k : D → St → Prop)
    (hk : ∀ c' st', WS rw ra rm (e.level l) A c' st' → KeepW c st c' st' → k (.int .u64 (pos e.levels l)) st') : Sem P 107 [.ptr rw 0, l.d] st k := by
  refine Sem.of_body Tryz.call107 Tryz.func107 rfl Tryz.ntmps107 (by simp) ?_
  repeat' first | refine yj fun N hN => ?_ | refine yl [] ?_ | ((first | refine ya rfl rfl fun N hN => ?_ | refine yc rfl rfl fun N hN => ?_ | refine ye rfl rfl fun N hN => ?_ | (refine yw hN _ _ ?_; clear hN N) | refine yo ?_); simp only [go_sem, ↓reduceIte, zA, zB, zC, zD, zE, zF, zG, zL, zM, zN, reduceCtorEq, Tryz.results107]) | ((first | refine yg rfl ?_ | refine yi ?_); try simp only [go_sem]) | ((first | refine yx hN _ _ ?_ | refine yz hN _ _ ?_ | refine yy hN _ ?_); clear hN N) | refine yt (id := 1) mixed [] (.rd 0 (.rd 1 (.rd 2 (.rd 3 (.act 4 [3, 2, 1, 0] (.act 5 [] (.act 6 [] (.nil)))))))) (by kernel_rfl) ?_ | (refine sem117 l hl rw ra rm e A c st hS hE hM _ (fun c' st' uS uK => ?_); try simp only [go_sem, ↓reduceIte, zA, zB, zC, zD, zE, zF, zG, zL, zM, zN, reduceCtorEq]) | fail
  all_goals exact hk c' st' uS uK
end Go.Proofs.YtddbidoaolnegaaGreatDoor
