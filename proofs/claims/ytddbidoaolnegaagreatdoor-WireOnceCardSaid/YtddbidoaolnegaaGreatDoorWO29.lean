/-
PART OF A CLAIM: RV, RW, SA, SB. No statement of the seat is proved here; no condition. -/
import Derived.Test.YtddbidoaolnegaaGreatDoorWO16
import Derived.Test.YtddbidoaolnegaaGreatDoorWO20
import Derived.Test.YtddbidoaolnegaaGreatDoorWO24
import Derived.Test.YtddbidoaolnegaaGreatDoorWO27
import Derived.Test.YtddbidoaolnegaaGreatDoorWO28
set_option linter.all false
/- Decode, in general: what a file is, by its tables; the last walks but one. No statement of the seat is proved here; no condition. -/
namespace Go.Proofs.YtddbidoaolnegaaGreatDoor
open Go Go.RowKit
open Nat renaming reduceLT → zA, reduceEqDiff → zB, reduceBEq → zC, reduceAdd → zD, reduceMul → zE, reduceSub → zF, reduceLeDiff → zG, mul_one → zH, zero_add → zI, add_zero → zJ
open Int renaming toNat_natCast → zK, reduceAdd → zL, reduceLE → zM, reduceLT → zN, natCast_nonneg → zO
open Go.Proofs.YtddbidoaolnegaaGreatDoor renaming evI_plain → ya, evI_guard → yb, evT_rd → yc, evT_rdg → yd, evT_act → ye, evT_actg → yf, evI_done → yg, evT_two → yh, evT_nil → yi, W.seqG → yj, W.block → yk, W.regionI → yl, W.cond → ym, W.skip → yn, W.ret → yo, W.exit → yp, gdD_split → yq, newT_intro → yr, newB_intro → ys, W.draw → yt, St.set_del → yu, St.give_take → yv, AGo.go → yw, IGo.go → yx, TGo.go → yy, Goes.go → yz
attribute [local go_sem] zK zP zQ zH zI zJ zO
attribute [local irreducible] W evI evT evL evOp evBin gdD Sem newT newB fillD bldOf
set_option maxRecDepth 10000
set_option maxHeartbeats 4000000

/-- The bytes of terms, by the names, the levels and the terms ahead of them. -/
def TermsB (N : List (List UInt8)) (L : List Lv) : List Tm → List Tm → List UInt8 → Prop
  | _, [], b => b = []
  | done, t :: rem, b => ∃ iN iLs iTs b', b = UInt8.ofNat t.k :: (nums (fldN t iN ++ iLs ++ iTs) ++ b') ∧ EntN N L done t iN iLs iTs ∧ TermsB N L (done ++ [t]) rem b'
def DecsB (N : List (List UInt8)) (T : List Tm) : List De → List UInt8 → Prop
  | [], b => b = []
  | d :: ds, b => ∃ ns b', b = UInt8.ofNat d.kind :: (nums ns ++ b') ∧ DecN N T d ns ∧ DecsB N T ds b'
/-- A file of declarations. -/
structure FileR (bs : List UInt8) (l : List De) (N : List (List UInt8)) (L : List Lv) (T : List Tm) (tb db : List UInt8) : Prop where
  eq : bs = [66, 84, 78, 49] ++ (num N.length ++ (nmB N ++ (num L.length ++ (lvBs L ++ (num T.length ++ (tb ++ (num l.length ++ db)))))))
  nm : ∀ x ∈ N, nameB x = true
  lv : ∀ x ∈ L, lvD x = true
  tm : ∀ t ∈ T, nodeB t = true ∧ t.size ≤ 4096 ∧ t.deep ≤ 256
  tb : TermsB N L [] T tb
  de : ∀ d ∈ l, declB d = true
  db : DecsB N T l db
  nN : N.length ≤ 4096
  nL : L.length ≤ 4096
  nT : T.length ≤ 65536
  nl : l.length ≤ 256
  nb : bs.length ≤ 262144

theorem EntN.bound {N : List (List UInt8)} {L : List Lv} {T : List Tm} {t : Tm} {iN : Nat} {iLs iTs : List Nat} (h : EntN N L T t iN iLs iTs) (hB : nodeB t = true) (hN : N.length < 1000000000) (hL : L.length < 1000000000) (hT : T.length < 1000000000) : ∀ n ∈ fldN t iN ++ iLs ++ iTs, n < 18446744073709551616 := by
  have nf := nodeF hB
  intro n hn
  rcases List.mem_append.1 hn with hn | hn
  · rcases List.mem_append.1 hn with hn | hn
    · unfold fldN at hn
      split at hn
      · have := nf.n2 ‹_›
        simp only [List.mem_singleton] at hn; omega
      · split at hn
        · have h1 := nf.l3 ‹_›
          have h2 := (h.name (.inl ‹_›)).1
          simp only [List.mem_cons, List.not_mem_nil, or_false] at hn
          omega
        · split at hn
          · have h1 := nf.n8 ‹_›
            have h2 := (h.name (.inr ‹_›)).1
            simp only [List.mem_cons, List.not_mem_nil, or_false] at hn
            omega
          · simp at hn
    · obtain ⟨i, hi, rfl⟩ := List.getElem_of_mem hn
      have := (h.l i (by rw [← h.ll]; exact hi)).1
      simp only [List.getD_eq_getElem?_getD, List.getElem?_eq_getElem hi, Option.getD_some] at this
      omega
  · obtain ⟨i, hi, rfl⟩ := List.getElem_of_mem hn
    have := (h.t i (by rw [← h.tl]; exact hi)).1
    simp only [List.getD_eq_getElem?_getD, List.getElem?_eq_getElem hi, Option.getD_some] at this
    omega
theorem DecN.ne {N : List (List UInt8)} {T : List Tm} {d : De} {ns : List Nat} (h : DecN N T d ns) (hB : declB d = true) : N ≠ [] ∧ T ≠ [] := by
  have ref : ∀ {i : Nat} {s : List UInt8} {j : Nat} {t : Tm}, RefN N i s → RefT T j t → N ≠ [] ∧ T ≠ [] := fun h1 h2 => ⟨fun e => by have := h1.1; rw [e] at this; simp at this, fun e => by have := h2.1; rw [e] at this; simp at this⟩
  obtain ⟨r, rfl, h⟩ := h
  split at h
  · rename_i k4
    obtain ⟨_, _, _, _, _, b6, _, _⟩ := (deF hB).b k4
    obtain ⟨r2, rfl, h⟩ := h
    cases hi : d.inds with
    | nil => rw [hi] at b6; simp at b6
    | cons x xs =>
      rw [hi] at h
      obtain ⟨a, b, _, ⟨i, j, r3, _, h1, h2, _⟩, _⟩ := h
      exact ref h1 h2
  · obtain ⟨i, j, h1, h2, _⟩ := h
    exact ref h1 h2

section
variable {bs : List UInt8} {a n m : Nat} {b s : Int} {p q : Nat} {c1 c2 c3 : D} {st st' : St} {k : D → St → Prop} {N0 : List (List UInt8)} {T0 : List Tm} {ow1 ow3 : Own}

theorem sem37 {d : De} {ns : List Nat} {rest : List UInt8} (hd : bs.drop a = UInt8.ofNat d.kind :: (nums ns ++ rest)) (hD : DecN N0 T0 d ns) (hB : declB d = true) (hl : bs.length < 1000000000) (hN0 : N0.length < 1000000000) (hT0 : T0.length < 1000000000) {r4 r5 : Nat} (h4 : st.mem r4 = some (.cells [.ptr p 0]))
    {o : Option Nat} {es : List D} (h5 : st.mem r5 = some (.cells [tabD o 15 es])) (ho : Tab o es st) (hes : es.length < 1000)
    (hp : st.mem p = some (.cells [.ptr q 0, .sl ow1 1 (N0.map .str), c2, .sl ow3 7 (T0.map szD)])) (hq : st.mem q = some (.cells (rdC bs a 0 s)))
    (hk : ∀ jt st', st'.mem r5 = some (.cells [tabD (some jt) 15 (es ++ [d.d])]) → st'.mem q = some (.cells (rdC bs (a + 1 + (nums ns).length : Nat) 0 s)) → Stp (fun x => x = r5 ∨ x = q) o jt st st' → k (.tup []) st') : Sem P 37 [.ptr r5 0, .ptr r4 0] st k := by
  have n2q : r5 ≠ q ∧ q ≠ r5 := by
    have : r5 ≠ q := fun e => by rw [e, hq] at h5; simp [rdC] at h5
    exact ⟨this, this.symm⟩
  cases o with
  | none =>
    obtain rfl := ho.n rfl
    simp only [tabD] at h5
    refine Sem.of_body Tryz.call37 Tryz.func37 rfl Tryz.ntmps37 (by simp) ?_
    repeat' first | ((first | refine yc rfl rfl fun N hN => ?_ | refine ye rfl rfl fun N hN => ?_ | (refine yw hN _ _ ?_; clear hN N)); simp only [go_sem, ↓reduceIte, zA, zB, zC, zD, zE, zF, zG, zL, zM, zN, reduceCtorEq, h4, h5, Tryz.results37]) | (refine yy hN _ ?_; clear hN N) | refine yt (id := 0) mixed [0] (.rd 0 (.act 1 [0] (.act 2 [0] (.act 3 [0] (.act 4 [] (.act 5 [] (.nil))))))) (by kernel_rfl) ?_ | fail
    refine sem38 hd hD hB hl hN0 hT0 hp hq fun st' g1 g2 g3 => ?_
    have h5' := g2 r5 n2q.1 _ h5
    repeat' first | ((first | refine ye rfl rfl fun N hN => ?_ | (refine yw hN _ _ ?_; clear hN N)); simp only [go_sem, ↓reduceIte, zA, zB, zC, zD, zE, zF, zG, zL, zM, zN, reduceCtorEq, h4, h5', Tryz.results37]) | (refine yi ?_; try simp only [go_sem]) | ((refine yr fun j hj => ?_; (try have hj0 := St.tok_of_give hj)); try simp only [go_sem, ↓reduceIte, zA, zB, zC, zD, zE, zF, zG, zL, zM, zN, reduceCtorEq, h4, h5']) | fail
    refine hk j _ (by simp only [go_sem, ↓reduceIte, zA, zB, zC, zD, zE, zF, zG, zL, zM, zN, reduceCtorEq, tabD]) (by simp only [go_sem, ↓reduceIte, zA, zB, zC, zD, zE, zF, zG, zL, zM, zN, reduceCtorEq, g1, n2q]) ⟨fun y hy ob hob => ?_, by simp only [go_sem, ↓reduceIte, zA, zB, zC, zD, zE, zF, zG, zL, zM, zN, reduceCtorEq], fun i h0 hi => ?_⟩
    · simp only [not_or] at hy
      simp only [go_sem, ↓reduceIte, zA, zB, zC, zD, zE, zF, zG, zL, zM, zN, reduceCtorEq, hy]
      exact g2 y hy.2 ob hob
    · have hi2 := g3 i hi
      have hj' : st'.tok j = false := hj
      have n1 : i ≠ j := fun e => by rw [e, hj'] at hi2; cases hi2
      refine ⟨?_, n1⟩
      simp only [go_sem, ↓reduceIte, zA, zB, zC, zD, zE, zF, zG, zL, zM, zN, reduceCtorEq, n1, hi2]
  | some j0 =>
    have htok := ho.t j0 rfl
    simp only [tabD] at h5
    refine Sem.of_body Tryz.call37 Tryz.func37 rfl Tryz.ntmps37 (by simp) ?_
    repeat' first | ((first | refine yc rfl rfl fun N hN => ?_ | refine ye rfl rfl fun N hN => ?_ | (refine yw hN _ _ ?_; clear hN N)); simp only [go_sem, ↓reduceIte, zA, zB, zC, zD, zE, zF, zG, zL, zM, zN, reduceCtorEq, h4, h5, Tryz.results37]) | (refine yy hN _ ?_; clear hN N) | refine yt (id := 0) mixed [0] (.rd 0 (.act 1 [0] (.act 2 [0] (.act 3 [0] (.act 4 [] (.act 5 [] (.nil))))))) (by kernel_rfl) ?_ | fail
    refine sem38 hd hD hB hl hN0 hT0 hp hq fun st' g1 g2 g3 => ?_
    have h5' := g2 r5 n2q.1 _ h5
    have htok' := g3 j0 htok
    repeat' first | ((first | refine ye rfl rfl fun N hN => ?_ | (refine yw hN _ _ ?_; clear hN N)); simp only [go_sem, ↓reduceIte, zA, zB, zC, zD, zE, zF, zG, zL, zM, zN, reduceCtorEq, h4, h5', htok', Tryz.results37]) | (refine yi ?_; try simp only [go_sem]) | ((refine yr fun j hj => ?_; (try have hj0 := St.tok_of_give hj)); try simp only [go_sem, ↓reduceIte, zA, zB, zC, zD, zE, zF, zG, zL, zM, zN, reduceCtorEq, h4, h5', htok']) | (refine And.intro ?_ ?_; · omega) | fail
    refine hk j _ (by simp only [go_sem, ↓reduceIte, zA, zB, zC, zD, zE, zF, zG, zL, zM, zN, reduceCtorEq, tabD]) (by simp only [go_sem, ↓reduceIte, zA, zB, zC, zD, zE, zF, zG, zL, zM, zN, reduceCtorEq, g1, n2q]) ⟨fun y hy ob hob => ?_, by simp only [go_sem, ↓reduceIte, zA, zB, zC, zD, zE, zF, zG, zL, zM, zN, reduceCtorEq], fun i h0 hi => ?_⟩
    · simp only [not_or] at hy
      simp only [go_sem, ↓reduceIte, zA, zB, zC, zD, zE, zF, zG, zL, zM, zN, reduceCtorEq, hy]
      exact g2 y hy.2 ob hob
    · have hi2 := g3 i hi
      have hj' : st'.tok j = false := hj
      have n1 : i ≠ j := fun e => by rw [e, hj'] at hi2; cases hi2
      have n0 : i ≠ j0 := fun e => h0 (by rw [e])
      refine ⟨?_, n1⟩
      simp only [go_sem, ↓reduceIte, zA, zB, zC, zD, zE, zF, zG, zL, zM, zN, reduceCtorEq, n1, n0, hi2]

/-- Where Decode stands, while tables are read. -/
structure MD (bs : List UInt8) (p q r4 r5 A : Nat) (o1 o2 o3 : Option Nat) (N : List (List UInt8)) (L : List Lv) (T : List Tm) (st' : St) : Prop where
  m4 : st'.mem r4 = some (.cells [.ptr p 0])
  m5 : st'.mem r5 = some (.cells [.sl .nil 0 []])
  mp : st'.mem p = some (.cells [.ptr q 0, tabD o1 1 (N.map .str), tabD o2 5 (L.map Lv.d), tabD o3 7 (T.map szD)])
  mq : st'.mem q = some (.cells (rdC bs A 0 0))
  t1 : Tab o1 (N.map .str) st'
  t2 : Tab o2 (L.map Lv.d) st'
  t3 : Tab o3 (T.map szD) st'
  n12 : ∀ i, o1 = some i → o2 ≠ some i
  n13 : ∀ i, o1 = some i → o3 ≠ some i
  n23 : ∀ i, o2 = some i → o3 ≠ some i
variable {r4 r5 A A' j : Nat} {o1 o2 o3 : Option Nat} {N : List (List UInt8)} {L : List Lv} {T : List Tm} {st2 : St}
theorem MD.pne (h : MD bs p q r4 r5 A o1 o2 o3 N L T st') : r4 ≠ p ∧ r4 ≠ q ∧ r5 ≠ p ∧ r5 ≠ q ∧ r4 ≠ r5 ∧ p ≠ q := by
  have h4 := h.m4
  have h5 := h.m5
  have hp := h.mp
  have hq := h.mq
  refine ⟨fun e => ?_, fun e => ?_, fun e => ?_, fun e => ?_, fun e => ?_, (rd_ne hp hq).1⟩
  · rw [e, hp] at h4; simp at h4
  · rw [e, hq] at h4; simp [rdC] at h4
  · rw [e, hp] at h5; simp at h5
  · rw [e, hq] at h5; simp [rdC] at h5
  · rw [e, h5] at h4; simp at h4
theorem MD.nm (h : MD bs p q r4 r5 A o1 o2 o3 N L T st') {x : List UInt8} (hp : st2.mem p = some (.cells [.ptr q 0, tabD (some j) 1 (N.map .str ++ [.str x]), tabD o2 5 (L.map Lv.d), tabD o3 7 (T.map szD)])) (hq : st2.mem q = some (.cells (rdC bs A' 0 0))) (hs : Stp (fun x => x = p ∨ x = q) o1 j st' st2) :
    MD bs p q r4 r5 A' (some j) o2 o3 (N ++ [x]) L T st2 := by
  obtain ⟨a1, a2, a3, a4, a5, a6⟩ := h.pne
  exact ⟨hs.mem _ (by simp [a1, a2]) _ h.m4, hs.mem _ (by simp [a3, a4]) _ h.m5, by rw [List.map_append]; exact hp, hq, .mkS hs.tj, h.t2.mono fun i hi => (hs.tok i (fun e => h.n12 i e hi) (h.t2.t i hi)).1, h.t3.mono fun i hi => (hs.tok i (fun e => h.n13 i e hi) (h.t3.t i hi)).1,
    fun i hi e => (by cases hi; exact (hs.tok j (fun e2 => h.n12 j e2 e) (h.t2.t j e)).2 rfl), fun i hi e => (by cases hi; exact (hs.tok j (fun e2 => h.n13 j e2 e) (h.t3.t j e)).2 rfl), h.n23⟩
theorem MD.lv (h : MD bs p q r4 r5 A o1 o2 o3 N L T st') {x : Lv} (hp : st2.mem p = some (.cells [.ptr q 0, tabD o1 1 (N.map .str), tabD (some j) 5 (L.map Lv.d ++ [x.d]), tabD o3 7 (T.map szD)])) (hq : st2.mem q = some (.cells (rdC bs A' 0 0))) (hs : Stp (fun x => x = p ∨ x = q) o2 j st' st2) :
    MD bs p q r4 r5 A' o1 (some j) o3 N (L ++ [x]) T st2 := by
  obtain ⟨a1, a2, a3, a4, a5, a6⟩ := h.pne
  exact ⟨hs.mem _ (by simp [a1, a2]) _ h.m4, hs.mem _ (by simp [a3, a4]) _ h.m5, by rw [List.map_append (f := Lv.d)]; exact hp, hq, h.t1.mono fun i hi => (hs.tok i (fun e => h.n12 i hi e) (h.t1.t i hi)).1, .mkS hs.tj, h.t3.mono fun i hi => (hs.tok i (fun e => h.n23 i e hi) (h.t3.t i hi)).1,
    fun i hi e => (by cases e; exact (hs.tok j (fun e2 => h.n12 j hi e2) (h.t1.t j hi)).2 rfl), h.n13, fun i hi e => (by cases hi; exact (hs.tok j (fun e2 => h.n23 j e2 e) (h.t3.t j e)).2 rfl)⟩
theorem MD.tm (h : MD bs p q r4 r5 A o1 o2 o3 N L T st') {x : Tm} (hp : st2.mem p = some (.cells [.ptr q 0, tabD o1 1 (N.map .str), tabD o2 5 (L.map Lv.d), tabD (some j) 7 ((T ++ [x]).map szD)])) (hq : st2.mem q = some (.cells (rdC bs A' 0 0))) (hs : Stp (fun x => x = p ∨ x = q) o3 j st' st2) :
    MD bs p q r4 r5 A' o1 o2 (some j) N L (T ++ [x]) st2 := by
  obtain ⟨a1, a2, a3, a4, a5, a6⟩ := h.pne
  exact ⟨hs.mem _ (by simp [a1, a2]) _ h.m4, hs.mem _ (by simp [a3, a4]) _ h.m5, hp, hq, h.t1.mono fun i hi => (hs.tok i (fun e => h.n13 i hi e) (h.t1.t i hi)).1, h.t2.mono fun i hi => (hs.tok i (fun e => h.n23 i hi e) (h.t2.t i hi)).1, .mkS hs.tj,
    h.n12, fun i hi e => (by cases e; exact (hs.tok j (fun e2 => h.n13 j hi e2) (h.t1.t j hi)).2 rfl), fun i hi e => (by cases e; exact (hs.tok j (fun e2 => h.n23 j hi e2) (h.t2.t j hi)).2 rfl)⟩
end
end Go.Proofs.YtddbidoaolnegaaGreatDoor
/- Decode of a file of declarations: the walk. No statement of the seat is proved here; no condition. -/
namespace Go.Proofs.YtddbidoaolnegaaGreatDoor
open Go Go.RowKit
open Nat renaming reduceLT → zA, reduceEqDiff → zB, reduceBEq → zC, reduceAdd → zD, reduceMul → zE, reduceSub → zF, reduceLeDiff → zG, mul_one → zH, zero_add → zI, add_zero → zJ
open Int renaming toNat_natCast → zK, reduceAdd → zL, reduceLE → zM, reduceLT → zN, natCast_nonneg → zO
open Go.Proofs.YtddbidoaolnegaaGreatDoor renaming evI_plain → ya, evI_guard → yb, evT_rd → yc, evT_rdg → yd, evT_act → ye, evT_actg → yf, evI_done → yg, evT_two → yh, evT_nil → yi, W.seqG → yj, W.block → yk, W.regionI → yl, W.cond → ym, W.skip → yn, W.ret → yo, W.exit → yp, gdD_split → yq, newT_intro → yr, newB_intro → ys, W.draw → yt, St.set_del → yu, St.give_take → yv, AGo.go → yw, IGo.go → yx, TGo.go → yy, Goes.go → yz
attribute [local go_sem] zK zP zQ zH zI zJ zO
attribute [local irreducible] W evI evT evL evOp evBin gdD Sem newT newB fillD bldOf
set_option maxRecDepth 10000
set_option maxHeartbeats 4000000

section
variable {bs : List UInt8} {p q r4 r5 A A' : Nat} {o1 o2 o3 : Option Nat} {NN : List (List UInt8)} {L : List Lv} {T : List Tm} {st st' : St} {k : D → St → Prop}
theorem MD.go (h : MD bs p q r4 r5 A o1 o2 o3 NN L T st') : MD bs p q r4 r5 A' o1 o2 o3 NN L T (st'.set q (.cells (rdC bs A' 0 0))) := by
  obtain ⟨a1, a2, a3, a4, a5, a6⟩ := h.pne
  exact ⟨by rw [St.mem_set, if_neg a2]; exact h.m4, by rw [St.mem_set, if_neg a4]; exact h.m5, by rw [St.mem_set, if_neg a6]; exact h.mp, by rw [St.mem_set, if_pos rfl], ⟨h.t1.n, h.t1.t⟩, ⟨h.t2.n, h.t2.t⟩, ⟨h.t3.n, h.t3.t⟩, h.n12, h.n13, h.n23⟩

theorem tabD_flat (o : Option Nat) (z : Nat) (es : List D) : (tabD o z es).flat = true := by cases o <;> rfl
theorem tabD_fine (o : Option Nat) (z : Nat) (es : List D) : (tabD o z es).fine = true := by cases o <;> rfl
theorem tab_tup {o : Option Nat} {es : List D} {x : D} (h : Tab o es st') : CoeT (.tup [tabD o 15 es, x]) (.tup [.sl .frozen 15 es, x]) := by
  cases o with
  | none => exact CoeT.slT (Coe.tab h.n)
  | some j => exact CoeT.slT (Coe.tab h.n)

theorem sem11 {l : List De} {tb db : List UInt8} (hR : FileR bs l NN L T tb db) (ow : Own) (hk : ∀ st', k (.tup [.sl .frozen 15 (l.map De.d), .niliface]) st') : Sem P 11 [.sl ow 1 (byD bs)] st k := by
  have hbe := hR.eq
  have hnb := hR.nb
  have hl : bs.length < 1000000000 := by omega
  have hl4 : 4 ≤ bs.length := by rw [hbe]; simp
  have hne : bs ≠ [] := fun e => by rw [e] at hl4; simp at hl4
  have c1 : ¬ (262144 : Int) < bs.length := by omega
  have c2 : ¬ (bs.length : Int) < 4 := by omega
  have htk : List.take (Int.toNat 4) (byD bs) = byD [66, 84, 78, 49] := by rw [hbe]; rfl
  have c3 : (4 : Int) ≤ bs.length := by omega
  have hNN := hR.nN
  have hL := hR.nL
  have hT := hR.nT
  have hll := hR.nl
  have hd4 : bs.drop 4 = num NN.length ++ (nmB NN ++ (num L.length ++ (lvBs L ++ (num T.length ++ (tb ++ (num l.length ++ db)))))) := by rw [hbe]; rfl
  obtain ⟨n4, hd5⟩ := num_at hd4 (by omega) hl
  refine Sem.wk ?_
  refine Sem.of_body Tryz.call11 Tryz.func11 rfl Tryz.ntmps11 (by simp) ?_
  repeat' first | (refine W.rng (id := 6) (d := 32) (s := [66, 84, 78, 49]) Tryz.underlying9 rfl rfl rfl (by decide) fun ri hri => ?_) | refine yj fun N hN => ?_ | refine yk ?_ | refine yl [4, 5, 31] ?_ | ((first | refine ya rfl rfl fun N hN => ?_ | refine yb rfl rfl rfl rfl fun N hN => ?_ | refine ym ?_); simp only [go_sem, ↓reduceIte, zA, zB, zC, zD, zE, zF, zG, zL, zM, zN, reduceCtorEq, c1, c2, c3, htk, Tryz.results11]) | ((first | refine yg rfl ?_ | refine yn ?_); try simp only [go_sem]) | ((first | refine yx hN _ _ ?_ | refine yz hN _ _ ?_); clear hN N) | (refine sem30 bs hne hl _ _ _ _ fun q hq0 => ?_; try simp only [go_sem, ↓reduceIte, zA, zB, zC, zD, zE, zF, zG, zL, zM, zN, reduceCtorEq, c1, c2, c3, htk]) | ((refine ys fun r hr => ?_; (try have hrn := (St.set_none hr).1); (try have hrn2 := Ne.symm (St.set_none hr).1)); try simp only [go_sem, ↓reduceIte, zA, zB, zC, zD, zE, zF, zG, zL, zM, zN, reduceCtorEq, c1, c2, c3, htk]) | fail
  rename_i p hp0 hpq1 hpq2
  obtain ⟨r4, rfl⟩ : ∃ x, x = r := ⟨r, rfl⟩
  have hri1 := hri
  simp only [St.set_none_iff] at hri1
  have hr1 := hr
  simp only [St.set_none_iff] at hr1
  have hne1 : (p ≠ q ∧ q ≠ p) ∧ (r4 ≠ p ∧ p ≠ r4) ∧ (r4 ≠ q ∧ q ≠ r4) ∧ (ri ≠ r4 ∧ r4 ≠ ri) ∧ (ri ≠ p ∧ p ≠ ri) ∧ (ri ≠ q ∧ q ≠ ri) := ⟨⟨hpq1, hpq2⟩, hr1.1, hr1.2.1, hri1.1, hri1.2.1, hri1.2.2.1⟩
  refine W.loopN (fun m' fr' st' => ∃ i : Nat, i + m' = 5 ∧ i ≤ 4 ∧ fr' 32 = .ptr ri 0 ∧ fr' 4 = .ptr r4 0 ∧ st'.mem r4 = some (.cells [.ptr p 0]) ∧ st'.mem p = some (.cells [.ptr q 0, .sl .nil 0 [], .sl .nil 0 [], .sl .nil 0 []]) ∧ st'.mem q = some (.cells (rdC bs i 0 0)) ∧ st'.mem ri = some (.iter [66, 84, 78, 49] i)) ?_ 5 _ _
    ⟨0, rfl, by omega, by simp only [go_sem, ↓reduceIte, zA, zB, zC, zD, zE, zF, zG, zL, zM, zN, reduceCtorEq], by simp only [go_sem, ↓reduceIte, zA, zB, zC, zD, zE, zF, zG, zL, zM, zN, reduceCtorEq], by simp only [go_sem, ↓reduceIte, zA, zB, zC, zD, zE, zF, zG, zL, zM, zN, reduceCtorEq, hne1], by simp only [go_sem, ↓reduceIte, zA, zB, zC, zD, zE, zF, zG, zL, zM, zN, reduceCtorEq, hne1], by simp only [go_sem, ↓reduceIte, zA, zB, zC, zD, zE, zF, zG, zL, zM, zN, reduceCtorEq, hne1]; rfl, by simp only [go_sem, ↓reduceIte, zA, zB, zC, zD, zE, zF, zG, zL, zM, zN, reduceCtorEq, hne1]⟩
  clear hr hri hp0 hri1 hr1 hq0 hpq1 hpq2 hrn hrn2
  rintro m' N' ih fr' st' ⟨i, hi, hi4, f32, f4, mr, mp, mq, mi⟩
  refine W.seqG fun N2 hN2 => ?_
  refine W.nxt (id := 7) (d := 33) (d2 := 34) (s0 := 32) rfl rfl rfl rfl rfl rfl (by decide) f32 mi (by decide) (fun hlt => ?_) (fun hge => ?_)
  · refine Goes.go hN2 _ _ ?_
    clear hN2 N2
    have hlt4 : i < 4 := hlt
    obtain ⟨c, rest, hdr⟩ : ∃ c rest, bs.drop i = c :: rest := by
      cases hd : bs.drop i with
      | nil => exact absurd (List.drop_eq_nil_iff.1 hd) (by omega)
      | cons c rest => exact ⟨c, rest, rfl⟩
    repeat' first | refine yj fun N hN => ?_ | refine yk ?_ | refine yl [4, 5, 31] ?_ | ((first | refine ya rfl rfl fun N hN => ?_ | refine ym ?_); simp only [go_sem, ↓reduceIte, zA, zB, zC, zD, zE, zF, zG, zL, zM, zN, reduceCtorEq, f32, f4, mr, mp, hne1, Tryz.results11]) | ((first | refine yg rfl ?_ | refine yn ?_); try simp only [go_sem]) | ((first | refine yx hN _ _ ?_ | refine yz hN _ _ ?_); clear hN N) | (refine sem31 bs i 0 c rest q _ _ (Int.natCast_nonneg i) (by omega) hl (by simp only [go_sem, ↓reduceIte, zA, zB, zC, zD, zE, zF, zG, zL, zM, zN, reduceCtorEq, mq, hne1]) (by rw [Int.toNat_natCast]; exact hdr) ?_; try simp only [go_sem, ↓reduceIte, zA, zB, zC, zD, zE, zF, zG, zL, zM, zN, reduceCtorEq, f32, f4, mr, mp, hne1]) | clear hN N | fail
    refine ih.back (m' - 1) (by omega) _ _ ⟨i + 1, by omega, by omega, by simp only [go_sem, ↓reduceIte, zA, zB, zC, zD, zE, zF, zG, zL, zM, zN, reduceCtorEq, f32], by simp only [go_sem, ↓reduceIte, zA, zB, zC, zD, zE, zF, zG, zL, zM, zN, reduceCtorEq, f4], by simp only [go_sem, ↓reduceIte, zA, zB, zC, zD, zE, zF, zG, zL, zM, zN, reduceCtorEq, mr, hne1], by simp only [go_sem, ↓reduceIte, zA, zB, zC, zD, zE, zF, zG, zL, zM, zN, reduceCtorEq, mp, hne1], by simp only [go_sem, ↓reduceIte, zA, zB, zC, zD, zE, zF, zG, zL, zM, zN, reduceCtorEq]; rfl, by simp only [go_sem, ↓reduceIte, zA, zB, zC, zD, zE, zF, zG, zL, zM, zN, reduceCtorEq, hne1]⟩
  · obtain rfl : i = 4 := by
      have : ¬ i < 4 := hge
      omega
    refine Goes.go hN2 _ _ ?_
    clear hN2 N2 ih
    have mq4 : st'.mem q = some (.cells (rdC bs (4 : Nat) 0 0)) := mq
    have nb : True := trivial
    repeat' first | refine yj fun N hN => ?_ | refine yl [4, 5, 31] ?_ | ((first | refine ya rfl rfl fun N hN => ?_ | refine ym ?_ | refine yp ?_); simp only [go_sem, ↓reduceIte, zA, zB, zC, zD, zE, zF, zG, zL, zM, zN, reduceCtorEq, f32, f4, mr, mp, hne1, nb, Tryz.results11]) | (refine yg rfl ?_; try simp only [go_sem]) | ((first | refine yx hN _ _ ?_ | refine yz hN _ _ ?_); clear hN N) | ((refine ys fun r hr => ?_; (have hr1 := hr; try simp only [St.set_none_iff, St.mem_give, St.mem_take] at hr1); (first | have nbq := mem_ne mr hr1 | have nbq := mem_ne mr hr1.2 | have nbq := mem_ne mr hr1.2.2 | have nbq := mem_ne mr hr1.2.2.2 | have nbq := mem_ne mr hr1.2.2.2.2); have nb := And.intro nb nbq; (first | have nbq := mem_ne mp hr1 | have nbq := mem_ne mp hr1.2 | have nbq := mem_ne mp hr1.2.2 | have nbq := mem_ne mp hr1.2.2.2 | have nbq := mem_ne mp hr1.2.2.2.2); have nb := And.intro nb nbq; (first | have nbq := mem_ne mq4 hr1 | have nbq := mem_ne mq4 hr1.2 | have nbq := mem_ne mq4 hr1.2.2 | have nbq := mem_ne mq4 hr1.2.2.2 | have nbq := mem_ne mq4 hr1.2.2.2.2); have nb := And.intro nb nbq; have nb := And.intro nb hr1); try simp only [go_sem, ↓reduceIte, zA, zB, zC, zD, zE, zF, zG, zL, zM, zN, reduceCtorEq, f32, f4, mr, mp, hne1, nb]) | clear hN N | fail
    have hM : MD bs p q r4 r 4 none none none [] [] [] (st'.set r (.cells [.sl .nil 0 []])) := ⟨by simp only [go_sem, ↓reduceIte, zA, zB, zC, zD, zE, zF, zG, zL, zM, zN, reduceCtorEq, mr, nb], by simp only [go_sem, ↓reduceIte, zA, zB, zC, zD, zE, zF, zG, zL, zM, zN, reduceCtorEq], by simp only [go_sem, ↓reduceIte, zA, zB, zC, zD, zE, zF, zG, zL, zM, zN, reduceCtorEq, mp, nb, tabD], by simp only [go_sem, ↓reduceIte, zA, zB, zC, zD, zE, zF, zG, zL, zM, zN, reduceCtorEq, mq4, nb], .mkN _, .mkN _, .mkN _, by simp, by simp, by simp⟩
    generalize st'.set r (.cells [.sl .nil 0 []]) = S1 at hM ⊢
    clear mr mp mq mq4 mi f32 hr nb hne1
    refine sem32 n4 4096 hNN (by decide) hl hM.mp hM.mq 33 [] [.ptr r4 0] rfl rfl (fun i st' => ∃ o1 A, bs.drop A = nmB (NN.drop i) ++ (num L.length ++ (lvBs L ++ (num T.length ++ (tb ++ (num l.length ++ db))))) ∧ MD bs p q r4 r A o1 none none (NN.take i) [] [] st')
      ⟨none, _, hd5, hM.go⟩ (fun i st2 hi2 ⟨o1, A, g1, hM2⟩ => ⟨⟨_, 0, _, _, _, hM2.mp, hM2.mq⟩, ?_⟩) (fun st2 ⟨o1, A, g1, hM2⟩ => ?_)
    · rw [drop_getD NN [] hi2, nmB, List.flatMap_cons, ← nmB, List.append_assoc, List.append_assoc] at g1
      have hx := hR.nm _ (getD_mem NN [] hi2)
      obtain ⟨k1, k2⟩ := num_at g1 (by have := name_len hx; omega) hl
      refine sem33 k1 k2 hx hl hM2.m4 hM2.t1 (by rw [List.length_map, List.length_take]; omega) hM2.mp hM2.mq (fun j st3 e1 e2 e3 => ⟨some j, A + ((num (NN.getD i []).length).length + (NN.getD i []).length), by rw [← Nat.add_assoc]; exact drop_past k2, ?_⟩)
      rw [take_getD _ [] hi2]
      exact hM2.nm e1 e2 e3
    rw [List.take_of_length_le (Nat.le_refl _)] at hM2
    rw [List.drop_length] at g1
    replace g1 : bs.drop A = num L.length ++ (lvBs L ++ (num T.length ++ (tb ++ (num l.length ++ db)))) := g1
    obtain ⟨n5, hd6⟩ := num_at g1 (by omega) hl
    have m4 := hM2.m4
    repeat' first | refine yj fun N hN => ?_ | refine yl [4, 5, 31] ?_ | (refine ya rfl rfl fun N hN => ?_; simp only [go_sem, ↓reduceIte, zA, zB, zC, zD, zE, zF, zG, zL, zM, zN, reduceCtorEq, f4, m4, Tryz.results11]) | (refine yg rfl ?_; try simp only [go_sem]) | ((first | refine yx hN _ _ ?_ | refine yz hN _ _ ?_); clear hN N) | fail
    refine sem32 n5 4096 hL (by decide) hl hM2.mp hM2.mq 35 [.ptr p 0] [] rfl rfl (fun i st' => ∃ o2 A, bs.drop A = lvBs (L.drop i) ++ (num T.length ++ (tb ++ (num l.length ++ db))) ∧ MD bs p q r4 r A o1 o2 none NN (L.take i) [] st')
      ⟨none, _, hd6, hM2.go⟩ (fun i st2 hi2 ⟨o2, A, g1, hM2⟩ => ⟨⟨_, 0, _, _, _, hM2.mp, hM2.mq⟩, ?_⟩) (fun st2 ⟨o2, A, g1, hM2⟩ => ?_)
    · rw [drop_getD L Lv.z hi2, lvBs, List.flatMap_cons, ← lvBs, List.append_assoc] at g1
      have hx := hR.lv _ (getD_mem L Lv.z hi2)
      refine sem35 g1 hx hl hM2.t2 (by rw [List.length_map, List.length_take]; omega) hM2.mp hM2.mq (fun j st3 e1 e2 e3 => ⟨some j, _, drop_past g1, ?_⟩)
      rw [take_getD _ Lv.z hi2]
      exact hM2.lv e1 e2 e3
    clear hM
    rename_i hM2o _ _ _ _
    clear m4
    rw [List.take_of_length_le (Nat.le_refl _)] at hM2
    rw [List.drop_length] at g1
    replace g1 : bs.drop A = num T.length ++ (tb ++ (num l.length ++ db)) := g1
    obtain ⟨n6, hd7⟩ := num_at g1 (by omega) hl
    have m4 := hM2.m4
    repeat' first | refine yj fun N hN => ?_ | refine yl [4, 5, 31] ?_ | (refine ya rfl rfl fun N hN => ?_; simp only [go_sem, ↓reduceIte, zA, zB, zC, zD, zE, zF, zG, zL, zM, zN, reduceCtorEq, f4, m4, Tryz.results11]) | (refine yg rfl ?_; try simp only [go_sem]) | ((first | refine yx hN _ _ ?_ | refine yz hN _ _ ?_); clear hN N) | fail
    refine sem32 n6 65536 hT (by decide) hl hM2.mp hM2.mq 36 [.ptr p 0] [] rfl rfl (fun i st' => ∃ o3 A b, bs.drop A = b ++ (num l.length ++ db) ∧ TermsB NN L (T.take i) (T.drop i) b ∧ MD bs p q r4 r A o1 o2 o3 NN L (T.take i) st')
      ⟨none, _, tb, hd7, hR.tb, hM2.go⟩ (fun i st2 hi2 ⟨o3, A, b, g1, g2, hM2⟩ => ⟨⟨_, 0, _, _, _, hM2.mp, hM2.mq⟩, ?_⟩) (fun st2 ⟨o3, A, b, g1, g2, hM2⟩ => ?_)
    · rw [drop_getD T Tm.z hi2] at g2
      obtain ⟨iN, iLs, iTs, b', rfl, g3, g4⟩ := g2
      obtain ⟨h1, h2, h3⟩ := hR.tm _ (getD_mem T Tm.z hi2)
      rw [List.cons_append, List.append_assoc] at g1
      have hln : (T.take i).length ≤ T.length := by rw [List.length_take]; omega
      refine sem36 (T.getD i Tm.z) rfl g1 g3 (g3.bound h1 (by omega) (by omega) (by omega)) h1 h2 h3 hl hM2.t1 hM2.t2 hM2.t3 (by omega) (by omega) (by omega) rfl rfl rfl hM2.mp hM2.mq (fun j st3 e1 e2 e3 => ⟨some j, A + 1 + (nums (fldN (T.getD i Tm.z) iN ++ iLs ++ iTs)).length, b', ?_, ?_, ?_⟩)
      · have : bs.drop (A + 1) = nums (fldN (T.getD i Tm.z) iN ++ iLs ++ iTs) ++ (b' ++ (num l.length ++ db)) := by rw [← List.drop_drop, g1]; rfl
        exact drop_past this
      · rw [take_getD _ Tm.z hi2]; exact g4
      · rw [take_getD _ Tm.z hi2]; exact hM2.tm e1 e2 e3
    clear m4
    rw [List.take_of_length_le (Nat.le_refl _)] at hM2
    rw [List.drop_length] at g2
    obtain rfl : b = [] := g2
    replace g1 : bs.drop A = num l.length ++ db := g1
    obtain ⟨n7, hd8⟩ := num_at g1 (by omega) hl
    have m4 := hM2.m4
    repeat' first | refine yj fun N hN => ?_ | refine yl [4, 5, 31] ?_ | (refine ya rfl rfl fun N hN => ?_; simp only [go_sem, ↓reduceIte, zA, zB, zC, zD, zE, zF, zG, zL, zM, zN, reduceCtorEq, f4, m4, Tryz.results11]) | (refine yg rfl ?_; try simp only [go_sem]) | ((first | refine yx hN _ _ ?_ | refine yz hN _ _ ?_); clear hN N) | fail
    refine sem32 n7 256 hll (by decide) hl hM2.mp hM2.mq 37 [] [.ptr r 0, .ptr r4 0] rfl rfl (fun i st' => ∃ o A b, bs.drop A = b ∧ DecsB NN T (l.drop i) b ∧ A ≤ bs.length ∧ MB bs ⟨fun _ => none, fun _ => false⟩ p q (tabD o1 1 (NN.map .str)) (tabD o2 5 (L.map Lv.d)) (tabD o3 7 (T.map szD)) 0 r4 r A [] o 15 ((l.take i).map De.d) st')
      ⟨none, _, db, hd8, hR.db, n7.le, hM2.go.m4, hM2.go.m5, hM2.go.mp, hM2.go.mq, fun _ _ _ h => (by cases h), fun _ h => (by cases h), .mkN _⟩ (fun i st3 hi2 ⟨o, A, b, g1, g2, gA, hB⟩ => ⟨⟨_, 0, _, _, _, hB.mp, hB.mq⟩, ?_⟩) (fun st3 ⟨o, A, b, g1, g2, gA, hB⟩ => ?_)
    · rw [drop_getD l De.z hi2] at g2
      obtain ⟨ns, b', rfl, g3, g4⟩ := g2
      have hdb := hR.de _ (getD_mem l De.z hi2)
      obtain ⟨ne1, ne3⟩ := g3.ne hdb
      obtain ⟨ow1, w1⟩ := hM2.t1.cons (z := 1) (fun e => ne1 (List.map_eq_nil_iff.1 e))
      obtain ⟨ow3, w3⟩ := hM2.t3.cons (z := 7) (fun e => ne3 (List.map_eq_nil_iff.1 e))
      have mp1 := hB.mp
      rw [w1, w3] at mp1
      have hlen : (l.take i).length ≤ l.length := by rw [List.length_take]; omega
      refine sem37 g1 g3 hdb hl (by omega) (by omega) hB.m1 hB.mb hB.tb (by rw [List.length_map]; omega) mp1 hB.mq (fun jt st4 e1 e2 e3 => ⟨some jt, A + 1 + (nums ns).length, b', ?_, g4, ?_, ?_⟩)
      · have : bs.drop (A + 1) = nums ns ++ b' := by rw [← List.drop_drop, g1]; rfl
        exact drop_past this
      · have : (bs.drop A).length = (UInt8.ofNat (l.getD i De.z).kind :: (nums ns ++ b')).length := by rw [g1]
        simp only [List.length_drop, List.length_cons, List.length_append] at this
        omega
      · rw [take_getD _ De.z hi2, List.map_append]
        exact hB.step (by simp) e1 e2 e3
    rw [List.take_of_length_le (Nat.le_refl _)] at hB
    rw [List.drop_length] at g2
    obtain rfl : b = [] := g2
    have hA : A = bs.length := by have := List.drop_eq_nil_iff.1 g1; omega
    have m1 := hB.m1
    have mb := hB.mb
    have mp := hB.mp
    have mq := hB.mq
    simp only [List.nil_append] at mb
    have hlt0 : ((bs.length : Nat) : Int) - ((A : Nat) : Int) = 0 := by omega
    have hAl : (A : Int) ≤ bs.length := by omega
    repeat' first | refine yj fun N hN => ?_ | refine yl [4, 5, 31] ?_ | ((first | refine ya rfl rfl fun N hN => ?_ | refine ym ?_ | refine yo ?_); simp only [go_sem, ↓reduceIte, zA, zB, zC, zD, zE, zF, zG, zL, zM, zN, reduceCtorEq, f4, m1, mb, mp, hlt0, Int.lt_irrefl, tabD_flat, tabD_fine, Tryz.results11]) | ((first | refine yg rfl ?_ | refine yn ?_); try simp only [go_sem]) | ((first | refine yx hN _ _ ?_ | refine yz hN _ _ ?_); clear hN N) | (refine sem39 (bs := bs) (a := (A : Nat)) (b := 0) (s := 0) mq (Int.natCast_nonneg A) hAl hl ?_; try simp only [go_sem, ↓reduceIte, zA, zB, zC, zD, zE, zF, zG, zL, zM, zN, reduceCtorEq, f4, m1, mb, mp, hlt0, Int.lt_irrefl, tabD_flat, tabD_fine]) | (refine sem42 (bs := bs) (a := (A : Nat)) (b := 0) (s := 0) mq ?_; try simp only [go_sem, ↓reduceIte, zA, zB, zC, zD, zE, zF, zG, zL, zM, zN, reduceCtorEq, f4, m1, mb, mp, hlt0, Int.lt_irrefl, tabD_flat, tabD_fine]) | fail
    exact ⟨_, _, tab_tup hB.tb, Wk.refl _, hk _⟩
end
end Go.Proofs.YtddbidoaolnegaaGreatDoor
/- What Encode writes is a file of its declarations: plain. No statement of the seat is proved here; no condition. -/
namespace Go.Proofs.YtddbidoaolnegaaGreatDoor
open Go Go.RowKit
set_option maxRecDepth 10000
set_option maxHeartbeats 1000000

theorem foldl_addU_pre {α : Type} : ∀ (ls l : List α), ∃ m, ls.foldl addU l = l ++ m
  | [], l => ⟨[], by simp⟩
  | x :: ls, l => by
    obtain ⟨m, hm⟩ := foldl_addU_pre ls (addU l x)
    by_cases h : x ∈ l
    · exact ⟨m, by rw [List.foldl_cons, hm, addU_mem h]⟩
    · exact ⟨x :: m, by rw [List.foldl_cons, hm, addU_new h]; simp⟩
theorem foldl_addU_mem {α : Type} : ∀ (ls l : List α), ∀ x ∈ ls, x ∈ ls.foldl addU l
  | y :: ls, l, x, h => by
    rw [List.foldl_cons]
    rcases List.mem_cons.1 h with rfl | h
    · obtain ⟨m, hm⟩ := foldl_addU_pre ls (addU l x)
      rw [hm]; exact List.mem_append_left _ (mem_addU l x)
    · exact foldl_addU_mem ls _ x h
theorem addU_all {α : Type} {q : α → Prop} {l : List α} {x : α} (h : ∀ y ∈ l, q y) (hx : q x) : ∀ y ∈ addU l x, q y := by
  by_cases hm : x ∈ l
  · rw [addU_mem hm]; exact h
  · rw [addU_new hm]; intro y hy
    rcases List.mem_append.1 hy with hy | hy
    · exact h y hy
    · rw [List.mem_singleton.1 hy]; exact hx
theorem addU_pre {α : Type} (l : List α) (x : α) : ∃ m, addU l x = l ++ m := by
  by_cases hm : x ∈ l
  · exact ⟨[], by rw [addU_mem hm]; simp⟩
  · exact ⟨[x], addU_new hm⟩
theorem foldl_addU_all {α : Type} {q : α → Prop} : ∀ {ls l : List α}, (∀ y ∈ l, q y) → (∀ y ∈ ls, q y) → ∀ y ∈ ls.foldl addU l, q y
  | [], l, h, _ => h
  | x :: ls, l, h, h2 => by
    rw [List.foldl_cons]
    exact foldl_addU_all (addU_all h (h2 x (by simp))) fun y hy => h2 y (by simp [hy])

/-- The tables of one are the beginning of the other's. -/
structure En.Le (e f : En) : Prop where
  n : ∃ m, f.names = e.names ++ m
  l : ∃ m, f.levels = e.levels ++ m
  t : ∃ m, f.terms = e.terms ++ m
theorem En.Le.refl (e : En) : e.Le e := ⟨⟨[], by simp⟩, ⟨[], by simp⟩, ⟨[], by simp⟩⟩
theorem En.Le.trans {e f g : En} (h : e.Le f) (k : f.Le g) : e.Le g := by
  obtain ⟨⟨a, ha⟩, ⟨b, hb⟩, ⟨c, hc⟩⟩ := h
  obtain ⟨⟨a', ha'⟩, ⟨b', hb'⟩, ⟨c', hc'⟩⟩ := k
  exact ⟨⟨a ++ a', by rw [ha', ha, List.append_assoc]⟩, ⟨b ++ b', by rw [hb', hb, List.append_assoc]⟩, ⟨c ++ c', by rw [hc', hc, List.append_assoc]⟩⟩

theorem EntN.mono {N : List (List UInt8)} {L : List Lv} {T : List Tm} {t : Tm} {iN : Nat} {iLs iTs : List Nat} (h : EntN N L T t iN iLs iTs) (a : List (List UInt8)) (b : List Lv) : EntN (N ++ a) (L ++ b) T t iN iLs iTs :=
  ⟨fun hk => by obtain ⟨x, y⟩ := h.name hk; exact ⟨by rw [List.length_append]; omega, by rw [getD_appl _ _ _ x, y]⟩, h.ll,
    fun i hi => by obtain ⟨x, y⟩ := h.l i hi; exact ⟨by rw [List.length_append]; omega, by rw [getD_appl _ _ _ x, y]⟩, h.tl, h.t⟩
theorem TermsB.mono {N : List (List UInt8)} {L : List Lv} (a : List (List UInt8)) (b : List Lv) : ∀ {rem done : List Tm} {bs : List UInt8}, TermsB N L done rem bs → TermsB (N ++ a) (L ++ b) done rem bs
  | [], _, _, h => h
  | t :: rem, done, bs, h => by
    obtain ⟨iN, iLs, iTs, b', h1, h2, h3⟩ := h
    exact ⟨iN, iLs, iTs, b', h1, h2.mono a b, TermsB.mono a b h3⟩
theorem TermsB.snoc {N : List (List UInt8)} {L : List Lv} {t : Tm} {iN : Nat} {iLs iTs : List Nat} : ∀ {rem done : List Tm} {bs : List UInt8}, TermsB N L done rem bs → EntN N L (done ++ rem) t iN iLs iTs →
    TermsB N L done (rem ++ [t]) (bs ++ (UInt8.ofNat t.k :: nums (fldN t iN ++ iLs ++ iTs)))
  | [], done, bs, h, he => by
    obtain rfl : bs = [] := h
    rw [List.append_nil] at he
    exact ⟨iN, iLs, iTs, [], by simp, he, rfl⟩
  | x :: rem, done, bs, h, he => by
    obtain ⟨jN, jLs, jTs, b', rfl, h2, h3⟩ := h
    refine ⟨jN, jLs, jTs, b' ++ (UInt8.ofNat t.k :: nums (fldN t iN ++ iLs ++ iTs)), by simp, h2, TermsB.snoc h3 (by rw [List.append_assoc]; exact he)⟩

/-- A term that may be declared. -/
structure TOk (t : Tm) : Prop where
  all : t.all nodeB = true
  size : t.size ≤ 4096
  deep : t.deep ≤ 256
  lvs : lvsB t = true
theorem TOk.of {t : Tm} (h : termB t = true) : TOk t := by
  simp only [termB, Bool.and_eq_true, decide_eq_true_eq] at h
  exact ⟨h.1.1.1, h.1.1.2, h.1.2, h.2⟩
theorem TOk.node {t : Tm} (h : TOk t) : nodeB t = true := by
  have := h.all
  rw [Tm.all_eq, Bool.and_eq_true] at this
  exact this.1
theorem TOk.ls {t : Tm} (h : TOk t) : ∀ l ∈ t.ls, lvD l = true := by
  have := h.lvs
  rw [lvsB_eq, Bool.and_eq_true, List.all_eq_true] at this
  exact this.1
theorem deeps_mem : ∀ {ts : List Tm} {t : Tm}, t ∈ ts → t.deep ≤ Tm.deeps ts
  | x :: ts, t, h => by
    rw [Tm.deeps]
    rcases List.mem_cons.1 h with rfl | h
    · omega
    · have := deeps_mem h; omega
theorem TOk.kid {t x : Tm} (h : TOk t) (hx : x ∈ t.ts) : TOk x := by
  have h1 := h.all
  have h2 := h.size
  have h3 := h.deep
  have h4 := h.lvs
  rw [Tm.all_eq, Bool.and_eq_true, Tm.alls_all, List.all_eq_true] at h1
  rw [Tm.size_eq] at h2
  rw [Tm.deep_eq] at h3
  rw [lvsB_eq, Bool.and_eq_true, lvssB_all, List.all_eq_true] at h4
  have a1 := Tm.sizes_mem hx
  have a2 := deeps_mem hx
  exact ⟨h1.2 x hx, by omega, by omega, List.all_eq_true.1 h4.2 x hx⟩

/-- Tables that are in order. -/
structure OkE (e : En) : Prop where
  nm : ∀ x ∈ e.names, nameB x = true
  lv : ∀ x ∈ e.levels, lvD x = true
  tm : ∀ t ∈ e.terms, nodeB t = true ∧ t.size ≤ 4096 ∧ t.deep ≤ 256
  tb : TermsB e.names e.levels [] e.terms e.tb
theorem OkE.z : OkE En.z := ⟨by simp [En.z], by simp [En.z], by simp [En.z], rfl⟩
theorem OkE.db {e : En} (h : OkE e) (b : List UInt8) : OkE { e with db := b } := ⟨h.nm, h.lv, h.tm, h.tb⟩

theorem nodeBy_eq (e : En) (t : Tm) : nodeBy e t = UInt8.ofNat t.k :: nums (fldN t (pos e.names t.s) ++ t.ls.map (pos e.levels) ++ t.ts.map (pos e.terms)) := by
  unfold nodeBy fldN
  simp only [nums, List.flatMap_append, List.flatMap_map]
  congr 3
  split
  · simp
  · split
    · simp
    · split <;> simp
theorem node_names {e : En} {t : Tm} (h : t.k = 3 ∨ t.k = 8) : t.s ∈ (e.node t).names := by
  show t.s ∈ (e.nodeN t).names
  rw [En.nodeN, if_pos h]
  exact mem_addU _ _
theorem getD_map' {α β : Type} (f : α → β) (l : List α) (a : α) (b : β) {i : Nat} (h : i < l.length) : (l.map f).getD i b = f (l.getD i a) := by
  simp [List.getD_eq_getElem?_getD, List.getElem?_map, List.getElem?_eq_getElem h]

theorem OkE.put {e : En} {t : Tm} (h : OkE e) (ht : TOk t) (hk : ∀ x ∈ t.ts, x ∈ e.terms) : OkE (e.putT t) ∧ e.Le (e.putT t) := by
  have hN : (∀ x ∈ (e.nodeN t).names, nameB x = true) ∧ ∃ m, (e.nodeN t).names = e.names ++ m := by
    rw [En.nodeN]
    split
    · rename_i hk
      have hn := ht.node
      simp only [nodeB, Bool.and_eq_true] at hn
      have hs := hn.1.1.2
      rw [if_pos hk] at hs
      exact ⟨addU_all h.nm hs, addU_pre _ _⟩
    · exact ⟨h.nm, [], by simp⟩
  have hL : ∃ m, (e.node t).levels = e.levels ++ m := by
    have : (e.node t).levels = t.ls.foldl addU e.levels := by
      rw [En.node, En.lvs, En.nodeN]; split <;> rfl
    rw [this]; exact foldl_addU_pre _ _
  have hLe : (e.node t).levels = t.ls.foldl addU e.levels := by
    rw [En.node, En.lvs, En.nodeN]; split <;> rfl
  have hNe : (e.node t).names = (e.nodeN t).names := rfl
  have hTe : (e.node t).terms = e.terms := by rw [En.node, En.lvs, En.nodeN]; split <;> rfl
  have hBe : (e.node t).tb = e.tb := by rw [En.node, En.lvs, En.nodeN]; split <;> rfl
  refine ⟨⟨hN.1, ?_, fun x hx => ?_, ?_⟩, ⟨hN.2, hL, ⟨[t], rfl⟩⟩⟩
  · show ∀ x ∈ (e.node t).levels, _
    rw [hLe]
    exact foldl_addU_all h.lv ht.ls
  · rcases List.mem_append.1 (show x ∈ e.terms ++ [t] from hx) with hx | hx
    · exact h.tm x hx
    · rw [List.mem_singleton.1 hx]; exact ⟨ht.node, ht.size, ht.deep⟩
  · show TermsB (e.node t).names (e.node t).levels [] (e.terms ++ [t]) (e.tb ++ nodeBy (e.node t) t)
    rw [nodeBy_eq]
    obtain ⟨a, ha⟩ := hN.2
    obtain ⟨b, hb⟩ := hL
    have h0 := TermsB.mono a b h.tb
    rw [← ha, ← hb] at h0
    refine TermsB.snoc (rem := e.terms) (done := []) h0 ⟨fun hk => ?_, by simp, fun i hi => ?_, by simp, fun i hi => ?_⟩
    · have hm := node_names (e := e) hk
      exact ⟨pos_lt hm, pos_getD _ hm⟩
    · rw [getD_map' _ _ Lv.z _ hi]
      have hm : t.ls.getD i Lv.z ∈ (e.node t).levels := by rw [hLe]; exact foldl_addU_mem _ _ _ (getD_mem _ _ hi)
      exact ⟨pos_lt hm, pos_getD _ hm⟩
    · rw [getD_map' _ _ Tm.z _ hi, hTe, List.nil_append]
      have hm := hk _ (getD_mem t.ts Tm.z hi)
      exact ⟨pos_lt hm, pos_getD _ hm⟩

mutual
theorem OkE.term : ∀ (t : Tm) {e : En}, OkE e → TOk t → OkE (termE t e) ∧ e.Le (termE t e)
  | .mk k n s ls ts, e, h, ht => by
    by_cases hm : Tm.mk k n s ls ts ∈ e.terms
    · rw [termE_old hm]; exact ⟨h, .refl _⟩
    · rw [termE_new hm]
      obtain ⟨h1, h2, h3⟩ := OkE.kids ts h fun x hx => ht.kid hx
      obtain ⟨h4, h5⟩ := OkE.put h1 ht h3
      exact ⟨h4, h2.trans h5⟩
theorem OkE.kids : ∀ (ts : List Tm) {e : En}, OkE e → (∀ x ∈ ts, TOk x) → OkE (kidsE ts e) ∧ e.Le (kidsE ts e) ∧ ∀ x ∈ ts, x ∈ (kidsE ts e).terms
  | [], e, h, _ => by rw [kidsE]; exact ⟨h, .refl _, by simp⟩
  | t :: ts, e, h, ht => by
    rw [kidsE]
    obtain ⟨h1, h2⟩ := OkE.term t h (ht t (by simp))
    obtain ⟨h3, h4, h5⟩ := OkE.kids ts h1 fun x hx => ht x (by simp [hx])
    refine ⟨h3, h2.trans h4, fun x hx => ?_⟩
    rcases List.mem_cons.1 hx with rfl | hx
    · obtain ⟨m, hm⟩ := h4.t
      rw [hm]; exact List.mem_append_left _ (termE_mem x e)
    · exact h5 x hx
end
mutual
theorem termE_db : ∀ (t : Tm) (e : En), (termE t e).db = e.db
  | .mk k n s ls ts, e => by
    by_cases hm : Tm.mk k n s ls ts ∈ e.terms
    · rw [termE_old hm]
    · rw [termE_new hm]
      have := kidsE_db ts e
      rw [← this]
      show ((kidsE ts e).node (.mk k n s ls ts)).db = _
      rw [En.node, En.lvs, En.nodeN]; split <;> rfl
theorem kidsE_db : ∀ (ts : List Tm) (e : En), (kidsE ts e).db = e.db
  | [], e => by rw [kidsE]
  | t :: ts, e => by rw [kidsE, kidsE_db ts, termE_db t]
end

theorem RefN.mono {N : List (List UInt8)} {i : Nat} {s : List UInt8} (h : RefN N i s) (a : List (List UInt8)) : RefN (N ++ a) i s := ⟨by have := h.1; rw [List.length_append]; omega, by rw [getD_appl _ _ _ h.1]; exact h.2⟩
theorem RefT.mono {N : List Tm} {i : Nat} {s : Tm} (h : RefT N i s) (a : List Tm) : RefT (N ++ a) i s := ⟨by have := h.1; rw [List.length_append]; omega, by rw [getD_appl _ _ _ h.1]; exact h.2⟩
theorem CtsN.mono {N : List (List UInt8)} {T : List Tm} (a : List (List UInt8)) (b : List Tm) : ∀ {cs : List Cc} {ns : List Nat}, CtsN N T cs ns → CtsN (N ++ a) (T ++ b) cs ns
  | [], _, h => h
  | c :: cs, ns, h => by
    obtain ⟨i, j, r, h1, h2, h3, h4⟩ := h
    exact ⟨i, j, r, h1, h2.mono a, h3.mono b, CtsN.mono a b h4⟩
theorem IndN.mono {N : List (List UInt8)} {T : List Tm} (a : List (List UInt8)) (b : List Tm) {x : In} {ns : List Nat} (h : IndN N T x ns) : IndN (N ++ a) (T ++ b) x ns := by
  obtain ⟨i, j, r, h1, h2, h3, h4⟩ := h
  exact ⟨i, j, r, h1, h2.mono a, h3.mono b, CtsN.mono a b h4⟩
theorem IndsN.mono {N : List (List UInt8)} {T : List Tm} (a : List (List UInt8)) (b : List Tm) : ∀ {xs : List In} {ns : List Nat}, IndsN N T xs ns → IndsN (N ++ a) (T ++ b) xs ns
  | [], _, h => h
  | x :: xs, ns, h => by
    obtain ⟨c, d, h1, h2, h3⟩ := h
    exact ⟨c, d, h1, h2.mono a b, IndsN.mono a b h3⟩
theorem DecN.mono {N : List (List UInt8)} {T : List Tm} (a : List (List UInt8)) (b : List Tm) {d : De} {ns : List Nat} (h : DecN N T d ns) : DecN (N ++ a) (T ++ b) d ns := by
  obtain ⟨r, h1, h2⟩ := h
  refine ⟨r, h1, ?_⟩
  split
  · rename_i k4
    rw [if_pos k4] at h2
    obtain ⟨r2, h3, h4⟩ := h2
    exact ⟨r2, h3, IndsN.mono a b h4⟩
  · rename_i k4
    rw [if_neg k4] at h2
    obtain ⟨i, j, h3, h4, h5⟩ := h2
    refine ⟨i, j, h3.mono a, h4.mono b, ?_⟩
    split
    · rename_i k1
      rw [if_pos k1] at h5; exact h5
    · rename_i k1
      rw [if_neg k1] at h5
      obtain ⟨l, h6, h7⟩ := h5
      exact ⟨l, h6.mono b, h7⟩
theorem DecsB.mono {N : List (List UInt8)} {T : List Tm} (a : List (List UInt8)) (b : List Tm) : ∀ {l : List De} {bs : List UInt8}, DecsB N T l bs → DecsB (N ++ a) (T ++ b) l bs
  | [], _, h => h
  | d :: l, bs, h => by
    obtain ⟨ns, b', h1, h2, h3⟩ := h
    exact ⟨ns, b', h1, h2.mono a b, DecsB.mono a b h3⟩
theorem DecsB.snoc {N : List (List UInt8)} {T : List Tm} {d : De} {ns : List Nat} (hd : DecN N T d ns) : ∀ {l : List De} {bs : List UInt8}, DecsB N T l bs → DecsB N T (l ++ [d]) (bs ++ (UInt8.ofNat d.kind :: nums ns))
  | [], bs, h => by
    obtain rfl : bs = [] := h
    exact ⟨ns, [], by simp, hd, rfl⟩
  | x :: l, bs, h => by
    obtain ⟨ms, b', rfl, h2, h3⟩ := h
    exact ⟨ms, b' ++ (UInt8.ofNat d.kind :: nums ns), by simp, h2, DecsB.snoc hd h3⟩
theorem CtsN.snoc {N : List (List UInt8)} {T : List Tm} {c : Cc} {i j : Nat} (h1 : RefN N i c.name) (h2 : RefT T j c.ty) : ∀ {cs : List Cc} {ns : List Nat}, CtsN N T cs ns → CtsN N T (cs ++ [c]) (ns ++ [i, j])
  | [], ns, h => by
    obtain rfl : ns = [] := h
    exact ⟨i, j, [], rfl, h1, h2, rfl⟩
  | x :: cs, ns, h => by
    obtain ⟨a, b, r, rfl, h3, h4, h5⟩ := h
    exact ⟨a, b, r ++ [i, j], by simp, h3, h4, CtsN.snoc h1 h2 h5⟩
theorem IndsN.snoc {N : List (List UInt8)} {T : List Tm} {x : In} {ms : List Nat} (h1 : IndN N T x ms) : ∀ {xs : List In} {ns : List Nat}, IndsN N T xs ns → IndsN N T (xs ++ [x]) (ns ++ ms)
  | [], ns, h => by
    obtain rfl : ns = [] := h
    exact ⟨ms, [], by simp, h1, rfl⟩
  | y :: xs, ns, h => by
    obtain ⟨a, b, rfl, h3, h4⟩ := h
    exact ⟨a, b ++ ms, by simp, h3, IndsN.snoc h1 h4⟩
end Go.Proofs.YtddbidoaolnegaaGreatDoor
/- What Encode writes is a file of its declarations, declaration by declaration: plain. No statement of the seat is proved here; no condition. -/
namespace Go.Proofs.YtddbidoaolnegaaGreatDoor
open Go Go.RowKit
set_option maxRecDepth 10000
set_option maxHeartbeats 1000000

/-- From one to the other numbers are put behind the declarations, and the tables grow. -/
structure Put (e f : En) (ns : List Nat) : Prop where
  db : f.db = e.db ++ nums ns
  le : e.Le f
  ok : OkE f
theorem Put.trans {e f g : En} {a b : List Nat} (h : Put e f a) (k : Put f g b) : Put e g (a ++ b) := ⟨by rw [k.db, h.db, nums_app, List.append_assoc], h.le.trans k.le, k.ok⟩
theorem Put.num {e : En} (h : OkE e) (n : Nat) : Put e (e.num n) [n] := ⟨by show e.db ++ YtddbidoaolnegaaGreatDoor.num n = _; simp [nums], ⟨⟨[], by simp [En.num]⟩, ⟨[], by simp [En.num]⟩, ⟨[], by simp [En.num]⟩⟩, h.db _⟩
theorem Put.nm {e : En} (h : OkE e) {s : List UInt8} (hs : nameB s = true) : Put e (e.nm s) [pos e.names s] ∧ RefN (e.nm s).names (pos e.names s) s := by
  obtain ⟨m, hm⟩ := addU_pre e.names s
  have h1 : (e.nm s).names = addU e.names s := rfl
  have h2 := mem_addU e.names s
  refine ⟨⟨by show e.db ++ YtddbidoaolnegaaGreatDoor.num _ = _; simp [nums], ⟨⟨m, by rw [h1, hm]⟩, ⟨[], by simp [En.nm, En.num, En.name]⟩, ⟨[], by simp [En.nm, En.num, En.name]⟩⟩, ?_⟩, ?_⟩
  · refine ⟨addU_all h.nm hs, h.lv, h.tm, ?_⟩
    have := TermsB.mono m [] h.tb
    rw [List.append_nil, ← hm] at this
    exact this
  · rw [h1, ← pos_addU]
    exact ⟨pos_lt h2, pos_getD _ h2⟩
theorem Put.tm {e : En} (h : OkE e) {t : Tm} (ht : TOk t) : Put e (e.tm t) [pos (termE t e).terms t] ∧ RefT (e.tm t).terms (pos (termE t e).terms t) t := by
  obtain ⟨h1, h2⟩ := OkE.term t h ht
  have h3 := Put.num h1 (pos (termE t e).terms t)
  refine ⟨⟨by show (termE t e).db ++ YtddbidoaolnegaaGreatDoor.num _ = _; rw [termE_db]; simp [nums], h2.trans h3.le, h3.ok⟩, ?_⟩
  have hm := termE_mem t e
  exact ⟨pos_lt hm, pos_getD _ hm⟩

theorem RefN.le {e f : En} {i : Nat} {s : List UInt8} (h : RefN e.names i s) (k : e.Le f) : RefN f.names i s := by obtain ⟨m, hm⟩ := k.n; rw [hm]; exact h.mono m
theorem RefT.le {e f : En} {i : Nat} {s : Tm} (h : RefT e.terms i s) (k : e.Le f) : RefT f.terms i s := by obtain ⟨m, hm⟩ := k.t; rw [hm]; exact h.mono m
theorem CtsN.le {e f : En} {cs : List Cc} {ns : List Nat} (h : CtsN e.names e.terms cs ns) (k : e.Le f) : CtsN f.names f.terms cs ns := by
  obtain ⟨a, ha⟩ := k.n
  obtain ⟨b, hb⟩ := k.t
  rw [ha, hb]; exact h.mono a b
theorem IndsN.le {e f : En} {cs : List In} {ns : List Nat} (h : IndsN e.names e.terms cs ns) (k : e.Le f) : IndsN f.names f.terms cs ns := by
  obtain ⟨a, ha⟩ := k.n
  obtain ⟨b, hb⟩ := k.t
  rw [ha, hb]; exact h.mono a b
theorem DecsB.le {e f : En} {l : List De} {bs : List UInt8} (h : DecsB e.names e.terms l bs) (k : e.Le f) : DecsB f.names f.terms l bs := by
  obtain ⟨a, ha⟩ := k.n
  obtain ⟨b, hb⟩ := k.t
  rw [ha, hb]; exact h.mono a b

theorem Put.ctor {e : En} (h : OkE e) {c : Cc} (hc : ctorB c = true) : ∃ i j, Put e (ctorE e c) [i, j] ∧ RefN (ctorE e c).names i c.name ∧ RefT (ctorE e c).terms j c.ty := by
  simp only [ctorB, Bool.and_eq_true] at hc
  obtain ⟨h1, h2⟩ := Put.nm h hc.1
  obtain ⟨h3, h4⟩ := Put.tm h1.ok (.of hc.2)
  exact ⟨_, _, h1.trans h3, h2.le h3.le, h4⟩
theorem Put.ctors : ∀ (cs : List Cc) {e e0 : En} {ds : List Cc} {ns : List Nat}, OkE e0 → Put e0 e ns → CtsN e.names e.terms ds ns → (∀ c ∈ cs, ctorB c = true) → ∃ ms, Put e0 (cs.foldl ctorE e) ms ∧ CtsN (cs.foldl ctorE e).names (cs.foldl ctorE e).terms (ds ++ cs) ms
  | [], e, e0, ds, ns, h0, h, hd, _ => ⟨ns, h, by rw [List.append_nil]; exact hd⟩
  | c :: cs, e, e0, ds, ns, h0, h, hd, hc => by
    obtain ⟨i, j, h1, h2, h3⟩ := Put.ctor h.ok (hc c (by simp))
    obtain ⟨ms, h4, h5⟩ := Put.ctors cs h0 (h.trans h1) (CtsN.snoc h2 h3 (hd.le h1.le)) (fun x hx => hc x (by simp [hx]))
    refine ⟨ms, h4, ?_⟩
    rw [List.append_assoc] at h5
    exact h5
theorem Put.ind {e : En} (h : OkE e) {x : In} (hx : indB x = true) : ∃ ns, Put e (indE e x) ns ∧ IndN (indE e x).names (indE e x).terms x ns := by
  simp only [indB, Bool.and_eq_true, List.all_eq_true] at hx
  obtain ⟨⟨⟨x1, x2⟩, x3⟩, x4⟩ := hx
  obtain ⟨h1, h2⟩ := Put.nm h x1
  obtain ⟨h3, h4⟩ := Put.tm h1.ok (.of x2)
  have h5 := Put.num h3.ok x.cs.length
  have h6 : Put (((e.nm x.name).tm x.ty).num x.cs.length) (((e.nm x.name).tm x.ty).num x.cs.length) [] := ⟨by simp [nums], .refl _, h5.ok⟩
  obtain ⟨ms, h7, h8⟩ := Put.ctors x.cs (ds := []) h5.ok h6 rfl x4
  refine ⟨_, (h1.trans h3).trans (h5.trans h7), _, _, ms, rfl, ?_, ?_, ?_⟩
  · exact ((h2.le h3.le).le h5.le).le h7.le
  · exact (h4.le h5.le).le h7.le
  · exact h8
theorem Put.inds : ∀ (cs : List In) {e e0 : En} {ds : List In} {ns : List Nat}, OkE e0 → Put e0 e ns → IndsN e.names e.terms ds ns → (∀ c ∈ cs, indB c = true) → ∃ ms, Put e0 (cs.foldl indE e) ms ∧ IndsN (cs.foldl indE e).names (cs.foldl indE e).terms (ds ++ cs) ms
  | [], e, e0, ds, ns, h0, h, hd, _ => ⟨ns, h, by rw [List.append_nil]; exact hd⟩
  | c :: cs, e, e0, ds, ns, h0, h, hd, hc => by
    obtain ⟨ms1, h1, h2⟩ := Put.ind h.ok (hc c (by simp))
    obtain ⟨ms, h4, h5⟩ := Put.inds cs h0 (h.trans h1) (IndsN.snoc h2 (hd.le h1.le)) (fun x hx => hc x (by simp [hx]))
    refine ⟨ms, h4, ?_⟩
    rw [List.append_assoc] at h5
    exact h5

theorem Put.decl {e : En} (h : OkE e) {d : De} (hd : declB d = true) : ∃ ns, (declE e d).db = e.db ++ (UInt8.ofNat d.kind :: nums ns) ∧ e.Le (declE e d) ∧ OkE (declE e d) ∧ DecN (declE e d).names (declE e d).terms d ns := by
  have hF := deF hd
  have h0 : OkE { e with db := e.db ++ [UInt8.ofNat d.kind] } := h.db _
  have hl0 : e.Le { e with db := e.db ++ [UInt8.ofNat d.kind] } := ⟨⟨[], by simp⟩, ⟨[], by simp⟩, ⟨[], by simp⟩⟩
  have h1 : Put { e with db := e.db ++ [UInt8.ofNat d.kind] } (e.kind d) [d.params.toNat] := Put.num h0 _
  have fin : ∀ {f : En} {ns : List Nat}, Put { e with db := e.db ++ [UInt8.ofNat d.kind] } f ns → f.db = e.db ++ (UInt8.ofNat d.kind :: nums ns) := fun hp => by
    rw [hp.db]; simp
  unfold declE
  simp only [declB, Bool.and_eq_true, decide_eq_true_eq] at hd
  obtain ⟨⟨_, _⟩, hd⟩ := hd
  by_cases k4 : d.kind = 4
  · rw [if_pos k4]
    obtain ⟨_, _, _, _, _, _, _, b8⟩ := hF.b k4
    have h2 := Put.num h1.ok d.fixed.toNat
    have h3 := Put.num h2.ok d.inds.length
    have h6 : Put (((e.kind d).num d.fixed.toNat).num d.inds.length) (((e.kind d).num d.fixed.toNat).num d.inds.length) [] := ⟨by simp [nums], .refl _, h3.ok⟩
    obtain ⟨ms, h7, h8⟩ := Put.inds d.inds (ds := []) h3.ok h6 rfl (fun x hx => List.all_eq_true.1 b8 x hx)
    have h9 := (h1.trans h2).trans (h3.trans h7)
    refine ⟨_, fin h9, hl0.trans h9.le, h9.ok, _, rfl, ?_⟩
    rw [if_pos k4]
    exact ⟨ms, rfl, h8⟩
  · rw [if_neg k4]
    have hk := hF.k
    have hnt : nameB d.name = true ∧ termB d.ty = true := by
      by_cases k1 : d.kind = 1
      · rw [if_pos k1] at hd
        simp only [Bool.and_eq_true] at hd
        exact hd.1.1.1
      · rw [if_neg k1, if_pos (by omega)] at hd
        simp only [Bool.and_eq_true] at hd
        exact hd.1.1.1
    obtain ⟨h2, h3⟩ := Put.nm h1.ok hnt.1
    obtain ⟨h4, h5⟩ := Put.tm h2.ok (.of hnt.2)
    by_cases k1 : d.kind = 1
    · rw [if_pos k1]
      have h9 := h1.trans (h2.trans h4)
      refine ⟨_, fin h9, hl0.trans h9.le, h9.ok, _, rfl, ?_⟩
      rw [if_neg k4]
      refine ⟨_, _, h3.le h4.le, h5, ?_⟩
      rw [if_pos k1]
      rfl
    · rw [if_neg k1]
      rw [if_neg k1, if_pos (by omega)] at hd
      simp only [Bool.and_eq_true] at hd
      obtain ⟨h6, h7⟩ := Put.tm h4.ok (.of hd.1.1.2)
      have h9 := h1.trans (h2.trans (h4.trans h6))
      refine ⟨_, fin h9, hl0.trans h9.le, h9.ok, _, rfl, ?_⟩
      rw [if_neg k4]
      refine ⟨_, _, (h3.le h4.le).le h6.le, h5.le h6.le, ?_⟩
      rw [if_neg k1]
      exact ⟨_, h7, rfl⟩

theorem encE_ok : ∀ (l : List De) {e : En} {l0 : List De}, OkE e → DecsB e.names e.terms l0 e.db → (∀ d ∈ l, declB d = true) → OkE (l.foldl declE e) ∧ DecsB (l.foldl declE e).names (l.foldl declE e).terms (l0 ++ l) (l.foldl declE e).db
  | [], e, l0, h, hd, _ => by rw [List.append_nil]; exact ⟨h, hd⟩
  | d :: l, e, l0, h, hd, hB => by
    obtain ⟨ns, h1, h2, h3, h4⟩ := Put.decl h (hB d (by simp))
    have := encE_ok l (e := declE e d) (l0 := l0 ++ [d]) h3 (by rw [h1]; exact DecsB.snoc h4 (hd.le h2)) (fun x hx => hB x (by simp [hx]))
    rw [List.append_assoc] at this
    exact this

/-- What is encoded is a file of these declarations. -/
theorem encBy_file {l : List De} (hl : l.length ≤ 256) (hB : l.all declB = true) (hb : ¬ encBig l) : FileR (encBy l) l (encE l).names (encE l).levels (encE l).terms (encE l).tb (encE l).db := by
  have hB' : ∀ d ∈ l, declB d = true := fun d hd => List.all_eq_true.1 hB d hd
  obtain ⟨h1, h2⟩ := encE_ok l OkE.z (l0 := []) rfl hB'
  simp only [encBig, not_or, Nat.not_lt] at hb
  exact ⟨by simp [encBy, List.append_assoc], h1.nm, h1.lv, h1.tm, h1.tb, hB', h2, hb.1, hb.2.1, hb.2.2.1, hl, hb.2.2.2⟩
end Go.Proofs.YtddbidoaolnegaaGreatDoor
