/-
PART OF A CLAIM: SC, SD, SE. No statement of the seat is proved here; no condition. -/
import Derived.Test.YtddbidoaolnegaaGreatDoorWO9
import Derived.Test.YtddbidoaolnegaaGreatDoorWO20
import Derived.Test.YtddbidoaolnegaaGreatDoorWO24
import Derived.Test.YtddbidoaolnegaaGreatDoorWO25
import Derived.Test.YtddbidoaolnegaaGreatDoorWO29
set_option linter.all false
/- A file has one list of declarations: plain. No statement of the seat is proved here; no condition. -/
namespace Go.Proofs.YtddbidoaolnegaaGreatDoor
open Go Go.RowKit
set_option maxRecDepth 10000
set_option maxHeartbeats 1000000

theorem ofNat_inj {a b : Nat} (ha : a < 256) (hb : b < 256) (h : UInt8.ofNat a = UInt8.ofNat b) : a = b := by
  have := congrArg UInt8.toNat h
  rw [UInt8.toNat_ofNat', UInt8.toNat_ofNat'] at this
  omega
theorem num_inj : ∀ (n m : Nat) {a b : List UInt8}, num n ++ a = num m ++ b → n = m ∧ a = b := by
  intro n
  induction n using Nat.strongRecOn with
  | _ n ih =>
    intro m a b h
    by_cases h1 : n < 128 <;> by_cases h2 : m < 128
    · rw [num_small h1, num_small h2] at h
      simp only [List.singleton_append, List.cons.injEq] at h
      exact ⟨ofNat_inj (by omega) (by omega) h.1, h.2⟩
    · rw [num_small h1, num_big h2] at h
      simp only [List.singleton_append, List.cons_append, List.cons.injEq] at h
      have := ofNat_inj (by omega) (by omega) h.1
      omega
    · rw [num_big h1, num_small h2] at h
      simp only [List.singleton_append, List.cons_append, List.cons.injEq] at h
      have := ofNat_inj (by omega) (by omega) h.1
      omega
    · rw [num_big h1, num_big h2] at h
      simp only [List.cons_append, List.cons.injEq] at h
      have e1 := ofNat_inj (by omega) (by omega) h.1
      obtain ⟨e2, e3⟩ := ih (n / 128) (by omega) (m / 128) h.2
      exact ⟨by omega, e3⟩
theorem nums_inj : ∀ {x y : List Nat} {a b : List UInt8}, x.length = y.length → nums x ++ a = nums y ++ b → x = y ∧ a = b
  | [], [], a, b, _, h => ⟨rfl, h⟩
  | n :: x, m :: y, a, b, hl, h => by
    rw [nums_cons, nums_cons, List.append_assoc, List.append_assoc] at h
    obtain ⟨h1, h2⟩ := num_inj n m h
    obtain ⟨h3, h4⟩ := nums_inj (by simpa using hl) h2
    exact ⟨by rw [h1, h3], h4⟩
theorem nmB_inj : ∀ {N M : List (List UInt8)} {a b : List UInt8}, N.length = M.length → nmB N ++ a = nmB M ++ b → N = M ∧ a = b
  | [], [], a, b, _, h => ⟨rfl, h⟩
  | x :: N, y :: M, a, b, hl, h => by
    rw [nmB, nmB, List.flatMap_cons, List.flatMap_cons, ← nmB, ← nmB] at h
    simp only [List.append_assoc] at h
    obtain ⟨h1, h2⟩ := num_inj _ _ h
    obtain ⟨h3, h4⟩ := List.append_inj h2 h1
    obtain ⟨h5, h6⟩ := nmB_inj (by simpa using hl) h4
    exact ⟨by rw [h3, h5], h6⟩
theorem map_toNat_inj : ∀ {a b : List Int}, (∀ x ∈ a, -1 ≤ x) → (∀ x ∈ b, -1 ≤ x) → a.map (fun n => (n + 1).toNat) = b.map (fun n => (n + 1).toNat) → a = b
  | [], [], _, _, _ => rfl
  | [], _ :: _, _, _, h => by simp at h
  | _ :: _, [], _, _, h => by simp at h
  | x :: a, y :: b, ha, hb, h => by
    simp only [List.map_cons, List.cons.injEq] at h
    have h1 := ha x (by simp)
    have h2 := hb y (by simp)
    rw [map_toNat_inj (fun z hz => ha z (by simp [hz])) (fun z hz => hb z (by simp [hz])) h.2, show x = y by omega]
theorem lvD_mem {l : Lv} (h : lvD l = true) : 0 ≤ l.c ∧ ∀ x ∈ l.p, -1 ≤ x := by
  obtain ⟨_, h0, _, h1⟩ := lvD_iff h
  refine ⟨h0, fun x hx => ?_⟩
  obtain ⟨i, hi, rfl⟩ := List.getElem_of_mem hx
  have := (h1 i (by rw [← l.n]; exact hi)).1
  simpa [List.getD_eq_getElem?_getD, List.getElem?_eq_getElem hi] using this
theorem lvBs_inj : ∀ {N M : List Lv} {a b : List UInt8}, (∀ x ∈ N, lvD x = true) → (∀ x ∈ M, lvD x = true) → N.length = M.length → lvBs N ++ a = lvBs M ++ b → N = M ∧ a = b
  | [], [], a, b, _, _, _, h => ⟨rfl, h⟩
  | x :: N, y :: M, a, b, hN, hM, hl, h => by
    rw [lvBs, lvBs, List.flatMap_cons, List.flatMap_cons, ← lvBs, ← lvBs, lvNum_nums, lvNum_nums] at h
    simp only [List.append_assoc] at h
    obtain ⟨h1, h2⟩ := nums_inj (by simp [x.n, y.n]) h
    obtain ⟨h5, h6⟩ := lvBs_inj (fun z hz => hN z (by simp [hz])) (fun z hz => hM z (by simp [hz])) (by simpa using hl) h2
    obtain ⟨x0, x1⟩ := lvD_mem (hN x (by simp))
    obtain ⟨y0, y1⟩ := lvD_mem (hM y (by simp))
    simp only [List.cons.injEq] at h1
    have e2 := map_toNat_inj x1 y1 h1.2
    have e1 : x.c = y.c := by omega
    refine ⟨?_, h6⟩
    rw [h5]
    congr 1
    cases x; cases y
    simp only at e1 e2
    subst e1 e2
    rfl
theorem getD_ext2 {α : Type} (z : α) {l m : List α} (hl : l.length = m.length) (h : ∀ i, i < l.length → l.getD i z = m.getD i z) : l = m := by
  apply List.ext_getElem hl
  intro i h1 h2
  have := h i h1
  simpa [List.getD_eq_getElem?_getD, List.getElem?_eq_getElem h1, List.getElem?_eq_getElem h2] using this

theorem EntN.inj {N : List (List UInt8)} {L : List Lv} {T : List Tm} {t u : Tm} {iN jN : Nat} {iLs iTs jLs jTs : List Nat} {a b : List UInt8} (h : EntN N L T t iN iLs iTs) (k : EntN N L T u jN jLs jTs) (ht : nodeB t = true) (hu : nodeB u = true) (hk : t.k = u.k)
    (e : nums (fldN t iN ++ iLs ++ iTs) ++ a = nums (fldN u jN ++ jLs ++ jTs) ++ b) : t = u ∧ a = b := by
  have nt := nodeF ht
  have nu := nodeF hu
  have hts : t.ts.length = u.ts.length := by
    have h1 := nt.kids
    have h2 := nu.kids
    rw [← hk, h1] at h2
    injection h2 with _ h2
    omega
  have hfl : (fldN t iN).length = (fldN u jN).length := by
    unfold fldN
    rw [hk]
    repeat' (split; · rfl)
    rfl
  have hls : t.ls.length = u.ls.length := by
    by_cases k1 : t.k = 1
    · rw [nt.l1 k1, nu.l1 (hk ▸ k1)]
    · by_cases k3 : t.k = 3
      · rw [show fldN t iN = [iN, t.ls.length] by simp [fldN, k3], show fldN u jN = [jN, u.ls.length] by simp [fldN, ← hk, k3]] at e
        simp only [List.cons_append, nums_cons, List.append_assoc] at e
        exact (num_inj _ _ (num_inj _ _ e).2).1
      · rw [nt.l0 k1 k3, nu.l0 (hk ▸ k1) (hk ▸ k3)]
  obtain ⟨e1, e2⟩ := nums_inj (by simp only [List.length_append, hfl, h.ll, h.tl, k.ll, k.tl, hls, hts]) e
  have e3 := List.append_inj' e1 (by rw [h.tl, k.tl, hts])
  have e4 := List.append_inj e3.1 hfl
  obtain ⟨⟨f1, rfl⟩, rfl⟩ : (fldN t iN = fldN u jN ∧ iLs = jLs) ∧ iTs = jTs := ⟨e4, e3.2⟩
  refine ⟨?_, e2⟩
  have q1 : t.ls = u.ls := getD_ext2 Lv.z hls fun i hi => by rw [← (h.l i hi).2, (k.l i (hls ▸ hi)).2]
  have q2 : t.ts = u.ts := getD_ext2 Tm.z hts fun i hi => by rw [← (h.t i hi).2, (k.t i (hts ▸ hi)).2]
  have q34 : t.s = u.s ∧ t.n = u.n := by
    by_cases k2 : t.k = 2
    · have u2 : u.k = 2 := by omega
      simp only [fldN, k2, u2, if_true] at f1
      simp only [List.cons.injEq, and_true] at f1
      have a1 := nt.n2 k2
      have a2 := nu.n2 u2
      exact ⟨by rw [nt.s0 (by omega) (by omega), nu.s0 (by omega) (by omega)], by omega⟩
    · by_cases k3 : t.k = 3
      · have u3 : u.k = 3 := by omega
        simp [fldN, k3, u3] at f1
        refine ⟨?_, by rw [nt.n0 (by omega) (by omega), nu.n0 (by omega) (by omega)]⟩
        rw [← (h.name (.inl k3)).2, ← (k.name (.inl u3)).2, f1.1]
      · by_cases k8 : t.k = 8
        · have u8 : u.k = 8 := by omega
          simp [fldN, k8, u8] at f1
          have a1 := nt.n8 k8
          have a2 := nu.n8 u8
          refine ⟨?_, by omega⟩
          rw [← (h.name (.inr k8)).2, ← (k.name (.inr u8)).2, f1.1]
        · exact ⟨by rw [nt.s0 k3 k8, nu.s0 (by omega) (by omega)], by rw [nt.n0 k2 k8, nu.n0 (by omega) (by omega)]⟩
  cases t; cases u
  simp only [Tm.k, Tm.n, Tm.s, Tm.ls, Tm.ts] at hk q1 q2 q34
  obtain ⟨q3, q4⟩ := q34
  subst hk q1 q2 q3 q4
  rfl

theorem TermsB.inj {N : List (List UInt8)} {L : List Lv} : ∀ {T U done : List Tm} {x y a b : List UInt8}, (∀ t ∈ T, nodeB t = true) → (∀ t ∈ U, nodeB t = true) → T.length = U.length → TermsB N L done T x → TermsB N L done U y → x ++ a = y ++ b → T = U ∧ a = b
  | [], [], _, x, y, a, b, _, _, _, h, k, e => by
    obtain rfl : x = [] := h
    obtain rfl : y = [] := k
    exact ⟨rfl, e⟩
  | t :: T, u :: U, done, x, y, a, b, hT, hU, hl, h, k, e => by
    obtain ⟨iN, iLs, iTs, x', rfl, h2, h3⟩ := h
    obtain ⟨jN, jLs, jTs, y', rfl, k2, k3⟩ := k
    have ht := hT t (by simp)
    have hu := hU u (by simp)
    simp only [List.cons_append, List.cons.injEq] at e
    obtain ⟨e1, e2⟩ := e
    have hk : t.k = u.k := ofNat_inj (by have := (nodeF ht).k8; omega) (by have := (nodeF hu).k8; omega) e1
    have e3 : nums (fldN t iN ++ iLs ++ iTs) ++ (x' ++ a) = nums (fldN u jN ++ jLs ++ jTs) ++ (y' ++ b) := by simpa only [List.append_assoc] using e2
    obtain ⟨rfl, e4⟩ := h2.inj k2 ht hu hk e3
    obtain ⟨rfl, e6⟩ := TermsB.inj (fun z hz => hT z (by simp [hz])) (fun z hz => hU z (by simp [hz])) (by simpa using hl) h3 k3 e4
    exact ⟨rfl, e6⟩

theorem RefN.inj {N : List (List UInt8)} {i : Nat} {a b : List UInt8} (h : RefN N i a) (k : RefN N i b) : a = b := by rw [← h.2, k.2]
theorem RefT.inj {N : List Tm} {i : Nat} {a b : Tm} (h : RefT N i a) (k : RefT N i b) : a = b := by rw [← h.2, k.2]
theorem CtsN.inj {N : List (List UInt8)} {T : List Tm} : ∀ {cs ds : List Cc} {x y : List Nat} {a b : List UInt8}, cs.length = ds.length → CtsN N T cs x → CtsN N T ds y → nums x ++ a = nums y ++ b → cs = ds ∧ a = b
  | [], [], x, y, a, b, _, h, k, e => by
    obtain rfl : x = [] := h
    obtain rfl : y = [] := k
    exact ⟨rfl, e⟩
  | c :: cs, d :: ds, x, y, a, b, hl, h, k, e => by
    obtain ⟨i, j, r, rfl, h1, h2, h3⟩ := h
    obtain ⟨i', j', r', rfl, k1, k2, k3⟩ := k
    simp only [nums_cons, List.append_assoc] at e
    obtain ⟨q5, e5⟩ := num_inj _ _ e
    obtain ⟨q6, e6⟩ := num_inj _ _ e5
    obtain ⟨q7, e7⟩ := CtsN.inj (by simpa using hl) h3 k3 e6
    subst q5 q6 q7
    refine ⟨?_, e7⟩
    have q1 := h1.inj k1
    have q2 := h2.inj k2
    cases c; cases d
    simp only at q1 q2
    subst q1 q2
    rfl
theorem IndN.inj {N : List (List UInt8)} {T : List Tm} {c d : In} {x y : List Nat} {a b : List UInt8} (h : IndN N T c x) (k : IndN N T d y) (e : nums x ++ a = nums y ++ b) : c = d ∧ a = b := by
  obtain ⟨i, j, r, rfl, h1, h2, h3⟩ := h
  obtain ⟨i', j', r', rfl, k1, k2, k3⟩ := k
  simp only [nums_cons, List.append_assoc] at e
  obtain ⟨q5, e5⟩ := num_inj _ _ e
  obtain ⟨q6, e6⟩ := num_inj _ _ e5
  obtain ⟨hl, e7⟩ := num_inj _ _ e6
  obtain ⟨q3, e8⟩ := CtsN.inj hl h3 k3 e7
  subst q5 q6
  refine ⟨?_, e8⟩
  have q1 := h1.inj k1
  have q2 := h2.inj k2
  cases c; cases d
  simp only at q1 q2 q3
  subst q1 q2 q3
  rfl
theorem IndsN.inj {N : List (List UInt8)} {T : List Tm} : ∀ {cs ds : List In} {x y : List Nat} {a b : List UInt8}, cs.length = ds.length → IndsN N T cs x → IndsN N T ds y → nums x ++ a = nums y ++ b → cs = ds ∧ a = b
  | [], [], x, y, a, b, _, h, k, e => by
    obtain rfl : x = [] := h
    obtain rfl : y = [] := k
    exact ⟨rfl, e⟩
  | c :: cs, d :: ds, x, y, a, b, hl, h, k, e => by
    obtain ⟨x1, x2, rfl, h1, h2⟩ := h
    obtain ⟨y1, y2, rfl, k1, k2⟩ := k
    rw [nums_app, nums_app, List.append_assoc, List.append_assoc] at e
    obtain ⟨q5, e5⟩ := h1.inj k1 e
    obtain ⟨q6, e6⟩ := IndsN.inj (by simpa using hl) h2 k2 e5
    exact ⟨by rw [q5, q6], e6⟩
theorem DecN.inj {N : List (List UInt8)} {T : List Tm} {c d : De} {x y : List Nat} {a b : List UInt8} (h : DecN N T c x) (k : DecN N T d y) (hc : declB c = true) (hd : declB d = true) (hk : c.kind = d.kind) (e : nums x ++ a = nums y ++ b) : c = d ∧ a = b := by
  have fc := deF hc
  have fd := deF hd
  obtain ⟨r, rfl, h⟩ := h
  obtain ⟨r', rfl, k⟩ := k
  simp only [nums_cons, List.append_assoc] at e
  obtain ⟨hp, e⟩ := num_inj _ _ e
  have c0 := fc.p0
  have d0 := fd.p0
  have hp2 : c.params = d.params := by omega
  by_cases k4 : c.kind = 4
  · have u4 : d.kind = 4 := by omega
    rw [if_pos k4] at h
    rw [if_pos u4] at k
    obtain ⟨r1, rfl, h⟩ := h
    obtain ⟨r2, rfl, k⟩ := k
    simp only [nums_cons, List.append_assoc] at e
    obtain ⟨hf, e⟩ := num_inj _ _ e
    obtain ⟨hl, e⟩ := num_inj _ _ e
    obtain ⟨q7, e⟩ := IndsN.inj hl h k e
    obtain ⟨b1, b2, b3, b4, _⟩ := fc.b k4
    obtain ⟨g1, g2, g3, g4, _⟩ := fd.b u4
    refine ⟨?_, e⟩
    have q6 : c.fixed = d.fixed := by omega
    cases c; cases d
    simp only at hk hp2 b1 b2 b3 g1 g2 g3 q6 q7
    subst hk hp2 b1 b2 b3 g1 g2 g3 q6 q7
    rfl
  · have u4 : ¬ d.kind = 4 := by omega
    rw [if_neg k4] at h
    rw [if_neg u4] at k
    obtain ⟨i, j, h1, h2, h⟩ := h
    obtain ⟨i', j', k1, k2, k⟩ := k
    obtain ⟨f1, f2⟩ := fc.n k4
    obtain ⟨g1, g2⟩ := fd.n u4
    have fin : i = i' → j = j' → c.val = d.val → c = d := fun e1 e2 q5 => by
      subst e1 e2
      have q3 := h1.inj k1
      have q4 := h2.inj k2
      cases c; cases d
      simp only at hk hp2 q3 q4 q5 f1 f2 g1 g2
      subst hk hp2 q3 q4 q5 f1 f2 g1 g2
      rfl
    by_cases k0 : c.kind = 1
    · have u0 : d.kind = 1 := by omega
      rw [if_pos k0] at h
      rw [if_pos u0] at k
      subst h k
      simp only [nums_cons, List.append_assoc] at e
      obtain ⟨e1, e⟩ := num_inj _ _ e
      obtain ⟨e2, e⟩ := num_inj _ _ e
      exact ⟨fin e1 e2 (by rw [fc.v k0, fd.v u0]), by simpa [nums] using e⟩
    · have u0 : ¬ d.kind = 1 := by omega
      rw [if_neg k0] at h
      rw [if_neg u0] at k
      obtain ⟨v, hv, rfl⟩ := h
      obtain ⟨v', kv, rfl⟩ := k
      simp only [nums_cons, List.append_assoc] at e
      obtain ⟨e1, e⟩ := num_inj _ _ e
      obtain ⟨e2, e⟩ := num_inj _ _ e
      obtain ⟨rfl, e⟩ := num_inj _ _ e
      exact ⟨fin e1 e2 (hv.inj kv), by simpa [nums] using e⟩
theorem DecsB.inj {N : List (List UInt8)} {T : List Tm} : ∀ {cs ds : List De} {x y : List UInt8}, (∀ d ∈ cs, declB d = true) → (∀ d ∈ ds, declB d = true) → cs.length = ds.length → DecsB N T cs x → DecsB N T ds y → x = y → cs = ds
  | [], [], _, _, _, _, _, _, _, _ => rfl
  | c :: cs, d :: ds, x, y, hC, hD, hl, h, k, e => by
    obtain ⟨ns, x', rfl, h1, h2⟩ := h
    obtain ⟨ms, y', rfl, k1, k2⟩ := k
    have hc := hC c (by simp)
    have hd := hD d (by simp)
    simp only [List.cons.injEq] at e
    have hk : c.kind = d.kind := ofNat_inj (by have := (deF hc).k; omega) (by have := (deF hd).k; omega) e.1
    obtain ⟨q5, e5⟩ := h1.inj k1 hc hd hk e.2
    rw [q5, DecsB.inj (fun z hz => hC z (by simp [hz])) (fun z hz => hD z (by simp [hz])) (by simpa using hl) h2 k2 e5]

theorem FileR.inj {bs : List UInt8} {l l' : List De} {N N' : List (List UInt8)} {L L' : List Lv} {T T' : List Tm} {tb tb' db db' : List UInt8} (h : FileR bs l N L T tb db) (k : FileR bs l' N' L' T' tb' db') : l = l' := by
  have e := h.eq.symm.trans k.eq
  have e1 := (List.append_inj e rfl).2
  obtain ⟨n1, e2⟩ := num_inj _ _ e1
  obtain ⟨rfl, e3⟩ := nmB_inj n1 e2
  obtain ⟨n2, e4⟩ := num_inj _ _ e3
  obtain ⟨rfl, e5⟩ := lvBs_inj h.lv k.lv n2 e4
  obtain ⟨n3, e6⟩ := num_inj _ _ e5
  obtain ⟨rfl, e7⟩ := TermsB.inj (fun t ht => (h.tm t ht).1) (fun t ht => (k.tm t ht).1) n3 h.tb k.tb e6
  obtain ⟨n4, e8⟩ := num_inj _ _ e7
  exact DecsB.inj h.de k.de n4 h.db k.db e8
end Go.Proofs.YtddbidoaolnegaaGreatDoor
/- Are two declarations the same, by the reference: the walks. No statement of the seat is proved here; no condition. -/
namespace Go.Proofs.YtddbidoaolnegaaGreatDoor
open Go Go.RowKit
open Nat renaming reduceLT → zA, reduceEqDiff → zB, reduceBEq → zC, reduceAdd → zD, reduceMul → zE, reduceSub → zF, reduceLeDiff → zG, mul_one → zH, zero_add → zI, add_zero → zJ
open Int renaming toNat_natCast → zK, reduceAdd → zL, reduceLE → zM, reduceLT → zN, natCast_nonneg → zO
open Go.Proofs.YtddbidoaolnegaaGreatDoor renaming evI_plain → ya, evI_guard → yb, evT_rd → yc, evT_rdg → yd, evT_act → ye, evT_actg → yf, evI_done → yg, evT_two → yh, evT_nil → yi, W.seqG → yj, W.block → yk, W.regionI → yl, W.cond → ym, W.skip → yn, W.ret → yo, W.exit → yp, gdD_split → yq, newT_intro → yr, newB_intro → ys, W.draw → yt, St.set_del → yu, St.give_take → yv, AGo.go → yw, IGo.go → yx, TGo.go → yy, Goes.go → yz
attribute [local go_sem] zK zP zQ zH zI zJ zO
attribute [local irreducible] W evI evT evL evOp evBin gdD Sem newT newB fillD bldOf
set_option maxRecDepth 10000
set_option maxHeartbeats 4000000

theorem De.ext2 {c d : De} (h1 : c.kind = d.kind) (h2 : c.params = d.params) (h3 : c.name = d.name) (h4 : c.ty = d.ty) (h5 : c.val = d.val) (h6 : c.fixed = d.fixed) (h7 : c.inds = d.inds) : c = d := by
  cases c; cases d
  simp only at h1 h2 h3 h4 h5 h6 h7
  subst h1 h2 h3 h4 h5 h6 h7
  rfl
theorem In.ext2 {c d : In} (h3 : c.name = d.name) (h4 : c.ty = d.ty) (h7 : c.cs = d.cs) : c = d := by
  cases c; cases d
  simp only at h3 h4 h7
  subst h3 h4 h7
  rfl
theorem Cc.ext2 {c d : Cc} (h3 : c.name = d.name) (h4 : c.ty = d.ty) : c = d := by
  cases c; cases d
  simp only at h3 h4
  subst h3 h4
  rfl

theorem sem43 (c d : De) (hc : c.Wf) (hd : d.Wf) (st : St) (k : D → St → Prop) (hT : c = d → k (.bool true) st) (hF : c ≠ d → k (.bool false) st) : Sem P 43 [c.d, d.d] st k := by
  by_cases c1 : c.kind = d.kind
  case neg =>
    have hF := hF (fun e => c1 (by rw [e]))
    have c1' : ¬ (c.kind : Int) = d.kind := by omega
    refine Sem.of_body Tryz.call43 Tryz.func43 rfl Tryz.ntmps43 (by simp) ?_
    repeat' first | refine yj fun N hN => ?_ | refine yl [] ?_ | ((first | refine ya rfl rfl fun N hN => ?_ | refine yb rfl rfl rfl rfl fun N hN => ?_ | refine ym ?_ | refine yo ?_); simp only [go_sem, ↓reduceIte, zA, zB, zC, zD, zE, zF, zG, zL, zM, zN, reduceCtorEq, c1', Tryz.results43]) | (refine yg rfl ?_; try simp only [go_sem]) | ((first | refine yx hN _ _ ?_ | refine yz hN _ _ ?_); clear hN N) | clear hN N | fail
    all_goals exact hF
  by_cases c2 : c.params = d.params
  case neg =>
    have hF := hF (fun e => c2 (by rw [e]))
    refine Sem.of_body Tryz.call43 Tryz.func43 rfl Tryz.ntmps43 (by simp) ?_
    repeat' first | refine yj fun N hN => ?_ | refine yl [] ?_ | ((first | refine ya rfl rfl fun N hN => ?_ | refine yb rfl rfl rfl rfl fun N hN => ?_ | refine ym ?_ | refine yo ?_); simp only [go_sem, ↓reduceIte, zA, zB, zC, zD, zE, zF, zG, zL, zM, zN, reduceCtorEq, c1, c2, Tryz.results43]) | (refine yg rfl ?_; try simp only [go_sem]) | ((first | refine yx hN _ _ ?_ | refine yz hN _ _ ?_); clear hN N) | clear hN N | fail
    all_goals exact hF
  by_cases c3 : c.name = d.name
  case neg =>
    have hF := hF (fun e => c3 (by rw [e]))
    refine Sem.of_body Tryz.call43 Tryz.func43 rfl Tryz.ntmps43 (by simp) ?_
    repeat' first | refine yj fun N hN => ?_ | refine yl [] ?_ | ((first | refine ya rfl rfl fun N hN => ?_ | refine yb rfl rfl rfl rfl fun N hN => ?_ | refine ym ?_ | refine yo ?_); simp only [go_sem, ↓reduceIte, zA, zB, zC, zD, zE, zF, zG, zL, zM, zN, reduceCtorEq, c1, c2, c3, Tryz.results43]) | (refine yg rfl ?_; try simp only [go_sem]) | ((first | refine yx hN _ _ ?_ | refine yz hN _ _ ?_); clear hN N) | clear hN N | fail
    all_goals exact hF
  by_cases c4 : c.ty = d.ty
  case neg =>
    have hF := hF (fun e => c4 (by rw [e]))
    refine Sem.of_body Tryz.call43 Tryz.func43 rfl Tryz.ntmps43 (by simp) ?_
    repeat' first | refine yj fun N hN => ?_ | refine yl [] ?_ | ((first | refine ya rfl rfl fun N hN => ?_ | refine yb rfl rfl rfl rfl fun N hN => ?_ | refine ym ?_ | refine yo ?_); simp only [go_sem, ↓reduceIte, zA, zB, zC, zD, zE, zF, zG, zL, zM, zN, reduceCtorEq, c1, c2, c3, Tryz.results43]) | (refine yg rfl ?_; try simp only [go_sem]) | ((first | refine yx hN _ _ ?_ | refine yz hN _ _ ?_); clear hN N) | (refine sem83 _ hc.ty _ hd.ty _ _ (fun hq => absurd hq c4) (fun _ => ?_); try simp only [go_sem, ↓reduceIte, zA, zB, zC, zD, zE, zF, zG, zL, zM, zN, reduceCtorEq, c1, c2, c3]) | clear hN N | fail
    all_goals exact hF
  by_cases c5 : c.val = d.val
  case neg =>
    have hF := hF (fun e => c5 (by rw [e]))
    refine Sem.of_body Tryz.call43 Tryz.func43 rfl Tryz.ntmps43 (by simp) ?_
    repeat' first | refine yj fun N hN => ?_ | refine yl [] ?_ | ((first | refine ya rfl rfl fun N hN => ?_ | refine yb rfl rfl rfl rfl fun N hN => ?_ | refine ym ?_ | refine yo ?_); simp only [go_sem, ↓reduceIte, zA, zB, zC, zD, zE, zF, zG, zL, zM, zN, reduceCtorEq, c1, c2, c3, Tryz.results43]) | (refine yg rfl ?_; try simp only [go_sem]) | ((first | refine yx hN _ _ ?_ | refine yz hN _ _ ?_); clear hN N) | (refine sem83 c.ty hc.ty d.ty hd.ty _ _ (fun _ => ?_) (fun hq => absurd c4 hq); try simp only [go_sem, ↓reduceIte, zA, zB, zC, zD, zE, zF, zG, zL, zM, zN, reduceCtorEq, c1, c2, c3]) | (refine sem83 c.val hc.val d.val hd.val _ _ (fun hq => absurd hq c5) (fun _ => ?_); try simp only [go_sem, ↓reduceIte, zA, zB, zC, zD, zE, zF, zG, zL, zM, zN, reduceCtorEq, c1, c2, c3]) | clear hN N | fail
    all_goals exact hF
  by_cases c6 : c.fixed = d.fixed
  case neg =>
    have hF := hF (fun e => c6 (by rw [e]))
    refine Sem.of_body Tryz.call43 Tryz.func43 rfl Tryz.ntmps43 (by simp) ?_
    repeat' first | refine yj fun N hN => ?_ | refine yl [] ?_ | ((first | refine ya rfl rfl fun N hN => ?_ | refine yb rfl rfl rfl rfl fun N hN => ?_ | refine ym ?_ | refine yo ?_); simp only [go_sem, ↓reduceIte, zA, zB, zC, zD, zE, zF, zG, zL, zM, zN, reduceCtorEq, c1, c2, c3, c6, Tryz.results43]) | (refine yg rfl ?_; try simp only [go_sem]) | ((first | refine yx hN _ _ ?_ | refine yz hN _ _ ?_); clear hN N) | (refine sem83 c.ty hc.ty d.ty hd.ty _ _ (fun _ => ?_) (fun hq => absurd c4 hq); try simp only [go_sem, ↓reduceIte, zA, zB, zC, zD, zE, zF, zG, zL, zM, zN, reduceCtorEq, c1, c2, c3, c6]) | (refine sem83 c.val hc.val d.val hd.val _ _ (fun _ => ?_) (fun hq => absurd c5 hq); try simp only [go_sem, ↓reduceIte, zA, zB, zC, zD, zE, zF, zG, zL, zM, zN, reduceCtorEq, c1, c2, c3, c6]) | clear hN N | fail
    all_goals exact hF
  by_cases c7 : c.inds.length = d.inds.length
  case neg =>
    have hF := hF (fun e => c7 (by rw [e]))
    have c7' : ¬ (c.inds.length : Int) = d.inds.length := by omega
    refine Sem.of_body Tryz.call43 Tryz.func43 rfl Tryz.ntmps43 (by simp) ?_
    repeat' first | refine yj fun N hN => ?_ | refine yl [] ?_ | ((first | refine ya rfl rfl fun N hN => ?_ | refine yb rfl rfl rfl rfl fun N hN => ?_ | refine ym ?_ | refine yo ?_); simp only [go_sem, ↓reduceIte, zA, zB, zC, zD, zE, zF, zG, zL, zM, zN, reduceCtorEq, c1, c2, c3, c6, c7', Tryz.results43]) | (refine yg rfl ?_; try simp only [go_sem]) | ((first | refine yx hN _ _ ?_ | refine yz hN _ _ ?_); clear hN N) | (refine sem83 c.ty hc.ty d.ty hd.ty _ _ (fun _ => ?_) (fun hq => absurd c4 hq); try simp only [go_sem, ↓reduceIte, zA, zB, zC, zD, zE, zF, zG, zL, zM, zN, reduceCtorEq, c1, c2, c3, c6, c7']) | (refine sem83 c.val hc.val d.val hd.val _ _ (fun _ => ?_) (fun hq => absurd c5 hq); try simp only [go_sem, ↓reduceIte, zA, zB, zC, zD, zE, zF, zG, zL, zM, zN, reduceCtorEq, c1, c2, c3, c6, c7']) | clear hN N | fail
    all_goals exact hF
  refine Sem.of_body Tryz.call43 Tryz.func43 rfl Tryz.ntmps43 (by simp) ?_
  repeat' first | refine yj fun N hN => ?_ | refine yk ?_ | refine yl [] ?_ | ((first | refine ya rfl rfl fun N hN => ?_ | refine yb rfl rfl rfl rfl fun N hN => ?_ | refine ym ?_); simp only [go_sem, ↓reduceIte, zA, zB, zC, zD, zE, zF, zG, zL, zM, zN, reduceCtorEq, c1, c2, c3, c6, c7, Tryz.results43]) | ((first | refine yg rfl ?_ | refine yn ?_); try simp only [go_sem]) | ((first | refine yx hN _ _ ?_ | refine yz hN _ _ ?_); clear hN N) | (refine sem83 c.ty hc.ty d.ty hd.ty _ _ (fun _ => ?_) (fun hq => absurd c4 hq); try simp only [go_sem, ↓reduceIte, zA, zB, zC, zD, zE, zF, zG, zL, zM, zN, reduceCtorEq, c1, c2, c3, c6, c7]) | (refine sem83 c.val hc.val d.val hd.val _ _ (fun _ => ?_) (fun hq => absurd c5 hq); try simp only [go_sem, ↓reduceIte, zA, zB, zC, zD, zE, zF, zG, zL, zM, zN, reduceCtorEq, c1, c2, c3, c6, c7]) | fail
  refine W.loopN (fun m fr st' => st = st' ∧ ∃ i : Nat, i + m = c.inds.length ∧ (∀ j, j < i → c.inds.getD j In.z = d.inds.getD j In.z) ∧ fr 5 = .int .i64 i ∧ fr 2 = .eptr c.d 0 ∧ fr 3 = .eptr d.d 0) ?_ c.inds.length _ _ ⟨rfl, 0, by simp, by simp, by simp only [go_sem, ↓reduceIte, zA, zB, zC, zD, zE, zF, zG, zL, zM, zN, reduceCtorEq]; rfl, by simp only [go_sem, ↓reduceIte, zA, zB, zC, zD, zE, zF, zG, zL, zM, zN, reduceCtorEq], by simp only [go_sem, ↓reduceIte, zA, zB, zC, zD, zE, zF, zG, zL, zM, zN, reduceCtorEq]⟩
  rintro m N' ih fr _ ⟨rfl, i, hi, hal, f5, f2, f3⟩
  rcases Nat.lt_or_ge i c.inds.length with hlt | hge
  · have hlt2 : i < d.inds.length := by omega
    have i4 : (i : Int) < c.inds.length := by omega
    have hg : (c.inds.map In.d).getD i .any = (c.inds.getD i In.z).d := getD_map _ _ _ hlt
    have hg2 : (d.inds.map In.d).getD i .any = (d.inds.getD i In.z).d := getD_map _ _ _ hlt2
    have hx := hc.inds _ (getD_mem c.inds In.z hlt)
    have hln := hc.len
    have hy := hd.inds _ (getD_mem d.inds In.z hlt2)
    have hcs := hx.len
    have hF' : c.inds.getD i In.z ≠ d.inds.getD i In.z → k (.bool false) st := fun h => hF (fun e => h (by rw [e]))
    have hal' : c.inds.getD i In.z = d.inds.getD i In.z → ∀ j, j < i + 1 → c.inds.getD j In.z = d.inds.getD j In.z := fun h => lt_succ_all hal h
    clear hal
    obtain ⟨x, ex⟩ : ∃ x, x = c.inds.getD i In.z := ⟨_, rfl⟩
    obtain ⟨y, ey⟩ : ∃ y, y = d.inds.getD i In.z := ⟨_, rfl⟩
    rw [← ex] at hg hx hF' hal' hcs
    rw [← ey] at hg2 hy hF' hal'
    by_cases n1 : x.name = y.name
    case neg =>
      have hF' := hF' (fun e => n1 (by rw [e]))
      repeat' first | rw [yu hr] | refine yj fun N hN => ?_ | refine yk ?_ | refine yl [] ?_ | ((first | refine ya rfl rfl fun N hN => ?_ | refine yb rfl rfl rfl rfl fun N hN => ?_ | refine ym ?_ | refine yo ?_); simp only [go_sem, ↓reduceIte, zA, zB, zC, zD, zE, zF, zG, zL, zM, zN, reduceCtorEq, f5, f2, f3, hg, hg2, hlt, hlt2, i4, n1, Tryz.results43]) | ((first | refine yg rfl ?_ | refine yn ?_); try simp only [go_sem]) | ((first | refine yx hN _ _ ?_ | refine yz hN _ _ ?_); clear hN N) | ((refine ys fun r hr => ?_; (try have hrn := (St.set_none hr).1); (try have hrn2 := Ne.symm (St.set_none hr).1)); try simp only [go_sem, ↓reduceIte, zA, zB, zC, zD, zE, zF, zG, zL, zM, zN, reduceCtorEq, f5, f2, f3, hg, hg2, hlt, hlt2, i4, n1]) | clear hN N | fail
      all_goals exact hF'
    by_cases n2 : x.ty = y.ty
    case neg =>
      have hF' := hF' (fun e => n2 (by rw [e]))
      repeat' first | rw [yu hr] | refine yj fun N hN => ?_ | refine yk ?_ | refine yl [] ?_ | ((first | refine ya rfl rfl fun N hN => ?_ | refine yb rfl rfl rfl rfl fun N hN => ?_ | refine ym ?_ | refine yo ?_); simp only [go_sem, ↓reduceIte, zA, zB, zC, zD, zE, zF, zG, zL, zM, zN, reduceCtorEq, f5, f2, f3, hg, hg2, hlt, hlt2, i4, n1, Tryz.results43]) | ((first | refine yg rfl ?_ | refine yn ?_); try simp only [go_sem]) | ((first | refine yx hN _ _ ?_ | refine yz hN _ _ ?_); clear hN N) | (refine sem83 _ hx.ty _ hy.ty _ _ (fun hq => absurd hq n2) (fun _ => ?_); try simp only [go_sem, ↓reduceIte, zA, zB, zC, zD, zE, zF, zG, zL, zM, zN, reduceCtorEq, f5, f2, f3, hg, hg2, hlt, hlt2, i4, n1]) | ((refine ys fun r hr => ?_; (try have hrn := (St.set_none hr).1); (try have hrn2 := Ne.symm (St.set_none hr).1)); try simp only [go_sem, ↓reduceIte, zA, zB, zC, zD, zE, zF, zG, zL, zM, zN, reduceCtorEq, f5, f2, f3, hg, hg2, hlt, hlt2, i4, n1]) | clear hN N | fail
      all_goals exact hF'
    by_cases n3 : x.cs.length = y.cs.length
    case neg =>
      have hF' := hF' (fun e => n3 (by rw [e]))
      have n3' : ¬ (x.cs.length : Int) = y.cs.length := by omega
      repeat' first | rw [yu hr] | refine yj fun N hN => ?_ | refine yk ?_ | refine yl [] ?_ | ((first | refine ya rfl rfl fun N hN => ?_ | refine yb rfl rfl rfl rfl fun N hN => ?_ | refine ym ?_ | refine yo ?_); simp only [go_sem, ↓reduceIte, zA, zB, zC, zD, zE, zF, zG, zL, zM, zN, reduceCtorEq, f5, f2, f3, hg, hg2, hlt, hlt2, i4, n1, n3', Tryz.results43]) | ((first | refine yg rfl ?_ | refine yn ?_); try simp only [go_sem]) | ((first | refine yx hN _ _ ?_ | refine yz hN _ _ ?_); clear hN N) | (refine sem83 _ hx.ty _ hy.ty _ _ (fun _ => ?_) (fun hq => absurd n2 hq); try simp only [go_sem, ↓reduceIte, zA, zB, zC, zD, zE, zF, zG, zL, zM, zN, reduceCtorEq, f5, f2, f3, hg, hg2, hlt, hlt2, i4, n1, n3']) | ((refine ys fun r hr => ?_; (try have hrn := (St.set_none hr).1); (try have hrn2 := Ne.symm (St.set_none hr).1)); try simp only [go_sem, ↓reduceIte, zA, zB, zC, zD, zE, zF, zG, zL, zM, zN, reduceCtorEq, f5, f2, f3, hg, hg2, hlt, hlt2, i4, n1, n3']) | clear hN N | fail
      all_goals exact hF'
    repeat' first | rw [yu hr] | refine yj fun N hN => ?_ | refine yk ?_ | refine yl [] ?_ | ((first | refine ya rfl rfl fun N hN => ?_ | refine yb rfl rfl rfl rfl fun N hN => ?_ | refine ym ?_); simp only [go_sem, ↓reduceIte, zA, zB, zC, zD, zE, zF, zG, zL, zM, zN, reduceCtorEq, f5, f2, f3, hg, hg2, hlt, hlt2, i4, n1, n3, Tryz.results43]) | ((first | refine yg rfl ?_ | refine yn ?_); try simp only [go_sem]) | ((first | refine yx hN _ _ ?_ | refine yz hN _ _ ?_); clear hN N) | (refine sem83 _ hx.ty _ hy.ty _ _ (fun _ => ?_) (fun hq => absurd n2 hq); try simp only [go_sem, ↓reduceIte, zA, zB, zC, zD, zE, zF, zG, zL, zM, zN, reduceCtorEq, f5, f2, f3, hg, hg2, hlt, hlt2, i4, n1, n3]) | ((refine ys fun r hr => ?_; (try have hrn := (St.set_none hr).1); (try have hrn2 := Ne.symm (St.set_none hr).1)); try simp only [go_sem, ↓reduceIte, zA, zB, zC, zD, zE, zF, zG, zL, zM, zN, reduceCtorEq, f5, f2, f3, hg, hg2, hlt, hlt2, i4, n1, n3]) | fail
    refine W.loopN (fun m fr st' => st = st' ∧ ∃ i' : Nat, i' + m = x.cs.length ∧ (∀ j, j < i' → x.cs.getD j Cc.z = y.cs.getD j Cc.z) ∧ fr 8 = .int .i64 i' ∧ fr 5 = .int .i64 i ∧ fr 2 = .eptr c.d 0 ∧ fr 3 = .eptr d.d 0 ∧ fr 6 = .eptr x.d 0 ∧ fr 7 = .eptr y.d 0) ?_ x.cs.length _ _ ⟨rfl, 0, by simp, by simp, by simp only [go_sem, ↓reduceIte, zA, zB, zC, zD, zE, zF, zG, zL, zM, zN, reduceCtorEq]; rfl, by simp only [go_sem, ↓reduceIte, zA, zB, zC, zD, zE, zF, zG, zL, zM, zN, reduceCtorEq, f5], by simp only [go_sem, ↓reduceIte, zA, zB, zC, zD, zE, zF, zG, zL, zM, zN, reduceCtorEq, f2], by simp only [go_sem, ↓reduceIte, zA, zB, zC, zD, zE, zF, zG, zL, zM, zN, reduceCtorEq, f3], by simp only [go_sem, ↓reduceIte, zA, zB, zC, zD, zE, zF, zG, zL, zM, zN, reduceCtorEq], by simp only [go_sem, ↓reduceIte, zA, zB, zC, zD, zE, zF, zG, zL, zM, zN, reduceCtorEq]⟩
    clear f5 f2 f3
    rintro q4 N2 ih2 fr _ ⟨rfl, i', hi2, hal, f8, f5, f2, f3, f6, f7⟩
    rcases Nat.lt_or_ge i' x.cs.length with hl1 | hge
    · have hl2 : i' < y.cs.length := by omega
      have i5 : (i' : Int) < x.cs.length := by omega
      have he : (x.cs.map Cc.d).getD i' .any = (x.cs.getD i' Cc.z).d := getD_map _ _ _ hl1
      have he2 : (y.cs.map Cc.d).getD i' .any = (y.cs.getD i' Cc.z).d := getD_map _ _ _ hl2
      have wu := hx.cs _ (getD_mem x.cs Cc.z hl1)
      have wv := hy.cs _ (getD_mem y.cs Cc.z hl2)
      have hF2 : x.cs.getD i' Cc.z ≠ y.cs.getD i' Cc.z → k (.bool false) st := fun h => hF' (fun e => h (by rw [e]))
      have hal2 : x.cs.getD i' Cc.z = y.cs.getD i' Cc.z → ∀ j, j < i' + 1 → x.cs.getD j Cc.z = y.cs.getD j Cc.z := fun h => lt_succ_all hal h
      clear hal
      obtain ⟨u, eu⟩ : ∃ u, u = x.cs.getD i' Cc.z := ⟨_, rfl⟩
      obtain ⟨v, ev⟩ : ∃ v, v = y.cs.getD i' Cc.z := ⟨_, rfl⟩
      rw [← eu] at he wu hF2 hal2
      rw [← ev] at he2 wv hF2 hal2
      by_cases m1 : u.name = v.name
      case neg =>
        have hF2 := hF2 (fun e => m1 (by rw [e]))
        repeat' first | refine yj fun N hN => ?_ | refine yk ?_ | refine yl [] ?_ | ((first | refine ya rfl rfl fun N hN => ?_ | refine yc rfl rfl fun N hN => ?_ | refine yd rfl rfl rfl rfl fun N hN => ?_ | refine ye rfl rfl fun N hN => ?_ | refine yf rfl rfl rfl rfl fun N hN => ?_ | (refine yw hN _ _ ?_; clear hN N) | refine ym ?_ | refine yo ?_); simp only [go_sem, ↓reduceIte, zA, zB, zC, zD, zE, zF, zG, zL, zM, zN, reduceCtorEq, f8, f5, f2, f3, f6, f7, he, he2, hl1, hl2, i5, m1, Tryz.results43]) | ((first | refine yg rfl ?_ | refine yn ?_ | refine yi ?_); try simp only [go_sem]) | ((first | refine yx hN _ _ ?_ | refine yz hN _ _ ?_ | refine yy hN _ ?_); clear hN N) | refine yt (id := 13) mixed [] (.rd 0 (.rd 1 (.rd 2 (.rd 3 (.rd 4 (.rd 5 (.rd 6 (.rd 7 (.act 8 [7, 6, 5, 4, 3, 2, 1, 0] (.act 9 [5, 4, 3, 2, 1, 0] (.act 10 [5, 4, 3, 2, 1, 0] (.act 11 [5, 4, 3, 2, 1, 0] (.act 12 [] (.act 13 [] (.rd 14 (.rd 15 (.rd 16 (.rd 17 (.rd 18 (.rd 19 (.rd 20 (.rd 21 (.act 22 [21, 20, 19, 18, 17, 16, 15, 14] (.act 23 [19, 18, 17, 16, 15, 14] (.act 24 [19, 18, 17, 16, 15, 14] (.act 25 [19, 18, 17, 16, 15, 14] (.act 26 [] (.act 27 [] (.act 28 [] (.nil)))))))))))))))))))))))))))))) (by kernel_rfl) ?_ | clear hN N | fail
        all_goals exact hF2
      by_cases m2 : u.ty = v.ty
      case neg =>
        have hF2 := hF2 (fun e => m2 (by rw [e]))
        repeat' first | refine yj fun N hN => ?_ | refine yk ?_ | refine yl [] ?_ | ((first | refine ya rfl rfl fun N hN => ?_ | refine yc rfl rfl fun N hN => ?_ | refine yd rfl rfl rfl rfl fun N hN => ?_ | refine ye rfl rfl fun N hN => ?_ | refine yf rfl rfl rfl rfl fun N hN => ?_ | (refine yw hN _ _ ?_; clear hN N) | refine ym ?_ | refine yo ?_); simp only [go_sem, ↓reduceIte, zA, zB, zC, zD, zE, zF, zG, zL, zM, zN, reduceCtorEq, f8, f5, f2, f3, f6, f7, he, he2, hl1, hl2, i5, m1, Tryz.results43]) | ((first | refine yg rfl ?_ | refine yn ?_ | refine yi ?_); try simp only [go_sem]) | ((first | refine yx hN _ _ ?_ | refine yz hN _ _ ?_ | refine yy hN _ ?_); clear hN N) | refine yt (id := 13) mixed [] (.rd 0 (.rd 1 (.rd 2 (.rd 3 (.rd 4 (.rd 5 (.rd 6 (.rd 7 (.act 8 [7, 6, 5, 4, 3, 2, 1, 0] (.act 9 [5, 4, 3, 2, 1, 0] (.act 10 [5, 4, 3, 2, 1, 0] (.act 11 [5, 4, 3, 2, 1, 0] (.act 12 [] (.act 13 [] (.rd 14 (.rd 15 (.rd 16 (.rd 17 (.rd 18 (.rd 19 (.rd 20 (.rd 21 (.act 22 [21, 20, 19, 18, 17, 16, 15, 14] (.act 23 [19, 18, 17, 16, 15, 14] (.act 24 [19, 18, 17, 16, 15, 14] (.act 25 [19, 18, 17, 16, 15, 14] (.act 26 [] (.act 27 [] (.act 28 [] (.nil)))))))))))))))))))))))))))))) (by kernel_rfl) ?_ | (refine sem83 _ wu.ty _ wv.ty _ _ (fun hq => absurd hq m2) (fun _ => ?_); try simp only [go_sem, ↓reduceIte, zA, zB, zC, zD, zE, zF, zG, zL, zM, zN, reduceCtorEq, f8, f5, f2, f3, f6, f7, he, he2, hl1, hl2, i5, m1]) | clear hN N | fail
        all_goals exact hF2
      repeat' first | refine yj fun N hN => ?_ | refine yk ?_ | refine yl [] ?_ | ((first | refine ya rfl rfl fun N hN => ?_ | refine yc rfl rfl fun N hN => ?_ | refine yd rfl rfl rfl rfl fun N hN => ?_ | refine ye rfl rfl fun N hN => ?_ | refine yf rfl rfl rfl rfl fun N hN => ?_ | (refine yw hN _ _ ?_; clear hN N) | refine ym ?_); simp only [go_sem, ↓reduceIte, zA, zB, zC, zD, zE, zF, zG, zL, zM, zN, reduceCtorEq, f8, f5, f2, f3, f6, f7, he, he2, hl1, hl2, i5, m1, Tryz.results43]) | ((first | refine yg rfl ?_ | refine yn ?_ | refine yi ?_); try simp only [go_sem]) | ((first | refine yx hN _ _ ?_ | refine yz hN _ _ ?_ | refine yy hN _ ?_); clear hN N) | refine yt (id := 13) mixed [] (.rd 0 (.rd 1 (.rd 2 (.rd 3 (.rd 4 (.rd 5 (.rd 6 (.rd 7 (.act 8 [7, 6, 5, 4, 3, 2, 1, 0] (.act 9 [5, 4, 3, 2, 1, 0] (.act 10 [5, 4, 3, 2, 1, 0] (.act 11 [5, 4, 3, 2, 1, 0] (.act 12 [] (.act 13 [] (.rd 14 (.rd 15 (.rd 16 (.rd 17 (.rd 18 (.rd 19 (.rd 20 (.rd 21 (.act 22 [21, 20, 19, 18, 17, 16, 15, 14] (.act 23 [19, 18, 17, 16, 15, 14] (.act 24 [19, 18, 17, 16, 15, 14] (.act 25 [19, 18, 17, 16, 15, 14] (.act 26 [] (.act 27 [] (.act 28 [] (.nil)))))))))))))))))))))))))))))) (by kernel_rfl) ?_ | (refine sem83 _ wu.ty _ wv.ty _ _ (fun _ => ?_) (fun hq => absurd m2 hq); try simp only [go_sem, ↓reduceIte, zA, zB, zC, zD, zE, zF, zG, zL, zM, zN, reduceCtorEq, f8, f5, f2, f3, f6, f7, he, he2, hl1, hl2, i5, m1]) | (refine And.intro ?_ ?_; · omega) | clear hN N | fail
      refine ih2.back (q4 - 1) (by omega) _ _ ⟨rfl, i' + 1, by omega, hal2 (Cc.ext2 m1 m2), ?_, ?_, ?_, ?_, ?_, ?_⟩
      · simp only [go_sem, ↓reduceIte, zA, zB, zC, zD, zE, zF, zG, zL, zM, zN, reduceCtorEq]; rfl
      · simp only [go_sem, ↓reduceIte, zA, zB, zC, zD, zE, zF, zG, zL, zM, zN, reduceCtorEq, f5]
      · simp only [go_sem, ↓reduceIte, zA, zB, zC, zD, zE, zF, zG, zL, zM, zN, reduceCtorEq, f2]
      · simp only [go_sem, ↓reduceIte, zA, zB, zC, zD, zE, zF, zG, zL, zM, zN, reduceCtorEq, f3]
      · simp only [go_sem, ↓reduceIte, zA, zB, zC, zD, zE, zF, zG, zL, zM, zN, reduceCtorEq, f6]
      · simp only [go_sem, ↓reduceIte, zA, zB, zC, zD, zE, zF, zG, zL, zM, zN, reduceCtorEq, f7]
    · have i5 : ¬ (i' : Int) < x.cs.length := by omega
      have e4 : x.cs = y.cs := getD_ext Cc.z n3 (fun j hj => hal j (by omega))
      repeat' first | refine yj fun N hN => ?_ | refine yl [] ?_ | ((first | refine ya rfl rfl fun N hN => ?_ | refine ym ?_ | refine yp ?_); simp only [go_sem, ↓reduceIte, zA, zB, zC, zD, zE, zF, zG, zL, zM, zN, reduceCtorEq, f8, f5, f2, f3, f6, f7, i5, Tryz.results43]) | (refine yg rfl ?_; try simp only [go_sem]) | ((first | refine yx hN _ _ ?_ | refine yz hN _ _ ?_); clear hN N) | (refine And.intro ?_ ?_; · omega) | clear hN N | fail
      refine ih.back (m - 1) (by omega) _ _ ⟨rfl, i + 1, by omega, hal' (In.ext2 n1 n2 e4), ?_, ?_, ?_⟩
      · simp only [go_sem, ↓reduceIte, zA, zB, zC, zD, zE, zF, zG, zL, zM, zN, reduceCtorEq]; rfl
      · simp only [go_sem, ↓reduceIte, zA, zB, zC, zD, zE, zF, zG, zL, zM, zN, reduceCtorEq, f2]
      · simp only [go_sem, ↓reduceIte, zA, zB, zC, zD, zE, zF, zG, zL, zM, zN, reduceCtorEq, f3]
  · have i4 : ¬ (i : Int) < c.inds.length := by omega
    have e7 : c.inds = d.inds := getD_ext In.z c7 (fun j hj => hal j (by omega))
    repeat' first | refine yj fun N hN => ?_ | refine yl [] ?_ | ((first | refine ya rfl rfl fun N hN => ?_ | refine ym ?_ | refine yo ?_ | refine yp ?_); simp only [go_sem, ↓reduceIte, zA, zB, zC, zD, zE, zF, zG, zL, zM, zN, reduceCtorEq, f5, f2, f3, i4, Tryz.results43]) | (refine yg rfl ?_; try simp only [go_sem]) | ((first | refine yx hN _ _ ?_ | refine yz hN _ _ ?_); clear hN N) | clear hN N | fail
    exact hT (De.ext2 c1 c2 c3 c4 c5 c6 e7)

theorem sem12 (l m : List De) (hl : ∀ a ∈ l, a.Wf) (hm : ∀ a ∈ m, a.Wf) (hlen : l.length < 140737488355328) (hlen2 : m.length < 140737488355328) (st : St) (k : D → St → Prop) (hT : l = m → k (.bool true) st) (hF : l ≠ m → k (.bool false) st) : Sem P 12 [.sl .frozen 15 (l.map De.d), .sl .frozen 15 (m.map De.d)] st k := by
  by_cases c1 : l.length = m.length
  case neg =>
    have hF := hF (fun e => c1 (by rw [e]))
    have c1' : ¬ (l.length : Int) = m.length := by omega
    refine Sem.of_body Tryz.call12 Tryz.func12 rfl Tryz.ntmps12 (by simp) ?_
    repeat' first | refine yj fun N hN => ?_ | refine yl [] ?_ | ((first | refine ya rfl rfl fun N hN => ?_ | refine ym ?_ | refine yo ?_); simp only [go_sem, ↓reduceIte, zA, zB, zC, zD, zE, zF, zG, zL, zM, zN, reduceCtorEq, c1', Tryz.results12]) | (refine yg rfl ?_; try simp only [go_sem]) | ((first | refine yx hN _ _ ?_ | refine yz hN _ _ ?_); clear hN N) | clear hN N | fail
    all_goals exact hF
  refine Sem.of_body Tryz.call12 Tryz.func12 rfl Tryz.ntmps12 (by simp) ?_
  repeat' first | refine yj fun N hN => ?_ | refine yk ?_ | refine yl [] ?_ | ((first | refine ya rfl rfl fun N hN => ?_ | refine ym ?_); simp only [go_sem, ↓reduceIte, zA, zB, zC, zD, zE, zF, zG, zL, zM, zN, reduceCtorEq, c1, Tryz.results12]) | ((first | refine yg rfl ?_ | refine yn ?_); try simp only [go_sem]) | ((first | refine yx hN _ _ ?_ | refine yz hN _ _ ?_); clear hN N) | fail
  refine W.loopN (fun n fr st' => st = st' ∧ ∃ i : Nat, i + n = l.length ∧ (∀ j, j < i → l.getD j De.z = m.getD j De.z) ∧ fr 5 = .int .i64 i ∧ fr 0 = .sl .frozen 15 (l.map De.d) ∧ fr 1 = .sl .frozen 15 (m.map De.d)) ?_ l.length _ _ ⟨rfl, 0, by simp, by simp, by simp only [go_sem, ↓reduceIte, zA, zB, zC, zD, zE, zF, zG, zL, zM, zN, reduceCtorEq]; rfl, by simp only [go_sem, ↓reduceIte, zA, zB, zC, zD, zE, zF, zG, zL, zM, zN, reduceCtorEq], by simp only [go_sem, ↓reduceIte, zA, zB, zC, zD, zE, zF, zG, zL, zM, zN, reduceCtorEq]⟩
  rintro n N' ih fr _ ⟨rfl, i, hi, hal, f5, f0, f1⟩
  rcases Nat.lt_or_ge i l.length with hlt | hge
  · have hlt2 : i < m.length := by omega
    have i4 : (i : Int) < l.length := by omega
    have hg : (l.map De.d).getD i .any = (l.getD i De.z).d := getD_map _ _ _ hlt
    have hg2 : (m.map De.d).getD i .any = (m.getD i De.z).d := getD_map _ _ _ hlt2
    have hx := hl _ (getD_mem l De.z hlt)
    have hy := hm _ (getD_mem m De.z hlt2)
    repeat' first | refine yj fun N hN => ?_ | refine yk ?_ | refine yl [] ?_ | ((first | refine ya rfl rfl fun N hN => ?_ | refine yc rfl rfl fun N hN => ?_ | refine ye rfl rfl fun N hN => ?_ | (refine yw hN _ _ ?_; clear hN N) | refine ym ?_ | refine yo ?_); simp only [go_sem, ↓reduceIte, zA, zB, zC, zD, zE, zF, zG, zL, zM, zN, reduceCtorEq, f5, f0, f1, hg, hg2, hlt, hlt2, i4, Tryz.results12]) | ((first | refine yg rfl ?_ | refine yn ?_ | refine yi ?_); try simp only [go_sem]) | ((first | refine yx hN _ _ ?_ | refine yz hN _ _ ?_ | refine yy hN _ ?_); clear hN N) | refine yt (id := 6) mixed [] (.rd 0 (.rd 1 (.rd 2 (.rd 3 (.rd 4 (.act 5 [4, 3, 2, 1, 0] (.act 6 [3, 2, 1, 0] (.act 7 [3, 2, 1, 0] (.act 8 [] (.act 9 [] (.nil))))))))))) (by kernel_rfl) ?_ | (refine sem43 _ _ hx hy _ _ (fun hq => ?_) (fun hq => ?_); try simp only [go_sem, ↓reduceIte, zA, zB, zC, zD, zE, zF, zG, zL, zM, zN, reduceCtorEq, f5, f0, f1, hg, hg2, hlt, hlt2, i4]) | (refine And.intro ?_ ?_; · omega) | clear hN N | fail
    all_goals first
      | (refine ih.back (n - 1) (by omega) _ _ ⟨rfl, i + 1, by omega, lt_succ_all hal hq, ?_, ?_, ?_⟩
         · simp only [go_sem, ↓reduceIte, zA, zB, zC, zD, zE, zF, zG, zL, zM, zN, reduceCtorEq]; rfl
         · simp only [go_sem, ↓reduceIte, zA, zB, zC, zD, zE, zF, zG, zL, zM, zN, reduceCtorEq, f0]
         · simp only [go_sem, ↓reduceIte, zA, zB, zC, zD, zE, zF, zG, zL, zM, zN, reduceCtorEq, f1])
      | exact hF (fun e => hq (by rw [e]))
  · have i4 : ¬ (i : Int) < l.length := by omega
    have e7 : l = m := getD_ext De.z c1 (fun j hj => hal j (by omega))
    repeat' first | refine yj fun N hN => ?_ | refine yl [] ?_ | ((first | refine ya rfl rfl fun N hN => ?_ | refine ym ?_ | refine yo ?_ | refine yp ?_); simp only [go_sem, ↓reduceIte, zA, zB, zC, zD, zE, zF, zG, zL, zM, zN, reduceCtorEq, f5, f0, f1, i4, Tryz.results12]) | (refine yg rfl ?_; try simp only [go_sem]) | ((first | refine yx hN _ _ ?_ | refine yz hN _ _ ?_); clear hN N) | clear hN N | fail
    exact hT e7
end Go.Proofs.YtddbidoaolnegaaGreatDoor
/- WireOnce: the walk of its function. No statement of the seat is proved here; no condition. -/
namespace Go.Proofs.YtddbidoaolnegaaGreatDoor
open Go Go.RowKit
open Nat renaming reduceLT → zA, reduceEqDiff → zB, reduceBEq → zC, reduceAdd → zD, reduceMul → zE, reduceSub → zF, reduceLeDiff → zG, mul_one → zH, zero_add → zI, add_zero → zJ
open Int renaming toNat_natCast → zK, reduceAdd → zL, reduceLE → zM, reduceLT → zN, natCast_nonneg → zO
open Go.Proofs.YtddbidoaolnegaaGreatDoor renaming evI_plain → ya, evI_guard → yb, evT_rd → yc, evT_rdg → yd, evT_act → ye, evT_actg → yf, evI_done → yg, evT_two → yh, evT_nil → yi, W.seqG → yj, W.block → yk, W.regionI → yl, W.cond → ym, W.skip → yn, W.ret → yo, W.exit → yp, gdD_split → yq, newT_intro → yr, newB_intro → ys, W.draw → yt, St.set_del → yu, St.give_take → yv, AGo.go → yw, IGo.go → yx, TGo.go → yy, Goes.go → yz
attribute [local go_sem] zK zP zQ zH zI zJ zO
attribute [local irreducible] W evI evT evL evOp evBin gdD Sem newT newB fillD bldOf
set_option maxRecDepth 10000
set_option maxHeartbeats 4000000

theorem vast_20 {l : List De} (h : vastB l 20 600 = false) : (l.map De.cost).sum ≤ 15000 ∧ ¬ 256 < l.length := by
  have h1 : vastB l 40 600 = false := by
    simp only [vastB, Bool.or_eq_false_iff, decide_eq_false_iff_not] at h ⊢
    exact ⟨⟨by omega, h.1.2⟩, h.2⟩
  refine ⟨cost_vast h1, ?_⟩
  simp only [vastB, Bool.or_eq_false_iff, decide_eq_false_iff_not] at h
  omega
/-- Two lists of one encoding are the same. -/
theorem encBy_inj {l m : List De} (hl : l.length ≤ 256) (hB : l.all declB = true) (hb : ¬ encBig l) (hm : m.length ≤ 256) (hB2 : m.all declB = true) (hb2 : ¬ encBig m) (e : encBy m = encBy l) : l = m :=
  FileR.inj (encBy_file hl hB hb) (e ▸ encBy_file hm hB2 hb2)

theorem sem4 (l m : List De) (hw : ∀ a ∈ l, a.Wf) (hw2 : ∀ a ∈ m, a.Wf) (hlen : l.length < 140737488355328) (hlen2 : m.length < 140737488355328) (st : St) (k : D → St → Prop) (hk : ∀ st', k (.bool true) st') : Sem P 4 [.sl .frozen 15 (l.map De.d), .sl .frozen 15 (m.map De.d)] st k := by
  cases cv : vastB l 20 600 with
  | true =>
    refine Sem.of_body Tryz.call4 Tryz.func4 rfl Tryz.ntmps4 (by simp) ?_
    repeat' first | refine yj fun N hN => ?_ | refine yl [] ?_ | ((first | refine ya rfl rfl fun N hN => ?_ | refine yb rfl rfl rfl rfl fun N hN => ?_ | refine ym ?_ | refine yo ?_); simp only [go_sem, ↓reduceIte, zA, zB, zC, zD, zE, zF, zG, zL, zM, zN, reduceCtorEq, cv, Tryz.results4]) | (refine yg rfl ?_; try simp only [go_sem]) | ((first | refine yx hN _ _ ?_ | refine yz hN _ _ ?_); clear hN N) | (refine sem5 _ l 20 600 _ _ hw (by omega) ?_; try simp only [go_sem, ↓reduceIte, zA, zB, zC, zD, zE, zF, zG, zL, zM, zN, reduceCtorEq, cv]) | (refine sem6 _ _ fun st' => ?_; try simp only [go_sem, ↓reduceIte, zA, zB, zC, zD, zE, zF, zG, zL, zM, zN, reduceCtorEq, cv]) | clear hN N | fail
    exact hk _
  | false =>
  cases cv2 : vastB m 20 600 with
  | true =>
    refine Sem.of_body Tryz.call4 Tryz.func4 rfl Tryz.ntmps4 (by simp) ?_
    repeat' first | refine yj fun N hN => ?_ | refine yl [] ?_ | ((first | refine ya rfl rfl fun N hN => ?_ | refine yb rfl rfl rfl rfl fun N hN => ?_ | refine ym ?_ | refine yo ?_); simp only [go_sem, ↓reduceIte, zA, zB, zC, zD, zE, zF, zG, zL, zM, zN, reduceCtorEq, cv, cv2, Tryz.results4]) | (refine yg rfl ?_; try simp only [go_sem]) | ((first | refine yx hN _ _ ?_ | refine yz hN _ _ ?_); clear hN N) | (refine sem5 _ l 20 600 _ _ hw (by omega) ?_; try simp only [go_sem, ↓reduceIte, zA, zB, zC, zD, zE, zF, zG, zL, zM, zN, reduceCtorEq, cv, cv2]) | (refine sem5 _ m 20 600 _ _ hw2 (by omega) ?_; try simp only [go_sem, ↓reduceIte, zA, zB, zC, zD, zE, zF, zG, zL, zM, zN, reduceCtorEq, cv, cv2]) | (refine sem6 _ _ fun st' => ?_; try simp only [go_sem, ↓reduceIte, zA, zB, zC, zD, zE, zF, zG, zL, zM, zN, reduceCtorEq, cv, cv2]) | clear hN N | fail
    exact hk _
  | false =>
  obtain ⟨hc, hl256⟩ := vast_20 cv
  obtain ⟨hc2, hm256⟩ := vast_20 cv2
  cases ca : l.all declB with
  | false =>
    have nca : ¬ l.all declB = true := by rw [ca]; simp
    refine Sem.of_body Tryz.call4 Tryz.func4 rfl Tryz.ntmps4 (by simp) ?_
    repeat' first | refine yj fun N hN => ?_ | refine yl [] ?_ | ((first | refine ya rfl rfl fun N hN => ?_ | refine yb rfl rfl rfl rfl fun N hN => ?_ | refine ym ?_ | refine yo ?_); simp only [go_sem, ↓reduceIte, zA, zB, zC, zD, zE, zF, zG, zL, zM, zN, reduceCtorEq, cv, cv2, Tryz.results4]) | ((first | refine yg rfl ?_ | refine yn ?_); try simp only [go_sem]) | ((first | refine yx hN _ _ ?_ | refine yz hN _ _ ?_); clear hN N) | (refine sem5 _ l 20 600 _ _ hw (by omega) ?_; try simp only [go_sem, ↓reduceIte, zA, zB, zC, zD, zE, zF, zG, zL, zM, zN, reduceCtorEq, cv, cv2]) | (refine sem5 _ m 20 600 _ _ hw2 (by omega) ?_; try simp only [go_sem, ↓reduceIte, zA, zB, zC, zD, zE, zF, zG, zL, zM, zN, reduceCtorEq, cv, cv2]) | (refine Sem.frzT (sem7 _ l hw hlen (fun _ _ => hc) _ _ (fun h => absurd h hl256) (fun _ _ st' => ⟨_, _, _, _, rfl, .inl ⟨rfl, rfl⟩, ?_⟩) (fun _ h => absurd h nca) (fun _ h => absurd h nca)); try simp only [go_sem, ↓reduceIte, zA, zB, zC, zD, zE, zF, zG, zL, zM, zN, reduceCtorEq, cv, cv2]) | (refine sem6 _ _ fun st' => ?_; try simp only [go_sem, ↓reduceIte, zA, zB, zC, zD, zE, zF, zG, zL, zM, zN, reduceCtorEq, cv, cv2]) | ((apply And.intro <;> intro h) <;> (try simp only [zS, zT, zU, zV, Bool.not_true, Bool.not_false] at h) <;> (first | (exfalso; omega) | simp only [go_sem, ↓reduceIte, zA, zB, zC, zD, zE, zF, zG, zL, zM, zN, reduceCtorEq, cv, cv2, h] | skip)) | clear hN N | fail
    exact hk _
  | true =>
  have nca : ¬ l.all declB = false := by rw [ca]; simp
  by_cases cb : encBig l
  · refine Sem.of_body Tryz.call4 Tryz.func4 rfl Tryz.ntmps4 (by simp) ?_
    repeat' first | refine yj fun N hN => ?_ | refine yl [] ?_ | ((first | refine ya rfl rfl fun N hN => ?_ | refine yb rfl rfl rfl rfl fun N hN => ?_ | refine ym ?_ | refine yo ?_); simp only [go_sem, ↓reduceIte, zA, zB, zC, zD, zE, zF, zG, zL, zM, zN, reduceCtorEq, cv, cv2, Tryz.results4]) | ((first | refine yg rfl ?_ | refine yn ?_); try simp only [go_sem]) | ((first | refine yx hN _ _ ?_ | refine yz hN _ _ ?_); clear hN N) | (refine sem5 _ l 20 600 _ _ hw (by omega) ?_; try simp only [go_sem, ↓reduceIte, zA, zB, zC, zD, zE, zF, zG, zL, zM, zN, reduceCtorEq, cv, cv2]) | (refine sem5 _ m 20 600 _ _ hw2 (by omega) ?_; try simp only [go_sem, ↓reduceIte, zA, zB, zC, zD, zE, zF, zG, zL, zM, zN, reduceCtorEq, cv, cv2]) | (refine Sem.frzT (sem7 _ l hw hlen (fun _ _ => hc) _ _ (fun h => absurd h hl256) (fun _ h => absurd h nca) (fun _ _ _ st' => ⟨_, _, _, _, rfl, .inl ⟨rfl, rfl⟩, ?_⟩) (fun _ _ h => absurd cb h)); try simp only [go_sem, ↓reduceIte, zA, zB, zC, zD, zE, zF, zG, zL, zM, zN, reduceCtorEq, cv, cv2]) | (refine sem6 _ _ fun st' => ?_; try simp only [go_sem, ↓reduceIte, zA, zB, zC, zD, zE, zF, zG, zL, zM, zN, reduceCtorEq, cv, cv2]) | ((apply And.intro <;> intro h) <;> (try simp only [zS, zT, zU, zV, Bool.not_true, Bool.not_false] at h) <;> (first | (exfalso; omega) | simp only [go_sem, ↓reduceIte, zA, zB, zC, zD, zE, zF, zG, zL, zM, zN, reduceCtorEq, cv, cv2, h] | skip)) | clear hN N | fail
    exact hk _
  have hl' : l.length ≤ 256 := Nat.not_lt.1 hl256
  have hm' : m.length ≤ 256 := Nat.not_lt.1 hm256
  have hF := encBy_file hl' ca cb
  refine Sem.of_body Tryz.call4 Tryz.func4 rfl Tryz.ntmps4 (by simp) ?_
  repeat' first | refine yj fun N hN => ?_ | refine yl [] ?_ | ((first | refine ya rfl rfl fun N hN => ?_ | refine yb rfl rfl rfl rfl fun N hN => ?_ | refine ym ?_); simp only [go_sem, ↓reduceIte, zA, zB, zC, zD, zE, zF, zG, zL, zM, zN, reduceCtorEq, cv, cv2, bytesOf_byD, Tryz.results4]) | ((first | refine yg rfl ?_ | refine yn ?_); try simp only [go_sem]) | ((first | refine yx hN _ _ ?_ | refine yz hN _ _ ?_); clear hN N) | (refine sem5 _ l 20 600 _ _ hw (by omega) ?_; try simp only [go_sem, ↓reduceIte, zA, zB, zC, zD, zE, zF, zG, zL, zM, zN, reduceCtorEq, cv, cv2, bytesOf_byD]) | (refine sem5 _ m 20 600 _ _ hw2 (by omega) ?_; try simp only [go_sem, ↓reduceIte, zA, zB, zC, zD, zE, zF, zG, zL, zM, zN, reduceCtorEq, cv, cv2, bytesOf_byD]) | (refine Sem.frzT (sem7 _ l hw hlen (fun _ _ => hc) _ _ (fun h => absurd h hl256) (fun _ h => absurd h nca) (fun _ _ h => absurd h cb) (fun _ _ _ ow1 st' => ⟨_, _, _, _, rfl, .inr rfl, ?_⟩)); try simp only [go_sem, ↓reduceIte, zA, zB, zC, zD, zE, zF, zG, zL, zM, zN, reduceCtorEq, cv, cv2, bytesOf_byD]) | (refine sem11 hF _ fun st' => ?_; try simp only [go_sem, ↓reduceIte, zA, zB, zC, zD, zE, zF, zG, zL, zM, zN, reduceCtorEq, cv, cv2, bytesOf_byD]) | fail
  cases ca2 : m.all declB with
  | false =>
    have nca2 : ¬ m.all declB = true := by rw [ca2]; simp
    refine Sem.frzT (sem7 _ m hw2 hlen2 (fun _ _ => hc2) _ _ (fun h => absurd h hm256) (fun _ _ st' => ⟨_, _, _, _, rfl, .inl ⟨rfl, rfl⟩, ?_⟩) (fun _ h => absurd h nca2) (fun _ h => absurd h nca2))
    repeat' first | refine yj fun N hN => ?_ | ((first | refine ya rfl rfl fun N hN => ?_ | refine yd rfl rfl rfl rfl fun N hN => ?_ | refine ye rfl rfl fun N hN => ?_ | refine yf rfl rfl rfl rfl fun N hN => ?_ | (refine yw hN _ _ ?_; clear hN N) | refine yo ?_); simp only [go_sem, ↓reduceIte, zA, zB, zC, zD, zE, zF, zG, zL, zM, zN, reduceCtorEq, bytesOf_byD, bytesOf, Tryz.results4]) | ((first | refine yg rfl ?_ | refine yi ?_); try simp only [go_sem]) | ((first | refine yx hN _ _ ?_ | refine yz hN _ _ ?_ | refine yy hN _ ?_); clear hN N) | refine yt (id := 11) mixed [] (.act 0 [] (.act 1 [] (.act 2 [] (.rd 3 (.rd 4 (.rd 5 (.rd 6 (.rd 7 (.rd 8 (.act 9 [8, 7, 6, 5, 4, 3] (.act 10 [7, 6, 5, 4, 3] (.act 11 [] (.act 12 [] (.act 13 [] (.act 14 [] (.act 15 [] (.act 16 [] (.nil)))))))))))))))))) (by kernel_rfl) ?_ | (refine sem6 _ _ fun st' => ?_; try simp only [go_sem, ↓reduceIte, zA, zB, zC, zD, zE, zF, zG, zL, zM, zN, reduceCtorEq, bytesOf_byD, bytesOf]) | (refine yq (fun h => ?_) (fun h => ?_) <;> (try simp only [zS, zT, zU, zV, Bool.not_true, Bool.not_false] at h) <;> (first | (exfalso; omega) | simp only [go_sem, ↓reduceIte, zA, zB, zC, zD, zE, zF, zG, zL, zM, zN, reduceCtorEq, bytesOf_byD, bytesOf, h] | skip)) | fail
    exact hk _
  | true =>
  have nca2 : ¬ m.all declB = false := by rw [ca2]; simp
  by_cases cb2 : encBig m
  · refine Sem.frzT (sem7 _ m hw2 hlen2 (fun _ _ => hc2) _ _ (fun h => absurd h hm256) (fun _ h => absurd h nca2) (fun _ _ _ st' => ⟨_, _, _, _, rfl, .inl ⟨rfl, rfl⟩, ?_⟩) (fun _ _ h => absurd cb2 h))
    repeat' first | refine yj fun N hN => ?_ | ((first | refine ya rfl rfl fun N hN => ?_ | refine yd rfl rfl rfl rfl fun N hN => ?_ | refine ye rfl rfl fun N hN => ?_ | refine yf rfl rfl rfl rfl fun N hN => ?_ | (refine yw hN _ _ ?_; clear hN N) | refine yo ?_); simp only [go_sem, ↓reduceIte, zA, zB, zC, zD, zE, zF, zG, zL, zM, zN, reduceCtorEq, bytesOf_byD, bytesOf, Tryz.results4]) | ((first | refine yg rfl ?_ | refine yi ?_); try simp only [go_sem]) | ((first | refine yx hN _ _ ?_ | refine yz hN _ _ ?_ | refine yy hN _ ?_); clear hN N) | refine yt (id := 11) mixed [] (.act 0 [] (.act 1 [] (.act 2 [] (.rd 3 (.rd 4 (.rd 5 (.rd 6 (.rd 7 (.rd 8 (.act 9 [8, 7, 6, 5, 4, 3] (.act 10 [7, 6, 5, 4, 3] (.act 11 [] (.act 12 [] (.act 13 [] (.act 14 [] (.act 15 [] (.act 16 [] (.nil)))))))))))))))))) (by kernel_rfl) ?_ | (refine sem6 _ _ fun st' => ?_; try simp only [go_sem, ↓reduceIte, zA, zB, zC, zD, zE, zF, zG, zL, zM, zN, reduceCtorEq, bytesOf_byD, bytesOf]) | (refine yq (fun h => ?_) (fun h => ?_) <;> (try simp only [zS, zT, zU, zV, Bool.not_true, Bool.not_false] at h) <;> (first | (exfalso; omega) | simp only [go_sem, ↓reduceIte, zA, zB, zC, zD, zE, zF, zG, zL, zM, zN, reduceCtorEq, bytesOf_byD, bytesOf, h] | skip)) | fail
    exact hk _
  refine Sem.frzT (sem7 _ m hw2 hlen2 (fun _ _ => hc2) _ _ (fun h => absurd h hm256) (fun _ h => absurd h nca2) (fun _ _ h => absurd h cb2) (fun _ _ _ ow2 st' => ⟨_, _, _, _, rfl, .inr rfl, ?_⟩))
  have hI : ¬ l = m → ¬ encBy m = encBy l := fun h e => h (encBy_inj hl' ca cb hm' ca2 cb2 e)
  by_cases e : l = m
  · have e2 : encBy m = encBy l := by rw [e]
    repeat' first | refine yj fun N hN => ?_ | ((first | refine ya rfl rfl fun N hN => ?_ | refine yd rfl rfl rfl rfl fun N hN => ?_ | refine ye rfl rfl fun N hN => ?_ | refine yf rfl rfl rfl rfl fun N hN => ?_ | (refine yw hN _ _ ?_; clear hN N) | refine yo ?_); simp only [go_sem, ↓reduceIte, zA, zB, zC, zD, zE, zF, zG, zL, zM, zN, reduceCtorEq, bytesOf_byD, bytesOf, e2, Tryz.results4]) | ((first | refine yg rfl ?_ | refine yi ?_); try simp only [go_sem]) | ((first | refine yx hN _ _ ?_ | refine yz hN _ _ ?_ | refine yy hN _ ?_); clear hN N) | refine yt (id := 11) mixed [] (.act 0 [] (.act 1 [] (.act 2 [] (.rd 3 (.rd 4 (.rd 5 (.rd 6 (.rd 7 (.rd 8 (.act 9 [8, 7, 6, 5, 4, 3] (.act 10 [7, 6, 5, 4, 3] (.act 11 [] (.act 12 [] (.act 13 [] (.act 14 [] (.act 15 [] (.act 16 [] (.nil)))))))))))))))))) (by kernel_rfl) ?_ | (refine sem12 l m hw hw2 hlen hlen2 _ _ (fun _ => ?_) (fun hq => absurd e hq); try simp only [go_sem, ↓reduceIte, zA, zB, zC, zD, zE, zF, zG, zL, zM, zN, reduceCtorEq, bytesOf_byD, bytesOf, e2]) | (refine sem6 _ _ fun st' => ?_; try simp only [go_sem, ↓reduceIte, zA, zB, zC, zD, zE, zF, zG, zL, zM, zN, reduceCtorEq, bytesOf_byD, bytesOf, e2]) | fail
    exact hk _
  · have e2 := hI e
    repeat' first | refine yj fun N hN => ?_ | ((first | refine ya rfl rfl fun N hN => ?_ | refine yd rfl rfl rfl rfl fun N hN => ?_ | refine ye rfl rfl fun N hN => ?_ | refine yf rfl rfl rfl rfl fun N hN => ?_ | (refine yw hN _ _ ?_; clear hN N) | refine yo ?_); simp only [go_sem, ↓reduceIte, zA, zB, zC, zD, zE, zF, zG, zL, zM, zN, reduceCtorEq, bytesOf_byD, bytesOf, e2, Tryz.results4]) | ((first | refine yg rfl ?_ | refine yi ?_); try simp only [go_sem]) | ((first | refine yx hN _ _ ?_ | refine yz hN _ _ ?_ | refine yy hN _ ?_); clear hN N) | refine yt (id := 11) mixed [] (.act 0 [] (.act 1 [] (.act 2 [] (.rd 3 (.rd 4 (.rd 5 (.rd 6 (.rd 7 (.rd 8 (.act 9 [8, 7, 6, 5, 4, 3] (.act 10 [7, 6, 5, 4, 3] (.act 11 [] (.act 12 [] (.act 13 [] (.act 14 [] (.act 15 [] (.act 16 [] (.nil)))))))))))))))))) (by kernel_rfl) ?_ | (refine sem12 l m hw hw2 hlen hlen2 _ _ (fun hq => absurd hq e) (fun _ => ?_); try simp only [go_sem, ↓reduceIte, zA, zB, zC, zD, zE, zF, zG, zL, zM, zN, reduceCtorEq, bytesOf_byD, bytesOf, e2]) | (refine sem6 _ _ fun st' => ?_; try simp only [go_sem, ↓reduceIte, zA, zB, zC, zD, zE, zF, zG, zL, zM, zN, reduceCtorEq, bytesOf_byD, bytesOf, e2]) | fail
    exact hk _
end Go.Proofs.YtddbidoaolnegaaGreatDoor
