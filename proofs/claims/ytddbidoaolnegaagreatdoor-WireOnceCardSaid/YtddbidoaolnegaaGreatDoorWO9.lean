/-
PART OF A CLAIM: P5, P6, P7, P8. No statement of the seat is proved here; no condition. -/
import Derived.Test.YtddbidoaolnegaaGreatDoorWO8
set_option linter.all false
/- Terms: what they are; the walks over them by the reference. No statement of the seat is proved here; no condition. -/
namespace Go.Proofs.YtddbidoaolnegaaGreatDoor
open Go Go.RowKit
open Nat renaming reduceLT → zA, reduceEqDiff → zB, reduceBEq → zC, reduceAdd → zD, reduceMul → zE, reduceSub → zF, reduceLeDiff → zG, mul_one → zH, zero_add → zI, add_zero → zJ
open Int renaming toNat_natCast → zK, reduceAdd → zL, reduceLE → zM, reduceLT → zN, natCast_nonneg → zO
open Go.Proofs.YtddbidoaolnegaaGreatDoor renaming evI_plain → ya, evI_guard → yb, evT_rd → yc, evT_rdg → yd, evT_act → ye, evT_actg → yf, evI_done → yg, evT_two → yh, evT_nil → yi, W.seqG → yj, W.block → yk, W.regionI → yl, W.cond → ym, W.skip → yn, W.ret → yo, W.exit → yp, gdD_split → yq, newT_intro → yr, newB_intro → ys, W.draw → yt, St.set_del → yu, St.give_take → yv, AGo.go → yw, IGo.go → yx, TGo.go → yy, Goes.go → yz
attribute [local go_sem] zK zP zQ zH zI zJ zO
attribute [local irreducible] W evI evT evL evOp evBin gdD Sem newT newB fillD bldOf
set_option maxRecDepth 10000
set_option maxHeartbeats 1000000

theorem Lv.d_fine (l : Lv) : l.d.fine = true := rfl
theorem Lv.d_isAgg (l : Lv) : D.isAgg 5 l.d = true := by simp [Lv.d, D.isAgg, l.n]
theorem Lv.d_len (l : Lv) : l.d.cells.length = 5 := by simp [Lv.d, D.cells, l.n]
attribute [go_sem] Lv.d_fine Lv.d_isAgg Lv.d_len

inductive Tm where
  | mk (k : Nat) (n : Int) (s : List UInt8) (ls : List Lv) (ts : List Tm)
def Tm.k : Tm → Nat | .mk k _ _ _ _ => k
def Tm.n : Tm → Int | .mk _ n _ _ _ => n
def Tm.s : Tm → List UInt8 | .mk _ _ s _ _ => s
def Tm.ls : Tm → List Lv | .mk _ _ _ ls _ => ls
def Tm.ts : Tm → List Tm | .mk _ _ _ _ ts => ts
mutual
def Tm.d : Tm → D
  | .mk k n s ls ts => .agg [.int .u8 k, .int .i64 n, .str s, .sl .frozen 5 (ls.map Lv.d), .sl .frozen 5 (Tm.ds ts)]
def Tm.ds : List Tm → List D
  | [] => []
  | t :: ts => t.d :: Tm.ds ts
end
theorem Tm.ds_map : ∀ ts : List Tm, Tm.ds ts = ts.map Tm.d
  | [] => rfl
  | _ :: ts => by rw [Tm.ds, Tm.ds_map ts]; rfl
theorem Tm.d_eq (t : Tm) : t.d = .agg [.int .u8 t.k, .int .i64 t.n, .str t.s, .sl .frozen 5 (t.ls.map Lv.d), .sl .frozen 5 (t.ts.map Tm.d)] := by
  cases t; simp only [Tm.d, Tm.ds_map, Tm.k, Tm.n, Tm.s, Tm.ls, Tm.ts]

theorem Tm.d_fine (t : Tm) : t.d.fine = true := by rw [Tm.d_eq]; rfl
theorem Tm.d_isAgg (t : Tm) : D.isAgg 5 t.d = true := by rw [Tm.d_eq]; rfl
theorem Tm.d_len (t : Tm) : t.d.cells.length = 5 := by rw [Tm.d_eq]; rfl
attribute [go_sem] Tm.d_fine Tm.d_isAgg Tm.d_len

theorem kb {k : D → St → Prop} {a b : Bool} {st : St} (hk : k (.bool a) st) (h : a = b) : k (.bool b) st := h ▸ hk

/-- How many terms a kind has; -1 is no kind. -/
def kidsN (k : Nat) : Int := if k = 1 ∨ k = 2 ∨ k = 3 then 0 else if k = 4 ∨ k = 5 ∨ k = 6 then 2 else if k = 7 then 3 else if k = 8 then 1 else -1

/-- A node that may be. -/
def nodeB (t : Tm) : Bool :=
  decide (0 ≤ kidsN t.k) && decide ((t.ts.length : Int) = kidsN t.k) && t.ls.all lvB &&
  (if t.k = 3 ∨ t.k = 8 then nameB t.s else decide (t.s = [])) &&
  (if t.k = 2 then decide (0 ≤ t.n) && decide (t.n ≤ 1048576) else if t.k = 8 then decide (0 ≤ t.n) && decide (t.n < 12) else decide (t.n = 0)) &&
  (if t.k = 1 then decide (t.ls.length = 1) else if t.k = 3 then decide (t.ls.length ≤ 4) else decide (t.ls.length = 0))

end Go.Proofs.YtddbidoaolnegaaGreatDoor
/- Terms by the reference: how great, how deep, which may be: the walks. No statement of the seat is proved here; no condition. -/
namespace Go.Proofs.YtddbidoaolnegaaGreatDoor
open Go Go.RowKit
open Nat renaming reduceLT → zA, reduceEqDiff → zB, reduceBEq → zC, reduceAdd → zD, reduceMul → zE, reduceSub → zF, reduceLeDiff → zG, mul_one → zH, zero_add → zI, add_zero → zJ
open Int renaming toNat_natCast → zK, reduceAdd → zL, reduceLE → zM, reduceLT → zN, natCast_nonneg → zO
open Go.Proofs.YtddbidoaolnegaaGreatDoor renaming evI_plain → ya, evI_guard → yb, evT_rd → yc, evT_rdg → yd, evT_act → ye, evT_actg → yf, evI_done → yg, evT_two → yh, evT_nil → yi, W.seqG → yj, W.block → yk, W.regionI → yl, W.cond → ym, W.skip → yn, W.ret → yo, W.exit → yp, gdD_split → yq, newT_intro → yr, newB_intro → ys, W.draw → yt, St.set_del → yu, St.give_take → yv, AGo.go → yw, IGo.go → yx, TGo.go → yy, Goes.go → yz
attribute [local go_sem] zK zP zQ zH zI zJ zO
attribute [local irreducible] W evI evT evL evOp evBin gdD Sem newT newB fillD bldOf
set_option maxRecDepth 10000
set_option maxHeartbeats 1000000

theorem Tm.d_cells (t : Tm) : t.d.cells = [.int .u8 t.k, .int .i64 t.n, .str t.s, .sl .frozen 5 (t.ls.map Lv.d), .sl .frozen 5 (t.ts.map Tm.d)] := by rw [Tm.d_eq]; rfl
theorem Lv.d_cells (l : Lv) : l.d.cells = .int .i64 l.c :: l.p.map (.int .i64) := rfl
attribute [go_sem] Tm.d_cells Lv.d_cells
def Tm.z : Tm := .mk 0 0 [] [] []
def Lv.z : Lv := ⟨0, [0, 0, 0, 0], rfl⟩

theorem Tm.ind {p : Tm → Prop} (h : ∀ k n s ls ts, (∀ t ∈ ts, p t) → p (.mk k n s ls ts)) : ∀ t, p t :=
  Tm.rec (motive_1 := p) (motive_2 := fun ts => ∀ t ∈ ts, p t) (fun k n s ls ts ih => h k n s ls ts ih) (by simp) (fun t ts h1 h2 x hx => by
    rcases List.mem_cons.1 hx with rfl | hx
    · exact h1
    · exact h2 x hx)

def Lv.wf (l : Lv) : Prop := -9223372036854775808 ≤ l.c ∧ l.c ≤ 9223372036854775807 ∧ ∀ i, i < 4 → -9223372036854775808 ≤ l.p.getD i 0 ∧ l.p.getD i 0 ≤ 9223372036854775807
mutual
def Tm.wf : Tm → Prop
  | .mk k n s ls ts => k < 256 ∧ (-9223372036854775808 ≤ n ∧ n ≤ 9223372036854775807) ∧ s.length < 140737488355328 ∧ ls.length < 140737488355328 ∧ ts.length < 140737488355328 ∧ (∀ l ∈ ls, l.wf) ∧ Tm.wfs ts
def Tm.wfs : List Tm → Prop
  | [] => True
  | t :: ts => t.wf ∧ Tm.wfs ts
end
theorem Tm.wfs_iff : ∀ {ts : List Tm}, Tm.wfs ts ↔ ∀ t ∈ ts, t.wf
  | [] => by simp [Tm.wfs]
  | t :: ts => by simp [Tm.wfs, Tm.wfs_iff (ts := ts)]
structure Tm.Wf (t : Tm) : Prop where
  k : t.k < 256
  n : -9223372036854775808 ≤ t.n ∧ t.n ≤ 9223372036854775807
  s : t.s.length < 140737488355328
  ls : t.ls.length < 140737488355328
  ts : t.ts.length < 140737488355328
  lv : ∀ l ∈ t.ls, l.wf
  tm : ∀ x ∈ t.ts, x.wf
theorem Tm.wf.to {t : Tm} (h : t.wf) : t.Wf := by
  cases t
  simp only [Tm.wf, Tm.wfs_iff] at h
  exact ⟨h.1, h.2.1, h.2.2.1, h.2.2.2.1, h.2.2.2.2.1, h.2.2.2.2.2.1, h.2.2.2.2.2.2⟩

theorem drop_getD {α : Type} (l : List α) (a : α) {i : Nat} (h : i < l.length) : l.drop i = l.getD i a :: l.drop (i + 1) := by
  rw [List.drop_eq_getElem_cons h]; simp [List.getD, h]
theorem getD_mem {α : Type} (l : List α) (a : α) {i : Nat} (h : i < l.length) : l.getD i a ∈ l := by
  simp [List.getD, h]

mutual
def mayG (q : Tm → Bool) : Tm → Int → Int → Int
  | .mk k n s ls ts, l, d => if l - 1 < 0 ∨ d ≤ 0 ∨ q (.mk k n s ls ts) = false then -1 else mayGs q ts (l - 1) (d - 1)
def mayGs (q : Tm → Bool) : List Tm → Int → Int → Int
  | [], l, _ => l
  | t :: ts, l, d => if mayG q t l d < 0 then -1 else mayGs q ts (mayG q t l d) d
end
theorem mayG_eq (q : Tm → Bool) (t : Tm) (l d : Int) : mayG q t l d = if l - 1 < 0 ∨ d ≤ 0 ∨ q t = false then -1 else mayGs q t.ts (l - 1) (d - 1) := by
  cases t; rw [mayG]; rfl

mutual
theorem mayG_le (q : Tm → Bool) : ∀ (t : Tm) (l d : Int), 0 ≤ l → -1 ≤ mayG q t l d ∧ mayG q t l d ≤ l
  | .mk k n s ls ts, l, d, h => by
    rw [mayG]
    split
    · omega
    · have := mayGs_le q ts (l - 1) (d - 1) (by omega); omega
theorem mayGs_le (q : Tm → Bool) : ∀ (ts : List Tm) (l d : Int), 0 ≤ l → -1 ≤ mayGs q ts l d ∧ mayGs q ts l d ≤ l
  | [], l, d, h => by rw [mayGs]; omega
  | t :: ts, l, d, h => by
    rw [mayGs]
    have h1 := mayG_le q t l d h
    split
    · omega
    · have := mayGs_le q ts (mayG q t l d) d (by omega); omega
end

/-! How many nodes; how deep. -/
mutual
def Tm.size : Tm → Nat
  | .mk _ _ _ _ ts => 1 + Tm.sizes ts
def Tm.sizes : List Tm → Nat
  | [] => 0
  | t :: ts => t.size + Tm.sizes ts
end
mutual
def Tm.deep : Tm → Nat
  | .mk _ _ _ _ ts => Tm.deeps ts + 1
def Tm.deeps : List Tm → Nat
  | [] => 0
  | t :: ts => max t.deep (Tm.deeps ts)
end
theorem Tm.size_eq (t : Tm) : t.size = 1 + Tm.sizes t.ts := by cases t; rw [Tm.size]; rfl
theorem Tm.deep_eq (t : Tm) : t.deep = Tm.deeps t.ts + 1 := by cases t; rw [Tm.deep]; rfl
theorem Tm.sizes_mem : ∀ {ts : List Tm} {t : Tm}, t ∈ ts → t.size ≤ Tm.sizes ts
  | [], _, h => by simp at h
  | x :: ts, t, h => by
    rw [Tm.sizes]
    rcases List.mem_cons.1 h with rfl | h
    · omega
    · have := Tm.sizes_mem h; omega
theorem Tm.deeps_le_sizes : ∀ {ts : List Tm}, (∀ t ∈ ts, t.deep ≤ t.size) → Tm.deeps ts ≤ Tm.sizes ts
  | [], _ => by simp [Tm.deeps, Tm.sizes]
  | t :: ts, h => by
    rw [Tm.deeps, Tm.sizes]
    have h1 := h t (by simp)
    have h2 := Tm.deeps_le_sizes (ts := ts) (fun x hx => h x (by simp [hx]))
    omega
theorem Tm.deep_le_size (t : Tm) : t.deep ≤ t.size := by
  induction t using Tm.ind with
  | h k n s ls ts ih =>
    rw [Tm.deep, Tm.size]
    have := Tm.deeps_le_sizes ih; omega

theorem sem45 : ∀ (t : Tm), t.wf → ∀ (st : St) (k : D → St → Prop), t.size < 1000000000 → k (.int .i64 t.size) st → Sem P 45 [t.d] st k := by
  intro t
  induction t using Tm.ind with
  | h k n s ls ts ihT =>
    intro hw st k' hsz hk
    have wt := hw.to
    generalize he : Tm.mk k n s ls ts = t at *
    have hts : ts = t.ts := by rw [← he]; rfl
    rw [hts] at ihT
    clear he hts
    rw [Tm.size_eq] at hk hsz
    refine Sem.of_body Tryz.call45 Tryz.func45 rfl Tryz.ntmps45 (by simp) ?_
    repeat' first | refine yj fun N hN => ?_ | refine yk ?_ | refine yl [] ?_ | (refine ya rfl rfl fun N hN => ?_; simp only [go_sem, ↓reduceIte, zA, zB, zC, zD, zE, zF, zG, zL, zM, zN, reduceCtorEq, Tryz.results45]) | (refine yg rfl ?_; try simp only [go_sem]) | ((first | refine yx hN _ _ ?_ | refine yz hN _ _ ?_); clear hN N) | fail
    refine W.loopN (fun m fr st' => st' = st ∧ ∃ i l' : Nat, i + m = t.ts.length ∧ l' + Tm.sizes (t.ts.drop i) = 1 + Tm.sizes t.ts ∧ fr 4 = .int .i64 i ∧ fr 3 = .int .i64 l' ∧ fr 1 = .eptr t.d 0) ?_ t.ts.length _ _ ⟨rfl, 0, 1, by simp, by simp, by simp only [go_sem, ↓reduceIte, zA, zB, zC, zD, zE, zF, zG, zL, zM, zN, reduceCtorEq]; rfl, by simp only [go_sem, ↓reduceIte, zA, zB, zC, zD, zE, zF, zG, zL, zM, zN, reduceCtorEq]; rfl, by simp only [go_sem, ↓reduceIte, zA, zB, zC, zD, zE, zF, zG, zL, zM, zN, reduceCtorEq]⟩
    rintro m N' ih fr _ ⟨rfl, i, l', hi, he, f4, f3, f1⟩
    have hts := wt.ts
    rcases Nat.lt_or_ge i t.ts.length with hlt | hge
    · have hg : (t.ts.map Tm.d).getD i .any = (t.ts.getD i Tm.z).d := getD_map _ _ _ hlt
      have h4 : (i : Int) < t.ts.length := by omega
      rw [drop_getD _ Tm.z hlt, Tm.sizes] at he
      have hm := getD_mem t.ts Tm.z hlt
      repeat' first | refine yj fun N hN => ?_ | refine yk ?_ | refine yl [] ?_ | ((first | refine ya rfl rfl fun N hN => ?_ | refine ym ?_); simp only [go_sem, ↓reduceIte, zA, zB, zC, zD, zE, zF, zG, zL, zM, zN, reduceCtorEq, f4, f3, f1, hg, hlt, h4, Tryz.results45]) | ((first | refine yg rfl ?_ | refine yn ?_); try simp only [go_sem]) | ((first | refine yx hN _ _ ?_ | refine yz hN _ _ ?_); clear hN N) | (refine ihT _ hm (wt.tm _ hm) _ _ (by omega) ?_; try simp only [go_sem, ↓reduceIte, zA, zB, zC, zD, zE, zF, zG, zL, zM, zN, reduceCtorEq, f4, f3, f1, hg, hlt, h4]) | (refine And.intro ?_ ?_; · omega) | clear hN N | fail
      refine ih.back (m - 1) (by omega) _ _ ⟨rfl, i + 1, l' + (t.ts.getD i Tm.z).size, by omega, by omega, ?_, ?_, ?_⟩
      · simp only [go_sem, ↓reduceIte, zA, zB, zC, zD, zE, zF, zG, zL, zM, zN, reduceCtorEq]; rfl
      · simp only [go_sem, ↓reduceIte, zA, zB, zC, zD, zE, zF, zG, zL, zM, zN, reduceCtorEq]; rfl
      · simp only [go_sem, ↓reduceIte, zA, zB, zC, zD, zE, zF, zG, zL, zM, zN, reduceCtorEq, f1]
    · have h4 : ¬ (i : Int) < t.ts.length := by omega
      rw [List.drop_of_length_le hge, Tm.sizes] at he
      repeat' first | refine yj fun N hN => ?_ | refine yl [] ?_ | ((first | refine ya rfl rfl fun N hN => ?_ | refine ym ?_ | refine yo ?_ | refine yp ?_); simp only [go_sem, ↓reduceIte, zA, zB, zC, zD, zE, zF, zG, zL, zM, zN, reduceCtorEq, f4, f3, f1, h4, Tryz.results45]) | (refine yg rfl ?_; try simp only [go_sem]) | ((first | refine yx hN _ _ ?_ | refine yz hN _ _ ?_); clear hN N) | clear hN N | fail
      all_goals (have e : l' = 1 + Tm.sizes t.ts := by omega
                 rw [e]; exact hk)

/-! The levels of all nodes. -/
def lvD (l : Lv) : Bool := lvB l && l.p.all (fun n => decide (n ≤ 64)) && decide (l.c ≤ 64)
mutual
def lvsB : Tm → Bool
  | .mk _ _ _ ls ts => ls.all lvD && lvssB ts
def lvssB : List Tm → Bool
  | [] => true
  | t :: ts => lvsB t && lvssB ts
end
theorem lvsB_eq (t : Tm) : lvsB t = (t.ls.all lvD && lvssB t.ts) := by cases t; rw [lvsB]; rfl
theorem lvssB_all : ∀ (ts : List Tm), lvssB ts = ts.all lvsB
  | [] => rfl
  | t :: ts => by rw [lvssB, lvssB_all ts]; rfl
theorem all_badG {α : Type} {p : List α} (z : α) {q : α → Bool} {i : Nat} (hi : i < p.length) (h : q (p.getD i z) = false) : p.all q = false := by
  rw [List.all_eq_false]
  exact ⟨p.getD i z, by simp [List.getD, hi], by rw [h]; simp⟩
theorem all_goodG {α : Type} {p : List α} (z : α) {q : α → Bool} (h : ∀ j, j < p.length → q (p.getD j z) = true) : p.all q = true := by
  rw [List.all_eq_true]
  intro c hc
  obtain ⟨j, hj, rfl⟩ := List.getElem_of_mem hc
  have := h j hj
  simpa [List.getD, hj] using this

end Go.Proofs.YtddbidoaolnegaaGreatDoor
/- Terms by the reference: which may be declared; what no statement looks at: the walks. No statement of the seat is proved here; no condition. -/
namespace Go.Proofs.YtddbidoaolnegaaGreatDoor
open Go Go.RowKit
open Nat renaming reduceLT → zA, reduceEqDiff → zB, reduceBEq → zC, reduceAdd → zD, reduceMul → zE, reduceSub → zF, reduceLeDiff → zG, mul_one → zH, zero_add → zI, add_zero → zJ
open Int renaming toNat_natCast → zK, reduceAdd → zL, reduceLE → zM, reduceLT → zN, natCast_nonneg → zO
open Go.Proofs.YtddbidoaolnegaaGreatDoor renaming evI_plain → ya, evI_guard → yb, evT_rd → yc, evT_rdg → yd, evT_act → ye, evT_actg → yf, evI_done → yg, evT_two → yh, evT_nil → yi, W.seqG → yj, W.block → yk, W.regionI → yl, W.cond → ym, W.skip → yn, W.ret → yo, W.exit → yp, gdD_split → yq, newT_intro → yr, newB_intro → ys, W.draw → yt, St.set_del → yu, St.give_take → yv, AGo.go → yw, IGo.go → yx, TGo.go → yy, Goes.go → yz
attribute [local go_sem] zK zP zQ zH zI zJ zO
attribute [local irreducible] W evI evT evL evOp evBin gdD Sem newT newB fillD bldOf
set_option maxRecDepth 10000
set_option maxHeartbeats 1000000

/-! What the countdown says. -/
mutual
def Tm.all (q : Tm → Bool) : Tm → Bool
  | .mk k n s ls ts => q (.mk k n s ls ts) && Tm.alls q ts
def Tm.alls (q : Tm → Bool) : List Tm → Bool
  | [] => true
  | t :: ts => t.all q && Tm.alls q ts
end
theorem Tm.all_eq (q : Tm → Bool) (t : Tm) : t.all q = (q t && Tm.alls q t.ts) := by cases t; rw [Tm.all]; rfl
theorem Tm.alls_all (q : Tm → Bool) : ∀ ts : List Tm, Tm.alls q ts = ts.all (Tm.all q)
  | [] => rfl
  | t :: ts => by rw [Tm.alls, Tm.alls_all q ts]; rfl
mutual
theorem mayG_val (q : Tm → Bool) : ∀ (t : Tm) (l d : Int), 0 ≤ l → mayG q t l d = if t.all q = true ∧ (t.size : Int) ≤ l ∧ (t.deep : Int) ≤ d then l - t.size else -1
  | .mk k n s ls ts, l, d, h => by
    rw [mayG, Tm.all, Tm.size, Tm.deep]
    by_cases c1 : l - 1 < 0
    · rw [if_pos (.inl c1), if_neg (by omega)]
    by_cases c2 : d ≤ 0
    · rw [if_pos (.inr (.inl c2)), if_neg (by omega)]
    by_cases c3 : q (.mk k n s ls ts) = true
    · rw [if_neg (by simp [c1, c2, c3]), mayGs_val q ts (l - 1) (d - 1) (by omega) (by omega), c3, Bool.true_and]
      by_cases hA : Tm.alls q ts = true ∧ (Tm.sizes ts : Int) ≤ l - 1 ∧ (Tm.deeps ts : Int) ≤ d - 1
      · rw [if_pos hA, if_pos ⟨hA.1, by omega, by omega⟩]; omega
      · rw [if_neg hA, if_neg (fun hB => hA ⟨hB.1, by omega, by omega⟩)]
    · have c3' : q (.mk k n s ls ts) = false := by simpa using c3
      rw [if_pos (.inr (.inr c3')), c3', if_neg (by simp)]
theorem mayGs_val (q : Tm → Bool) : ∀ (ts : List Tm) (l d : Int), 0 ≤ l → 0 ≤ d → mayGs q ts l d = if Tm.alls q ts = true ∧ (Tm.sizes ts : Int) ≤ l ∧ (Tm.deeps ts : Int) ≤ d then l - Tm.sizes ts else -1
  | [], l, d, h, h2 => by rw [mayGs, if_pos ⟨rfl, by simpa [Tm.sizes] using h, by simpa [Tm.deeps] using h2⟩]; simp [Tm.sizes]
  | t :: ts, l, d, h, h2 => by
    rw [mayGs, mayG_val q t l d h, Tm.alls, Tm.sizes, Tm.deeps]
    by_cases hA : t.all q = true ∧ (t.size : Int) ≤ l ∧ (t.deep : Int) ≤ d
    · rw [if_pos hA, if_neg (by omega), mayGs_val q ts (l - t.size) d (by omega) h2, hA.1, Bool.true_and]
      by_cases hB : Tm.alls q ts = true ∧ (Tm.sizes ts : Int) ≤ l - t.size ∧ (Tm.deeps ts : Int) ≤ d
      · rw [if_pos hB, if_pos ⟨hB.1, by omega, by omega⟩]; omega
      · rw [if_neg hB, if_neg (fun hC => hB ⟨hC.1, by omega, by omega⟩)]
    · rw [if_neg hA, if_pos (by omega), if_neg (fun hC => hA ⟨by have := hC.1; simp only [Bool.and_eq_true] at this; exact this.1, by omega, by omega⟩)]
end
theorem mayG_ok {q : Tm → Bool} {t : Tm} {l d : Int} (h : 0 ≤ l) : 0 ≤ mayG q t l d ↔ (t.all q = true ∧ (t.size : Int) ≤ l ∧ (t.deep : Int) ≤ d) := by
  rw [mayG_val q t l d h]
  split
  · rename_i hA; simp only [hA, and_self, iff_true]; omega
  · rename_i hA; simp only [hA, iff_false]; omega

/-! Which terms may be declared. -/
def termB (t : Tm) : Bool := t.all nodeB && decide (t.size ≤ 4096) && decide (t.deep ≤ 256) && lvsB t
/-- The zero term. -/
def noneB (t : Tm) : Bool := decide (t.k = 0) && decide (t.n = 0) && decide (t.s = []) && decide (t.ls = []) && decide (t.ts = [])
theorem len0 {α : Type} (l : List α) : ((l.length : Int) = 0) ↔ l = [] := by cases l <;> simp; omega
/-! Trees that no statement looks at. -/
def lsB (t : Tm) : Bool := decide (t.ls.length ≤ 20)
theorem sem84 : ∀ (t : Tm), t.wf → ∀ (l d : Int) (st : St) (k : D → St → Prop), 0 ≤ l → l ≤ 1000000000 → 0 ≤ d → d ≤ 1000000000 → k (.int .i64 (mayG lsB t l d)) st → Sem P 84 [t.d, .int .i64 l, .int .i64 d] st k := by
  intro t
  induction t using Tm.ind with
  | h k n s ls ts ihT =>
    intro hw l d st k' hl0 hl1 hd0 hd1 hk
    have wt := hw.to
    generalize he : Tm.mk k n s ls ts = t at *
    have hts : ts = t.ts := by rw [← he]; rfl
    rw [hts] at ihT
    clear he hts
    rw [mayG_eq] at hk
    by_cases c1 : l - 1 < 0
    · simp only [c1, true_or, reduceIte] at hk
      refine Sem.of_body Tryz.call84 Tryz.func84 rfl Tryz.ntmps84 (by simp) ?_
      repeat' first | refine yj fun N hN => ?_ | refine yl [] ?_ | ((first | refine ya rfl rfl fun N hN => ?_ | refine yb rfl rfl rfl rfl fun N hN => ?_ | refine ym ?_ | refine yo ?_); simp only [go_sem, ↓reduceIte, zA, zB, zC, zD, zE, zF, zG, zL, zM, zN, reduceCtorEq, c1, Tryz.results84]) | (refine yg rfl ?_; try simp only [go_sem]) | ((first | refine yx hN _ _ ?_ | refine yz hN _ _ ?_); clear hN N) | (refine And.intro ?_ ?_; · omega) | clear hN N | fail
      all_goals exact hk
    by_cases c2 : d ≤ 0
    · simp only [c1, c2, true_or, or_true, false_or, reduceIte] at hk
      refine Sem.of_body Tryz.call84 Tryz.func84 rfl Tryz.ntmps84 (by simp) ?_
      repeat' first | refine yj fun N hN => ?_ | refine yl [] ?_ | ((first | refine ya rfl rfl fun N hN => ?_ | refine yb rfl rfl rfl rfl fun N hN => ?_ | refine ym ?_ | refine yo ?_); simp only [go_sem, ↓reduceIte, zA, zB, zC, zD, zE, zF, zG, zL, zM, zN, reduceCtorEq, c1, c2, Tryz.results84]) | (refine yg rfl ?_; try simp only [go_sem]) | ((first | refine yx hN _ _ ?_ | refine yz hN _ _ ?_); clear hN N) | (refine And.intro ?_ ?_; · omega) | clear hN N | fail
      all_goals exact hk
    by_cases c3 : (20 : Int) < t.ls.length
    · have e3 : lsB t = false := by simp only [lsB, decide_eq_false_iff_not]; omega
      simp only [c1, c2, e3, or_true, reduceIte] at hk
      refine Sem.of_body Tryz.call84 Tryz.func84 rfl Tryz.ntmps84 (by simp) ?_
      repeat' first | refine yj fun N hN => ?_ | refine yl [] ?_ | ((first | refine ya rfl rfl fun N hN => ?_ | refine yb rfl rfl rfl rfl fun N hN => ?_ | refine ym ?_ | refine yo ?_); simp only [go_sem, ↓reduceIte, zA, zB, zC, zD, zE, zF, zG, zL, zM, zN, reduceCtorEq, c1, c2, c3, Tryz.results84]) | (refine yg rfl ?_; try simp only [go_sem]) | ((first | refine yx hN _ _ ?_ | refine yz hN _ _ ?_); clear hN N) | (refine And.intro ?_ ?_; · omega) | clear hN N | fail
      all_goals exact hk
    · have e3 : lsB t = true := by simp only [lsB, decide_eq_true_eq]; omega
      simp only [c1, c2, e3, or_self, Bool.true_eq_false, reduceIte] at hk
      refine Sem.of_body Tryz.call84 Tryz.func84 rfl Tryz.ntmps84 (by simp) ?_
      repeat' first | refine yj fun N hN => ?_ | refine yk ?_ | refine yl [] ?_ | ((first | refine ya rfl rfl fun N hN => ?_ | refine yb rfl rfl rfl rfl fun N hN => ?_ | refine ym ?_); simp only [go_sem, ↓reduceIte, zA, zB, zC, zD, zE, zF, zG, zL, zM, zN, reduceCtorEq, c1, c2, c3, Tryz.results84]) | ((first | refine yg rfl ?_ | refine yn ?_); try simp only [go_sem]) | ((first | refine yx hN _ _ ?_ | refine yz hN _ _ ?_); clear hN N) | (refine And.intro ?_ ?_; · omega) | fail
      refine W.loopN (fun m fr st' => st' = st ∧ ∃ i l', i + m = t.ts.length ∧ 0 ≤ l' ∧ l' ≤ l ∧ mayGs lsB (t.ts.drop i) l' (d - 1) = mayGs lsB t.ts (l - 1) (d - 1) ∧ fr 7 = .int .i64 i ∧ fr 1 = .int .i64 l' ∧ fr 2 = .int .i64 d ∧ fr 3 = .eptr t.d 0) ?_ t.ts.length _ _ ⟨rfl, 0, l - 1, by simp, by omega, by omega, by simp, by simp only [go_sem, ↓reduceIte, zA, zB, zC, zD, zE, zF, zG, zL, zM, zN, reduceCtorEq]; rfl, by simp only [go_sem, ↓reduceIte, zA, zB, zC, zD, zE, zF, zG, zL, zM, zN, reduceCtorEq], by simp only [go_sem, ↓reduceIte, zA, zB, zC, zD, zE, zF, zG, zL, zM, zN, reduceCtorEq], by simp only [go_sem, ↓reduceIte, zA, zB, zC, zD, zE, zF, zG, zL, zM, zN, reduceCtorEq]⟩
      rintro m N' ih fr _ ⟨rfl, i, l', hi, b1, b2, he, f7, f1, f2, f3⟩
      have hts := wt.ts
      rcases Nat.lt_or_ge i t.ts.length with hlt | hge
      · have hg : (t.ts.map Tm.d).getD i .any = (t.ts.getD i Tm.z).d := getD_map _ _ _ hlt
        have h4 : (i : Int) < t.ts.length := by omega
        rw [drop_getD _ Tm.z hlt, mayGs] at he
        have hm := getD_mem t.ts Tm.z hlt
        have hle := mayG_le lsB (t.ts.getD i Tm.z) l' (d - 1) b1
        repeat' first | refine yj fun N hN => ?_ | refine yk ?_ | refine yl [] ?_ | ((first | refine ya rfl rfl fun N hN => ?_ | refine ym ?_ | refine yo ?_); simp only [go_sem, ↓reduceIte, zA, zB, zC, zD, zE, zF, zG, zL, zM, zN, reduceCtorEq, f7, f1, f2, f3, hg, hlt, h4, Tryz.results84]) | ((first | refine yg rfl ?_ | refine yn ?_); try simp only [go_sem]) | ((first | refine yx hN _ _ ?_ | refine yz hN _ _ ?_); clear hN N) | (refine ihT _ hm (wt.tm _ hm) _ _ _ _ b1 (by omega) (by omega) (by omega) ?_; try simp only [go_sem, ↓reduceIte, zA, zB, zC, zD, zE, zF, zG, zL, zM, zN, reduceCtorEq, f7, f1, f2, f3, hg, hlt, h4]) | ((apply And.intro <;> intro h) <;> (try simp only [zS, zT, zU, zV, Bool.not_true, Bool.not_false] at h) <;> (first | (exfalso; omega) | simp only [go_sem, ↓reduceIte, zA, zB, zC, zD, zE, zF, zG, zL, zM, zN, reduceCtorEq, f7, f1, f2, f3, hg, hlt, h4, h] | skip)) | (refine And.intro ?_ ?_; · omega) | clear hN N | fail
        · rw [← he, if_pos h] at hk; exact hk
        · rw [if_neg h] at he
          refine ih.back (m - 1) (by omega) _ _ ⟨rfl, i + 1, _, by omega, by omega, by omega, he, ?_, ?_, ?_, ?_⟩
          · simp only [go_sem, ↓reduceIte, zA, zB, zC, zD, zE, zF, zG, zL, zM, zN, reduceCtorEq]; rfl
          · simp only [go_sem, ↓reduceIte, zA, zB, zC, zD, zE, zF, zG, zL, zM, zN, reduceCtorEq]
          · simp only [go_sem, ↓reduceIte, zA, zB, zC, zD, zE, zF, zG, zL, zM, zN, reduceCtorEq, f2]
          · simp only [go_sem, ↓reduceIte, zA, zB, zC, zD, zE, zF, zG, zL, zM, zN, reduceCtorEq, f3]
      · have h4 : ¬ (i : Int) < t.ts.length := by omega
        rw [List.drop_of_length_le hge, mayGs] at he
        repeat' first | refine yj fun N hN => ?_ | refine yl [] ?_ | ((first | refine ya rfl rfl fun N hN => ?_ | refine ym ?_ | refine yo ?_ | refine yp ?_); simp only [go_sem, ↓reduceIte, zA, zB, zC, zD, zE, zF, zG, zL, zM, zN, reduceCtorEq, f7, f1, f2, f3, h4, Tryz.results84]) | (refine yg rfl ?_; try simp only [go_sem]) | ((first | refine yx hN _ _ ?_ | refine yz hN _ _ ?_); clear hN N) | clear hN N | fail
        all_goals (rw [he]; exact hk)

/-- Deeper, or more, than a statement looks at. -/
def hugeB (t : Tm) : Bool := !(t.all lsB && decide (t.size ≤ 131072) && decide (t.deep ≤ 8192))
theorem sem44 (t : Tm) (hw : t.wf) (st : St) (k : D → St → Prop) (hk : k (.bool (hugeB t)) st) : Sem P 44 [t.d] st k := by
  have e : hugeB t = decide (mayG lsB t 131072 8192 < 0) := by
    have := mayG_ok (q := lsB) (t := t) (l := 131072) (d := 8192) (by omega)
    rw [Bool.eq_iff_iff, hugeB, Bool.not_eq_true', decide_eq_true_eq]
    constructor
    · intro h
      rcases (show mayG lsB t 131072 8192 < 0 ∨ 0 ≤ mayG lsB t 131072 8192 by omega) with h2 | h2
      · exact h2
      · obtain ⟨a, b, c⟩ := this.1 h2
        have b' : t.size ≤ 131072 := by omega
        have c' : t.deep ≤ 8192 := by omega
        simp [a, b', c'] at h
    · intro h
      cases hq : (t.all lsB && decide (t.size ≤ 131072) && decide (t.deep ≤ 8192)) with
      | false => rfl
      | true =>
        simp only [Bool.and_eq_true, decide_eq_true_eq] at hq
        have := this.2 ⟨hq.1.1, by omega, by omega⟩
        omega
  rw [e] at hk
  refine Sem.of_body Tryz.call44 Tryz.func44 rfl Tryz.ntmps44 (by simp) ?_
  repeat' first | refine yj fun N hN => ?_ | refine yl [] ?_ | ((first | refine ya rfl rfl fun N hN => ?_ | refine yo ?_); simp only [go_sem, ↓reduceIte, zA, zB, zC, zD, zE, zF, zG, zL, zM, zN, reduceCtorEq, Tryz.results44]) | (refine yg rfl ?_; try simp only [go_sem]) | ((first | refine yx hN _ _ ?_ | refine yz hN _ _ ?_); clear hN N) | (refine sem84 t hw _ _ _ _ (by omega) (by omega) (by omega) (by omega) ?_; try simp only [go_sem, ↓reduceIte, zA, zB, zC, zD, zE, zF, zG, zL, zM, zN, reduceCtorEq]) | fail
  all_goals exact hk

end Go.Proofs.YtddbidoaolnegaaGreatDoor
/- Declarations: what they are; which may be, by the reference: the walks. No statement of the seat is proved here; no condition. -/
namespace Go.Proofs.YtddbidoaolnegaaGreatDoor
open Go Go.RowKit
open Nat renaming reduceLT → zA, reduceEqDiff → zB, reduceBEq → zC, reduceAdd → zD, reduceMul → zE, reduceSub → zF, reduceLeDiff → zG, mul_one → zH, zero_add → zI, add_zero → zJ
open Int renaming toNat_natCast → zK, reduceAdd → zL, reduceLE → zM, reduceLT → zN, natCast_nonneg → zO
open Go.Proofs.YtddbidoaolnegaaGreatDoor renaming evI_plain → ya, evI_guard → yb, evT_rd → yc, evT_rdg → yd, evT_act → ye, evT_actg → yf, evI_done → yg, evT_two → yh, evT_nil → yi, W.seqG → yj, W.block → yk, W.regionI → yl, W.cond → ym, W.skip → yn, W.ret → yo, W.exit → yp, gdD_split → yq, newT_intro → yr, newB_intro → ys, W.draw → yt, St.set_del → yu, St.give_take → yv, AGo.go → yw, IGo.go → yx, TGo.go → yy, Goes.go → yz
attribute [local go_sem] zK zP zQ zH zI zJ zO
attribute [local irreducible] W evI evT evL evOp evBin gdD Sem newT newB fillD bldOf
set_option maxRecDepth 10000
set_option maxHeartbeats 1000000

structure Cc where
  name : List UInt8
  ty : Tm
structure In where
  name : List UInt8
  ty : Tm
  cs : List Cc
structure De where
  kind : Nat
  params : Int
  name : List UInt8
  ty : Tm
  val : Tm
  fixed : Int
  inds : List In
def Cc.z : Cc := ⟨[], .z⟩
def In.z : In := ⟨[], .z, []⟩
def De.z : De := ⟨0, 0, [], .z, .z, 0, []⟩
/-- A term's cells. -/
def Tm.c (t : Tm) : List D := [.int .u8 t.k, .int .i64 t.n, .str t.s, .sl .frozen 5 (t.ls.map Lv.d), .sl .frozen 5 (t.ts.map Tm.d)]
def Cc.d (c : Cc) : D := .agg (.str c.name :: c.ty.c)
def In.d (x : In) : D := .agg (.str x.name :: (x.ty.c ++ [.sl .frozen 6 (x.cs.map Cc.d)]))
def De.d (x : De) : D := .agg (.int .u8 x.kind :: .int .i64 x.params :: .str x.name :: (x.ty.c ++ (x.val.c ++ [.int .i64 x.fixed, .sl .frozen 7 (x.inds.map In.d)])))
theorem Cc.d_fine (x : Cc) : x.d.fine = true := rfl
theorem Cc.d_isAgg (x : Cc) : D.isAgg 6 x.d = true := rfl
theorem Cc.d_isAgg5 (x : Cc) : D.isAgg 5 x.d = false := rfl
theorem Cc.d_cells (x : Cc) : x.d.cells = [.str x.name, .int .u8 x.ty.k, .int .i64 x.ty.n, .str x.ty.s, .sl .frozen 5 (x.ty.ls.map Lv.d), .sl .frozen 5 (x.ty.ts.map Tm.d)] := rfl
theorem In.d_fine (x : In) : x.d.fine = true := rfl
theorem In.d_isAgg (x : In) : D.isAgg 7 x.d = true := rfl
theorem In.d_isAgg5 (x : In) : D.isAgg 5 x.d = false := rfl
theorem In.d_cells (x : In) : x.d.cells = [.str x.name, .int .u8 x.ty.k, .int .i64 x.ty.n, .str x.ty.s, .sl .frozen 5 (x.ty.ls.map Lv.d), .sl .frozen 5 (x.ty.ts.map Tm.d), .sl .frozen 6 (x.cs.map Cc.d)] := rfl
theorem De.d_fine (x : De) : x.d.fine = true := rfl
theorem De.d_isAgg (x : De) : D.isAgg 15 x.d = true := rfl
theorem De.d_isAgg5 (x : De) : D.isAgg 5 x.d = false := rfl
theorem De.d_cells (x : De) : x.d.cells = [.int .u8 x.kind, .int .i64 x.params, .str x.name, .int .u8 x.ty.k, .int .i64 x.ty.n, .str x.ty.s, .sl .frozen 5 (x.ty.ls.map Lv.d), .sl .frozen 5 (x.ty.ts.map Tm.d),
  .int .u8 x.val.k, .int .i64 x.val.n, .str x.val.s, .sl .frozen 5 (x.val.ls.map Lv.d), .sl .frozen 5 (x.val.ts.map Tm.d), .int .i64 x.fixed, .sl .frozen 7 (x.inds.map In.d)] := rfl
theorem Tm.d_fold (t : Tm) : D.agg [.int .u8 t.k, .int .i64 t.n, .str t.s, .sl .frozen 5 (t.ls.map Lv.d), .sl .frozen 5 (t.ts.map Tm.d)] = t.d := (Tm.d_eq t).symm
theorem take_succ_cons' {α : Type} (a : α) (l : List α) (n : Nat) : (a :: l).take (n + 1) = a :: l.take n := rfl
attribute [go_sem] Cc.d_fine Cc.d_isAgg Cc.d_isAgg5 Cc.d_cells In.d_fine In.d_isAgg In.d_isAgg5 In.d_cells De.d_fine De.d_isAgg De.d_isAgg5 De.d_cells Tm.d_fold take_succ_cons' List.take_zero

structure Cc.Wf (x : Cc) : Prop where
  name : x.name.length < 140737488355328
  ty : x.ty.wf
structure In.Wf (x : In) : Prop where
  name : x.name.length < 140737488355328
  ty : x.ty.wf
  len : x.cs.length < 140737488355328
  cs : ∀ c ∈ x.cs, c.Wf
structure De.Wf (x : De) : Prop where
  kind : x.kind < 256
  params : -9223372036854775808 ≤ x.params ∧ x.params ≤ 9223372036854775807
  name : x.name.length < 140737488355328
  ty : x.ty.wf
  val : x.val.wf
  fixed : -9223372036854775808 ≤ x.fixed ∧ x.fixed ≤ 9223372036854775807
  len : x.inds.length < 140737488355328
  inds : ∀ c ∈ x.inds, c.Wf

/-! Which may be. -/
def ctorB (c : Cc) : Bool := nameB c.name && termB c.ty
def indB (x : In) : Bool := nameB x.name && termB x.ty && decide (x.cs.length ≤ 8) && x.cs.all ctorB
def declB (d : De) : Bool := decide (0 ≤ d.params) && decide (d.params ≤ 4) && (
  if d.kind = 1 then nameB d.name && termB d.ty && noneB d.val && decide (d.fixed = 0) && decide (d.inds = [])
  else if d.kind = 2 ∨ d.kind = 3 then nameB d.name && termB d.ty && termB d.val && decide (d.fixed = 0) && decide (d.inds = [])
  else if d.kind = 4 then decide (d.name = []) && noneB d.ty && noneB d.val && decide (0 ≤ d.fixed) && decide (d.fixed ≤ 12) && decide (1 ≤ d.inds.length) && decide (d.inds.length ≤ 3) && d.inds.all indB
  else false)

end Go.Proofs.YtddbidoaolnegaaGreatDoor
