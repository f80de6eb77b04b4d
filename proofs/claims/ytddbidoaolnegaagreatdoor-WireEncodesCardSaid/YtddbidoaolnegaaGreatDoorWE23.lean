/-
PART OF A CLAIM: PM, PN. No statement of the seat is proved here; no condition. -/
import Derived.Test.YtddbidoaolnegaaGreatDoorWE22
set_option linter.all false
/- The reference's tables: what they hold; numbers, names, levels: the walks. No statement of the seat is proved here; no condition. -/
namespace Go.Proofs.YtddbidoaolnegaaGreatDoor
open Go Go.RowKit
open Nat renaming reduceLT → zA, reduceEqDiff → zB, reduceBEq → zC, reduceAdd → zD, reduceMul → zE, reduceSub → zF, reduceLeDiff → zG, mul_one → zH, zero_add → zI, add_zero → zJ
open Int renaming toNat_natCast → zK, reduceAdd → zL, reduceLE → zM, reduceLT → zN, natCast_nonneg → zO
open Go.Proofs.YtddbidoaolnegaaGreatDoor renaming evI_plain → ya, evI_guard → yb, evT_rd → yc, evT_rdg → yd, evT_act → ye, evT_actg → yf, evI_done → yg, evT_two → yh, evT_nil → yi, W.seqG → yj, W.block → yk, W.regionI → yl, W.cond → ym, W.skip → yn, W.ret → yo, W.exit → yp, gdD_split → yq, newT_intro → yr, newB_intro → ys, W.draw → yt, St.set_del → yu, St.give_take → yv, AGo.go → yw, IGo.go → yx, TGo.go → yy, Goes.go → yz
attribute [local go_sem] zK zP zQ zH zI zJ zO
attribute [local irreducible] W evI evT evL evOp evBin gdD Sem newT newB fillD bldOf
set_option maxRecDepth 10000
set_option maxHeartbeats 4000000

def rL (e : En) : Nat → List D
  | 0 => e.names.map .str
  | 1 => e.levels.map Lv.d
  | 2 => e.terms.map Tm.d
  | 3 => byD e.tb
  | 4 => byD e.db
  | _ => []
def oD (o : Option Nat) (z : Nat) (xs : List D) : D := match o with | none => .sl .nil 0 [] | some j => .sl (.tok j) z xs
def rCells (c : Nat → Option Nat) (e : En) : List D := [oD (c 0) 1 (e.names.map .str), oD (c 1) 5 (e.levels.map Lv.d), oD (c 2) 5 (e.terms.map Tm.d), oD (c 3) 1 (byD e.tb), oD (c 4) 1 (byD e.db)]
structure RS (r : Nat) (e : En) (c : Nat → Option Nat) (st : St) : Prop where
  w : st.mem r = some (.cells (rCells c e))
  z : ∀ i, c i = none → rL e i = []
  t : ∀ i j, i < 5 → c i = some j → st.tok j = true
  d : ∀ i i' j, i < 5 → i' < 5 → c i = some j → c i' = some j → i = i'
structure KeepR (c : Nat → Option Nat) (st : St) (c' : Nat → Option Nat) (st' : St) : Prop where
  tok : ∀ j, (∀ i, i < 5 → c i ≠ some j) → st.tok j = true → st'.tok j = true ∧ (∀ i, i < 5 → c' i ≠ some j)
theorem KeepR.refl (c : Nat → Option Nat) (st : St) : KeepR c st c st := ⟨fun _ h1 h2 => ⟨h2, h1⟩⟩
theorem KeepR.trans {c c' c'' : Nat → Option Nat} {a b d : St} (h : KeepR c a c' b) (h' : KeepR c' b c'' d) : KeepR c a c'' d :=
  ⟨fun j h1 h2 => h'.tok j (h.tok j h1 h2).2 (h.tok j h1 h2).1⟩
def upR (c : Nat → Option Nat) (i j : Nat) : Nat → Option Nat := fun x => if x = i then some j else c x
theorem RS.up {r : Nat} {e : En} {c : Nat → Option Nat} {st : St} (h : RS r e c st) {i j : Nat} {e' : En} {s : St} (hw : s.mem r = some (.cells (rCells (upR c i j) e'))) (hl : ∀ x, x ≠ i → rL e' x = rL e x)
    (hj : st.tok j = false) (hj2 : s.tok j = true) (ht : ∀ q, c i ≠ some q → st.tok q = true → s.tok q = true) (hi : i < 5) : RS r e' (upR c i j) s ∧ KeepR c st (upR c i j) s := by
  have nj : ∀ {q}, st.tok q = true → q ≠ j := fun {q} hq x => by rw [x, hj] at hq; cases hq
  refine ⟨⟨hw, fun x hx => ?_, fun x q hx5 hx => ?_, fun x y q hx5 hy5 hx hy => ?_⟩, ⟨fun q h1 h2 => ⟨ht q (h1 i hi) h2, fun x hx5 hx => ?_⟩⟩⟩
  · unfold upR at hx
    split at hx
    · cases hx
    · rename_i hn; rw [hl x hn]; exact h.z x hx
  · unfold upR at hx
    split at hx
    · cases hx; exact hj2
    · rename_i hn
      exact ht q (fun hq => hn (h.d _ _ _ hx5 hi hx hq)) (h.t x q hx5 hx)
  · unfold upR at hx hy
    split at hx
    · cases hx
      split at hy
      · omega
      · exact absurd rfl (nj (h.t y _ hy5 hy))
    · split at hy
      · cases hy; exact absurd rfl (nj (h.t x _ hx5 hx))
      · exact h.d _ _ _ hx5 hy5 hx hy
  · unfold upR at hx
    split at hx
    · cases hx; exact nj h2 rfl
    · exact h1 x hx5 hx
theorem oD_sl {o : Option Nat} {z : Nat} {xs : List D} (h : o = none → xs = []) : ∃ ow z', oD o z xs = .sl ow z' xs := by
  cases o with
  | none => exact ⟨.nil, 0, by rw [h rfl]; rfl⟩
  | some j => exact ⟨.tok j, z, rfl⟩

theorem oD_ne {o : Option Nat} {z : Nat} {xs : List D} (h : o = none → xs = []) (hx : xs ≠ []) : ∃ j, o = some j ∧ oD o z xs = .sl (.tok j) z xs := by
  cases o with
  | none => exact absurd (h rfl) hx
  | some j => exact ⟨j, rfl, rfl⟩

theorem map_ne {α β : Type} {f : α → β} {l : List α} {i : Nat} (h : i < l.length) : l.map f ≠ [] := fun x => by
  rw [List.map_eq_nil_iff] at x; rw [x] at h; simp at h
theorem wrap_last {n : Nat} (h : n < 100000000) : IntKind.u64.wrap (((n + 1 : Nat) : Int) - 1) = (n : Nat) := by
  rw [show ((n + 1 : Nat) : Int) - 1 = (n : Nat) by omega]; exact wrap_u64 (by omega)
theorem lv_eq {a b : Lv} : (a.c :: a.p = b.c :: b.p) = (a = b) := by
  apply propext
  constructor
  · intro h
    cases a; cases b
    simp only [List.cons.injEq] at h
    simp [h.1, h.2]
  · intro h; rw [h]

theorem pos_first {α : Type} : ∀ {l : List α} {x z : α} {i : Nat}, (∀ j, j < i → l.getD j z ≠ x) → i < l.length → l.getD i z = x → pos l x = i
  | [], _, _, _, _, h, _ => absurd h (by simp)
  | y :: l, x, z, 0, _, _, h => by rw [pos, if_pos (by simpa using h)]
  | y :: l, x, z, i + 1, h, hi, hx => by
    rw [pos, if_neg (by simpa using h 0 (by omega)), pos_first (l := l) (z := z) (i := i) (fun j hj => by simpa using h (j + 1) (by omega)) (by simpa using hi) (by simpa using hx)]
theorem not_mem_getD {α : Type} {l : List α} {x z : α} (h : ∀ j, j < l.length → l.getD j z ≠ x) : x ∉ l := fun hm => by
  obtain ⟨j, hj, e⟩ := List.getElem_of_mem hm
  exact h j hj (by simp [List.getD, hj, e])

theorem sem55 (n : Nat) (hn : n < 18446744073709551616) (r : Nat) (e : En) (c : Nat → Option Nat) (st : St) (hS : RS r e c st) (hb : e.db.length < 100000000) (k : D → St → Prop)
    (hk : ∀ c' st', RS r { e with db := e.db ++ num n } c' st' → KeepR c st c' st' → k (.tup []) st') : Sem P 55 [.ptr r 0, .int .u64 n] st k := by
  obtain ⟨ow, z, hbd⟩ := oD_sl (z := 1) (hS.z 4)
  replace hbd : oD (c 4) 1 (byD e.db) = .sl ow z (byD e.db) := hbd
  have hw := hS.w
  rw [rCells, hbd] at hw
  refine Sem.of_body Tryz.call55 Tryz.func55 rfl Tryz.ntmps55 (by simp) ?_
  repeat' first | refine yl [] ?_ | (refine ya rfl rfl fun N hN => ?_; simp only [go_sem, ↓reduceIte, zA, zB, zC, zD, zE, zF, zG, zL, zM, zN, reduceCtorEq, hw, Tryz.results55]) | (refine yg rfl ?_; try simp only [go_sem]) | (refine yx hN _ _ ?_; clear hN N) | (refine sem21 _ _ _ _ _ _ (by omega) hn fun j hj => ?_; try simp only [go_sem, ↓reduceIte, zA, zB, zC, zD, zE, zF, zG, zL, zM, zN, reduceCtorEq, hw]) | fail
  obtain ⟨u1, u2⟩ := hS.up (i := 4) (j := j) (e' := { e with db := e.db ++ num n }) (s := (st.give j).set r (.cells (rCells (upR c 4 j) { e with db := e.db ++ num n }))) (by rw [St.mem_set, if_pos rfl])
    (fun x hx => by rcases x with _ | _ | _ | _ | _ | x <;> first | rfl | exact absurd rfl hx) hj (by simp [St.tok_give, St.tok_set]) (fun i _ hi => by simp [St.tok_give, St.tok_set, hi]) (by omega)
  exact hk _ _ u1 u2

theorem sem56 (s : List UInt8) (hs : s.length < 140737488355328) (r : Nat) (e : En) (c : Nat → Option Nat) (st : St) (hS : RS r e c st) (hE : ∀ x ∈ e.names, x.length < 140737488355328) (hb : e.names.length < 100000000) (k : D → St → Prop)
    (hk : ∀ c' st', RS r (e.name s) c' st' → KeepR c st c' st' → k (.int .u64 (pos e.names s)) st') : Sem P 56 [.ptr r 0, .str s] st k := by
  obtain ⟨ow, z, hnd⟩ := oD_sl (z := 1) (hS.z 0)
  replace hnd : oD (c 0) 1 (e.names.map .str) = .sl ow z (e.names.map .str) := hnd
  have hw := hS.w
  rw [rCells, hnd] at hw
  refine Sem.of_body Tryz.call56 Tryz.func56 rfl Tryz.ntmps56 (by simp) ?_
  repeat' first | refine yj fun N hN => ?_ | refine yk ?_ | refine yl [] ?_ | (refine ya rfl rfl fun N hN => ?_; simp only [go_sem, ↓reduceIte, zA, zB, zC, zD, zE, zF, zG, zL, zM, zN, reduceCtorEq, Tryz.results56]) | (refine yg rfl ?_; try simp only [go_sem]) | ((first | refine yx hN _ _ ?_ | refine yz hN _ _ ?_); clear hN N) | fail
  refine W.loopN (fun m fr st' => st = st' ∧ ∃ i : Nat, i + m = e.names.length ∧ (∀ j, j < i → e.names.getD j [] ≠ s) ∧ fr 5 = .int .i64 i ∧ fr 0 = .ptr r 0 ∧ fr 1 = .str s) ?_ e.names.length _ _ ⟨rfl, 0, by simp, by simp, by simp only [go_sem, ↓reduceIte, zA, zB, zC, zD, zE, zF, zG, zL, zM, zN, reduceCtorEq]; rfl, by simp only [go_sem, ↓reduceIte, zA, zB, zC, zD, zE, zF, zG, zL, zM, zN, reduceCtorEq], by simp only [go_sem, ↓reduceIte, zA, zB, zC, zD, zE, zF, zG, zL, zM, zN, reduceCtorEq]⟩
  rintro m N' ih fr _ ⟨rfl, i, hi, hal, f5, f0, f1⟩
  have hwi : IntKind.u64.wrap (i : Int) = (i : Nat) := wrap_u64 (by omega)
  rcases Nat.lt_or_ge i e.names.length with hlt | hge
  · have hg : (e.names.map D.str).getD i .any = .str (e.names.getD i []) := getD_map _ _ _ hlt
    have i4 : (i : Int) < e.names.length := by omega
    obtain ⟨j1, _, hj1⟩ := oD_ne (z := 1) (xs := e.names.map D.str) (hS.z 0) (map_ne hlt)
    rw [← hnd, hj1] at hw
    by_cases hq : e.names.getD i [] = s
    · have hp := pos_first hal hlt hq
      have hm : s ∈ e.names := by rw [← hq]; exact getD_mem e.names [] hlt
      have hen : e.name s = e := by rw [En.name, addU_mem hm]
      rw [hen, hp] at hk
      repeat' first | refine yj fun N hN => ?_ | refine yk ?_ | refine yl [] ?_ | ((first | refine ya rfl rfl fun N hN => ?_ | refine ym ?_ | refine yo ?_); simp only [go_sem, ↓reduceIte, zA, zB, zC, zD, zE, zF, zG, zL, zM, zN, reduceCtorEq, f5, f0, f1, hw, hg, hlt, i4, hq, hwi, Tryz.results56]) | ((first | refine yg rfl ?_ | refine yn ?_); try simp only [go_sem]) | ((first | refine yx hN _ _ ?_ | refine yz hN _ _ ?_); clear hN N) | clear hN N | fail
      all_goals exact hk c st hS (KeepR.refl c st)
    · repeat' first | refine yj fun N hN => ?_ | refine yk ?_ | refine yl [] ?_ | ((first | refine ya rfl rfl fun N hN => ?_ | refine ym ?_); simp only [go_sem, ↓reduceIte, zA, zB, zC, zD, zE, zF, zG, zL, zM, zN, reduceCtorEq, f5, f0, f1, hw, hg, hlt, i4, hq, hwi, Tryz.results56]) | ((first | refine yg rfl ?_ | refine yn ?_); try simp only [go_sem]) | ((first | refine yx hN _ _ ?_ | refine yz hN _ _ ?_); clear hN N) | (refine And.intro ?_ ?_; · omega) | clear hN N | fail
      refine ih.back (m - 1) (by omega) _ _ ⟨rfl, i + 1, by omega, lt_succ_all hal hq, ?_, ?_, ?_⟩
      · simp only [go_sem, ↓reduceIte, zA, zB, zC, zD, zE, zF, zG, zL, zM, zN, reduceCtorEq]; rfl
      · simp only [go_sem, ↓reduceIte, zA, zB, zC, zD, zE, zF, zG, zL, zM, zN, reduceCtorEq, f0]
      · simp only [go_sem, ↓reduceIte, zA, zB, zC, zD, zE, zF, zG, zL, zM, zN, reduceCtorEq, f1]
  · have i4 : ¬ (i : Int) < e.names.length := by omega
    have hm : s ∉ e.names := not_mem_getD (z := []) (fun j hj => hal j (by omega))
    have hen : e.name s = { e with names := e.names ++ [s] } := by rw [En.name, addU_new hm]
    rw [hen, pos_not hm] at hk
    have hwp : IntKind.u64.wrap (e.names.length : Int) = (e.names.length : Nat) := wrap_u64 (by omega)
    have hl1 : ∀ x, x ≠ 0 → rL { e with names := e.names ++ [s] } x = rL e x := fun x hx => by rcases x with _ | _ | _ | _ | _ | x <;> first | rfl | exact absurd rfl hx
    have hmp : (e.names ++ [s]).map D.str = e.names.map D.str ++ [D.str s] := by rw [List.map_append]; rfl
    have hne : [D.str s] ≠ [] := by simp
    have hwq := wrap_last hb
    cases hc : c 0 with
    | none =>
      have h0 : e.names.map D.str = [] := hS.z 0 hc
      have h0' : e.names = [] := by simpa using h0
      rw [← hnd, hc, show oD none 1 (e.names.map .str) = .sl .nil 0 [] from rfl] at hw
      have hl0 : (e.names.length : Int) = 0 := by rw [h0']; rfl
      repeat' first | refine yj fun N hN => ?_ | refine yl [] ?_ | ((first | refine ya rfl rfl fun N hN => ?_ | refine ym ?_ | refine yo ?_ | refine yp ?_); simp only [go_sem, ↓reduceIte, zA, zB, zC, zD, zE, zF, zG, zL, zM, zN, reduceCtorEq, f5, f0, f1, hw, hl0, hne, hwp, Tryz.results56]) | (refine yg rfl ?_; try simp only [go_sem]) | ((first | refine yx hN _ _ ?_ | refine yz hN _ _ ?_); clear hN N) | ((apply And.intro <;> intro h) <;> (try simp only [zS, zT, zU, zV, Bool.not_true, Bool.not_false] at h) <;> (first | (exfalso; omega) | simp only [go_sem, ↓reduceIte, zA, zB, zC, zD, zE, zF, zG, zL, zM, zN, reduceCtorEq, f5, f0, f1, hw, hl0, hne, hwp, h] | skip)) | ((refine yr fun j hj => ?_; (try have hj0 := St.tok_of_give hj)); try simp only [go_sem, ↓reduceIte, zA, zB, zC, zD, zE, zF, zG, zL, zM, zN, reduceCtorEq, f5, f0, f1, hw, hl0, hne, hwp]) | (refine And.intro ?_ ?_; · omega) | clear hN N | fail
      obtain ⟨u1, u2⟩ := hS.up (i := 0) (j := j) (e' := { e with names := e.names ++ [s] }) (s := (st.give j).set r (.cells (rCells (upR c 0 j) { e with names := e.names ++ [s] }))) (by rw [St.mem_set, if_pos rfl])
        hl1 hj (by simp [St.tok_give, St.tok_set]) (fun i _ hi => by simp [St.tok_give, St.tok_set, hi]) (by omega)
      have := hk _ _ u1 u2
      rw [rCells, hmp, h0, h0'] at this
      exact this
    | some j0 =>
      have hj0 := hS.t 0 j0 (by omega) hc
      rw [← hnd, hc, show oD (some j0) 1 (e.names.map .str) = .sl (.tok j0) 1 (e.names.map .str) from rfl] at hw
      repeat' first | refine yj fun N hN => ?_ | refine yl [] ?_ | ((first | refine ya rfl rfl fun N hN => ?_ | refine ym ?_ | refine yo ?_ | refine yp ?_); simp only [go_sem, ↓reduceIte, zA, zB, zC, zD, zE, zF, zG, zL, zM, zN, reduceCtorEq, f5, f0, f1, hw, i4, hne, hj0, hwp, hwq, Tryz.results56]) | (refine yg rfl ?_; try simp only [go_sem]) | ((first | refine yx hN _ _ ?_ | refine yz hN _ _ ?_); clear hN N) | ((refine yr fun j hj => ?_; (try have hj0 := St.tok_of_give hj)); try simp only [go_sem, ↓reduceIte, zA, zB, zC, zD, zE, zF, zG, zL, zM, zN, reduceCtorEq, f5, f0, f1, hw, i4, hne, hj0, hwp, hwq]) | (refine And.intro ?_ ?_; · omega) | clear hN N | fail
      obtain ⟨u1, u2⟩ := hS.up (i := 0) (j := j) (e' := { e with names := e.names ++ [s] }) (s := ((st.take j0).give j).set r (.cells (rCells (upR c 0 j) { e with names := e.names ++ [s] }))) (by rw [St.mem_set, if_pos rfl])
        hl1 hj (by simp [St.tok_give, St.tok_set]) (fun i hi ht => by
          have : i ≠ j0 := fun e => hi (by rw [hc, e])
          simp [St.tok_give, St.tok_set, St.tok_take, ht, this]) (by omega)
      have := hk _ _ u1 u2
      rw [rCells, hmp] at this
      exact this

theorem sem94 (l : Lv) (r : Nat) (e : En) (c : Nat → Option Nat) (st : St) (hS : RS r e c st) (hb : e.levels.length < 100000000) (k : D → St → Prop)
    (hk : ∀ c' st', RS r (e.level l) c' st' → KeepR c st c' st' → k (.int .u64 (pos e.levels l)) st') : Sem P 94 [.ptr r 0, l.d] st k := by
  obtain ⟨ow, z, hnd⟩ := oD_sl (z := 5) (hS.z 1)
  replace hnd : oD (c 1) 5 (e.levels.map Lv.d) = .sl ow z (e.levels.map Lv.d) := hnd
  have hw := hS.w
  rw [rCells, hnd] at hw
  refine Sem.of_body Tryz.call94 Tryz.func94 rfl Tryz.ntmps94 (by simp) ?_
  repeat' first | refine yj fun N hN => ?_ | refine yk ?_ | refine yl [] ?_ | (refine ya rfl rfl fun N hN => ?_; simp only [go_sem, ↓reduceIte, zA, zB, zC, zD, zE, zF, zG, zL, zM, zN, reduceCtorEq, Tryz.results94]) | (refine yg rfl ?_; try simp only [go_sem]) | ((first | refine yx hN _ _ ?_ | refine yz hN _ _ ?_); clear hN N) | fail
  refine W.loopN (fun m fr st' => st = st' ∧ ∃ i : Nat, i + m = e.levels.length ∧ (∀ j, j < i → e.levels.getD j Lv.z ≠ l) ∧ fr 5 = .int .i64 i ∧ fr 0 = .ptr r 0 ∧ fr 3 = .eptr l.d 0) ?_ e.levels.length _ _ ⟨rfl, 0, by simp, by simp, by simp only [go_sem, ↓reduceIte, zA, zB, zC, zD, zE, zF, zG, zL, zM, zN, reduceCtorEq]; rfl, by simp only [go_sem, ↓reduceIte, zA, zB, zC, zD, zE, zF, zG, zL, zM, zN, reduceCtorEq], by simp only [go_sem, ↓reduceIte, zA, zB, zC, zD, zE, zF, zG, zL, zM, zN, reduceCtorEq]⟩
  rintro m N' ih fr _ ⟨rfl, i, hi, hal, f5, f0, f3⟩
  have hwi : IntKind.u64.wrap (i : Int) = (i : Nat) := wrap_u64 (by omega)
  rcases Nat.lt_or_ge i e.levels.length with hlt | hge
  · have hg : (e.levels.map Lv.d).getD i .any = (e.levels.getD i Lv.z).d := getD_map _ _ _ hlt
    have i4 : (i : Int) < e.levels.length := by omega
    obtain ⟨j1, _, hj1⟩ := oD_ne (z := 5) (xs := e.levels.map Lv.d) (hS.z 1) (map_ne hlt)
    rw [← hnd, hj1] at hw
    by_cases hq : e.levels.getD i Lv.z = l
    · have hp := pos_first hal hlt hq
      have hm : l ∈ e.levels := by rw [← hq]; exact getD_mem e.levels Lv.z hlt
      have hen : e.level l = e := by rw [En.level, addU_mem hm]
      rw [hen, hp] at hk
      repeat' first | refine yj fun N hN => ?_ | refine yk ?_ | refine yl [] ?_ | ((first | refine ya rfl rfl fun N hN => ?_ | refine yc rfl rfl fun N hN => ?_ | refine ye rfl rfl fun N hN => ?_ | (refine yw hN _ _ ?_; clear hN N) | refine ym ?_ | refine yo ?_); simp only [go_sem, ↓reduceIte, zA, zB, zC, zD, zE, zF, zG, zL, zM, zN, reduceCtorEq, f5, f0, f3, hw, hg, hlt, i4, hq, hwi, lv_eq, Tryz.results94]) | ((first | refine yg rfl ?_ | refine yn ?_ | refine yi ?_); try simp only [go_sem]) | ((first | refine yx hN _ _ ?_ | refine yz hN _ _ ?_ | refine yy hN _ ?_); clear hN N) | refine yt (id := 4) mixed [] (.rd 0 (.rd 1 (.rd 2 (.rd 3 (.rd 4 (.rd 5 (.rd 6 (.act 7 [6, 5, 4, 3, 2, 1, 0] (.act 8 [] (.nil)))))))))) (by kernel_rfl) ?_ | clear hN N | fail
      all_goals exact hk c st hS (KeepR.refl c st)
    · repeat' first | refine yj fun N hN => ?_ | refine yk ?_ | refine yl [] ?_ | ((first | refine ya rfl rfl fun N hN => ?_ | refine yc rfl rfl fun N hN => ?_ | refine ye rfl rfl fun N hN => ?_ | (refine yw hN _ _ ?_; clear hN N) | refine ym ?_); simp only [go_sem, ↓reduceIte, zA, zB, zC, zD, zE, zF, zG, zL, zM, zN, reduceCtorEq, f5, f0, f3, hw, hg, hlt, i4, hq, hwi, lv_eq, Tryz.results94]) | ((first | refine yg rfl ?_ | refine yn ?_ | refine yi ?_); try simp only [go_sem]) | ((first | refine yx hN _ _ ?_ | refine yz hN _ _ ?_ | refine yy hN _ ?_); clear hN N) | refine yt (id := 4) mixed [] (.rd 0 (.rd 1 (.rd 2 (.rd 3 (.rd 4 (.rd 5 (.rd 6 (.act 7 [6, 5, 4, 3, 2, 1, 0] (.act 8 [] (.nil)))))))))) (by kernel_rfl) ?_ | (refine And.intro ?_ ?_; · omega) | clear hN N | fail
      refine ih.back (m - 1) (by omega) _ _ ⟨rfl, i + 1, by omega, lt_succ_all hal hq, ?_, ?_, ?_⟩
      · simp only [go_sem, ↓reduceIte, zA, zB, zC, zD, zE, zF, zG, zL, zM, zN, reduceCtorEq]; rfl
      · simp only [go_sem, ↓reduceIte, zA, zB, zC, zD, zE, zF, zG, zL, zM, zN, reduceCtorEq, f0]
      · simp only [go_sem, ↓reduceIte, zA, zB, zC, zD, zE, zF, zG, zL, zM, zN, reduceCtorEq, f3]
  · have i4 : ¬ (i : Int) < e.levels.length := by omega
    have hm : l ∉ e.levels := not_mem_getD (z := Lv.z) (fun j hj => hal j (by omega))
    have hen : e.level l = { e with levels := e.levels ++ [l] } := by rw [En.level, addU_new hm]
    rw [hen, pos_not hm] at hk
    have hwp : IntKind.u64.wrap (e.levels.length : Int) = (e.levels.length : Nat) := wrap_u64 (by omega)
    have hl1 : ∀ x, x ≠ 1 → rL { e with levels := e.levels ++ [l] } x = rL e x := fun x hx => by rcases x with _ | _ | _ | _ | _ | x <;> first | rfl | exact absurd rfl hx
    have hmp : (e.levels ++ [l]).map Lv.d = e.levels.map Lv.d ++ [l.d] := by rw [List.map_append]; rfl
    have hne : [l.d] ≠ [] := by simp
    have hwq := wrap_last hb
    cases hc : c 1 with
    | none =>
      have h0 : e.levels.map Lv.d = [] := hS.z 1 hc
      have h0' : e.levels = [] := by simpa using h0
      rw [← hnd, hc, show oD none 5 (e.levels.map Lv.d) = .sl .nil 0 [] from rfl] at hw
      have hl0 : (e.levels.length : Int) = 0 := by rw [h0']; rfl
      repeat' first | refine yj fun N hN => ?_ | refine yl [] ?_ | ((first | refine ya rfl rfl fun N hN => ?_ | refine yc rfl rfl fun N hN => ?_ | refine ye rfl rfl fun N hN => ?_ | (refine yw hN _ _ ?_; clear hN N) | refine ym ?_ | refine yo ?_ | refine yp ?_); simp only [go_sem, ↓reduceIte, zA, zB, zC, zD, zE, zF, zG, zL, zM, zN, reduceCtorEq, f5, f0, f3, hw, hl0, hne, hwp, Tryz.results94]) | ((first | refine yg rfl ?_ | refine yi ?_); try simp only [go_sem]) | ((first | refine yx hN _ _ ?_ | refine yz hN _ _ ?_ | refine yy hN _ ?_); clear hN N) | refine yt (id := 6) mixed [] (.rd 0 (.rd 1 (.rd 2 (.rd 3 (.rd 4 (.act 5 [4, 3, 2, 1, 0] (.act 6 [4, 3, 2, 1, 0] (.act 7 [0] (.act 8 [] (.act 9 [] (.act 10 [] (.nil)))))))))))) (by kernel_rfl) ?_ | ((apply And.intro <;> intro h) <;> (try simp only [zS, zT, zU, zV, Bool.not_true, Bool.not_false] at h) <;> (first | (exfalso; omega) | simp only [go_sem, ↓reduceIte, zA, zB, zC, zD, zE, zF, zG, zL, zM, zN, reduceCtorEq, f5, f0, f3, hw, hl0, hne, hwp, h] | skip)) | ((refine yr fun j hj => ?_; (try have hj0 := St.tok_of_give hj)); try simp only [go_sem, ↓reduceIte, zA, zB, zC, zD, zE, zF, zG, zL, zM, zN, reduceCtorEq, f5, f0, f3, hw, hl0, hne, hwp]) | (refine And.intro ?_ ?_; · omega) | clear hN N | fail
      obtain ⟨u1, u2⟩ := hS.up (i := 1) (j := j) (e' := { e with levels := e.levels ++ [l] }) (s := (st.give j).set r (.cells (rCells (upR c 1 j) { e with levels := e.levels ++ [l] }))) (by rw [St.mem_set, if_pos rfl])
        hl1 hj (by simp [St.tok_give, St.tok_set]) (fun i _ hi => by simp [St.tok_give, St.tok_set, hi]) (by omega)
      have := hk _ _ u1 u2
      rw [rCells, hmp, h0, h0'] at this
      exact this
    | some j0 =>
      have hj0 := hS.t 1 j0 (by omega) hc
      rw [← hnd, hc, show oD (some j0) 5 (e.levels.map Lv.d) = .sl (.tok j0) 5 (e.levels.map Lv.d) from rfl] at hw
      repeat' first | refine yj fun N hN => ?_ | refine yl [] ?_ | ((first | refine ya rfl rfl fun N hN => ?_ | refine yc rfl rfl fun N hN => ?_ | refine ye rfl rfl fun N hN => ?_ | (refine yw hN _ _ ?_; clear hN N) | refine ym ?_ | refine yo ?_ | refine yp ?_); simp only [go_sem, ↓reduceIte, zA, zB, zC, zD, zE, zF, zG, zL, zM, zN, reduceCtorEq, f5, f0, f3, hw, i4, hne, hj0, hwp, hwq, Tryz.results94]) | ((first | refine yg rfl ?_ | refine yi ?_); try simp only [go_sem]) | ((first | refine yx hN _ _ ?_ | refine yz hN _ _ ?_ | refine yy hN _ ?_); clear hN N) | refine yt (id := 6) mixed [] (.rd 0 (.rd 1 (.rd 2 (.rd 3 (.rd 4 (.act 5 [4, 3, 2, 1, 0] (.act 6 [4, 3, 2, 1, 0] (.act 7 [0] (.act 8 [] (.act 9 [] (.act 10 [] (.nil)))))))))))) (by kernel_rfl) ?_ | ((refine yr fun j hj => ?_; (try have hj0 := St.tok_of_give hj)); try simp only [go_sem, ↓reduceIte, zA, zB, zC, zD, zE, zF, zG, zL, zM, zN, reduceCtorEq, f5, f0, f3, hw, i4, hne, hj0, hwp, hwq]) | (refine And.intro ?_ ?_; · omega) | clear hN N | fail
      obtain ⟨u1, u2⟩ := hS.up (i := 1) (j := j) (e' := { e with levels := e.levels ++ [l] }) (s := ((st.take j0).give j).set r (.cells (rCells (upR c 1 j) { e with levels := e.levels ++ [l] }))) (by rw [St.mem_set, if_pos rfl])
        hl1 hj (by simp [St.tok_give, St.tok_set]) (fun i hi ht => by
          have : i ≠ j0 := fun e => hi (by rw [hc, e])
          simp [St.tok_give, St.tok_set, St.tok_take, ht, this]) (by omega)
      have := hk _ _ u1 u2
      rw [rCells, hmp] at this
      exact this
end Go.Proofs.YtddbidoaolnegaaGreatDoor
/- Are two terms the same, by the reference: the walk. No statement of the seat is proved here; no condition. -/
namespace Go.Proofs.YtddbidoaolnegaaGreatDoor
open Go Go.RowKit
open Nat renaming reduceLT → zA, reduceEqDiff → zB, reduceBEq → zC, reduceAdd → zD, reduceMul → zE, reduceSub → zF, reduceLeDiff → zG, mul_one → zH, zero_add → zI, add_zero → zJ
open Int renaming toNat_natCast → zK, reduceAdd → zL, reduceLE → zM, reduceLT → zN, natCast_nonneg → zO
open Go.Proofs.YtddbidoaolnegaaGreatDoor renaming evI_plain → ya, evI_guard → yb, evT_rd → yc, evT_rdg → yd, evT_act → ye, evT_actg → yf, evI_done → yg, evT_two → yh, evT_nil → yi, W.seqG → yj, W.block → yk, W.regionI → yl, W.cond → ym, W.skip → yn, W.ret → yo, W.exit → yp, gdD_split → yq, newT_intro → yr, newB_intro → ys, W.draw → yt, St.set_del → yu, St.give_take → yv, AGo.go → yw, IGo.go → yx, TGo.go → yy, Goes.go → yz
attribute [local go_sem] zK zP zQ zH zI zJ zO
attribute [local irreducible] W evI evT evL evOp evBin gdD Sem newT newB fillD bldOf
set_option maxRecDepth 10000
set_option maxHeartbeats 4000000

theorem evBin_lvn (l l' : Lv) (lit : Bool) (c : D → Prop) : evBin P .neq 78 lit l.d l'.d c = c (.bool (!decide (l.c :: l.p = l'.c :: l'.p))) := by
  have h1 := lv_ints l
  have h2 := lv_ints l'
  have e : ∀ x : Lv, x.d = .agg x.d.cells := fun x => rfl
  rw [e l, e l']
  simp only [evBin, evAgg, h1, h2, List.length_cons, l.n, l'.n, true_and]
  exact propext ⟨fun h => h.2, fun h => ⟨eqI78, h⟩⟩
attribute [go_sem] evBin_lvn
theorem getD_ext {α : Type} {a b : List α} (z : α) (hl : a.length = b.length) (h : ∀ j, j < a.length → a.getD j z = b.getD j z) : a = b := by
  refine List.ext_getElem hl fun i h1 h2 => ?_
  have := h i h1
  simpa [List.getD, h1, h2] using this
theorem Tm.ext2 {a b : Tm} (h1 : a.k = b.k) (h2 : a.n = b.n) (h3 : a.s = b.s) (h4 : a.ls = b.ls) (h5 : a.ts = b.ts) : a = b := by
  cases a; cases b
  simp only [Tm.k, Tm.n, Tm.s, Tm.ls, Tm.ts] at h1 h2 h3 h4 h5
  rw [h1, h2, h3, h4, h5]

theorem sem83 : ∀ (a : Tm), a.wf → ∀ (b : Tm), b.wf → ∀ (st : St) (k : D → St → Prop), (a = b → k (.bool true) st) → (a ≠ b → k (.bool false) st) → Sem P 83 [a.d, b.d] st k := by
  intro a
  induction a using Tm.ind with
  | h k n s ls ts ihT =>
    intro hwa b hwb st k' hT hF
    have wa := hwa.to
    have wb := hwb.to
    generalize he : Tm.mk k n s ls ts = a at *
    have hts : ts = a.ts := by rw [← he]; rfl
    rw [hts] at ihT
    clear he hts
    have ea := Tm.d_eq a
    have eb := Tm.d_eq b
    by_cases c1 : a.k = b.k
    case neg =>
      have c1' : ¬ (a.k : Int) = b.k := by omega
      have hF := hF (fun e => c1 (by rw [e]))
      refine Sem.of_body Tryz.call83 Tryz.func83 rfl Tryz.ntmps83 (by simp) ?_
      rw [ea, eb]
      repeat' first | refine yj fun N hN => ?_ | refine yl [] ?_ | ((first | refine ya rfl rfl fun N hN => ?_ | refine yb rfl rfl rfl rfl fun N hN => ?_ | refine ym ?_ | refine yo ?_); simp only [go_sem, ↓reduceIte, zA, zB, zC, zD, zE, zF, zG, zL, zM, zN, reduceCtorEq, c1', Tryz.results83]) | (refine yg rfl ?_; try simp only [go_sem]) | ((first | refine yx hN _ _ ?_ | refine yz hN _ _ ?_); clear hN N) | clear hN N | fail
      all_goals exact hF
    by_cases c2 : a.n = b.n
    case neg =>
      have hF := hF (fun e => c2 (by rw [e]))
      refine Sem.of_body Tryz.call83 Tryz.func83 rfl Tryz.ntmps83 (by simp) ?_
      rw [ea, eb]
      repeat' first | refine yj fun N hN => ?_ | refine yl [] ?_ | ((first | refine ya rfl rfl fun N hN => ?_ | refine yb rfl rfl rfl rfl fun N hN => ?_ | refine ym ?_ | refine yo ?_); simp only [go_sem, ↓reduceIte, zA, zB, zC, zD, zE, zF, zG, zL, zM, zN, reduceCtorEq, c1, c2, Tryz.results83]) | (refine yg rfl ?_; try simp only [go_sem]) | ((first | refine yx hN _ _ ?_ | refine yz hN _ _ ?_); clear hN N) | clear hN N | fail
      all_goals exact hF
    by_cases c3 : a.s = b.s
    case neg =>
      have hF := hF (fun e => c3 (by rw [e]))
      refine Sem.of_body Tryz.call83 Tryz.func83 rfl Tryz.ntmps83 (by simp) ?_
      rw [ea, eb]
      repeat' first | refine yj fun N hN => ?_ | refine yl [] ?_ | ((first | refine ya rfl rfl fun N hN => ?_ | refine yb rfl rfl rfl rfl fun N hN => ?_ | refine ym ?_ | refine yo ?_); simp only [go_sem, ↓reduceIte, zA, zB, zC, zD, zE, zF, zG, zL, zM, zN, reduceCtorEq, c1, c2, c3, Tryz.results83]) | (refine yg rfl ?_; try simp only [go_sem]) | ((first | refine yx hN _ _ ?_ | refine yz hN _ _ ?_); clear hN N) | clear hN N | fail
      all_goals exact hF
    by_cases c4 : a.ls.length = b.ls.length
    case neg =>
      have c4' : ¬ (a.ls.length : Int) = b.ls.length := by omega
      have hF := hF (fun e => c4 (by rw [e]))
      refine Sem.of_body Tryz.call83 Tryz.func83 rfl Tryz.ntmps83 (by simp) ?_
      rw [ea, eb]
      repeat' first | refine yj fun N hN => ?_ | refine yl [] ?_ | ((first | refine ya rfl rfl fun N hN => ?_ | refine yb rfl rfl rfl rfl fun N hN => ?_ | refine ym ?_ | refine yo ?_); simp only [go_sem, ↓reduceIte, zA, zB, zC, zD, zE, zF, zG, zL, zM, zN, reduceCtorEq, c1, c2, c3, c4', Tryz.results83]) | (refine yg rfl ?_; try simp only [go_sem]) | ((first | refine yx hN _ _ ?_ | refine yz hN _ _ ?_); clear hN N) | clear hN N | fail
      all_goals exact hF
    by_cases c5 : a.ts.length = b.ts.length
    case neg =>
      have c5' : ¬ (a.ts.length : Int) = b.ts.length := by omega
      have hF := hF (fun e => c5 (by rw [e]))
      refine Sem.of_body Tryz.call83 Tryz.func83 rfl Tryz.ntmps83 (by simp) ?_
      rw [ea, eb]
      repeat' first | refine yj fun N hN => ?_ | refine yl [] ?_ | ((first | refine ya rfl rfl fun N hN => ?_ | refine yb rfl rfl rfl rfl fun N hN => ?_ | refine ym ?_ | refine yo ?_); simp only [go_sem, ↓reduceIte, zA, zB, zC, zD, zE, zF, zG, zL, zM, zN, reduceCtorEq, c1, c2, c3, c4, c5', Tryz.results83]) | (refine yg rfl ?_; try simp only [go_sem]) | ((first | refine yx hN _ _ ?_ | refine yz hN _ _ ?_); clear hN N) | clear hN N | fail
      all_goals exact hF
    have hla := wa.ls
    have hta := wa.ts
    rw [c1, c2, c3] at ea
    refine Sem.of_body Tryz.call83 Tryz.func83 rfl Tryz.ntmps83 (by simp) ?_
    rw [ea, eb]
    repeat' first | refine yj fun N hN => ?_ | refine yk ?_ | refine yl [] ?_ | ((first | refine ya rfl rfl fun N hN => ?_ | refine yb rfl rfl rfl rfl fun N hN => ?_ | refine ym ?_); simp only [go_sem, ↓reduceIte, zA, zB, zC, zD, zE, zF, zG, zL, zM, zN, reduceCtorEq, c1, c2, c3, c4, c5, Tryz.results83]) | ((first | refine yg rfl ?_ | refine yn ?_); try simp only [go_sem]) | ((first | refine yx hN _ _ ?_ | refine yz hN _ _ ?_); clear hN N) | fail
    refine W.loopN (fun m fr st' => st = st' ∧ ∃ i : Nat, i + m = a.ls.length ∧ (∀ j, j < i → a.ls.getD j Lv.z = b.ls.getD j Lv.z) ∧ fr 5 = .int .i64 i ∧ fr 2 = .eptr a.d 0 ∧ fr 3 = .eptr b.d 0) ?_ a.ls.length _ _ ⟨rfl, 0, by simp, by simp, by simp only [go_sem, ↓reduceIte, zA, zB, zC, zD, zE, zF, zG, zL, zM, zN, reduceCtorEq]; rfl, by simp only [go_sem, ↓reduceIte, zA, zB, zC, zD, zE, zF, zG, zL, zM, zN, reduceCtorEq]; try rw [ea], by simp only [go_sem, ↓reduceIte, zA, zB, zC, zD, zE, zF, zG, zL, zM, zN, reduceCtorEq]; try rw [eb]⟩
    rintro m N' ih fr _ ⟨rfl, i, hi, hal, f5, f2, f3⟩
    rw [ea] at f2
    rw [eb] at f3
    rcases Nat.lt_or_ge i a.ls.length with hlt | hge
    · have hg : (a.ls.map Lv.d).getD i .any = (a.ls.getD i Lv.z).d := getD_map _ _ _ hlt
      have hg2 : (b.ls.map Lv.d).getD i .any = (b.ls.getD i Lv.z).d := getD_map _ _ _ (by omega)
      have hlt2 : i < b.ls.length := by omega
      have i4 : (i : Int) < a.ls.length := by omega
      by_cases hq : a.ls.getD i Lv.z = b.ls.getD i Lv.z
      · repeat' first | refine yj fun N hN => ?_ | refine yk ?_ | refine yl [] ?_ | ((first | refine ya rfl rfl fun N hN => ?_ | refine yc rfl rfl fun N hN => ?_ | refine ye rfl rfl fun N hN => ?_ | (refine yw hN _ _ ?_; clear hN N) | refine ym ?_); simp only [go_sem, ↓reduceIte, zA, zB, zC, zD, zE, zF, zG, zL, zM, zN, reduceCtorEq, f5, f2, f3, hg, hg2, hlt, hlt2, i4, hq, lv_eq, Tryz.results83]) | ((first | refine yg rfl ?_ | refine yn ?_ | refine yi ?_); try simp only [go_sem]) | ((first | refine yx hN _ _ ?_ | refine yz hN _ _ ?_ | refine yy hN _ ?_); clear hN N) | refine yt (id := 6) mixed [] (.rd 0 (.rd 1 (.rd 2 (.rd 3 (.rd 4 (.rd 5 (.rd 6 (.act 7 [6, 5, 4, 3, 2, 1, 0] (.act 8 [4, 3, 2, 1, 0] (.act 9 [4, 3, 2, 1, 0] (.act 10 [] (.nil)))))))))))) (by kernel_rfl) ?_ | (refine And.intro ?_ ?_; · omega) | clear hN N | fail
        refine ih.back (m - 1) (by omega) _ _ ⟨rfl, i + 1, by omega, lt_succ_all hal hq, ?_, ?_, ?_⟩
        · simp only [go_sem, ↓reduceIte, zA, zB, zC, zD, zE, zF, zG, zL, zM, zN, reduceCtorEq]; rfl
        · simp only [go_sem, ↓reduceIte, zA, zB, zC, zD, zE, zF, zG, zL, zM, zN, reduceCtorEq, f2]; try rw [ea]
        · simp only [go_sem, ↓reduceIte, zA, zB, zC, zD, zE, zF, zG, zL, zM, zN, reduceCtorEq, f3]; try rw [eb]
      · have hF := hF (fun e => hq (by rw [e]))
        repeat' first | refine yj fun N hN => ?_ | refine yk ?_ | refine yl [] ?_ | ((first | refine ya rfl rfl fun N hN => ?_ | refine yc rfl rfl fun N hN => ?_ | refine ye rfl rfl fun N hN => ?_ | (refine yw hN _ _ ?_; clear hN N) | refine ym ?_ | refine yo ?_); simp only [go_sem, ↓reduceIte, zA, zB, zC, zD, zE, zF, zG, zL, zM, zN, reduceCtorEq, f5, f2, f3, hg, hg2, hlt, hlt2, i4, hq, lv_eq, Tryz.results83]) | ((first | refine yg rfl ?_ | refine yn ?_ | refine yi ?_); try simp only [go_sem]) | ((first | refine yx hN _ _ ?_ | refine yz hN _ _ ?_ | refine yy hN _ ?_); clear hN N) | refine yt (id := 6) mixed [] (.rd 0 (.rd 1 (.rd 2 (.rd 3 (.rd 4 (.rd 5 (.rd 6 (.act 7 [6, 5, 4, 3, 2, 1, 0] (.act 8 [4, 3, 2, 1, 0] (.act 9 [4, 3, 2, 1, 0] (.act 10 [] (.nil)))))))))))) (by kernel_rfl) ?_ | clear hN N | fail
        all_goals exact hF
    · have i4 : ¬ (i : Int) < a.ls.length := by omega
      have e4 : a.ls = b.ls := getD_ext Lv.z c4 (fun j hj => hal j (by omega))
      repeat' first | refine yj fun N hN => ?_ | refine yk ?_ | refine yl [] ?_ | ((first | refine ya rfl rfl fun N hN => ?_ | refine ym ?_ | refine yp ?_); simp only [go_sem, ↓reduceIte, zA, zB, zC, zD, zE, zF, zG, zL, zM, zN, reduceCtorEq, f5, f2, f3, i4, Tryz.results83]) | (refine yg rfl ?_; try simp only [go_sem]) | ((first | refine yx hN _ _ ?_ | refine yz hN _ _ ?_); clear hN N) | clear hN N | fail
      rw [← ea] at f2
      rw [← eb] at f3
      refine W.loopN (fun m fr st' => st = st' ∧ ∃ i : Nat, i + m = a.ts.length ∧ (∀ j, j < i → a.ts.getD j Tm.z = b.ts.getD j Tm.z) ∧ fr 6 = .int .i64 i ∧ fr 2 = .eptr a.d 0 ∧ fr 3 = .eptr b.d 0) ?_ a.ts.length _ _ ⟨rfl, 0, by simp, by simp, by simp only [go_sem, ↓reduceIte, zA, zB, zC, zD, zE, zF, zG, zL, zM, zN, reduceCtorEq]; rfl, by simp only [go_sem, ↓reduceIte, zA, zB, zC, zD, zE, zF, zG, zL, zM, zN, reduceCtorEq, f2], by simp only [go_sem, ↓reduceIte, zA, zB, zC, zD, zE, zF, zG, zL, zM, zN, reduceCtorEq, f3]⟩
      clear f5 f2 f3 i4 hi hal hge ih
      rintro m N' ih fr _ ⟨rfl, i, hi, hal, f6, f2, f3⟩
      rw [ea] at f2
      rw [eb] at f3
      rcases Nat.lt_or_ge i a.ts.length with hlt | hge
      · have hg : (a.ts.map Tm.d).getD i .any = (a.ts.getD i Tm.z).d := getD_map _ _ _ hlt
        have hg2 : (b.ts.map Tm.d).getD i .any = (b.ts.getD i Tm.z).d := getD_map _ _ _ (by omega)
        have hlt2 : i < b.ts.length := by omega
        have i4 : (i : Int) < a.ts.length := by omega
        have hm := getD_mem a.ts Tm.z hlt
        have hm2 := getD_mem b.ts Tm.z hlt2
        repeat' first | refine yj fun N hN => ?_ | refine yk ?_ | refine yl [] ?_ | ((first | refine ya rfl rfl fun N hN => ?_ | refine yc rfl rfl fun N hN => ?_ | refine ye rfl rfl fun N hN => ?_ | (refine yw hN _ _ ?_; clear hN N) | refine ym ?_ | refine yo ?_); simp only [go_sem, ↓reduceIte, zA, zB, zC, zD, zE, zF, zG, zL, zM, zN, reduceCtorEq, f6, f2, f3, hg, hg2, hlt, hlt2, i4, Tryz.results83]) | ((first | refine yg rfl ?_ | refine yn ?_ | refine yi ?_); try simp only [go_sem]) | ((first | refine yx hN _ _ ?_ | refine yz hN _ _ ?_ | refine yy hN _ ?_); clear hN N) | refine yt (id := 11) mixed [] (.rd 0 (.rd 1 (.rd 2 (.rd 3 (.rd 4 (.rd 5 (.rd 6 (.act 7 [6, 5, 4, 3, 2, 1, 0] (.act 8 [4, 3, 2, 1, 0] (.act 9 [4, 3, 2, 1, 0] (.act 10 [] (.act 11 [] (.nil))))))))))))) (by kernel_rfl) ?_ | (refine ihT _ hm (wa.tm _ hm) _ (wb.tm _ hm2) _ _ (fun hq => ?_) (fun hq => ?_); try simp only [go_sem, ↓reduceIte, zA, zB, zC, zD, zE, zF, zG, zL, zM, zN, reduceCtorEq, f6, f2, f3, hg, hg2, hlt, hlt2, i4]) | (refine And.intro ?_ ?_; · omega) | clear hN N | fail
        all_goals first
          | (refine ih.back (m - 1) (by omega) _ _ ⟨rfl, i + 1, by omega, lt_succ_all hal hq, ?_, ?_, ?_⟩
             · simp only [go_sem, ↓reduceIte, zA, zB, zC, zD, zE, zF, zG, zL, zM, zN, reduceCtorEq]; rfl
             · simp only [go_sem, ↓reduceIte, zA, zB, zC, zD, zE, zF, zG, zL, zM, zN, reduceCtorEq, f2]; try rw [ea]
             · simp only [go_sem, ↓reduceIte, zA, zB, zC, zD, zE, zF, zG, zL, zM, zN, reduceCtorEq, f3]; try rw [eb])
          | exact hF (fun e => hq (by rw [e]))
      · have i4 : ¬ (i : Int) < a.ts.length := by omega
        have e5 : a.ts = b.ts := getD_ext Tm.z c5 (fun j hj => hal j (by omega))
        repeat' first | refine yj fun N hN => ?_ | refine yl [] ?_ | ((first | refine ya rfl rfl fun N hN => ?_ | refine ym ?_ | refine yo ?_ | refine yp ?_); simp only [go_sem, ↓reduceIte, zA, zB, zC, zD, zE, zF, zG, zL, zM, zN, reduceCtorEq, f6, f2, f3, i4, Tryz.results83]) | (refine yg rfl ?_; try simp only [go_sem]) | ((first | refine yx hN _ _ ?_ | refine yz hN _ _ ?_); clear hN N) | clear hN N | fail
        exact hT (Tm.ext2 c1 c2 c3 e4 e5)
end Go.Proofs.YtddbidoaolnegaaGreatDoor
