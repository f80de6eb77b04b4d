/-
PART OF A CLAIM: PC. No statement of the seat is proved here; no condition. -/
import Derived.Test.YtddbidoaolnegaaGreatDoorWO12
set_option linter.all false
/- Declarations by the program: which may be: the walks. No statement of the seat is proved here; no condition. -/
namespace Go.Proofs.YtddbidoaolnegaaGreatDoor
open Go Go.RowKit
open Nat renaming reduceLT → zA, reduceEqDiff → zB, reduceBEq → zC, reduceAdd → zD, reduceMul → zE, reduceSub → zF, reduceLeDiff → zG, mul_one → zH, zero_add → zI, add_zero → zJ
open Int renaming toNat_natCast → zK, reduceAdd → zL, reduceLE → zM, reduceLT → zN, natCast_nonneg → zO
open Go.Proofs.YtddbidoaolnegaaGreatDoor renaming evI_plain → ya, evI_guard → yb, evT_rd → yc, evT_rdg → yd, evT_act → ye, evT_actg → yf, evI_done → yg, evT_two → yh, evT_nil → yi, W.seqG → yj, W.block → yk, W.regionI → yl, W.cond → ym, W.skip → yn, W.ret → yo, W.exit → yp, gdD_split → yq, newT_intro → yr, newB_intro → ys, W.draw → yt, St.set_del → yu, St.give_take → yv, AGo.go → yw, IGo.go → yx, TGo.go → yy, Goes.go → yz
attribute [local go_sem] zK zP zQ zH zI zJ zO
attribute [local irreducible] W evI evT evL evOp evBin gdD Sem newT newB fillD bldOf
set_option maxRecDepth 10000
set_option maxHeartbeats 1000000

theorem Lv.plen (l : Lv) : l.p.length = 4 := l.n
attribute [go_sem] Lv.plen false_or or_false not_true_eq_false

theorem Tm.deep_mem : ∀ {l : List Tm} {x : Tm}, x ∈ l → x.deep ≤ Tm.deeps l
  | [], _, h => by simp at h
  | y :: l, x, h => by
    rw [Tm.deeps]
    rcases List.mem_cons.1 h with rfl | h
    · omega
    · have := Tm.deep_mem h; omega

theorem sem62 : ∀ (t : Tm), t.wf → ∀ (st : St) (k : D → St → Prop), t.size < 1000000000 → k (.tup [.int .i64 (if lvsB t = true then (t.deep : Int) else 0), .bool (lvsB t)]) st → Sem P 62 [t.d] st k := by
  intro t
  induction t using Tm.ind with
  | h kk n s ls ts ihT =>
    intro hw st k' hsz hk
    have wt := hw.to
    generalize he : Tm.mk kk n s ls ts = t at *
    have hts : ts = t.ts := by rw [← he]; rfl
    rw [hts] at ihT
    clear he hts
    have hsz' := hsz
    rw [Tm.size_eq] at hsz
    have hds := Tm.deep_le_size t
    rw [Tm.deep_eq] at hds
    have hts := wt.ts
    have hls := wt.ls
    have hbad : lvsB t = false → k' (.tup [.int .i64 0, .bool false]) st := fun h => by simpa [h] using hk
    have hgood : lvsB t = true → k' (.tup [.int .i64 (Tm.deeps t.ts + 1 : Nat), .bool true]) st := fun h => by rw [← Tm.deep_eq]; simpa [h] using hk
    clear hk
    rw [lvsB_eq, lvssB_all] at hbad hgood
    refine Sem.of_body Tryz.call62 Tryz.func62 rfl Tryz.ntmps62 (by simp) ?_
    repeat' first | refine yj fun N hN => ?_ | refine yk ?_ | refine yl [] ?_ | (refine ya rfl rfl fun N hN => ?_; simp only [go_sem, ↓reduceIte, zA, zB, zC, zD, zE, zF, zG, zL, zM, zN, reduceCtorEq, Tryz.results62]) | (refine yg rfl ?_; try simp only [go_sem]) | ((first | refine yx hN _ _ ?_ | refine yz hN _ _ ?_); clear hN N) | fail
    refine W.loopN (fun m fr st' => st = st' ∧ ∃ i : Nat, i + m = t.ls.length ∧ (∀ j, j < i → lvD (t.ls.getD j Lv.z) = true) ∧ fr 13 = .int .i64 i ∧ fr 12 = .int .i64 t.ls.length ∧ fr 11 = .sl .frozen 5 (t.ls.map Lv.d) ∧ fr 1 = .eptr t.d 0 ∧ fr 2 = .int .i64 0) ?_ t.ls.length _ _ ⟨rfl, 0, by simp, by simp, by simp only [go_sem, ↓reduceIte, zA, zB, zC, zD, zE, zF, zG, zL, zM, zN, reduceCtorEq]; rfl, by simp only [go_sem, ↓reduceIte, zA, zB, zC, zD, zE, zF, zG, zL, zM, zN, reduceCtorEq], by simp only [go_sem, ↓reduceIte, zA, zB, zC, zD, zE, zF, zG, zL, zM, zN, reduceCtorEq], by simp only [go_sem, ↓reduceIte, zA, zB, zC, zD, zE, zF, zG, zL, zM, zN, reduceCtorEq], by simp only [go_sem, ↓reduceIte, zA, zB, zC, zD, zE, zF, zG, zL, zM, zN, reduceCtorEq]⟩
    rintro m N' ih fr _ ⟨rfl, i, hi, hal, f13, f12, f11, f1, f2⟩
    rcases Nat.lt_or_ge i t.ls.length with hlt | hge
    · have hg : (t.ls.map Lv.d).getD i .any = (t.ls.getD i Lv.z).d := getD_map _ _ _ hlt
      have h4 : (i : Int) < t.ls.length := by omega
      have hm := getD_mem t.ls Lv.z hlt
      cases hl : lvD (t.ls.getD i Lv.z) with
      | true =>
        repeat' first | rw [yu hr] | refine yj fun N hN => ?_ | refine yk ?_ | refine yl [] ?_ | ((first | refine ya rfl rfl fun N hN => ?_ | refine ym ?_); simp only [go_sem, ↓reduceIte, zA, zB, zC, zD, zE, zF, zG, zL, zM, zN, reduceCtorEq, f13, f12, f11, f1, f2, hg, hlt, h4, hl, Tryz.results62]) | ((first | refine yg rfl ?_ | refine yn ?_); try simp only [go_sem]) | ((first | refine yx hN _ _ ?_ | refine yz hN _ _ ?_); clear hN N) | (refine sem99 _ (wt.lv _ hm) _ _ ?_; try simp only [go_sem, ↓reduceIte, zA, zB, zC, zD, zE, zF, zG, zL, zM, zN, reduceCtorEq, f13, f12, f11, f1, f2, hg, hlt, h4, hl]) | ((refine ys fun r hr => ?_; (try have hrn := (St.set_none hr).1); (try have hrn2 := Ne.symm (St.set_none hr).1)); try simp only [go_sem, ↓reduceIte, zA, zB, zC, zD, zE, zF, zG, zL, zM, zN, reduceCtorEq, f13, f12, f11, f1, f2, hg, hlt, h4, hl]) | (refine And.intro ?_ ?_; · omega) | clear hN N | fail
        refine ih.back (m - 1) (by omega) _ _ ⟨rfl, i + 1, by omega, lt_succ_all hal hl, ?_, ?_, ?_, ?_, ?_⟩
        · simp only [go_sem, ↓reduceIte, zA, zB, zC, zD, zE, zF, zG, zL, zM, zN, reduceCtorEq]; rfl
        · simp only [go_sem, ↓reduceIte, zA, zB, zC, zD, zE, zF, zG, zL, zM, zN, reduceCtorEq, f12]
        · simp only [go_sem, ↓reduceIte, zA, zB, zC, zD, zE, zF, zG, zL, zM, zN, reduceCtorEq, f11]
        · simp only [go_sem, ↓reduceIte, zA, zB, zC, zD, zE, zF, zG, zL, zM, zN, reduceCtorEq, f1]
        · simp only [go_sem, ↓reduceIte, zA, zB, zC, zD, zE, zF, zG, zL, zM, zN, reduceCtorEq, f2]
      | false =>
        have hb := hbad (by rw [all_badG Lv.z hlt hl, Bool.false_and])
        repeat' first | rw [yu hr] | refine yj fun N hN => ?_ | refine yk ?_ | refine yl [] ?_ | ((first | refine ya rfl rfl fun N hN => ?_ | refine ym ?_ | refine yo ?_); simp only [go_sem, ↓reduceIte, zA, zB, zC, zD, zE, zF, zG, zL, zM, zN, reduceCtorEq, f13, f12, f11, f1, f2, hg, hlt, h4, hl, Tryz.results62]) | ((first | refine yg rfl ?_ | refine yn ?_); try simp only [go_sem]) | ((first | refine yx hN _ _ ?_ | refine yz hN _ _ ?_); clear hN N) | (refine sem99 _ (wt.lv _ hm) _ _ ?_; try simp only [go_sem, ↓reduceIte, zA, zB, zC, zD, zE, zF, zG, zL, zM, zN, reduceCtorEq, f13, f12, f11, f1, f2, hg, hlt, h4, hl]) | ((refine ys fun r hr => ?_; (try have hrn := (St.set_none hr).1); (try have hrn2 := Ne.symm (St.set_none hr).1)); try simp only [go_sem, ↓reduceIte, zA, zB, zC, zD, zE, zF, zG, zL, zM, zN, reduceCtorEq, f13, f12, f11, f1, f2, hg, hlt, h4, hl]) | clear hN N | fail
        all_goals exact hb
    · have h4 : ¬ (i : Int) < t.ls.length := by omega
      have hall := all_goodG Lv.z (q := lvD) (fun j hj => hal j (by omega))
      rw [hall, Bool.true_and] at hbad hgood
      repeat' first | refine yj fun N hN => ?_ | refine yk ?_ | refine yl [] ?_ | ((first | refine ya rfl rfl fun N hN => ?_ | refine ym ?_ | refine yp ?_); simp only [go_sem, ↓reduceIte, zA, zB, zC, zD, zE, zF, zG, zL, zM, zN, reduceCtorEq, f13, f12, f11, f1, f2, h4, Tryz.results62]) | (refine yg rfl ?_; try simp only [go_sem]) | ((first | refine yx hN _ _ ?_ | refine yz hN _ _ ?_); clear hN N) | clear hN N | fail
      clear ih f13 f12 f11 h4 hal hi hge
      refine W.loopN (fun m fr st' => st = st' ∧ ∃ i a : Nat, i + m = t.ts.length ∧ (∀ j, j < i → lvsB (t.ts.getD j Tm.z) = true) ∧ max a (Tm.deeps (t.ts.drop i)) = Tm.deeps t.ts ∧ fr 24 = .int .i64 i ∧ fr 23 = .int .i64 t.ts.length ∧ fr 22 = .sl .frozen 5 (t.ts.map Tm.d) ∧ fr 2 = .int .i64 a) ?_ t.ts.length _ _ ⟨rfl, 0, 0, by simp, by simp, by simp, by simp only [go_sem, ↓reduceIte, zA, zB, zC, zD, zE, zF, zG, zL, zM, zN, reduceCtorEq]; rfl, by simp only [go_sem, ↓reduceIte, zA, zB, zC, zD, zE, zF, zG, zL, zM, zN, reduceCtorEq], by simp only [go_sem, ↓reduceIte, zA, zB, zC, zD, zE, zF, zG, zL, zM, zN, reduceCtorEq], by simp only [go_sem, ↓reduceIte, zA, zB, zC, zD, zE, zF, zG, zL, zM, zN, reduceCtorEq, f2]; rfl⟩
      clear f1 f2
      rintro m N' ih fr _ ⟨rfl, i, a, hi, hal, hmx, f24, f23, f22, f2⟩
      rcases Nat.lt_or_ge i t.ts.length with hlt | hge
      · have hg : (t.ts.map Tm.d).getD i .any = (t.ts.getD i Tm.z).d := getD_map _ _ _ hlt
        have h4 : (i : Int) < t.ts.length := by omega
        have hm := getD_mem t.ts Tm.z hlt
        have hms := Tm.sizes_mem hm
        rw [drop_getD _ Tm.z hlt, Tm.deeps] at hmx
        cases hl : lvsB (t.ts.getD i Tm.z) with
        | true =>
          have hd2 := Tm.deep_mem hm
          repeat' first | rw [yu hr] | refine yj fun N hN => ?_ | refine yk ?_ | refine yl [] ?_ | ((first | refine ya rfl rfl fun N hN => ?_ | refine ym ?_); simp only [go_sem, ↓reduceIte, zA, zB, zC, zD, zE, zF, zG, zL, zM, zN, reduceCtorEq, f24, f23, f22, f2, hg, hlt, h4, hl, Tryz.results62]) | ((first | refine yg rfl ?_ | refine yn ?_); try simp only [go_sem]) | ((first | refine yx hN _ _ ?_ | refine yz hN _ _ ?_); clear hN N) | (refine ihT _ hm (wt.tm _ hm) _ _ (by omega) ?_; try simp only [go_sem, ↓reduceIte, zA, zB, zC, zD, zE, zF, zG, zL, zM, zN, reduceCtorEq, f24, f23, f22, f2, hg, hlt, h4, hl]) | ((refine ys fun r hr => ?_; (try have hrn := (St.set_none hr).1); (try have hrn2 := Ne.symm (St.set_none hr).1)); try simp only [go_sem, ↓reduceIte, zA, zB, zC, zD, zE, zF, zG, zL, zM, zN, reduceCtorEq, f24, f23, f22, f2, hg, hlt, h4, hl]) | (refine And.intro ?_ ?_; · omega) | clear hN N | fail
          refine ih.back (m - 1) (by omega) _ _ ⟨rfl, i + 1, max a (t.ts.getD i Tm.z).deep, by omega, lt_succ_all hal hl, by omega, ?_, ?_, ?_, ?_⟩
          · simp only [go_sem, ↓reduceIte, zA, zB, zC, zD, zE, zF, zG, zL, zM, zN, reduceCtorEq]; rfl
          · simp only [go_sem, ↓reduceIte, zA, zB, zC, zD, zE, zF, zG, zL, zM, zN, reduceCtorEq, f23]
          · simp only [go_sem, ↓reduceIte, zA, zB, zC, zD, zE, zF, zG, zL, zM, zN, reduceCtorEq, f22]
          · simp only [go_sem, ↓reduceIte, zA, zB, zC, zD, zE, zF, zG, zL, zM, zN, reduceCtorEq]; congr 1; omega
        | false =>
          have hb := hbad (all_badG Tm.z hlt hl)
          repeat' first | rw [yu hr] | refine yj fun N hN => ?_ | refine yk ?_ | refine yl [] ?_ | ((first | refine ya rfl rfl fun N hN => ?_ | refine ym ?_ | refine yo ?_); simp only [go_sem, ↓reduceIte, zA, zB, zC, zD, zE, zF, zG, zL, zM, zN, reduceCtorEq, f24, f23, f22, f2, hg, hlt, h4, hl, Tryz.results62]) | ((first | refine yg rfl ?_ | refine yn ?_); try simp only [go_sem]) | ((first | refine yx hN _ _ ?_ | refine yz hN _ _ ?_); clear hN N) | (refine ihT _ hm (wt.tm _ hm) _ _ (by omega) ?_; try simp only [go_sem, ↓reduceIte, zA, zB, zC, zD, zE, zF, zG, zL, zM, zN, reduceCtorEq, f24, f23, f22, f2, hg, hlt, h4, hl]) | ((refine ys fun r hr => ?_; (try have hrn := (St.set_none hr).1); (try have hrn2 := Ne.symm (St.set_none hr).1)); try simp only [go_sem, ↓reduceIte, zA, zB, zC, zD, zE, zF, zG, zL, zM, zN, reduceCtorEq, f24, f23, f22, f2, hg, hlt, h4, hl]) | clear hN N | fail
          all_goals exact hb
      · have h4 : ¬ (i : Int) < t.ts.length := by omega
        rw [List.drop_of_length_le hge, Tm.deeps] at hmx
        have hb := hgood (all_goodG Tm.z (fun j hj => hal j (by omega)))
        rw [show Tm.deeps t.ts = a by omega] at hb
        repeat' first | refine yj fun N hN => ?_ | refine yl [] ?_ | ((first | refine ya rfl rfl fun N hN => ?_ | refine ym ?_ | refine yo ?_ | refine yp ?_); simp only [go_sem, ↓reduceIte, zA, zB, zC, zD, zE, zF, zG, zL, zM, zN, reduceCtorEq, f24, f23, f22, f2, h4, Tryz.results62]) | (refine yg rfl ?_; try simp only [go_sem]) | ((first | refine yx hN _ _ ?_ | refine yz hN _ _ ?_); clear hN N) | (refine And.intro ?_ ?_; · omega) | clear hN N | fail
        all_goals exact hb

theorem sem24 (t : Tm) (hw : t.wf) (st : St) (k : D → St → Prop) (hk : k (.bool (termB t)) st) : Sem P 24 [t.d] st k := by
  have hd := Tm.deep_le_size t
  cases c1 : okT3 t with
  | false =>
    have : termB t = false := by
      cases h : termB t with
      | false => rfl
      | true =>
        simp only [termB, Bool.and_eq_true, decide_eq_true_eq] at h
        have : okT3 t = true := by simp only [okT3, Bool.and_eq_true, decide_eq_true_eq]; exact ⟨⟨h.1.1.1, by omega⟩, by omega⟩
        rw [this] at c1; cases c1
    rw [this] at hk
    refine Sem.of_body Tryz.call24 Tryz.func24 rfl Tryz.ntmps24 (by simp) ?_
    repeat' first | refine yj fun N hN => ?_ | refine yl [] ?_ | ((first | refine ya rfl rfl fun N hN => ?_ | refine yb rfl rfl rfl rfl fun N hN => ?_ | refine ym ?_ | refine yo ?_); simp only [go_sem, ↓reduceIte, zA, zB, zC, zD, zE, zF, zG, zL, zM, zN, reduceCtorEq, c1, Tryz.results24]) | (refine yg rfl ?_; try simp only [go_sem]) | ((first | refine yx hN _ _ ?_ | refine yz hN _ _ ?_); clear hN N) | (refine sem60 t hw _ _ ?_; try simp only [go_sem, ↓reduceIte, zA, zB, zC, zD, zE, zF, zG, zL, zM, zN, reduceCtorEq, c1]) | clear hN N | fail
    all_goals exact hk
  | true =>
    have c2 := c1
    simp only [okT3, Bool.and_eq_true, decide_eq_true_eq] at c2
    by_cases c3 : t.size ≤ 4096
    · have e3 : ¬ (4096 : Int) < t.size := by omega
      have c4 : termB t = (lvsB t && decide ((t.deep : Int) ≤ 256)) := by
        have e : decide ((t.deep : Int) ≤ 256) = decide (t.deep ≤ 256) := decide_eq_decide.2 (by omega)
        rw [e, Bool.and_comm]
        simp only [termB, c2.1.1, c3, decide_true, Bool.true_and]
      rw [c4] at hk
      cases c5 : lvsB t with
      | true =>
        rw [c5, Bool.true_and] at hk
        refine Sem.of_body Tryz.call24 Tryz.func24 rfl Tryz.ntmps24 (by simp) ?_
        repeat' first | refine yj fun N hN => ?_ | refine yl [] ?_ | ((first | refine ya rfl rfl fun N hN => ?_ | refine yb rfl rfl rfl rfl fun N hN => ?_ | refine ym ?_ | refine yo ?_); simp only [go_sem, ↓reduceIte, zA, zB, zC, zD, zE, zF, zG, zL, zM, zN, reduceCtorEq, c1, e3, c5, Tryz.results24]) | ((first | refine yg rfl ?_ | refine yn ?_); try simp only [go_sem]) | ((first | refine yx hN _ _ ?_ | refine yz hN _ _ ?_); clear hN N) | (refine sem60 t hw _ _ ?_; try simp only [go_sem, ↓reduceIte, zA, zB, zC, zD, zE, zF, zG, zL, zM, zN, reduceCtorEq, c1, e3, c5]) | (refine sem61 t hw _ _ ?_; try simp only [go_sem, ↓reduceIte, zA, zB, zC, zD, zE, zF, zG, zL, zM, zN, reduceCtorEq, c1, e3, c5]) | (refine sem62 t hw _ _ (by omega) ?_; try simp only [go_sem, ↓reduceIte, zA, zB, zC, zD, zE, zF, zG, zL, zM, zN, reduceCtorEq, c1, e3, c5]) | fail
        all_goals exact hk
      | false =>
        rw [c5, Bool.false_and] at hk
        refine Sem.of_body Tryz.call24 Tryz.func24 rfl Tryz.ntmps24 (by simp) ?_
        repeat' first | refine yj fun N hN => ?_ | refine yl [] ?_ | ((first | refine ya rfl rfl fun N hN => ?_ | refine yb rfl rfl rfl rfl fun N hN => ?_ | refine ym ?_ | refine yo ?_); simp only [go_sem, ↓reduceIte, zA, zB, zC, zD, zE, zF, zG, zL, zM, zN, reduceCtorEq, c1, e3, c5, Tryz.results24]) | ((first | refine yg rfl ?_ | refine yn ?_); try simp only [go_sem]) | ((first | refine yx hN _ _ ?_ | refine yz hN _ _ ?_); clear hN N) | (refine sem60 t hw _ _ ?_; try simp only [go_sem, ↓reduceIte, zA, zB, zC, zD, zE, zF, zG, zL, zM, zN, reduceCtorEq, c1, e3, c5]) | (refine sem61 t hw _ _ ?_; try simp only [go_sem, ↓reduceIte, zA, zB, zC, zD, zE, zF, zG, zL, zM, zN, reduceCtorEq, c1, e3, c5]) | (refine sem62 t hw _ _ (by omega) ?_; try simp only [go_sem, ↓reduceIte, zA, zB, zC, zD, zE, zF, zG, zL, zM, zN, reduceCtorEq, c1, e3, c5]) | fail
        all_goals exact hk
    · have e3 : (4096 : Int) < t.size := by omega
      simp only [termB, c3, decide_false, Bool.false_and, Bool.and_false] at hk
      refine Sem.of_body Tryz.call24 Tryz.func24 rfl Tryz.ntmps24 (by simp) ?_
      repeat' first | refine yj fun N hN => ?_ | refine yl [] ?_ | ((first | refine ya rfl rfl fun N hN => ?_ | refine yb rfl rfl rfl rfl fun N hN => ?_ | refine ym ?_ | refine yo ?_); simp only [go_sem, ↓reduceIte, zA, zB, zC, zD, zE, zF, zG, zL, zM, zN, reduceCtorEq, c1, e3, Tryz.results24]) | (refine yg rfl ?_; try simp only [go_sem]) | ((first | refine yx hN _ _ ?_ | refine yz hN _ _ ?_); clear hN N) | (refine sem60 t hw _ _ ?_; try simp only [go_sem, ↓reduceIte, zA, zB, zC, zD, zE, zF, zG, zL, zM, zN, reduceCtorEq, c1, e3]) | (refine sem61 t hw _ _ ?_; try simp only [go_sem, ↓reduceIte, zA, zB, zC, zD, zE, zF, zG, zL, zM, zN, reduceCtorEq, c1, e3]) | clear hN N | fail
      all_goals exact hk

theorem sem25 (t : Tm) (hw : t.wf) (st : St) (k : D → St → Prop) (hk : k (.bool (noneB t)) st) : Sem P 25 [t.d] st k := by
  have hts := hw.to.ts
  have hls := hw.to.ls
  have e0 : ((t.k : Int) = 0) ↔ t.k = 0 := by omega
  by_cases c5 : (t.ls.length : Int) + t.ts.length = 0
  · have c3 : t.ls = [] := List.eq_nil_of_length_eq_zero (by omega)
    have c4 : t.ts = [] := List.eq_nil_of_length_eq_zero (by omega)
    by_cases c0 : t.k = 0 <;> by_cases c1 : t.n = 0 <;> by_cases c2 : t.s = [] <;>
      simp only [noneB, c0, c1, c2, c3, c4, decide_true, decide_false, Bool.and_true, Bool.true_and, Bool.and_false, Bool.false_and] at hk
    all_goals (
      refine Sem.of_body Tryz.call25 Tryz.func25 rfl Tryz.ntmps25 (by simp) ?_
      repeat' first | refine yj fun N hN => ?_ | refine yl [] ?_ | ((first | refine ya rfl rfl fun N hN => ?_ | refine yb rfl rfl rfl rfl fun N hN => ?_ | refine yo ?_); simp only [go_sem, ↓reduceIte, zA, zB, zC, zD, zE, zF, zG, zL, zM, zN, reduceCtorEq, e0, c0, c1, c2, c3, c4, Tryz.results25]) | (refine yg rfl ?_; try simp only [go_sem]) | ((first | refine yx hN _ _ ?_ | refine yz hN _ _ ?_); clear hN N) | (refine yq (fun h => ?_) (fun h => ?_) <;> (try simp only [zS, zT, zU, zV, Bool.not_true, Bool.not_false] at h) <;> (first | (exfalso; omega) | simp only [go_sem, ↓reduceIte, zA, zB, zC, zD, zE, zF, zG, zL, zM, zN, reduceCtorEq, e0, c0, c1, c2, c3, c4, h] | skip)) | (refine And.intro ?_ ?_; · omega) | fail
      exact hk)
  · have c6 : noneB t = false := by
      cases h : noneB t with
      | false => rfl
      | true =>
        simp only [noneB, Bool.and_eq_true, decide_eq_true_eq] at h
        rw [h.1.2, h.2] at c5; simp at c5
    rw [c6] at hk
    by_cases c0 : t.k = 0 <;> by_cases c1 : t.n = 0 <;> by_cases c2 : t.s = []
    all_goals (
      refine Sem.of_body Tryz.call25 Tryz.func25 rfl Tryz.ntmps25 (by simp) ?_
      repeat' first | refine yj fun N hN => ?_ | refine yl [] ?_ | ((first | refine ya rfl rfl fun N hN => ?_ | refine yb rfl rfl rfl rfl fun N hN => ?_ | refine yo ?_); simp only [go_sem, ↓reduceIte, zA, zB, zC, zD, zE, zF, zG, zL, zM, zN, reduceCtorEq, e0, c0, c1, c2, c5, Tryz.results25]) | (refine yg rfl ?_; try simp only [go_sem]) | ((first | refine yx hN _ _ ?_ | refine yz hN _ _ ?_); clear hN N) | (refine yq (fun h => ?_) (fun h => ?_) <;> (try simp only [zS, zT, zU, zV, Bool.not_true, Bool.not_false] at h) <;> (first | (exfalso; omega) | simp only [go_sem, ↓reduceIte, zA, zB, zC, zD, zE, zF, zG, zL, zM, zN, reduceCtorEq, e0, c0, c1, c2, c5, h] | skip)) | (refine And.intro ?_ ?_; · omega) | fail
      exact hk)

theorem sem26 (y : In) (hy : y.Wf) (st : St) (k : D → St → Prop) (hk : k (.bool (indB y)) st) : Sem P 26 [y.d] st k := by
  have hlen := hy.len
  refine Sem.of_body Tryz.call26 Tryz.func26 rfl Tryz.ntmps26 (by simp) ?_
  repeat' first | refine yj fun N hN => ?_ | refine yk ?_ | refine yl [] ?_ | (refine ya rfl rfl fun N hN => ?_; simp only [go_sem, ↓reduceIte, zA, zB, zC, zD, zE, zF, zG, zL, zM, zN, reduceCtorEq, Tryz.results26]) | (refine yg rfl ?_; try simp only [go_sem]) | ((first | refine yx hN _ _ ?_ | refine yz hN _ _ ?_); clear hN N) | fail
  refine W.loopN (fun m fr st' => st = st' ∧ ∃ i : Nat, i + m = y.cs.length ∧ (∀ j, j < i → ctorB (y.cs.getD j Cc.z) = true) ∧ fr 8 = .int .i64 i ∧ fr 7 = .int .i64 y.cs.length ∧ fr 6 = .sl .frozen 6 (y.cs.map Cc.d) ∧ fr 1 = .eptr y.d 0) ?_ y.cs.length _ _ ⟨rfl, 0, by simp, by simp, by simp only [go_sem, ↓reduceIte, zA, zB, zC, zD, zE, zF, zG, zL, zM, zN, reduceCtorEq]; rfl, by simp only [go_sem, ↓reduceIte, zA, zB, zC, zD, zE, zF, zG, zL, zM, zN, reduceCtorEq], by simp only [go_sem, ↓reduceIte, zA, zB, zC, zD, zE, zF, zG, zL, zM, zN, reduceCtorEq], by simp only [go_sem, ↓reduceIte, zA, zB, zC, zD, zE, zF, zG, zL, zM, zN, reduceCtorEq]⟩
  rintro m N' ih fr _ ⟨rfl, i, hi, hal, f8, f7, f6, f1⟩
  rcases Nat.lt_or_ge i y.cs.length with hlt | hge
  · have hg : (y.cs.map Cc.d).getD i .any = (y.cs.getD i Cc.z).d := getD_map _ _ _ hlt
    have h4 : (i : Int) < y.cs.length := by omega
    have hm := getD_mem y.cs Cc.z hlt
    have hcz := hy.cs _ hm
    have hbad : ctorB (y.cs.getD i Cc.z) = false → k (.bool false) st := fun hb => by
      rw [show indB y = false by simp only [indB]; rw [all_badG Cc.z hlt hb, Bool.and_false]] at hk; exact hk
    cases b1 : nameB (y.cs.getD i Cc.z).name with
    | false =>
      have := hbad (by rw [ctorB, b1, Bool.false_and])
      repeat' first | rw [yu hr] | refine yj fun N hN => ?_ | refine yk ?_ | refine yl [] ?_ | ((first | refine ya rfl rfl fun N hN => ?_ | refine yb rfl rfl rfl rfl fun N hN => ?_ | refine ym ?_ | refine yo ?_); simp only [go_sem, ↓reduceIte, zA, zB, zC, zD, zE, zF, zG, zL, zM, zN, reduceCtorEq, f8, f7, f6, f1, hg, hlt, h4, b1, Tryz.results26]) | ((first | refine yg rfl ?_ | refine yn ?_); try simp only [go_sem]) | ((first | refine yx hN _ _ ?_ | refine yz hN _ _ ?_); clear hN N) | (refine sem23 _ _ _ hcz.name ?_; try simp only [go_sem, ↓reduceIte, zA, zB, zC, zD, zE, zF, zG, zL, zM, zN, reduceCtorEq, f8, f7, f6, f1, hg, hlt, h4, b1]) | ((refine ys fun r hr => ?_; (try have hrn := (St.set_none hr).1); (try have hrn2 := Ne.symm (St.set_none hr).1)); try simp only [go_sem, ↓reduceIte, zA, zB, zC, zD, zE, zF, zG, zL, zM, zN, reduceCtorEq, f8, f7, f6, f1, hg, hlt, h4, b1]) | clear hN N | fail
      all_goals exact this
    | true =>
      cases b2 : termB (y.cs.getD i Cc.z).ty with
      | false =>
        have := hbad (by rw [ctorB, b2, Bool.and_false])
        repeat' first | rw [yu hr] | refine yj fun N hN => ?_ | refine yk ?_ | refine yl [] ?_ | ((first | refine ya rfl rfl fun N hN => ?_ | refine yb rfl rfl rfl rfl fun N hN => ?_ | refine ym ?_ | refine yo ?_); simp only [go_sem, ↓reduceIte, zA, zB, zC, zD, zE, zF, zG, zL, zM, zN, reduceCtorEq, f8, f7, f6, f1, hg, hlt, h4, b1, b2, Tryz.results26]) | ((first | refine yg rfl ?_ | refine yn ?_); try simp only [go_sem]) | ((first | refine yx hN _ _ ?_ | refine yz hN _ _ ?_); clear hN N) | (refine sem23 _ _ _ hcz.name ?_; try simp only [go_sem, ↓reduceIte, zA, zB, zC, zD, zE, zF, zG, zL, zM, zN, reduceCtorEq, f8, f7, f6, f1, hg, hlt, h4, b1, b2]) | (refine sem24 _ hcz.ty _ _ ?_; try simp only [go_sem, ↓reduceIte, zA, zB, zC, zD, zE, zF, zG, zL, zM, zN, reduceCtorEq, f8, f7, f6, f1, hg, hlt, h4, b1, b2]) | ((refine ys fun r hr => ?_; (try have hrn := (St.set_none hr).1); (try have hrn2 := Ne.symm (St.set_none hr).1)); try simp only [go_sem, ↓reduceIte, zA, zB, zC, zD, zE, zF, zG, zL, zM, zN, reduceCtorEq, f8, f7, f6, f1, hg, hlt, h4, b1, b2]) | clear hN N | fail
        all_goals exact this
      | true =>
        repeat' first | rw [yu hr] | refine yj fun N hN => ?_ | refine yk ?_ | refine yl [] ?_ | ((first | refine ya rfl rfl fun N hN => ?_ | refine yb rfl rfl rfl rfl fun N hN => ?_ | refine ym ?_); simp only [go_sem, ↓reduceIte, zA, zB, zC, zD, zE, zF, zG, zL, zM, zN, reduceCtorEq, f8, f7, f6, f1, hg, hlt, h4, b1, b2, Tryz.results26]) | ((first | refine yg rfl ?_ | refine yn ?_); try simp only [go_sem]) | ((first | refine yx hN _ _ ?_ | refine yz hN _ _ ?_); clear hN N) | (refine sem23 _ _ _ hcz.name ?_; try simp only [go_sem, ↓reduceIte, zA, zB, zC, zD, zE, zF, zG, zL, zM, zN, reduceCtorEq, f8, f7, f6, f1, hg, hlt, h4, b1, b2]) | (refine sem24 _ hcz.ty _ _ ?_; try simp only [go_sem, ↓reduceIte, zA, zB, zC, zD, zE, zF, zG, zL, zM, zN, reduceCtorEq, f8, f7, f6, f1, hg, hlt, h4, b1, b2]) | ((refine ys fun r hr => ?_; (try have hrn := (St.set_none hr).1); (try have hrn2 := Ne.symm (St.set_none hr).1)); try simp only [go_sem, ↓reduceIte, zA, zB, zC, zD, zE, zF, zG, zL, zM, zN, reduceCtorEq, f8, f7, f6, f1, hg, hlt, h4, b1, b2]) | (refine And.intro ?_ ?_; · omega) | clear hN N | fail
        refine ih.back (m - 1) (by omega) _ _ ⟨rfl, i + 1, by omega, lt_succ_all hal (by rw [ctorB, b1, b2]; rfl), ?_, ?_, ?_, ?_⟩
        · simp only [go_sem, ↓reduceIte, zA, zB, zC, zD, zE, zF, zG, zL, zM, zN, reduceCtorEq]; rfl
        · simp only [go_sem, ↓reduceIte, zA, zB, zC, zD, zE, zF, zG, zL, zM, zN, reduceCtorEq, f7]
        · simp only [go_sem, ↓reduceIte, zA, zB, zC, zD, zE, zF, zG, zL, zM, zN, reduceCtorEq, f6]
        · simp only [go_sem, ↓reduceIte, zA, zB, zC, zD, zE, zF, zG, zL, zM, zN, reduceCtorEq, f1]
  · have h4 : ¬ (i : Int) < y.cs.length := by omega
    have e : decide ((y.cs.length : Int) ≤ 8) = decide (y.cs.length ≤ 8) := decide_eq_decide.2 (by omega)
    have : indB y = (nameB y.name && termB y.ty && decide ((y.cs.length : Int) ≤ 8)) := by
      rw [e]; simp only [indB]; rw [all_goodG Cc.z (fun j hj => hal j (by omega)), Bool.and_true]
    rw [this] at hk
    repeat' first | refine yj fun N hN => ?_ | refine yl [] ?_ | ((first | refine ya rfl rfl fun N hN => ?_ | refine yb rfl rfl rfl rfl fun N hN => ?_ | refine ym ?_ | refine yo ?_ | refine yp ?_); simp only [go_sem, ↓reduceIte, zA, zB, zC, zD, zE, zF, zG, zL, zM, zN, reduceCtorEq, f8, f7, f6, f1, h4, Tryz.results26]) | (refine yg rfl ?_; try simp only [go_sem]) | ((first | refine yx hN _ _ ?_ | refine yz hN _ _ ?_); clear hN N) | (refine sem23 _ _ _ hy.name ?_; try simp only [go_sem, ↓reduceIte, zA, zB, zC, zD, zE, zF, zG, zL, zM, zN, reduceCtorEq, f8, f7, f6, f1, h4]) | (refine sem24 _ hy.ty _ _ ?_; try simp only [go_sem, ↓reduceIte, zA, zB, zC, zD, zE, zF, zG, zL, zM, zN, reduceCtorEq, f8, f7, f6, f1, h4]) | (refine yq (fun h => ?_) (fun h => ?_) <;> (try simp only [zS, zT, zU, zV, Bool.not_true, Bool.not_false] at h) <;> (first | (exfalso; omega) | simp only [go_sem, ↓reduceIte, zA, zB, zC, zD, zE, zF, zG, zL, zM, zN, reduceCtorEq, f8, f7, f6, f1, h4, h] | skip)) | clear hN N | fail
    all_goals (refine kb hk ?_; simp_all)

theorem sem9 (x : De) (hw : x.Wf) (st : St) (k : D → St → Prop) (hk : k (.bool (declB x)) st) : Sem P 9 [x.d] st k := by
  by_cases p0 : x.params < 0
  · have p1 : ¬ 0 ≤ x.params := by omega
    simp only [declB, p1, decide_false, Bool.false_and] at hk
    refine Sem.of_body Tryz.call9 Tryz.func9 rfl Tryz.ntmps9 (by simp) ?_
    repeat' first | refine yj fun N hN => ?_ | refine yl [] ?_ | ((first | refine ya rfl rfl fun N hN => ?_ | refine yb rfl rfl rfl rfl fun N hN => ?_ | refine ym ?_ | refine yo ?_); simp only [go_sem, ↓reduceIte, zA, zB, zC, zD, zE, zF, zG, zL, zM, zN, reduceCtorEq, p0, Tryz.results9]) | (refine yg rfl ?_; try simp only [go_sem]) | ((first | refine yx hN _ _ ?_ | refine yz hN _ _ ?_); clear hN N) | clear hN N | fail
    all_goals exact hk
  by_cases p4 : 4 < x.params
  · have p1 : ¬ x.params ≤ 4 := by omega
    simp only [declB, p1, decide_false, Bool.false_and, Bool.and_false] at hk
    refine Sem.of_body Tryz.call9 Tryz.func9 rfl Tryz.ntmps9 (by simp) ?_
    repeat' first | refine yj fun N hN => ?_ | refine yl [] ?_ | ((first | refine ya rfl rfl fun N hN => ?_ | refine yb rfl rfl rfl rfl fun N hN => ?_ | refine ym ?_ | refine yo ?_); simp only [go_sem, ↓reduceIte, zA, zB, zC, zD, zE, zF, zG, zL, zM, zN, reduceCtorEq, p0, p4, Tryz.results9]) | (refine yg rfl ?_; try simp only [go_sem]) | ((first | refine yx hN _ _ ?_ | refine yz hN _ _ ?_); clear hN N) | clear hN N | fail
    all_goals exact hk
  have q0 : 0 ≤ x.params := by omega
  have q4 : x.params ≤ 4 := by omega
  simp only [declB, q0, q4, decide_true, Bool.true_and] at hk
  by_cases k1 : x.kind = 1
  · have e1 : (x.kind : Int) = 1 := by omega
    simp only [k1, reduceIte] at hk
    by_cases f0 : x.fixed = 0 <;> by_cases f1 : x.inds = []
    all_goals (
      simp only [f0, f1, decide_true, decide_false, Bool.and_true, Bool.and_false] at hk
      refine Sem.of_body Tryz.call9 Tryz.func9 rfl Tryz.ntmps9 (by simp) ?_
      repeat' first | refine yj fun N hN => ?_ | refine yk ?_ | refine yl [] ?_ | ((first | refine ya rfl rfl fun N hN => ?_ | refine yb rfl rfl rfl rfl fun N hN => ?_ | refine ym ?_ | refine yo ?_); simp only [go_sem, ↓reduceIte, zA, zB, zC, zD, zE, zF, zG, zL, zM, zN, reduceCtorEq, p0, p4, e1, f0, f1, len0, Tryz.results9]) | ((first | refine yg rfl ?_ | refine yn ?_); try simp only [go_sem]) | ((first | refine yx hN _ _ ?_ | refine yz hN _ _ ?_); clear hN N) | (refine sem23 _ _ _ hw.name ?_; try simp only [go_sem, ↓reduceIte, zA, zB, zC, zD, zE, zF, zG, zL, zM, zN, reduceCtorEq, p0, p4, e1, f0, f1, len0]) | (refine sem24 _ hw.ty _ _ ?_; try simp only [go_sem, ↓reduceIte, zA, zB, zC, zD, zE, zF, zG, zL, zM, zN, reduceCtorEq, p0, p4, e1, f0, f1, len0]) | (refine sem25 _ hw.val _ _ ?_; try simp only [go_sem, ↓reduceIte, zA, zB, zC, zD, zE, zF, zG, zL, zM, zN, reduceCtorEq, p0, p4, e1, f0, f1, len0]) | (refine yq (fun h => ?_) (fun h => ?_) <;> (try simp only [zS, zT, zU, zV, Bool.not_true, Bool.not_false] at h) <;> (first | (exfalso; omega) | simp only [go_sem, ↓reduceIte, zA, zB, zC, zD, zE, zF, zG, zL, zM, zN, reduceCtorEq, p0, p4, e1, f0, f1, len0, h] | skip)) | clear hN N | fail
      all_goals (refine kb hk ?_; simp_all))
  by_cases k2 : x.kind = 2 ∨ x.kind = 3
  · simp only [k1, k2, reduceIte] at hk
    rcases k2 with k2 | k2
    · have e1 : (x.kind : Int) = 2 := by omega
      by_cases f0 : x.fixed = 0 <;> by_cases f1 : x.inds = []
      all_goals (
        simp only [f0, f1, decide_true, decide_false, Bool.and_true, Bool.and_false] at hk
        refine Sem.of_body Tryz.call9 Tryz.func9 rfl Tryz.ntmps9 (by simp) ?_
        repeat' first | refine yj fun N hN => ?_ | refine yk ?_ | refine yl [] ?_ | ((first | refine ya rfl rfl fun N hN => ?_ | refine yb rfl rfl rfl rfl fun N hN => ?_ | refine ym ?_ | refine yo ?_); simp only [go_sem, ↓reduceIte, zA, zB, zC, zD, zE, zF, zG, zL, zM, zN, reduceCtorEq, p0, p4, e1, f0, f1, len0, Tryz.results9]) | ((first | refine yg rfl ?_ | refine yn ?_); try simp only [go_sem]) | ((first | refine yx hN _ _ ?_ | refine yz hN _ _ ?_); clear hN N) | (refine sem23 _ _ _ hw.name ?_; try simp only [go_sem, ↓reduceIte, zA, zB, zC, zD, zE, zF, zG, zL, zM, zN, reduceCtorEq, p0, p4, e1, f0, f1, len0]) | (refine sem24 _ hw.ty _ _ ?_; try simp only [go_sem, ↓reduceIte, zA, zB, zC, zD, zE, zF, zG, zL, zM, zN, reduceCtorEq, p0, p4, e1, f0, f1, len0]) | (refine sem24 _ hw.val _ _ ?_; try simp only [go_sem, ↓reduceIte, zA, zB, zC, zD, zE, zF, zG, zL, zM, zN, reduceCtorEq, p0, p4, e1, f0, f1, len0]) | ((first | refine yq (fun h => ?_) (fun h => ?_) | (apply And.intro <;> intro h)) <;> (try simp only [zS, zT, zU, zV, Bool.not_true, Bool.not_false] at h) <;> (first | (exfalso; omega) | simp only [go_sem, ↓reduceIte, zA, zB, zC, zD, zE, zF, zG, zL, zM, zN, reduceCtorEq, p0, p4, e1, f0, f1, len0, h] | skip)) | clear hN N | fail
        all_goals (refine kb hk ?_; simp_all))
    · have e1 : (x.kind : Int) = 3 := by omega
      by_cases f0 : x.fixed = 0 <;> by_cases f1 : x.inds = []
      all_goals (
        simp only [f0, f1, decide_true, decide_false, Bool.and_true, Bool.and_false] at hk
        refine Sem.of_body Tryz.call9 Tryz.func9 rfl Tryz.ntmps9 (by simp) ?_
        repeat' first | refine yj fun N hN => ?_ | refine yk ?_ | refine yl [] ?_ | ((first | refine ya rfl rfl fun N hN => ?_ | refine yb rfl rfl rfl rfl fun N hN => ?_ | refine ym ?_ | refine yo ?_); simp only [go_sem, ↓reduceIte, zA, zB, zC, zD, zE, zF, zG, zL, zM, zN, reduceCtorEq, p0, p4, e1, f0, f1, len0, Tryz.results9]) | ((first | refine yg rfl ?_ | refine yn ?_); try simp only [go_sem]) | ((first | refine yx hN _ _ ?_ | refine yz hN _ _ ?_); clear hN N) | (refine sem23 _ _ _ hw.name ?_; try simp only [go_sem, ↓reduceIte, zA, zB, zC, zD, zE, zF, zG, zL, zM, zN, reduceCtorEq, p0, p4, e1, f0, f1, len0]) | (refine sem24 _ hw.ty _ _ ?_; try simp only [go_sem, ↓reduceIte, zA, zB, zC, zD, zE, zF, zG, zL, zM, zN, reduceCtorEq, p0, p4, e1, f0, f1, len0]) | (refine sem24 _ hw.val _ _ ?_; try simp only [go_sem, ↓reduceIte, zA, zB, zC, zD, zE, zF, zG, zL, zM, zN, reduceCtorEq, p0, p4, e1, f0, f1, len0]) | ((first | refine yq (fun h => ?_) (fun h => ?_) | (apply And.intro <;> intro h)) <;> (try simp only [zS, zT, zU, zV, Bool.not_true, Bool.not_false] at h) <;> (first | (exfalso; omega) | simp only [go_sem, ↓reduceIte, zA, zB, zC, zD, zE, zF, zG, zL, zM, zN, reduceCtorEq, p0, p4, e1, f0, f1, len0, h] | skip)) | clear hN N | fail
        all_goals (refine kb hk ?_; simp_all))
  by_cases k4 : x.kind = 4
  · have e1 : (x.kind : Int) = 4 := by omega
    simp only [k1, k2, k4, reduceIte] at hk
    have hlen := hw.len
    by_cases hs : (decide (x.name = []) && noneB x.ty && noneB x.val && decide (0 ≤ x.fixed) && decide (x.fixed ≤ 12)) = true
    · rw [hs, Bool.true_and] at hk
      simp only [Bool.and_eq_true, decide_eq_true_eq] at hs
      obtain ⟨⟨⟨⟨h1, h2⟩, h3⟩, h4⟩, h5⟩ := hs
      have g4 : ¬ x.fixed < 0 := by omega
      have g5 : ¬ 12 < x.fixed := by omega
      cases f0 : decide (x.fixed = 0) <;> cases f1 : decide (x.inds = []) <;> simp only [decide_eq_true_eq, decide_eq_false_iff_not] at f0 f1
      all_goals (
        refine Sem.of_body Tryz.call9 Tryz.func9 rfl Tryz.ntmps9 (by simp) ?_
        repeat' first | refine yj fun N hN => ?_ | refine yk ?_ | refine yl [] ?_ | ((first | refine ya rfl rfl fun N hN => ?_ | refine yb rfl rfl rfl rfl fun N hN => ?_ | refine ym ?_); simp only [go_sem, ↓reduceIte, zA, zB, zC, zD, zE, zF, zG, zL, zM, zN, reduceCtorEq, p0, p4, e1, h1, h2, h3, g4, g5, f0, f1, len0, Tryz.results9]) | ((first | refine yg rfl ?_ | refine yn ?_); try simp only [go_sem]) | ((first | refine yx hN _ _ ?_ | refine yz hN _ _ ?_); clear hN N) | (refine sem25 _ hw.ty _ _ ?_; try simp only [go_sem, ↓reduceIte, zA, zB, zC, zD, zE, zF, zG, zL, zM, zN, reduceCtorEq, p0, p4, e1, h1, h2, h3, g4, g5, f0, f1, len0]) | (refine sem25 _ hw.val _ _ ?_; try simp only [go_sem, ↓reduceIte, zA, zB, zC, zD, zE, zF, zG, zL, zM, zN, reduceCtorEq, p0, p4, e1, h1, h2, h3, g4, g5, f0, f1, len0]) | ((apply And.intro <;> intro h) <;> (try simp only [zS, zT, zU, zV, Bool.not_true, Bool.not_false] at h) <;> (first | (exfalso; omega) | simp only [go_sem, ↓reduceIte, zA, zB, zC, zD, zE, zF, zG, zL, zM, zN, reduceCtorEq, p0, p4, e1, h1, h2, h3, g4, g5, f0, f1, len0, h] | skip)) | fail
        refine W.loopN (fun m fr st' => st = st' ∧ ∃ i : Nat, i + m = x.inds.length ∧ (∀ j, j < i → indB (x.inds.getD j In.z) = true) ∧ fr 92 = .int .i64 i ∧ fr 91 = .int .i64 x.inds.length ∧ fr 90 = .sl .frozen 7 (x.inds.map In.d) ∧ fr 1 = .eptr x.d 0) ?_ x.inds.length _ _ ⟨rfl, 0, by simp, by simp, by simp only [go_sem, ↓reduceIte, zA, zB, zC, zD, zE, zF, zG, zL, zM, zN, reduceCtorEq]; rfl, by simp only [go_sem, ↓reduceIte, zA, zB, zC, zD, zE, zF, zG, zL, zM, zN, reduceCtorEq] <;> simp [f1], by simp only [go_sem, ↓reduceIte, zA, zB, zC, zD, zE, zF, zG, zL, zM, zN, reduceCtorEq] <;> simp [f1], by simp only [go_sem, ↓reduceIte, zA, zB, zC, zD, zE, zF, zG, zL, zM, zN, reduceCtorEq]⟩
        rintro m N' ih fr _ ⟨rfl, i, hi, hal, f92, f91, f90, f1⟩
        rcases Nat.lt_or_ge i x.inds.length with hlt | hge
        · have hg : (x.inds.map In.d).getD i .any = (x.inds.getD i In.z).d := getD_map _ _ _ hlt
          have h4 : (i : Int) < x.inds.length := by omega
          have hm := getD_mem x.inds In.z hlt
          cases hb : indB (x.inds.getD i In.z) with
          | true =>
            repeat' first | rw [yu hr] | refine yj fun N hN => ?_ | refine yk ?_ | refine yl [] ?_ | ((first | refine ya rfl rfl fun N hN => ?_ | refine ym ?_); simp only [go_sem, ↓reduceIte, zA, zB, zC, zD, zE, zF, zG, zL, zM, zN, reduceCtorEq, f92, f91, f90, f1, hg, hlt, h4, hb, Tryz.results9]) | ((first | refine yg rfl ?_ | refine yn ?_); try simp only [go_sem]) | ((first | refine yx hN _ _ ?_ | refine yz hN _ _ ?_); clear hN N) | (refine sem26 _ (hw.inds _ hm) _ _ ?_; try simp only [go_sem, ↓reduceIte, zA, zB, zC, zD, zE, zF, zG, zL, zM, zN, reduceCtorEq, f92, f91, f90, f1, hg, hlt, h4, hb]) | ((refine ys fun r hr => ?_; (try have hrn := (St.set_none hr).1); (try have hrn2 := Ne.symm (St.set_none hr).1)); try simp only [go_sem, ↓reduceIte, zA, zB, zC, zD, zE, zF, zG, zL, zM, zN, reduceCtorEq, f92, f91, f90, f1, hg, hlt, h4, hb]) | (refine And.intro ?_ ?_; · omega) | clear hN N | fail
            refine ih.back (m - 1) (by omega) _ _ ⟨rfl, i + 1, by omega, lt_succ_all hal hb, ?_, ?_, ?_, ?_⟩
            · simp only [go_sem, ↓reduceIte, zA, zB, zC, zD, zE, zF, zG, zL, zM, zN, reduceCtorEq]; rfl
            · simp only [go_sem, ↓reduceIte, zA, zB, zC, zD, zE, zF, zG, zL, zM, zN, reduceCtorEq, f91]
            · simp only [go_sem, ↓reduceIte, zA, zB, zC, zD, zE, zF, zG, zL, zM, zN, reduceCtorEq, f90]
            · simp only [go_sem, ↓reduceIte, zA, zB, zC, zD, zE, zF, zG, zL, zM, zN, reduceCtorEq, f1]
          | false =>
            rw [all_badG In.z hlt hb, Bool.and_false] at hk
            repeat' first | rw [yu hr] | refine yj fun N hN => ?_ | refine yk ?_ | refine yl [] ?_ | ((first | refine ya rfl rfl fun N hN => ?_ | refine ym ?_ | refine yo ?_); simp only [go_sem, ↓reduceIte, zA, zB, zC, zD, zE, zF, zG, zL, zM, zN, reduceCtorEq, f92, f91, f90, f1, hg, hlt, h4, hb, Tryz.results9]) | ((first | refine yg rfl ?_ | refine yn ?_); try simp only [go_sem]) | ((first | refine yx hN _ _ ?_ | refine yz hN _ _ ?_); clear hN N) | (refine sem26 _ (hw.inds _ hm) _ _ ?_; try simp only [go_sem, ↓reduceIte, zA, zB, zC, zD, zE, zF, zG, zL, zM, zN, reduceCtorEq, f92, f91, f90, f1, hg, hlt, h4, hb]) | ((refine ys fun r hr => ?_; (try have hrn := (St.set_none hr).1); (try have hrn2 := Ne.symm (St.set_none hr).1)); try simp only [go_sem, ↓reduceIte, zA, zB, zC, zD, zE, zF, zG, zL, zM, zN, reduceCtorEq, f92, f91, f90, f1, hg, hlt, h4, hb]) | clear hN N | fail
            all_goals exact hk
        · have h4 : ¬ (i : Int) < x.inds.length := by omega
          rw [all_goodG In.z (fun j hj => hal j (by omega)), Bool.and_true] at hk
          repeat' first | refine yj fun N hN => ?_ | refine yl [] ?_ | ((first | refine ya rfl rfl fun N hN => ?_ | refine yb rfl rfl rfl rfl fun N hN => ?_ | refine ym ?_ | refine yo ?_ | refine yp ?_); simp only [go_sem, ↓reduceIte, zA, zB, zC, zD, zE, zF, zG, zL, zM, zN, reduceCtorEq, f92, f91, f90, f1, h4, Tryz.results9]) | (refine yg rfl ?_; try simp only [go_sem]) | ((first | refine yx hN _ _ ?_ | refine yz hN _ _ ?_); clear hN N) | (refine yq (fun h => ?_) (fun h => ?_) <;> (try simp only [zS, zT, zU, zV, Bool.not_true, Bool.not_false] at h) <;> (first | (exfalso; omega) | simp only [go_sem, ↓reduceIte, zA, zB, zC, zD, zE, zF, zG, zL, zM, zN, reduceCtorEq, f92, f91, f90, f1, h4, h] | skip)) | clear hN N | fail
          all_goals (
            refine kb hk ?_
            simp only [Nat.reduceEqDiff, reduceIte, or_self]
            have u1 : decide ((x.inds.length : Int) ≤ 3) = decide (x.inds.length ≤ 3) := decide_eq_decide.2 (by omega)
            have u2 : decide (1 ≤ (x.inds.length : Int)) = decide (1 ≤ x.inds.length) := decide_eq_decide.2 (by omega)
            first
              | (rw [u1, u2]; done)
              | (rw [Bool.eq_iff_iff]; simp only [Bool.and_eq_true, decide_eq_true_eq, Bool.false_eq_true, iff_false]; omega)
              ))
    · rw [show (decide (x.name = []) && noneB x.ty && noneB x.val && decide (0 ≤ x.fixed) && decide (x.fixed ≤ 12) && decide (1 ≤ x.inds.length) && decide (x.inds.length ≤ 3)) = false by
        rw [show (decide (x.name = []) && noneB x.ty && noneB x.val && decide (0 ≤ x.fixed) && decide (x.fixed ≤ 12)) = false by simpa using hs]; simp, Bool.false_and] at hk
      simp only [Bool.and_eq_true, decide_eq_true_eq] at hs
      by_cases f0 : x.fixed = 0 <;> by_cases f1 : x.inds = []
      all_goals (
        refine Sem.of_body Tryz.call9 Tryz.func9 rfl Tryz.ntmps9 (by simp) ?_
        repeat' first | refine yj fun N hN => ?_ | refine yk ?_ | refine yl [] ?_ | ((first | refine ya rfl rfl fun N hN => ?_ | refine yb rfl rfl rfl rfl fun N hN => ?_ | refine ym ?_ | refine yo ?_); simp only [go_sem, ↓reduceIte, zA, zB, zC, zD, zE, zF, zG, zL, zM, zN, reduceCtorEq, p0, p4, e1, f0, f1, len0, Tryz.results9]) | ((first | refine yg rfl ?_ | refine yn ?_); try simp only [go_sem]) | ((first | refine yx hN _ _ ?_ | refine yz hN _ _ ?_); clear hN N) | (refine sem25 _ hw.ty _ _ ?_; try simp only [go_sem, ↓reduceIte, zA, zB, zC, zD, zE, zF, zG, zL, zM, zN, reduceCtorEq, p0, p4, e1, f0, f1, len0]) | (refine sem25 _ hw.val _ _ ?_; try simp only [go_sem, ↓reduceIte, zA, zB, zC, zD, zE, zF, zG, zL, zM, zN, reduceCtorEq, p0, p4, e1, f0, f1, len0]) | ((first | refine yq (fun h => ?_) (fun h => ?_) | (apply And.intro <;> intro h)) <;> (try simp only [zS, zT, zU, zV, Bool.not_true, Bool.not_false] at h) <;> (first | (exfalso; omega) | simp only [go_sem, ↓reduceIte, zA, zB, zC, zD, zE, zF, zG, zL, zM, zN, reduceCtorEq, p0, p4, e1, f0, f1, len0, h] | skip)) | clear hN N | fail
        all_goals first
          | exact hk
          | (exfalso; apply hs; simp_all; done)
          | (exfalso; apply hs; simp_all; omega)
          )
  · have e1 : ¬ (x.kind : Int) = 1 := by omega
    have e2 : ¬ (x.kind : Int) = 2 := by omega
    have e3 : ¬ (x.kind : Int) = 3 := by omega
    have e4 : ¬ (x.kind : Int) = 4 := by omega
    simp only [k1, k2, k4, reduceIte] at hk
    by_cases f0 : x.fixed = 0 <;> by_cases f1 : x.inds = []
    all_goals (
      refine Sem.of_body Tryz.call9 Tryz.func9 rfl Tryz.ntmps9 (by simp) ?_
      repeat' first | refine yj fun N hN => ?_ | refine yk ?_ | refine yl [] ?_ | ((first | refine ya rfl rfl fun N hN => ?_ | refine yb rfl rfl rfl rfl fun N hN => ?_ | refine ym ?_ | refine yo ?_); simp only [go_sem, ↓reduceIte, zA, zB, zC, zD, zE, zF, zG, zL, zM, zN, reduceCtorEq, p0, p4, e1, e2, e3, e4, f0, f1, len0, Tryz.results9]) | ((first | refine yg rfl ?_ | refine yn ?_); try simp only [go_sem]) | ((first | refine yx hN _ _ ?_ | refine yz hN _ _ ?_); clear hN N) | fail
      all_goals exact hk)
end Go.Proofs.YtddbidoaolnegaaGreatDoor
