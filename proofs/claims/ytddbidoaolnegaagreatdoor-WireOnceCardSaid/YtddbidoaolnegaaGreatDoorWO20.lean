/-
PART OF A CLAIM: PL, PS, PM, PN. No statement of the seat is proved here; no condition. -/
import Derived.Test.YtddbidoaolnegaaGreatDoorWO19
set_option linter.all false
/- Encode, by the program: the walk. No statement of the seat is proved here; no condition. -/
namespace Go.Proofs.YtddbidoaolnegaaGreatDoor
open Go Go.RowKit
open Nat renaming reduceLT → zA, reduceEqDiff → zB, reduceBEq → zC, reduceAdd → zD, reduceMul → zE, reduceSub → zF, reduceLeDiff → zG, mul_one → zH, zero_add → zI, add_zero → zJ
open Int renaming toNat_natCast → zK, reduceAdd → zL, reduceLE → zM, reduceLT → zN, natCast_nonneg → zO
open Go.Proofs.YtddbidoaolnegaaGreatDoor renaming evI_plain → ya, evI_guard → yb, evT_rd → yc, evT_rdg → yd, evT_act → ye, evT_actg → yf, evI_done → yg, evT_two → yh, evT_nil → yi, W.seqG → yj, W.block → yk, W.regionI → yl, W.cond → ym, W.skip → yn, W.ret → yo, W.exit → yp, gdD_split → yq, newT_intro → yr, newB_intro → ys, W.draw → yt, St.set_del → yu, St.give_take → yv, AGo.go → yw, IGo.go → yx, TGo.go → yy, Goes.go → yz
attribute [local go_sem] zK zP zQ zH zI zJ zO
attribute [local irreducible] W evI evT evL evOp evBin gdD Sem newT newB fillD bldOf
set_option maxRecDepth 10000
set_option maxHeartbeats 4000000

noncomputable def encE (l : List De) : En := l.foldl declE En.z
noncomputable def encBy (l : List De) : List UInt8 :=
  [66, 84, 78, 49] ++ num (encE l).names.length ++ nmB (encE l).names ++ num (encE l).levels.length ++ lvBs (encE l).levels ++ num (encE l).terms.length ++ (encE l).tb ++ num l.length ++ (encE l).db
def encBig (l : List De) : Prop := 4096 < (encE l).names.length ∨ 4096 < (encE l).levels.length ∨ 65536 < (encE l).terms.length ∨ 262144 < (encBy l).length

theorem WX.init {st : St} {m a r : Nat} (h1 : m ≠ a) (h2 : r ≠ m) (h3 : r ≠ a) :
    WX r a m En.z 0 (((st.set m (.map 177 [])).set a (.cells [.sl .nil 0 [], .map m])).set r (.cells [.nilmap, .sl .nil 0 [], .nilmap, .sl .nil 0 [], .nilmap, .sl .nil 0 [], .ptr a 0, .sl .nil 0 [], .bool false])) := by
  refine ⟨[], ⟨none, none, none, .nil, 0, .nil, 0, none, none, none⟩, ⟨?_, ⟨?_, ?_, rfl⟩, fun _ => rfl, fun _ h => (by cases h), fun _ => rfl, fun _ h => (by cases h), fun _ => rfl, fun _ h => (by cases h), fun _ => rfl, fun _ h => (by cases h), fun _ => rfl, fun _ h => (by cases h), fun _ h => (by cases h), fun _ h => (by cases h)⟩,
    ⟨by simp [En.z], by simp [En.z], by simp [En.z]⟩, AV.nil, ⟨by simp [En.z, nmB], by simp [En.z, lvBs], by simp [En.z], by simp [En.z]⟩, by simp⟩
  · rw [St.mem_set, if_pos rfl]; rfl
  · rw [St.mem_set, if_neg h3.symm, St.mem_set, if_pos rfl]; rfl
  · rw [St.mem_set, if_neg h2.symm, St.mem_set, if_neg h1, St.mem_set, if_pos rfl]; rfl

theorem sem7 (ow : Own) (l : List De) (hw : ∀ d ∈ l, d.Wf) (hlen : l.length < 140737488355328) (hcost : l.length ≤ 256 → l.all declB = true → (l.map De.cost).sum ≤ 15000) (st : St) (k : D → St → Prop)
    (h4 : 256 < l.length → ∀ st', k (.tup [.sl .nil 0 [], .int .i64 4]) st') (h1 : l.length ≤ 256 → l.all declB = false → ∀ st', k (.tup [.sl .nil 0 [], .int .i64 1]) st')
    (hB : l.length ≤ 256 → l.all declB = true → encBig l → ∀ st', k (.tup [.sl .nil 0 [], .int .i64 4]) st')
    (hk : l.length ≤ 256 → l.all declB = true → ¬ encBig l → ∀ ow st', k (.tup [.sl ow 1 (byD (encBy l)), .int .i64 0]) st') : Sem P 7 [.sl ow 15 (l.map De.d)] st k := by
  by_cases c1 : 256 < l.length
  · have e1 : (256 : Int) < l.length := by omega
    refine Sem.of_body Tryz.call7 Tryz.func7 rfl Tryz.ntmps7 (by simp) ?_
    repeat' first | refine yj fun N hN => ?_ | refine yl [] ?_ | ((first | refine ya rfl rfl fun N hN => ?_ | refine ym ?_ | refine yo ?_); simp only [go_sem, ↓reduceIte, zA, zB, zC, zD, zE, zF, zG, zL, zM, zN, reduceCtorEq, e1, Tryz.results7]) | (refine yg rfl ?_; try simp only [go_sem]) | ((first | refine yx hN _ _ ?_ | refine yz hN _ _ ?_); clear hN N) | clear hN N | fail
    all_goals exact h4 c1 _
  have e1 : ¬ (256 : Int) < l.length := by omega
  have hl256 : l.length ≤ 256 := by omega
  refine Sem.of_body Tryz.call7 Tryz.func7 rfl Tryz.ntmps7 (by simp) ?_
  repeat' first | refine yj fun N hN => ?_ | refine yk ?_ | refine yl [] ?_ | ((first | refine ya rfl rfl fun N hN => ?_ | refine ym ?_); simp only [go_sem, ↓reduceIte, zA, zB, zC, zD, zE, zF, zG, zL, zM, zN, reduceCtorEq, e1, Tryz.results7]) | ((first | refine yg rfl ?_ | refine yn ?_); try simp only [go_sem]) | ((first | refine yx hN _ _ ?_ | refine yz hN _ _ ?_); clear hN N) | fail
  refine W.loopN (fun m fr st' => st = st' ∧ ∃ i : Nat, i + m = l.length ∧ (∀ j, j < i → declB (l.getD j De.z) = true) ∧ fr 15 = .int .i64 i ∧ fr 14 = .int .i64 l.length ∧ fr 13 = .sl ow 15 (l.map De.d) ∧ fr 0 = .sl ow 15 (l.map De.d)) ?_ l.length _ _ ⟨rfl, 0, by simp, by simp, by simp only [go_sem, ↓reduceIte, zA, zB, zC, zD, zE, zF, zG, zL, zM, zN, reduceCtorEq]; rfl, by simp only [go_sem, ↓reduceIte, zA, zB, zC, zD, zE, zF, zG, zL, zM, zN, reduceCtorEq], by simp only [go_sem, ↓reduceIte, zA, zB, zC, zD, zE, zF, zG, zL, zM, zN, reduceCtorEq], by simp only [go_sem, ↓reduceIte, zA, zB, zC, zD, zE, zF, zG, zL, zM, zN, reduceCtorEq]⟩
  rintro m N' ih fr _ ⟨rfl, i, hi, hal, f15, f14, f13, f0⟩
  rcases Nat.lt_or_ge i l.length with hlt | hge
  · have hg : (l.map De.d).getD i .any = (l.getD i De.z).d := getD_map _ _ _ hlt
    have i4 : (i : Int) < l.length := by omega
    have hmx := getD_mem l De.z hlt
    cases hb : declB (l.getD i De.z) with
    | true =>
      repeat' first | rw [yu hr] | refine yj fun N hN => ?_ | refine yk ?_ | refine yl [] ?_ | ((first | refine ya rfl rfl fun N hN => ?_ | refine ym ?_); simp only [go_sem, ↓reduceIte, zA, zB, zC, zD, zE, zF, zG, zL, zM, zN, reduceCtorEq, f15, f14, f13, f0, hg, hlt, i4, hb, Tryz.results7]) | ((first | refine yg rfl ?_ | refine yn ?_); try simp only [go_sem]) | ((first | refine yx hN _ _ ?_ | refine yz hN _ _ ?_); clear hN N) | (refine sem9 _ (hw _ hmx) _ _ ?_; try simp only [go_sem, ↓reduceIte, zA, zB, zC, zD, zE, zF, zG, zL, zM, zN, reduceCtorEq, f15, f14, f13, f0, hg, hlt, i4, hb]) | ((refine ys fun r hr => ?_; (try have hrn := (St.set_none hr).1); (try have hrn2 := Ne.symm (St.set_none hr).1)); try simp only [go_sem, ↓reduceIte, zA, zB, zC, zD, zE, zF, zG, zL, zM, zN, reduceCtorEq, f15, f14, f13, f0, hg, hlt, i4, hb]) | (refine And.intro ?_ ?_; · omega) | clear hN N | fail
      refine ih.back (m - 1) (by omega) _ _ ⟨rfl, i + 1, by omega, lt_succ_all hal hb, ?_, ?_, ?_, ?_⟩
      · simp only [go_sem, ↓reduceIte, zA, zB, zC, zD, zE, zF, zG, zL, zM, zN, reduceCtorEq]; rfl
      · simp only [go_sem, ↓reduceIte, zA, zB, zC, zD, zE, zF, zG, zL, zM, zN, reduceCtorEq, f14]
      · simp only [go_sem, ↓reduceIte, zA, zB, zC, zD, zE, zF, zG, zL, zM, zN, reduceCtorEq, f13]
      · simp only [go_sem, ↓reduceIte, zA, zB, zC, zD, zE, zF, zG, zL, zM, zN, reduceCtorEq, f0]
    | false =>
      have hbad := all_badG De.z hlt hb
      repeat' first | rw [yu hr] | refine yj fun N hN => ?_ | refine yk ?_ | refine yl [] ?_ | ((first | refine ya rfl rfl fun N hN => ?_ | refine ym ?_ | refine yo ?_); simp only [go_sem, ↓reduceIte, zA, zB, zC, zD, zE, zF, zG, zL, zM, zN, reduceCtorEq, f15, f14, f13, f0, hg, hlt, i4, hb, Tryz.results7]) | ((first | refine yg rfl ?_ | refine yn ?_); try simp only [go_sem]) | ((first | refine yx hN _ _ ?_ | refine yz hN _ _ ?_); clear hN N) | (refine sem9 _ (hw _ hmx) _ _ ?_; try simp only [go_sem, ↓reduceIte, zA, zB, zC, zD, zE, zF, zG, zL, zM, zN, reduceCtorEq, f15, f14, f13, f0, hg, hlt, i4, hb]) | ((refine ys fun r hr => ?_; (try have hrn := (St.set_none hr).1); (try have hrn2 := Ne.symm (St.set_none hr).1)); try simp only [go_sem, ↓reduceIte, zA, zB, zC, zD, zE, zF, zG, zL, zM, zN, reduceCtorEq, f15, f14, f13, f0, hg, hlt, i4, hb]) | clear hN N | fail
      all_goals exact h1 hl256 hbad _
  · have i4 : ¬ (i : Int) < l.length := by omega
    have hall := all_goodG De.z (q := declB) (fun j hj => hal j (by omega))
    have hc := hcost hl256 hall
    replace hB := hB hl256 hall
    replace hk := hk hl256 hall
    clear hcost h1 h4 hal
    repeat' first | refine yj fun N hN => ?_ | refine yl [25, 36] ?_ | ((first | refine ya rfl rfl fun N hN => ?_ | refine ym ?_ | refine yp ?_); simp only [go_sem, ↓reduceIte, zA, zB, zC, zD, zE, zF, zG, zL, zM, zN, reduceCtorEq, f15, f14, f13, f0, i4, Tryz.results7]) | (refine yg rfl ?_; try simp only [go_sem]) | ((first | refine yx hN _ _ ?_ | refine yz hN _ _ ?_); clear hN N) | clear hN N | fail
    refine sem17 _ _ (fun m1 a1 q1 q2 q3 => ?_)
    have w1 : (st.set m1 (.map 177 [])).mem a1 = none := by rw [St.mem_set, if_neg q3.symm]; exact q2
    repeat' first | refine yj fun N hN => ?_ | refine yk ?_ | refine yl [25, 36] ?_ | (refine ya rfl rfl fun N hN => ?_; simp only [go_sem, ↓reduceIte, zA, zB, zC, zD, zE, zF, zG, zL, zM, zN, reduceCtorEq, f15, f14, f13, f0, i4, Tryz.results7]) | (refine yg rfl ?_; try simp only [go_sem]) | ((first | refine yx hN _ _ ?_ | refine yz hN _ _ ?_); clear hN N) | ((refine ys fun r hr => ?_; (try have hrn := (St.set_none hr).1); (try have hrn2 := Ne.symm (St.set_none hr).1)); try simp only [go_sem, ↓reduceIte, zA, zB, zC, zD, zE, zF, zG, zL, zM, zN, reduceCtorEq, f15, f14, f13, f0, i4]) | fail
    have r1 : r ≠ a1 := (St.set_none hr).1
    have r2 : r ≠ m1 := (St.set_none (St.set_none hr).2).1
    refine W.loopN (fun m fr st' => ∃ i : Nat, WX r a1 m1 ((l.take i).foldl declE En.z) ((l.take i).map De.cost).sum st' ∧ i + m = l.length ∧ fr 28 = .int .i64 i ∧ fr 27 = .int .i64 l.length ∧ fr 26 = .sl ow 15 (l.map De.d) ∧ fr 6 = .ptr r 0 ∧ fr 0 = .sl ow 15 (l.map De.d)) ?_ l.length _ _
      ⟨0, WX.init q3 r2 r1, by simp, by simp only [go_sem, ↓reduceIte, zA, zB, zC, zD, zE, zF, zG, zL, zM, zN, reduceCtorEq]; rfl, by simp only [go_sem, ↓reduceIte, zA, zB, zC, zD, zE, zF, zG, zL, zM, zN, reduceCtorEq], by simp only [go_sem, ↓reduceIte, zA, zB, zC, zD, zE, zF, zG, zL, zM, zN, reduceCtorEq], by simp only [go_sem, ↓reduceIte, zA, zB, zC, zD, zE, zF, zG, zL, zM, zN, reduceCtorEq], by simp only [go_sem, ↓reduceIte, zA, zB, zC, zD, zE, zF, zG, zL, zM, zN, reduceCtorEq, f0]⟩
    clear f15 f14 f13 f0 i4 hi hge ih
    rintro m N' ih fr st' ⟨i, hX, hi, f28, f27, f26, f6, f0⟩
    rcases Nat.lt_or_ge i l.length with hlt | hge
    · have hg : (l.map De.d).getD i .any = (l.getD i De.z).d := getD_map _ _ _ hlt
      have i4 : (i : Int) < l.length := by omega
      have hmx := getD_mem l De.z hlt
      have hcs := map_sum_take De.cost l De.z hlt
      have hfold := foldl_take declE En.z l De.z hlt
      have hdb : declB (l.getD i De.z) = true := by rw [List.all_eq_true] at hall; exact hall _ hmx
      repeat' first | rw [yu hr] | refine yj fun N hN => ?_ | refine yk ?_ | refine yl [] ?_ | ((first | refine ya rfl rfl fun N hN => ?_ | refine ym ?_); simp only [go_sem, ↓reduceIte, zA, zB, zC, zD, zE, zF, zG, zL, zM, zN, reduceCtorEq, f28, f27, f26, f6, f0, hg, hlt, i4, Tryz.results7]) | ((first | refine yg rfl ?_ | refine yn ?_); try simp only [go_sem]) | ((first | refine yx hN _ _ ?_ | refine yz hN _ _ ?_); clear hN N) | (refine sem18 _ (hw _ hmx) hdb _ _ _ _ _ _ hX (by omega) _ (fun st' hX => ?_); try simp only [go_sem, ↓reduceIte, zA, zB, zC, zD, zE, zF, zG, zL, zM, zN, reduceCtorEq, f28, f27, f26, f6, f0, hg, hlt, i4]) | ((refine ys fun r hr => ?_; (try have hrn := (St.set_none hr).1); (try have hrn2 := Ne.symm (St.set_none hr).1)); try simp only [go_sem, ↓reduceIte, zA, zB, zC, zD, zE, zF, zG, zL, zM, zN, reduceCtorEq, f28, f27, f26, f6, f0, hg, hlt, i4]) | (refine And.intro ?_ ?_; · omega) | clear hN N | fail
      refine ih.back (m - 1) (by omega) _ _ ⟨i + 1, by rw [hfold, hcs.1]; exact hX, by omega, ?_, ?_, ?_, ?_, ?_⟩
      · simp only [go_sem, ↓reduceIte, zA, zB, zC, zD, zE, zF, zG, zL, zM, zN, reduceCtorEq]; rfl
      · simp only [go_sem, ↓reduceIte, zA, zB, zC, zD, zE, zF, zG, zL, zM, zN, reduceCtorEq, f27]
      · simp only [go_sem, ↓reduceIte, zA, zB, zC, zD, zE, zF, zG, zL, zM, zN, reduceCtorEq, f26]
      · simp only [go_sem, ↓reduceIte, zA, zB, zC, zD, zE, zF, zG, zL, zM, zN, reduceCtorEq, f6]
      · simp only [go_sem, ↓reduceIte, zA, zB, zC, zD, zE, zF, zG, zL, zM, zN, reduceCtorEq, f0]
    · have i4 : ¬ (i : Int) < l.length := by omega
      rw [List.take_of_length_le hge] at hX
      obtain ⟨A, c, hS, hE, hv, hz, hAl⟩ := hX
      have hw0 := hS.w
      rw [wCells] at hw0
      have zn := hz.nm
      have zl := hz.l
      have zt := hz.t
      have zd := hz.d
      generalize hEE : List.foldl declE En.z l = e at *
      have hE2 : encE l = e := hEE
      have wn := wrap_u64 (n := e.names.length) (by omega)
      have wl := wrap_u64 (n := e.levels.length) (by omega)
      have wt := wrap_u64 (n := e.terms.length) (by omega)
      have ww := wrap_u64 (n := l.length) (by omega)
      have nn := num_len64 (n := e.names.length) (by omega)
      have nl := num_len64 (n := e.levels.length) (by omega)
      have nt := num_len64 (n := e.terms.length) (by omega)
      have nw := num_len64 (n := l.length) (by omega)
      have hap : ∀ a b : List UInt8, byD a ++ byD b = byD (a ++ b) := fun a b => (byD_append a b).symm
      have hd4 : [D.int .u8 66, D.int .u8 84, D.int .u8 78, D.int .u8 49] = byD [66, 84, 78, 49] := rfl
      obtain ⟨tw, tz, htb, _⟩ := bD_sl hS.b0
      obtain ⟨dw, dz, hdb, _⟩ := bD_sl hS.d0
      rw [htb, hdb] at hw0
      have hcn : (c.rn = none ∧ e.names = []) ∨ ∃ x, c.rn = some x ∧ st'.mem x = some (.map 9 (nent e.names)) := by
        cases h : c.rn with
        | none => exact .inl ⟨rfl, hS.n0 h⟩
        | some x => exact .inr ⟨x, rfl, hS.n1 x h⟩
      have hcl : (c.rl = none ∧ e.levels = []) ∨ ∃ x, c.rl = some x ∧ st'.mem x = some (.map 78 (lent e.levels)) := by
        cases h : c.rl with
        | none => exact .inl ⟨rfl, hS.l0 h⟩
        | some x => exact .inr ⟨x, rfl, hS.l1 x h⟩
      have hct : (c.rt = none ∧ e.terms = []) ∨ ∃ x, c.rt = some x ∧ st'.mem x = some (.map 3 (tent A e.terms)) := by
        cases h : c.rt with
        | none => exact .inl ⟨rfl, hS.t0 h⟩
        | some x => exact .inr ⟨x, rfl, hS.t1 x h⟩
      have ln : ((nent e.names).length : Int) = e.names.length := by simp [nent]
      have ll : ((lent e.levels).length : Int) = e.levels.length := by simp [lent]
      have lt : ((tent A e.terms).length : Int) = e.terms.length := by simp [tent]
      rw [encBig, encBy, hE2] at hB hk
      have w0 : IntKind.u64.wrap 0 = ((0 : Nat) : Int) := rfl
      rcases hcn with ⟨a2, a3⟩ | ⟨x1, a2, a3⟩
      · have an : e.names.length = 0 := by rw [a3]; rfl
        replace a3 : True := trivial
        rw [a2, show mapD none = .nilmap from rfl] at hw0
        rw [an] at hB hk nn
        rcases hcl with ⟨b2, b3⟩ | ⟨x2, b2, b3⟩
        · have bn : e.levels.length = 0 := by rw [b3]; rfl
          replace b3 : True := trivial
          rw [b2, show mapD none = .nilmap from rfl] at hw0
          rw [bn] at hB hk nl
          rcases hct with ⟨c2, c3⟩ | ⟨x3, c2, c3⟩
          · have cn : e.terms.length = 0 := by rw [c3]; rfl
            replace c3 : True := trivial
            rw [c2, show mapD none = .nilmap from rfl] at hw0
            rw [cn] at hB hk nt
            repeat' first | refine yj fun N hN => ?_ | refine yl [36] ?_ | ((first | refine ya rfl rfl fun N hN => ?_ | refine yb rfl rfl rfl rfl fun N hN => ?_ | refine yc rfl rfl fun N hN => ?_ | refine ye rfl rfl fun N hN => ?_ | (refine yw hN _ _ ?_; clear hN N) | refine ym ?_ | refine yo ?_ | refine yp ?_); simp only [go_sem, ↓reduceIte, zA, zB, zC, zD, zE, zF, zG, zL, zM, zN, reduceCtorEq, f28, f27, f26, f6, f0, i4, hw0, a3, b3, c3, ln, ll, lt, wn, wl, wt, ww, w0, hd4, hap, Tryz.results7]) | ((first | refine yg rfl ?_ | refine yn ?_ | refine yi ?_); try simp only [go_sem]) | ((first | refine yx hN _ _ ?_ | refine yz hN _ _ ?_ | refine yy hN _ ?_); clear hN N) | refine yt (id := 16) mixed [36] (.rd 0 (.rd 1 (.rd 2 (.rd 3 (.rd 4 (.rd 5 (.rd 7 (.rd 8 (.rd 9 (.rd 10 (.rd 11 (.act 6 [11, 10, 9, 8, 7] (.act 12 [] (.act 13 [] (.act 14 [] (.act 15 [] (.nil))))))))))))))))) (by kernel_rfl) ?_ | refine yt (id := 17) mixed [36] (.rd 0 (.rd 1 (.rd 2 (.rd 3 (.rd 4 (.rd 5 (.rd 7 (.rd 8 (.rd 9 (.rd 10 (.rd 11 (.act 6 [11, 10, 9, 8, 7] (.act 12 [] (.act 13 [] (.act 14 [] (.act 15 [] (.nil))))))))))))))))) (by kernel_rfl) ?_ | (refine sem19 _ _ _ _ _ _ (by simp only [List.length_append, List.length_cons, List.length_nil]; omega) (by omega) fun j hj => ?_; try simp only [go_sem, ↓reduceIte, zA, zB, zC, zD, zE, zF, zG, zL, zM, zN, reduceCtorEq, f28, f27, f26, f6, f0, i4, hw0, a3, b3, c3, ln, ll, lt, wn, wl, wt, ww, w0, hd4, hap]) | rw [yv hj] | ((apply And.intro <;> intro h) <;> (try simp only [zS, zT, zU, zV, Bool.not_true, Bool.not_false] at h) <;> (first | (exfalso; omega) | simp only [go_sem, ↓reduceIte, zA, zB, zC, zD, zE, zF, zG, zL, zM, zN, reduceCtorEq, f28, f27, f26, f6, f0, i4, hw0, a3, b3, c3, ln, ll, lt, wn, wl, wt, ww, w0, hd4, hap, h] | skip)) | ((refine yr fun j hj => ?_; (try have hj0 := St.tok_of_give hj)); try simp only [go_sem, ↓reduceIte, zA, zB, zC, zD, zE, zF, zG, zL, zM, zN, reduceCtorEq, f28, f27, f26, f6, f0, i4, hw0, a3, b3, c3, ln, ll, lt, wn, wl, wt, ww, w0, hd4, hap]) | (refine And.intro ?_ ?_; · omega) | clear hN N | fail
            all_goals first
              | exact hB (.inl (by omega)) _
              | exact hB (.inr (.inl (by omega))) _
              | (refine hB (.inr (.inr (.inr ?_))) _; simp only [List.length_append, List.length_cons, List.length_nil] at h ⊢; omega)
              | (refine hk ?_ _ _
                 rintro (q | q | q | q)
                 · omega
                 · omega
                 · omega
                 · simp only [List.length_append, List.length_cons, List.length_nil] at h q; omega)
          · rw [c2, show mapD (some x3) = .map x3 from rfl] at hw0
            repeat' first | refine yj fun N hN => ?_ | refine yl [36] ?_ | ((first | refine ya rfl rfl fun N hN => ?_ | refine yb rfl rfl rfl rfl fun N hN => ?_ | refine yc rfl rfl fun N hN => ?_ | refine ye rfl rfl fun N hN => ?_ | (refine yw hN _ _ ?_; clear hN N) | refine ym ?_ | refine yo ?_ | refine yp ?_); simp only [go_sem, ↓reduceIte, zA, zB, zC, zD, zE, zF, zG, zL, zM, zN, reduceCtorEq, f28, f27, f26, f6, f0, i4, hw0, a3, b3, c3, ln, ll, lt, wn, wl, wt, ww, w0, hd4, hap, Tryz.results7]) | ((first | refine yg rfl ?_ | refine yn ?_ | refine yi ?_); try simp only [go_sem]) | ((first | refine yx hN _ _ ?_ | refine yz hN _ _ ?_ | refine yy hN _ ?_); clear hN N) | refine yt (id := 16) mixed [36] (.rd 0 (.rd 1 (.rd 2 (.rd 3 (.rd 4 (.rd 5 (.rd 7 (.rd 8 (.rd 9 (.rd 10 (.rd 11 (.act 6 [11, 10, 9, 8, 7] (.act 12 [] (.act 13 [] (.act 14 [] (.act 15 [] (.nil))))))))))))))))) (by kernel_rfl) ?_ | refine yt (id := 17) mixed [36] (.rd 0 (.rd 1 (.rd 2 (.rd 3 (.rd 4 (.rd 5 (.rd 7 (.rd 8 (.rd 9 (.rd 10 (.rd 11 (.act 6 [11, 10, 9, 8, 7] (.act 12 [] (.act 13 [] (.act 14 [] (.act 15 [] (.nil))))))))))))))))) (by kernel_rfl) ?_ | (refine sem19 _ _ _ _ _ _ (by simp only [List.length_append, List.length_cons, List.length_nil]; omega) (by omega) fun j hj => ?_; try simp only [go_sem, ↓reduceIte, zA, zB, zC, zD, zE, zF, zG, zL, zM, zN, reduceCtorEq, f28, f27, f26, f6, f0, i4, hw0, a3, b3, c3, ln, ll, lt, wn, wl, wt, ww, w0, hd4, hap]) | rw [yv hj] | ((first | refine yq (fun h => ?_) (fun h => ?_) | (apply And.intro <;> intro h)) <;> (try simp only [zS, zT, zU, zV, Bool.not_true, Bool.not_false] at h) <;> (first | (exfalso; omega) | simp only [go_sem, ↓reduceIte, zA, zB, zC, zD, zE, zF, zG, zL, zM, zN, reduceCtorEq, f28, f27, f26, f6, f0, i4, hw0, a3, b3, c3, ln, ll, lt, wn, wl, wt, ww, w0, hd4, hap, h] | skip)) | ((refine yr fun j hj => ?_; (try have hj0 := St.tok_of_give hj)); try simp only [go_sem, ↓reduceIte, zA, zB, zC, zD, zE, zF, zG, zL, zM, zN, reduceCtorEq, f28, f27, f26, f6, f0, i4, hw0, a3, b3, c3, ln, ll, lt, wn, wl, wt, ww, w0, hd4, hap]) | (refine And.intro ?_ ?_; · omega) | clear hN N | fail
            all_goals first
              | exact hB (.inl (by omega)) _
              | exact hB (.inr (.inl (by omega))) _
              | (refine hB (.inr (.inr (.inr ?_))) _; simp only [List.length_append, List.length_cons, List.length_nil] at h ⊢; omega)
              | (refine hk ?_ _ _
                 rintro (q | q | q | q)
                 · omega
                 · omega
                 · omega
                 · simp only [List.length_append, List.length_cons, List.length_nil] at h q; omega)
        · rw [b2, show mapD (some x2) = .map x2 from rfl] at hw0
          rcases hct with ⟨c2, c3⟩ | ⟨x3, c2, c3⟩
          · have cn : e.terms.length = 0 := by rw [c3]; rfl
            replace c3 : True := trivial
            rw [c2, show mapD none = .nilmap from rfl] at hw0
            rw [cn] at hB hk nt
            repeat' first | refine yj fun N hN => ?_ | refine yl [36] ?_ | ((first | refine ya rfl rfl fun N hN => ?_ | refine yb rfl rfl rfl rfl fun N hN => ?_ | refine yc rfl rfl fun N hN => ?_ | refine ye rfl rfl fun N hN => ?_ | (refine yw hN _ _ ?_; clear hN N) | refine ym ?_ | refine yo ?_ | refine yp ?_); simp only [go_sem, ↓reduceIte, zA, zB, zC, zD, zE, zF, zG, zL, zM, zN, reduceCtorEq, f28, f27, f26, f6, f0, i4, hw0, a3, b3, c3, ln, ll, lt, wn, wl, wt, ww, w0, hd4, hap, Tryz.results7]) | ((first | refine yg rfl ?_ | refine yn ?_ | refine yi ?_); try simp only [go_sem]) | ((first | refine yx hN _ _ ?_ | refine yz hN _ _ ?_ | refine yy hN _ ?_); clear hN N) | refine yt (id := 16) mixed [36] (.rd 0 (.rd 1 (.rd 2 (.rd 3 (.rd 4 (.rd 5 (.rd 7 (.rd 8 (.rd 9 (.rd 10 (.rd 11 (.act 6 [11, 10, 9, 8, 7] (.act 12 [] (.act 13 [] (.act 14 [] (.act 15 [] (.nil))))))))))))))))) (by kernel_rfl) ?_ | refine yt (id := 17) mixed [36] (.rd 0 (.rd 1 (.rd 2 (.rd 3 (.rd 4 (.rd 5 (.rd 7 (.rd 8 (.rd 9 (.rd 10 (.rd 11 (.act 6 [11, 10, 9, 8, 7] (.act 12 [] (.act 13 [] (.act 14 [] (.act 15 [] (.nil))))))))))))))))) (by kernel_rfl) ?_ | (refine sem19 _ _ _ _ _ _ (by simp only [List.length_append, List.length_cons, List.length_nil]; omega) (by omega) fun j hj => ?_; try simp only [go_sem, ↓reduceIte, zA, zB, zC, zD, zE, zF, zG, zL, zM, zN, reduceCtorEq, f28, f27, f26, f6, f0, i4, hw0, a3, b3, c3, ln, ll, lt, wn, wl, wt, ww, w0, hd4, hap]) | rw [yv hj] | ((first | refine yq (fun h => ?_) (fun h => ?_) | (apply And.intro <;> intro h)) <;> (try simp only [zS, zT, zU, zV, Bool.not_true, Bool.not_false] at h) <;> (first | (exfalso; omega) | simp only [go_sem, ↓reduceIte, zA, zB, zC, zD, zE, zF, zG, zL, zM, zN, reduceCtorEq, f28, f27, f26, f6, f0, i4, hw0, a3, b3, c3, ln, ll, lt, wn, wl, wt, ww, w0, hd4, hap, h] | skip)) | ((refine yr fun j hj => ?_; (try have hj0 := St.tok_of_give hj)); try simp only [go_sem, ↓reduceIte, zA, zB, zC, zD, zE, zF, zG, zL, zM, zN, reduceCtorEq, f28, f27, f26, f6, f0, i4, hw0, a3, b3, c3, ln, ll, lt, wn, wl, wt, ww, w0, hd4, hap]) | (refine And.intro ?_ ?_; · omega) | clear hN N | fail
            all_goals first
              | exact hB (.inl (by omega)) _
              | exact hB (.inr (.inl (by omega))) _
              | (refine hB (.inr (.inr (.inr ?_))) _; simp only [List.length_append, List.length_cons, List.length_nil] at h ⊢; omega)
              | (refine hk ?_ _ _
                 rintro (q | q | q | q)
                 · omega
                 · omega
                 · omega
                 · simp only [List.length_append, List.length_cons, List.length_nil] at h q; omega)
          · rw [c2, show mapD (some x3) = .map x3 from rfl] at hw0
            repeat' first | refine yj fun N hN => ?_ | refine yl [36] ?_ | ((first | refine ya rfl rfl fun N hN => ?_ | refine yb rfl rfl rfl rfl fun N hN => ?_ | refine yc rfl rfl fun N hN => ?_ | refine ye rfl rfl fun N hN => ?_ | (refine yw hN _ _ ?_; clear hN N) | refine ym ?_ | refine yo ?_ | refine yp ?_); simp only [go_sem, ↓reduceIte, zA, zB, zC, zD, zE, zF, zG, zL, zM, zN, reduceCtorEq, f28, f27, f26, f6, f0, i4, hw0, a3, b3, c3, ln, ll, lt, wn, wl, wt, ww, w0, hd4, hap, Tryz.results7]) | ((first | refine yg rfl ?_ | refine yn ?_ | refine yi ?_); try simp only [go_sem]) | ((first | refine yx hN _ _ ?_ | refine yz hN _ _ ?_ | refine yy hN _ ?_); clear hN N) | refine yt (id := 16) mixed [36] (.rd 0 (.rd 1 (.rd 2 (.rd 3 (.rd 4 (.rd 5 (.rd 7 (.rd 8 (.rd 9 (.rd 10 (.rd 11 (.act 6 [11, 10, 9, 8, 7] (.act 12 [] (.act 13 [] (.act 14 [] (.act 15 [] (.nil))))))))))))))))) (by kernel_rfl) ?_ | refine yt (id := 17) mixed [36] (.rd 0 (.rd 1 (.rd 2 (.rd 3 (.rd 4 (.rd 5 (.rd 7 (.rd 8 (.rd 9 (.rd 10 (.rd 11 (.act 6 [11, 10, 9, 8, 7] (.act 12 [] (.act 13 [] (.act 14 [] (.act 15 [] (.nil))))))))))))))))) (by kernel_rfl) ?_ | (refine sem19 _ _ _ _ _ _ (by simp only [List.length_append, List.length_cons, List.length_nil]; omega) (by omega) fun j hj => ?_; try simp only [go_sem, ↓reduceIte, zA, zB, zC, zD, zE, zF, zG, zL, zM, zN, reduceCtorEq, f28, f27, f26, f6, f0, i4, hw0, a3, b3, c3, ln, ll, lt, wn, wl, wt, ww, w0, hd4, hap]) | rw [yv hj] | ((first | refine yq (fun h => ?_) (fun h => ?_) | (apply And.intro <;> intro h)) <;> (try simp only [zS, zT, zU, zV, Bool.not_true, Bool.not_false] at h) <;> (first | (exfalso; omega) | simp only [go_sem, ↓reduceIte, zA, zB, zC, zD, zE, zF, zG, zL, zM, zN, reduceCtorEq, f28, f27, f26, f6, f0, i4, hw0, a3, b3, c3, ln, ll, lt, wn, wl, wt, ww, w0, hd4, hap, h] | skip)) | ((refine yr fun j hj => ?_; (try have hj0 := St.tok_of_give hj)); try simp only [go_sem, ↓reduceIte, zA, zB, zC, zD, zE, zF, zG, zL, zM, zN, reduceCtorEq, f28, f27, f26, f6, f0, i4, hw0, a3, b3, c3, ln, ll, lt, wn, wl, wt, ww, w0, hd4, hap]) | (refine And.intro ?_ ?_; · omega) | clear hN N | fail
            all_goals first
              | exact hB (.inl (by omega)) _
              | exact hB (.inr (.inl (by omega))) _
              | (refine hB (.inr (.inr (.inr ?_))) _; simp only [List.length_append, List.length_cons, List.length_nil] at h ⊢; omega)
              | (refine hk ?_ _ _
                 rintro (q | q | q | q)
                 · omega
                 · omega
                 · omega
                 · simp only [List.length_append, List.length_cons, List.length_nil] at h q; omega)
      · rw [a2, show mapD (some x1) = .map x1 from rfl] at hw0
        rcases hcl with ⟨b2, b3⟩ | ⟨x2, b2, b3⟩
        · have bn : e.levels.length = 0 := by rw [b3]; rfl
          replace b3 : True := trivial
          rw [b2, show mapD none = .nilmap from rfl] at hw0
          rw [bn] at hB hk nl
          rcases hct with ⟨c2, c3⟩ | ⟨x3, c2, c3⟩
          · have cn : e.terms.length = 0 := by rw [c3]; rfl
            replace c3 : True := trivial
            rw [c2, show mapD none = .nilmap from rfl] at hw0
            rw [cn] at hB hk nt
            repeat' first | refine yj fun N hN => ?_ | refine yl [36] ?_ | ((first | refine ya rfl rfl fun N hN => ?_ | refine yb rfl rfl rfl rfl fun N hN => ?_ | refine yc rfl rfl fun N hN => ?_ | refine ye rfl rfl fun N hN => ?_ | (refine yw hN _ _ ?_; clear hN N) | refine ym ?_ | refine yo ?_ | refine yp ?_); simp only [go_sem, ↓reduceIte, zA, zB, zC, zD, zE, zF, zG, zL, zM, zN, reduceCtorEq, f28, f27, f26, f6, f0, i4, hw0, a3, b3, c3, ln, ll, lt, wn, wl, wt, ww, w0, hd4, hap, Tryz.results7]) | ((first | refine yg rfl ?_ | refine yn ?_ | refine yi ?_); try simp only [go_sem]) | ((first | refine yx hN _ _ ?_ | refine yz hN _ _ ?_ | refine yy hN _ ?_); clear hN N) | refine yt (id := 16) mixed [36] (.rd 0 (.rd 1 (.rd 2 (.rd 3 (.rd 4 (.rd 5 (.rd 7 (.rd 8 (.rd 9 (.rd 10 (.rd 11 (.act 6 [11, 10, 9, 8, 7] (.act 12 [] (.act 13 [] (.act 14 [] (.act 15 [] (.nil))))))))))))))))) (by kernel_rfl) ?_ | refine yt (id := 17) mixed [36] (.rd 0 (.rd 1 (.rd 2 (.rd 3 (.rd 4 (.rd 5 (.rd 7 (.rd 8 (.rd 9 (.rd 10 (.rd 11 (.act 6 [11, 10, 9, 8, 7] (.act 12 [] (.act 13 [] (.act 14 [] (.act 15 [] (.nil))))))))))))))))) (by kernel_rfl) ?_ | (refine sem19 _ _ _ _ _ _ (by simp only [List.length_append, List.length_cons, List.length_nil]; omega) (by omega) fun j hj => ?_; try simp only [go_sem, ↓reduceIte, zA, zB, zC, zD, zE, zF, zG, zL, zM, zN, reduceCtorEq, f28, f27, f26, f6, f0, i4, hw0, a3, b3, c3, ln, ll, lt, wn, wl, wt, ww, w0, hd4, hap]) | rw [yv hj] | ((first | refine yq (fun h => ?_) (fun h => ?_) | (apply And.intro <;> intro h)) <;> (try simp only [zS, zT, zU, zV, Bool.not_true, Bool.not_false] at h) <;> (first | (exfalso; omega) | simp only [go_sem, ↓reduceIte, zA, zB, zC, zD, zE, zF, zG, zL, zM, zN, reduceCtorEq, f28, f27, f26, f6, f0, i4, hw0, a3, b3, c3, ln, ll, lt, wn, wl, wt, ww, w0, hd4, hap, h] | skip)) | ((refine yr fun j hj => ?_; (try have hj0 := St.tok_of_give hj)); try simp only [go_sem, ↓reduceIte, zA, zB, zC, zD, zE, zF, zG, zL, zM, zN, reduceCtorEq, f28, f27, f26, f6, f0, i4, hw0, a3, b3, c3, ln, ll, lt, wn, wl, wt, ww, w0, hd4, hap]) | (refine And.intro ?_ ?_; · omega) | clear hN N | fail
            all_goals first
              | exact hB (.inl (by omega)) _
              | exact hB (.inr (.inl (by omega))) _
              | (refine hB (.inr (.inr (.inr ?_))) _; simp only [List.length_append, List.length_cons, List.length_nil] at h ⊢; omega)
              | (refine hk ?_ _ _
                 rintro (q | q | q | q)
                 · omega
                 · omega
                 · omega
                 · simp only [List.length_append, List.length_cons, List.length_nil] at h q; omega)
          · rw [c2, show mapD (some x3) = .map x3 from rfl] at hw0
            repeat' first | refine yj fun N hN => ?_ | refine yl [36] ?_ | ((first | refine ya rfl rfl fun N hN => ?_ | refine yb rfl rfl rfl rfl fun N hN => ?_ | refine yc rfl rfl fun N hN => ?_ | refine ye rfl rfl fun N hN => ?_ | (refine yw hN _ _ ?_; clear hN N) | refine ym ?_ | refine yo ?_ | refine yp ?_); simp only [go_sem, ↓reduceIte, zA, zB, zC, zD, zE, zF, zG, zL, zM, zN, reduceCtorEq, f28, f27, f26, f6, f0, i4, hw0, a3, b3, c3, ln, ll, lt, wn, wl, wt, ww, w0, hd4, hap, Tryz.results7]) | ((first | refine yg rfl ?_ | refine yn ?_ | refine yi ?_); try simp only [go_sem]) | ((first | refine yx hN _ _ ?_ | refine yz hN _ _ ?_ | refine yy hN _ ?_); clear hN N) | refine yt (id := 16) mixed [36] (.rd 0 (.rd 1 (.rd 2 (.rd 3 (.rd 4 (.rd 5 (.rd 7 (.rd 8 (.rd 9 (.rd 10 (.rd 11 (.act 6 [11, 10, 9, 8, 7] (.act 12 [] (.act 13 [] (.act 14 [] (.act 15 [] (.nil))))))))))))))))) (by kernel_rfl) ?_ | refine yt (id := 17) mixed [36] (.rd 0 (.rd 1 (.rd 2 (.rd 3 (.rd 4 (.rd 5 (.rd 7 (.rd 8 (.rd 9 (.rd 10 (.rd 11 (.act 6 [11, 10, 9, 8, 7] (.act 12 [] (.act 13 [] (.act 14 [] (.act 15 [] (.nil))))))))))))))))) (by kernel_rfl) ?_ | (refine sem19 _ _ _ _ _ _ (by simp only [List.length_append, List.length_cons, List.length_nil]; omega) (by omega) fun j hj => ?_; try simp only [go_sem, ↓reduceIte, zA, zB, zC, zD, zE, zF, zG, zL, zM, zN, reduceCtorEq, f28, f27, f26, f6, f0, i4, hw0, a3, b3, c3, ln, ll, lt, wn, wl, wt, ww, w0, hd4, hap]) | rw [yv hj] | ((first | refine yq (fun h => ?_) (fun h => ?_) | (apply And.intro <;> intro h)) <;> (try simp only [zS, zT, zU, zV, Bool.not_true, Bool.not_false] at h) <;> (first | (exfalso; omega) | simp only [go_sem, ↓reduceIte, zA, zB, zC, zD, zE, zF, zG, zL, zM, zN, reduceCtorEq, f28, f27, f26, f6, f0, i4, hw0, a3, b3, c3, ln, ll, lt, wn, wl, wt, ww, w0, hd4, hap, h] | skip)) | ((refine yr fun j hj => ?_; (try have hj0 := St.tok_of_give hj)); try simp only [go_sem, ↓reduceIte, zA, zB, zC, zD, zE, zF, zG, zL, zM, zN, reduceCtorEq, f28, f27, f26, f6, f0, i4, hw0, a3, b3, c3, ln, ll, lt, wn, wl, wt, ww, w0, hd4, hap]) | (refine And.intro ?_ ?_; · omega) | clear hN N | fail
            all_goals first
              | exact hB (.inl (by omega)) _
              | exact hB (.inr (.inl (by omega))) _
              | (refine hB (.inr (.inr (.inr ?_))) _; simp only [List.length_append, List.length_cons, List.length_nil] at h ⊢; omega)
              | (refine hk ?_ _ _
                 rintro (q | q | q | q)
                 · omega
                 · omega
                 · omega
                 · simp only [List.length_append, List.length_cons, List.length_nil] at h q; omega)
        · rw [b2, show mapD (some x2) = .map x2 from rfl] at hw0
          rcases hct with ⟨c2, c3⟩ | ⟨x3, c2, c3⟩
          · have cn : e.terms.length = 0 := by rw [c3]; rfl
            replace c3 : True := trivial
            rw [c2, show mapD none = .nilmap from rfl] at hw0
            rw [cn] at hB hk nt
            repeat' first | refine yj fun N hN => ?_ | refine yl [36] ?_ | ((first | refine ya rfl rfl fun N hN => ?_ | refine yb rfl rfl rfl rfl fun N hN => ?_ | refine yc rfl rfl fun N hN => ?_ | refine ye rfl rfl fun N hN => ?_ | (refine yw hN _ _ ?_; clear hN N) | refine ym ?_ | refine yo ?_ | refine yp ?_); simp only [go_sem, ↓reduceIte, zA, zB, zC, zD, zE, zF, zG, zL, zM, zN, reduceCtorEq, f28, f27, f26, f6, f0, i4, hw0, a3, b3, c3, ln, ll, lt, wn, wl, wt, ww, w0, hd4, hap, Tryz.results7]) | ((first | refine yg rfl ?_ | refine yn ?_ | refine yi ?_); try simp only [go_sem]) | ((first | refine yx hN _ _ ?_ | refine yz hN _ _ ?_ | refine yy hN _ ?_); clear hN N) | refine yt (id := 16) mixed [36] (.rd 0 (.rd 1 (.rd 2 (.rd 3 (.rd 4 (.rd 5 (.rd 7 (.rd 8 (.rd 9 (.rd 10 (.rd 11 (.act 6 [11, 10, 9, 8, 7] (.act 12 [] (.act 13 [] (.act 14 [] (.act 15 [] (.nil))))))))))))))))) (by kernel_rfl) ?_ | refine yt (id := 17) mixed [36] (.rd 0 (.rd 1 (.rd 2 (.rd 3 (.rd 4 (.rd 5 (.rd 7 (.rd 8 (.rd 9 (.rd 10 (.rd 11 (.act 6 [11, 10, 9, 8, 7] (.act 12 [] (.act 13 [] (.act 14 [] (.act 15 [] (.nil))))))))))))))))) (by kernel_rfl) ?_ | (refine sem19 _ _ _ _ _ _ (by simp only [List.length_append, List.length_cons, List.length_nil]; omega) (by omega) fun j hj => ?_; try simp only [go_sem, ↓reduceIte, zA, zB, zC, zD, zE, zF, zG, zL, zM, zN, reduceCtorEq, f28, f27, f26, f6, f0, i4, hw0, a3, b3, c3, ln, ll, lt, wn, wl, wt, ww, w0, hd4, hap]) | rw [yv hj] | ((first | refine yq (fun h => ?_) (fun h => ?_) | (apply And.intro <;> intro h)) <;> (try simp only [zS, zT, zU, zV, Bool.not_true, Bool.not_false] at h) <;> (first | (exfalso; omega) | simp only [go_sem, ↓reduceIte, zA, zB, zC, zD, zE, zF, zG, zL, zM, zN, reduceCtorEq, f28, f27, f26, f6, f0, i4, hw0, a3, b3, c3, ln, ll, lt, wn, wl, wt, ww, w0, hd4, hap, h] | skip)) | ((refine yr fun j hj => ?_; (try have hj0 := St.tok_of_give hj)); try simp only [go_sem, ↓reduceIte, zA, zB, zC, zD, zE, zF, zG, zL, zM, zN, reduceCtorEq, f28, f27, f26, f6, f0, i4, hw0, a3, b3, c3, ln, ll, lt, wn, wl, wt, ww, w0, hd4, hap]) | (refine And.intro ?_ ?_; · omega) | clear hN N | fail
            all_goals first
              | exact hB (.inl (by omega)) _
              | exact hB (.inr (.inl (by omega))) _
              | (refine hB (.inr (.inr (.inr ?_))) _; simp only [List.length_append, List.length_cons, List.length_nil] at h ⊢; omega)
              | (refine hk ?_ _ _
                 rintro (q | q | q | q)
                 · omega
                 · omega
                 · omega
                 · simp only [List.length_append, List.length_cons, List.length_nil] at h q; omega)
          · rw [c2, show mapD (some x3) = .map x3 from rfl] at hw0
            repeat' first | refine yj fun N hN => ?_ | refine yl [36] ?_ | ((first | refine ya rfl rfl fun N hN => ?_ | refine yb rfl rfl rfl rfl fun N hN => ?_ | refine yc rfl rfl fun N hN => ?_ | refine ye rfl rfl fun N hN => ?_ | (refine yw hN _ _ ?_; clear hN N) | refine ym ?_ | refine yo ?_ | refine yp ?_); simp only [go_sem, ↓reduceIte, zA, zB, zC, zD, zE, zF, zG, zL, zM, zN, reduceCtorEq, f28, f27, f26, f6, f0, i4, hw0, a3, b3, c3, ln, ll, lt, wn, wl, wt, ww, w0, hd4, hap, Tryz.results7]) | ((first | refine yg rfl ?_ | refine yn ?_ | refine yi ?_); try simp only [go_sem]) | ((first | refine yx hN _ _ ?_ | refine yz hN _ _ ?_ | refine yy hN _ ?_); clear hN N) | refine yt (id := 16) mixed [36] (.rd 0 (.rd 1 (.rd 2 (.rd 3 (.rd 4 (.rd 5 (.rd 7 (.rd 8 (.rd 9 (.rd 10 (.rd 11 (.act 6 [11, 10, 9, 8, 7] (.act 12 [] (.act 13 [] (.act 14 [] (.act 15 [] (.nil))))))))))))))))) (by kernel_rfl) ?_ | refine yt (id := 17) mixed [36] (.rd 0 (.rd 1 (.rd 2 (.rd 3 (.rd 4 (.rd 5 (.rd 7 (.rd 8 (.rd 9 (.rd 10 (.rd 11 (.act 6 [11, 10, 9, 8, 7] (.act 12 [] (.act 13 [] (.act 14 [] (.act 15 [] (.nil))))))))))))))))) (by kernel_rfl) ?_ | (refine sem19 _ _ _ _ _ _ (by simp only [List.length_append, List.length_cons, List.length_nil]; omega) (by omega) fun j hj => ?_; try simp only [go_sem, ↓reduceIte, zA, zB, zC, zD, zE, zF, zG, zL, zM, zN, reduceCtorEq, f28, f27, f26, f6, f0, i4, hw0, a3, b3, c3, ln, ll, lt, wn, wl, wt, ww, w0, hd4, hap]) | rw [yv hj] | ((first | refine yq (fun h => ?_) (fun h => ?_) | (apply And.intro <;> intro h)) <;> (try simp only [zS, zT, zU, zV, Bool.not_true, Bool.not_false] at h) <;> (first | (exfalso; omega) | simp only [go_sem, ↓reduceIte, zA, zB, zC, zD, zE, zF, zG, zL, zM, zN, reduceCtorEq, f28, f27, f26, f6, f0, i4, hw0, a3, b3, c3, ln, ll, lt, wn, wl, wt, ww, w0, hd4, hap, h] | skip)) | ((refine yr fun j hj => ?_; (try have hj0 := St.tok_of_give hj)); try simp only [go_sem, ↓reduceIte, zA, zB, zC, zD, zE, zF, zG, zL, zM, zN, reduceCtorEq, f28, f27, f26, f6, f0, i4, hw0, a3, b3, c3, ln, ll, lt, wn, wl, wt, ww, w0, hd4, hap]) | (refine And.intro ?_ ?_; · omega) | clear hN N | fail
            all_goals first
              | exact hB (.inl (by omega)) _
              | exact hB (.inr (.inl (by omega))) _
              | (refine hB (.inr (.inr (.inr ?_))) _; simp only [List.length_append, List.length_cons, List.length_nil] at h ⊢; omega)
              | (refine hk ?_ _ _
                 rintro (q | q | q | q)
                 · omega
                 · omega
                 · omega
                 · simp only [List.length_append, List.length_cons, List.length_nil] at h q; omega)
end Go.Proofs.YtddbidoaolnegaaGreatDoor
/- What declarations cost at most, when they are not vast: plain law. No statement of the seat is proved here; no condition. -/
namespace Go.Proofs.YtddbidoaolnegaaGreatDoor
open Go Go.RowKit
open Nat renaming reduceLT → zA, reduceEqDiff → zB, reduceBEq → zC, reduceAdd → zD, reduceMul → zE, reduceSub → zF, reduceLeDiff → zG, mul_one → zH, zero_add → zI, add_zero → zJ
open Int renaming toNat_natCast → zK, reduceAdd → zL, reduceLE → zM, reduceLT → zN, natCast_nonneg → zO
open Go.Proofs.YtddbidoaolnegaaGreatDoor renaming evI_plain → ya, evI_guard → yb, evT_rd → yc, evT_rdg → yd, evT_act → ye, evT_actg → yf, evI_done → yg, evT_two → yh, evT_nil → yi, W.seqG → yj, W.block → yk, W.regionI → yl, W.cond → ym, W.skip → yn, W.ret → yo, W.exit → yp, gdD_split → yq, newT_intro → yr, newB_intro → ys, W.draw → yt, St.set_del → yu, St.give_take → yv, AGo.go → yw, IGo.go → yx, TGo.go → yy, Goes.go → yz
attribute [local go_sem] zK zP zQ zH zI zJ zO
attribute [local irreducible] W evI evT evL evOp evBin gdD Sem newT newB fillD bldOf

theorem sizes_ap2 : ∀ a b : List Tm, Tm.sizes (a ++ b) = Tm.sizes a + Tm.sizes b
  | [], b => by simp [Tm.sizes]
  | x :: a, b => by rw [List.cons_append, Tm.sizes, Tm.sizes, sizes_ap2 a b]; omega
theorem size_pos (t : Tm) : 1 ≤ t.size := by rw [Tm.size_eq]; omega
theorem cost_cs : ∀ cs : List Cc, (cs.map Cc.cost).sum ≤ 6 * Tm.sizes (cs.map Cc.ty)
  | [] => by simp
  | c :: cs => by
    have h := cost_cs cs
    have h1 := size_pos c.ty
    simp only [List.map_cons, List.sum_cons, Tm.sizes, Cc.cost]; omega
theorem cost_in (x : In) : x.cost ≤ 6 * Tm.sizes (indTs x) := by
  have h := cost_cs x.cs
  have h1 := size_pos x.ty
  simp only [In.cost, indTs, Tm.sizes]; omega
theorem cost_ins : ∀ l : List In, (l.map In.cost).sum ≤ 6 * Tm.sizes (l.flatMap indTs)
  | [] => by simp
  | x :: l => by
    have h := cost_ins l
    have h1 := cost_in x
    simp only [List.map_cons, List.sum_cons, List.flatMap_cons, sizes_ap2]; omega
theorem cost_de (d : De) : d.cost ≤ 10 + 6 * Tm.sizes (termsOf d) := by
  have h := cost_ins d.inds
  simp only [De.cost, termsOf, Tm.sizes]; omega
theorem cost_all : ∀ l : List De, (l.map De.cost).sum ≤ 10 * l.length + 6 * Tm.sizes (l.flatMap termsOf)
  | [] => by simp
  | d :: l => by
    have h := cost_all l
    have h1 := cost_de d
    simp only [List.map_cons, List.sum_cons, List.flatMap_cons, sizes_ap2, List.length_cons]; omega
theorem cost_vast {l : List De} (h : vastB l 40 600 = false) : (l.map De.cost).sum ≤ 15000 := by
  have h1 := cost_all l
  simp only [vastB, vast5, Bool.or_eq_false_iff, decide_eq_false_iff_not] at h
  omega
end Go.Proofs.YtddbidoaolnegaaGreatDoor
/- The reference's tables: what they hold; numbers, names, levels: the walks. No statement of the seat is proved here; no condition. -/
namespace Go.Proofs.YtddbidoaolnegaaGreatDoor
open Go Go.RowKit
open Nat renaming reduceLT → zA, reduceEqDiff → zB, reduceBEq → zC, reduceAdd → zD, reduceMul → zE, reduceSub → zF, reduceLeDiff → zG, mul_one → zH, zero_add → zI, add_zero → zJ
open Int renaming toNat_natCast → zK, reduceAdd → zL, reduceLE → zM, reduceLT → zN, natCast_nonneg → zO
open Go.Proofs.YtddbidoaolnegaaGreatDoor renaming evI_plain → ya, evI_guard → yb, evT_rd → yc, evT_rdg → yd, evT_act → ye, evT_actg → yf, evI_done → yg, evT_two → yh, evT_nil → yi, W.seqG → yj, W.block → yk, W.regionI → yl, W.cond → ym, W.skip → yn, W.ret → yo, W.exit → yp, gdD_split → yq, newT_intro → yr, newB_intro → ys, W.draw → yt, St.set_del → yu, St.give_take → yv, AGo.go → yw, IGo.go → yx, TGo.go → yy, Goes.go → yz
attribute [local go_sem] zK zP zQ zH zI zJ zO
attribute [local irreducible] W evI evT evL evOp evBin gdD Sem newT newB fillD bldOf
set_option maxRecDepth 10000
set_option maxHeartbeats 4000000

def rL (e : En) : Nat → List D
  | 0 => e.names.map .str
  | 1 => e.levels.map Lv.d
  | 2 => e.terms.map Tm.d
  | 3 => byD e.tb
  | 4 => byD e.db
  | _ => []
def oD (o : Option Nat) (z : Nat) (xs : List D) : D := match o with | none => .sl .nil 0 [] | some j => .sl (.tok j) z xs
def rCells (c : Nat → Option Nat) (e : En) : List D := [oD (c 0) 1 (e.names.map .str), oD (c 1) 5 (e.levels.map Lv.d), oD (c 2) 5 (e.terms.map Tm.d), oD (c 3) 1 (byD e.tb), oD (c 4) 1 (byD e.db)]
structure RS (r : Nat) (e : En) (c : Nat → Option Nat) (st : St) : Prop where
  w : st.mem r = some (.cells (rCells c e))
  z : ∀ i, c i = none → rL e i = []
  t : ∀ i j, i < 5 → c i = some j → st.tok j = true
  d : ∀ i i' j, i < 5 → i' < 5 → c i = some j → c i' = some j → i = i'
structure KeepR (c : Nat → Option Nat) (st : St) (c' : Nat → Option Nat) (st' : St) : Prop where
  tok : ∀ j, (∀ i, i < 5 → c i ≠ some j) → st.tok j = true → st'.tok j = true ∧ (∀ i, i < 5 → c' i ≠ some j)
theorem KeepR.refl (c : Nat → Option Nat) (st : St) : KeepR c st c st := ⟨fun _ h1 h2 => ⟨h2, h1⟩⟩
theorem KeepR.trans {c c' c'' : Nat → Option Nat} {a b d : St} (h : KeepR c a c' b) (h' : KeepR c' b c'' d) : KeepR c a c'' d :=
  ⟨fun j h1 h2 => h'.tok j (h.tok j h1 h2).2 (h.tok j h1 h2).1⟩
def upR (c : Nat → Option Nat) (i j : Nat) : Nat → Option Nat := fun x => if x = i then some j else c x
theorem oD_sl {o : Option Nat} {z : Nat} {xs : List D} (h : o = none → xs = []) : ∃ ow z', oD o z xs = .sl ow z' xs := by
  cases o with
  | none => exact ⟨.nil, 0, by rw [h rfl]; rfl⟩
  | some j => exact ⟨.tok j, z, rfl⟩

theorem oD_ne {o : Option Nat} {z : Nat} {xs : List D} (h : o = none → xs = []) (hx : xs ≠ []) : ∃ j, o = some j ∧ oD o z xs = .sl (.tok j) z xs := by
  cases o with
  | none => exact absurd (h rfl) hx
  | some j => exact ⟨j, rfl, rfl⟩

theorem map_ne {α β : Type} {f : α → β} {l : List α} {i : Nat} (h : i < l.length) : l.map f ≠ [] := fun x => by
  rw [List.map_eq_nil_iff] at x; rw [x] at h; simp at h
theorem wrap_last {n : Nat} (h : n < 100000000) : IntKind.u64.wrap (((n + 1 : Nat) : Int) - 1) = (n : Nat) := by
  rw [show ((n + 1 : Nat) : Int) - 1 = (n : Nat) by omega]; exact wrap_u64 (by omega)
theorem lv_eq {a b : Lv} : (a.c :: a.p = b.c :: b.p) = (a = b) := by
  apply propext
  constructor
  · intro h
    cases a; cases b
    simp only [List.cons.injEq] at h
    simp [h.1, h.2]
  · intro h; rw [h]

theorem pos_first {α : Type} : ∀ {l : List α} {x z : α} {i : Nat}, (∀ j, j < i → l.getD j z ≠ x) → i < l.length → l.getD i z = x → pos l x = i
  | [], _, _, _, _, h, _ => absurd h (by simp)
  | y :: l, x, z, 0, _, _, h => by rw [pos, if_pos (by simpa using h)]
  | y :: l, x, z, i + 1, h, hi, hx => by
    rw [pos, if_neg (by simpa using h 0 (by omega)), pos_first (l := l) (z := z) (i := i) (fun j hj => by simpa using h (j + 1) (by omega)) (by simpa using hi) (by simpa using hx)]
theorem not_mem_getD {α : Type} {l : List α} {x z : α} (h : ∀ j, j < l.length → l.getD j z ≠ x) : x ∉ l := fun hm => by
  obtain ⟨j, hj, e⟩ := List.getElem_of_mem hm
  exact h j hj (by simp [List.getD, hj, e])

end Go.Proofs.YtddbidoaolnegaaGreatDoor
/- Are two terms the same, by the reference: the walk. No statement of the seat is proved here; no condition. -/
namespace Go.Proofs.YtddbidoaolnegaaGreatDoor
open Go Go.RowKit
open Nat renaming reduceLT → zA, reduceEqDiff → zB, reduceBEq → zC, reduceAdd → zD, reduceMul → zE, reduceSub → zF, reduceLeDiff → zG, mul_one → zH, zero_add → zI, add_zero → zJ
open Int renaming toNat_natCast → zK, reduceAdd → zL, reduceLE → zM, reduceLT → zN, natCast_nonneg → zO
open Go.Proofs.YtddbidoaolnegaaGreatDoor renaming evI_plain → ya, evI_guard → yb, evT_rd → yc, evT_rdg → yd, evT_act → ye, evT_actg → yf, evI_done → yg, evT_two → yh, evT_nil → yi, W.seqG → yj, W.block → yk, W.regionI → yl, W.cond → ym, W.skip → yn, W.ret → yo, W.exit → yp, gdD_split → yq, newT_intro → yr, newB_intro → ys, W.draw → yt, St.set_del → yu, St.give_take → yv, AGo.go → yw, IGo.go → yx, TGo.go → yy, Goes.go → yz
attribute [local go_sem] zK zP zQ zH zI zJ zO
attribute [local irreducible] W evI evT evL evOp evBin gdD Sem newT newB fillD bldOf
set_option maxRecDepth 10000
set_option maxHeartbeats 4000000

theorem evBin_lvn (l l' : Lv) (lit : Bool) (c : D → Prop) : evBin P .neq 78 lit l.d l'.d c = c (.bool (!decide (l.c :: l.p = l'.c :: l'.p))) := by
  have h1 := lv_ints l
  have h2 := lv_ints l'
  have e : ∀ x : Lv, x.d = .agg x.d.cells := fun x => rfl
  rw [e l, e l']
  simp only [evBin, evAgg, h1, h2, List.length_cons, l.n, l'.n, true_and]
  exact propext ⟨fun h => h.2, fun h => ⟨eqI78, h⟩⟩
attribute [go_sem] evBin_lvn
theorem getD_ext {α : Type} {a b : List α} (z : α) (hl : a.length = b.length) (h : ∀ j, j < a.length → a.getD j z = b.getD j z) : a = b := by
  refine List.ext_getElem hl fun i h1 h2 => ?_
  have := h i h1
  simpa [List.getD, h1, h2] using this
theorem Tm.ext2 {a b : Tm} (h1 : a.k = b.k) (h2 : a.n = b.n) (h3 : a.s = b.s) (h4 : a.ls = b.ls) (h5 : a.ts = b.ts) : a = b := by
  cases a; cases b
  simp only [Tm.k, Tm.n, Tm.s, Tm.ls, Tm.ts] at h1 h2 h3 h4 h5
  rw [h1, h2, h3, h4, h5]

theorem sem83 : ∀ (a : Tm), a.wf → ∀ (b : Tm), b.wf → ∀ (st : St) (k : D → St → Prop), (a = b → k (.bool true) st) → (a ≠ b → k (.bool false) st) → Sem P 83 [a.d, b.d] st k := by
  intro a
  induction a using Tm.ind with
  | h k n s ls ts ihT =>
    intro hwa b hwb st k' hT hF
    have wa := hwa.to
    have wb := hwb.to
    generalize he : Tm.mk k n s ls ts = a at *
    have hts : ts = a.ts := by rw [← he]; rfl
    rw [hts] at ihT
    clear he hts
    have ea := Tm.d_eq a
    have eb := Tm.d_eq b
    by_cases c1 : a.k = b.k
    case neg =>
      have c1' : ¬ (a.k : Int) = b.k := by omega
      have hF := hF (fun e => c1 (by rw [e]))
      refine Sem.of_body Tryz.call83 Tryz.func83 rfl Tryz.ntmps83 (by simp) ?_
      rw [ea, eb]
      repeat' first | refine yj fun N hN => ?_ | refine yl [] ?_ | ((first | refine ya rfl rfl fun N hN => ?_ | refine yb rfl rfl rfl rfl fun N hN => ?_ | refine ym ?_ | refine yo ?_); simp only [go_sem, ↓reduceIte, zA, zB, zC, zD, zE, zF, zG, zL, zM, zN, reduceCtorEq, c1', Tryz.results83]) | (refine yg rfl ?_; try simp only [go_sem]) | ((first | refine yx hN _ _ ?_ | refine yz hN _ _ ?_); clear hN N) | clear hN N | fail
      all_goals exact hF
    by_cases c2 : a.n = b.n
    case neg =>
      have hF := hF (fun e => c2 (by rw [e]))
      refine Sem.of_body Tryz.call83 Tryz.func83 rfl Tryz.ntmps83 (by simp) ?_
      rw [ea, eb]
      repeat' first | refine yj fun N hN => ?_ | refine yl [] ?_ | ((first | refine ya rfl rfl fun N hN => ?_ | refine yb rfl rfl rfl rfl fun N hN => ?_ | refine ym ?_ | refine yo ?_); simp only [go_sem, ↓reduceIte, zA, zB, zC, zD, zE, zF, zG, zL, zM, zN, reduceCtorEq, c1, c2, Tryz.results83]) | (refine yg rfl ?_; try simp only [go_sem]) | ((first | refine yx hN _ _ ?_ | refine yz hN _ _ ?_); clear hN N) | clear hN N | fail
      all_goals exact hF
    by_cases c3 : a.s = b.s
    case neg =>
      have hF := hF (fun e => c3 (by rw [e]))
      refine Sem.of_body Tryz.call83 Tryz.func83 rfl Tryz.ntmps83 (by simp) ?_
      rw [ea, eb]
      repeat' first | refine yj fun N hN => ?_ | refine yl [] ?_ | ((first | refine ya rfl rfl fun N hN => ?_ | refine yb rfl rfl rfl rfl fun N hN => ?_ | refine ym ?_ | refine yo ?_); simp only [go_sem, ↓reduceIte, zA, zB, zC, zD, zE, zF, zG, zL, zM, zN, reduceCtorEq, c1, c2, c3, Tryz.results83]) | (refine yg rfl ?_; try simp only [go_sem]) | ((first | refine yx hN _ _ ?_ | refine yz hN _ _ ?_); clear hN N) | clear hN N | fail
      all_goals exact hF
    by_cases c4 : a.ls.length = b.ls.length
    case neg =>
      have c4' : ¬ (a.ls.length : Int) = b.ls.length := by omega
      have hF := hF (fun e => c4 (by rw [e]))
      refine Sem.of_body Tryz.call83 Tryz.func83 rfl Tryz.ntmps83 (by simp) ?_
      rw [ea, eb]
      repeat' first | refine yj fun N hN => ?_ | refine yl [] ?_ | ((first | refine ya rfl rfl fun N hN => ?_ | refine yb rfl rfl rfl rfl fun N hN => ?_ | refine ym ?_ | refine yo ?_); simp only [go_sem, ↓reduceIte, zA, zB, zC, zD, zE, zF, zG, zL, zM, zN, reduceCtorEq, c1, c2, c3, c4', Tryz.results83]) | (refine yg rfl ?_; try simp only [go_sem]) | ((first | refine yx hN _ _ ?_ | refine yz hN _ _ ?_); clear hN N) | clear hN N | fail
      all_goals exact hF
    by_cases c5 : a.ts.length = b.ts.length
    case neg =>
      have c5' : ¬ (a.ts.length : Int) = b.ts.length := by omega
      have hF := hF (fun e => c5 (by rw [e]))
      refine Sem.of_body Tryz.call83 Tryz.func83 rfl Tryz.ntmps83 (by simp) ?_
      rw [ea, eb]
      repeat' first | refine yj fun N hN => ?_ | refine yl [] ?_ | ((first | refine ya rfl rfl fun N hN => ?_ | refine yb rfl rfl rfl rfl fun N hN => ?_ | refine ym ?_ | refine yo ?_); simp only [go_sem, ↓reduceIte, zA, zB, zC, zD, zE, zF, zG, zL, zM, zN, reduceCtorEq, c1, c2, c3, c4, c5', Tryz.results83]) | (refine yg rfl ?_; try simp only [go_sem]) | ((first | refine yx hN _ _ ?_ | refine yz hN _ _ ?_); clear hN N) | clear hN N | fail
      all_goals exact hF
    have hla := wa.ls
    have hta := wa.ts
    rw [c1, c2, c3] at ea
    refine Sem.of_body Tryz.call83 Tryz.func83 rfl Tryz.ntmps83 (by simp) ?_
    rw [ea, eb]
    repeat' first | refine yj fun N hN => ?_ | refine yk ?_ | refine yl [] ?_ | ((first | refine ya rfl rfl fun N hN => ?_ | refine yb rfl rfl rfl rfl fun N hN => ?_ | refine ym ?_); simp only [go_sem, ↓reduceIte, zA, zB, zC, zD, zE, zF, zG, zL, zM, zN, reduceCtorEq, c1, c2, c3, c4, c5, Tryz.results83]) | ((first | refine yg rfl ?_ | refine yn ?_); try simp only [go_sem]) | ((first | refine yx hN _ _ ?_ | refine yz hN _ _ ?_); clear hN N) | fail
    refine W.loopN (fun m fr st' => st = st' ∧ ∃ i : Nat, i + m = a.ls.length ∧ (∀ j, j < i → a.ls.getD j Lv.z = b.ls.getD j Lv.z) ∧ fr 5 = .int .i64 i ∧ fr 2 = .eptr a.d 0 ∧ fr 3 = .eptr b.d 0) ?_ a.ls.length _ _ ⟨rfl, 0, by simp, by simp, by simp only [go_sem, ↓reduceIte, zA, zB, zC, zD, zE, zF, zG, zL, zM, zN, reduceCtorEq]; rfl, by simp only [go_sem, ↓reduceIte, zA, zB, zC, zD, zE, zF, zG, zL, zM, zN, reduceCtorEq]; try rw [ea], by simp only [go_sem, ↓reduceIte, zA, zB, zC, zD, zE, zF, zG, zL, zM, zN, reduceCtorEq]; try rw [eb]⟩
    rintro m N' ih fr _ ⟨rfl, i, hi, hal, f5, f2, f3⟩
    rw [ea] at f2
    rw [eb] at f3
    rcases Nat.lt_or_ge i a.ls.length with hlt | hge
    · have hg : (a.ls.map Lv.d).getD i .any = (a.ls.getD i Lv.z).d := getD_map _ _ _ hlt
      have hg2 : (b.ls.map Lv.d).getD i .any = (b.ls.getD i Lv.z).d := getD_map _ _ _ (by omega)
      have hlt2 : i < b.ls.length := by omega
      have i4 : (i : Int) < a.ls.length := by omega
      by_cases hq : a.ls.getD i Lv.z = b.ls.getD i Lv.z
      · repeat' first | refine yj fun N hN => ?_ | refine yk ?_ | refine yl [] ?_ | ((first | refine ya rfl rfl fun N hN => ?_ | refine yc rfl rfl fun N hN => ?_ | refine ye rfl rfl fun N hN => ?_ | (refine yw hN _ _ ?_; clear hN N) | refine ym ?_); simp only [go_sem, ↓reduceIte, zA, zB, zC, zD, zE, zF, zG, zL, zM, zN, reduceCtorEq, f5, f2, f3, hg, hg2, hlt, hlt2, i4, hq, lv_eq, Tryz.results83]) | ((first | refine yg rfl ?_ | refine yn ?_ | refine yi ?_); try simp only [go_sem]) | ((first | refine yx hN _ _ ?_ | refine yz hN _ _ ?_ | refine yy hN _ ?_); clear hN N) | refine yt (id := 6) mixed [] (.rd 0 (.rd 1 (.rd 2 (.rd 3 (.rd 4 (.rd 5 (.rd 6 (.act 7 [6, 5, 4, 3, 2, 1, 0] (.act 8 [4, 3, 2, 1, 0] (.act 9 [4, 3, 2, 1, 0] (.act 10 [] (.nil)))))))))))) (by kernel_rfl) ?_ | (refine And.intro ?_ ?_; · omega) | clear hN N | fail
        refine ih.back (m - 1) (by omega) _ _ ⟨rfl, i + 1, by omega, lt_succ_all hal hq, ?_, ?_, ?_⟩
        · simp only [go_sem, ↓reduceIte, zA, zB, zC, zD, zE, zF, zG, zL, zM, zN, reduceCtorEq]; rfl
        · simp only [go_sem, ↓reduceIte, zA, zB, zC, zD, zE, zF, zG, zL, zM, zN, reduceCtorEq, f2]; try rw [ea]
        · simp only [go_sem, ↓reduceIte, zA, zB, zC, zD, zE, zF, zG, zL, zM, zN, reduceCtorEq, f3]; try rw [eb]
      · have hF := hF (fun e => hq (by rw [e]))
        repeat' first | refine yj fun N hN => ?_ | refine yk ?_ | refine yl [] ?_ | ((first | refine ya rfl rfl fun N hN => ?_ | refine yc rfl rfl fun N hN => ?_ | refine ye rfl rfl fun N hN => ?_ | (refine yw hN _ _ ?_; clear hN N) | refine ym ?_ | refine yo ?_); simp only [go_sem, ↓reduceIte, zA, zB, zC, zD, zE, zF, zG, zL, zM, zN, reduceCtorEq, f5, f2, f3, hg, hg2, hlt, hlt2, i4, hq, lv_eq, Tryz.results83]) | ((first | refine yg rfl ?_ | refine yn ?_ | refine yi ?_); try simp only [go_sem]) | ((first | refine yx hN _ _ ?_ | refine yz hN _ _ ?_ | refine yy hN _ ?_); clear hN N) | refine yt (id := 6) mixed [] (.rd 0 (.rd 1 (.rd 2 (.rd 3 (.rd 4 (.rd 5 (.rd 6 (.act 7 [6, 5, 4, 3, 2, 1, 0] (.act 8 [4, 3, 2, 1, 0] (.act 9 [4, 3, 2, 1, 0] (.act 10 [] (.nil)))))))))))) (by kernel_rfl) ?_ | clear hN N | fail
        all_goals exact hF
    · have i4 : ¬ (i : Int) < a.ls.length := by omega
      have e4 : a.ls = b.ls := getD_ext Lv.z c4 (fun j hj => hal j (by omega))
      repeat' first | refine yj fun N hN => ?_ | refine yk ?_ | refine yl [] ?_ | ((first | refine ya rfl rfl fun N hN => ?_ | refine ym ?_ | refine yp ?_); simp only [go_sem, ↓reduceIte, zA, zB, zC, zD, zE, zF, zG, zL, zM, zN, reduceCtorEq, f5, f2, f3, i4, Tryz.results83]) | (refine yg rfl ?_; try simp only [go_sem]) | ((first | refine yx hN _ _ ?_ | refine yz hN _ _ ?_); clear hN N) | clear hN N | fail
      rw [← ea] at f2
      rw [← eb] at f3
      refine W.loopN (fun m fr st' => st = st' ∧ ∃ i : Nat, i + m = a.ts.length ∧ (∀ j, j < i → a.ts.getD j Tm.z = b.ts.getD j Tm.z) ∧ fr 6 = .int .i64 i ∧ fr 2 = .eptr a.d 0 ∧ fr 3 = .eptr b.d 0) ?_ a.ts.length _ _ ⟨rfl, 0, by simp, by simp, by simp only [go_sem, ↓reduceIte, zA, zB, zC, zD, zE, zF, zG, zL, zM, zN, reduceCtorEq]; rfl, by simp only [go_sem, ↓reduceIte, zA, zB, zC, zD, zE, zF, zG, zL, zM, zN, reduceCtorEq, f2], by simp only [go_sem, ↓reduceIte, zA, zB, zC, zD, zE, zF, zG, zL, zM, zN, reduceCtorEq, f3]⟩
      clear f5 f2 f3 i4 hi hal hge ih
      rintro m N' ih fr _ ⟨rfl, i, hi, hal, f6, f2, f3⟩
      rw [ea] at f2
      rw [eb] at f3
      rcases Nat.lt_or_ge i a.ts.length with hlt | hge
      · have hg : (a.ts.map Tm.d).getD i .any = (a.ts.getD i Tm.z).d := getD_map _ _ _ hlt
        have hg2 : (b.ts.map Tm.d).getD i .any = (b.ts.getD i Tm.z).d := getD_map _ _ _ (by omega)
        have hlt2 : i < b.ts.length := by omega
        have i4 : (i : Int) < a.ts.length := by omega
        have hm := getD_mem a.ts Tm.z hlt
        have hm2 := getD_mem b.ts Tm.z hlt2
        repeat' first | refine yj fun N hN => ?_ | refine yk ?_ | refine yl [] ?_ | ((first | refine ya rfl rfl fun N hN => ?_ | refine yc rfl rfl fun N hN => ?_ | refine ye rfl rfl fun N hN => ?_ | (refine yw hN _ _ ?_; clear hN N) | refine ym ?_ | refine yo ?_); simp only [go_sem, ↓reduceIte, zA, zB, zC, zD, zE, zF, zG, zL, zM, zN, reduceCtorEq, f6, f2, f3, hg, hg2, hlt, hlt2, i4, Tryz.results83]) | ((first | refine yg rfl ?_ | refine yn ?_ | refine yi ?_); try simp only [go_sem]) | ((first | refine yx hN _ _ ?_ | refine yz hN _ _ ?_ | refine yy hN _ ?_); clear hN N) | refine yt (id := 11) mixed [] (.rd 0 (.rd 1 (.rd 2 (.rd 3 (.rd 4 (.rd 5 (.rd 6 (.act 7 [6, 5, 4, 3, 2, 1, 0] (.act 8 [4, 3, 2, 1, 0] (.act 9 [4, 3, 2, 1, 0] (.act 10 [] (.act 11 [] (.nil))))))))))))) (by kernel_rfl) ?_ | (refine ihT _ hm (wa.tm _ hm) _ (wb.tm _ hm2) _ _ (fun hq => ?_) (fun hq => ?_); try simp only [go_sem, ↓reduceIte, zA, zB, zC, zD, zE, zF, zG, zL, zM, zN, reduceCtorEq, f6, f2, f3, hg, hg2, hlt, hlt2, i4]) | (refine And.intro ?_ ?_; · omega) | clear hN N | fail
        all_goals first
          | (refine ih.back (m - 1) (by omega) _ _ ⟨rfl, i + 1, by omega, lt_succ_all hal hq, ?_, ?_, ?_⟩
             · simp only [go_sem, ↓reduceIte, zA, zB, zC, zD, zE, zF, zG, zL, zM, zN, reduceCtorEq]; rfl
             · simp only [go_sem, ↓reduceIte, zA, zB, zC, zD, zE, zF, zG, zL, zM, zN, reduceCtorEq, f2]; try rw [ea]
             · simp only [go_sem, ↓reduceIte, zA, zB, zC, zD, zE, zF, zG, zL, zM, zN, reduceCtorEq, f3]; try rw [eb])
          | exact hF (fun e => hq (by rw [e]))
      · have i4 : ¬ (i : Int) < a.ts.length := by omega
        have e5 : a.ts = b.ts := getD_ext Tm.z c5 (fun j hj => hal j (by omega))
        repeat' first | refine yj fun N hN => ?_ | refine yl [] ?_ | ((first | refine ya rfl rfl fun N hN => ?_ | refine ym ?_ | refine yo ?_ | refine yp ?_); simp only [go_sem, ↓reduceIte, zA, zB, zC, zD, zE, zF, zG, zL, zM, zN, reduceCtorEq, f6, f2, f3, i4, Tryz.results83]) | (refine yg rfl ?_; try simp only [go_sem]) | ((first | refine yx hN _ _ ?_ | refine yz hN _ _ ?_); clear hN N) | clear hN N | fail
        exact hT (Tm.ext2 c1 c2 c3 e4 e5)
end Go.Proofs.YtddbidoaolnegaaGreatDoor
