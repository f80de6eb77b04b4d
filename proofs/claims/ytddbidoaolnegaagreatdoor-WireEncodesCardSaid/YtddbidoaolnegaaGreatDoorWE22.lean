/-
PART OF A CLAIM: PL, PS. No statement of the seat is proved here; no condition. -/
import Derived.Test.YtddbidoaolnegaaGreatDoorWE21
set_option linter.all false
/- Encode, by the program: the walk. No statement of the seat is proved here; no condition. -/
namespace Go.Proofs.YtddbidoaolnegaaGreatDoor
open Go Go.RowKit
open Nat renaming reduceLT → zA, reduceEqDiff → zB, reduceBEq → zC, reduceAdd → zD, reduceMul → zE, reduceSub → zF, reduceLeDiff → zG, mul_one → zH, zero_add → zI, add_zero → zJ
open Int renaming toNat_natCast → zK, reduceAdd → zL, reduceLE → zM, reduceLT → zN, natCast_nonneg → zO
open Go.Proofs.YtddbidoaolnegaaGreatDoor renaming evI_plain → ya, evI_guard → yb, evT_rd → yc, evT_rdg → yd, evT_act → ye, evT_actg → yf, evI_done → yg, evT_two → yh, evT_nil → yi, W.seqG → yj, W.block → yk, W.regionI → yl, W.cond → ym, W.skip → yn, W.ret → yo, W.exit → yp, gdD_split → yq, newT_intro → yr, newB_intro → ys, W.draw → yt, St.set_del → yu, St.give_take → yv, AGo.go → yw, IGo.go → yx, TGo.go → yy, Goes.go → yz
attribute [local go_sem] zK zP zQ zH zI zJ zO
attribute [local irreducible] W evI evT evL evOp evBin gdD Sem newT newB fillD bldOf
set_option maxRecDepth 10000
set_option maxHeartbeats 4000000

noncomputable def encE (l : List De) : En := l.foldl declE En.z
noncomputable def encBy (l : List De) : List UInt8 :=
  [66, 84, 78, 49] ++ num (encE l).names.length ++ nmB (encE l).names ++ num (encE l).levels.length ++ lvBs (encE l).levels ++ num (encE l).terms.length ++ (encE l).tb ++ num l.length ++ (encE l).db
def encBig (l : List De) : Prop := 4096 < (encE l).names.length ∨ 4096 < (encE l).levels.length ∨ 65536 < (encE l).terms.length ∨ 262144 < (encBy l).length

theorem WX.init {st : St} {m a r : Nat} (h1 : m ≠ a) (h2 : r ≠ m) (h3 : r ≠ a) :
    WX r a m En.z 0 (((st.set m (.map 177 [])).set a (.cells [.sl .nil 0 [], .map m])).set r (.cells [.nilmap, .sl .nil 0 [], .nilmap, .sl .nil 0 [], .nilmap, .sl .nil 0 [], .ptr a 0, .sl .nil 0 [], .bool false])) := by
  refine ⟨[], ⟨none, none, none, .nil, 0, .nil, 0, none, none, none⟩, ⟨?_, ⟨?_, ?_, rfl⟩, fun _ => rfl, fun _ h => (by cases h), fun _ => rfl, fun _ h => (by cases h), fun _ => rfl, fun _ h => (by cases h), fun _ => rfl, fun _ h => (by cases h), fun _ => rfl, fun _ h => (by cases h), fun _ h => (by cases h), fun _ h => (by cases h)⟩,
    ⟨by simp [En.z], by simp [En.z], by simp [En.z]⟩, AV.nil, ⟨by simp [En.z, nmB], by simp [En.z, lvBs], by simp [En.z], by simp [En.z]⟩, by simp⟩
  · rw [St.mem_set, if_pos rfl]; rfl
  · rw [St.mem_set, if_neg h3.symm, St.mem_set, if_pos rfl]; rfl
  · rw [St.mem_set, if_neg h2.symm, St.mem_set, if_neg h1, St.mem_set, if_pos rfl]; rfl

theorem sem7 (ow : Own) (l : List De) (hw : ∀ d ∈ l, d.Wf) (hlen : l.length < 140737488355328) (hcost : l.length ≤ 256 → l.all declB = true → (l.map De.cost).sum ≤ 15000) (st : St) (k : D → St → Prop)
    (h4 : 256 < l.length → ∀ st', k (.tup [.sl .nil 0 [], .int .i64 4]) st') (h1 : l.length ≤ 256 → l.all declB = false → ∀ st', k (.tup [.sl .nil 0 [], .int .i64 1]) st')
    (hB : l.length ≤ 256 → l.all declB = true → encBig l → ∀ st', k (.tup [.sl .nil 0 [], .int .i64 4]) st')
    (hk : l.length ≤ 256 → l.all declB = true → ¬ encBig l → ∀ ow st', k (.tup [.sl ow 1 (byD (encBy l)), .int .i64 0]) st') : Sem P 7 [.sl ow 15 (l.map De.d)] st k := by
  by_cases c1 : 256 < l.length
  · have e1 : (256 : Int) < l.length := by omega
    refine Sem.of_body Tryz.call7 Tryz.func7 rfl Tryz.ntmps7 (by simp) ?_
    repeat' first | refine yj fun N hN => ?_ | refine yl [] ?_ | ((first | refine ya rfl rfl fun N hN => ?_ | refine ym ?_ | refine yo ?_); simp only [go_sem, ↓reduceIte, zA, zB, zC, zD, zE, zF, zG, zL, zM, zN, reduceCtorEq, e1, Tryz.results7]) | (refine yg rfl ?_; try simp only [go_sem]) | ((first | refine yx hN _ _ ?_ | refine yz hN _ _ ?_); clear hN N) | clear hN N | fail
    all_goals exact h4 c1 _
  have e1 : ¬ (256 : Int) < l.length := by omega
  have hl256 : l.length ≤ 256 := by omega
  refine Sem.of_body Tryz.call7 Tryz.func7 rfl Tryz.ntmps7 (by simp) ?_
  repeat' first | refine yj fun N hN => ?_ | refine yk ?_ | refine yl [] ?_ | ((first | refine ya rfl rfl fun N hN => ?_ | refine ym ?_); simp only [go_sem, ↓reduceIte, zA, zB, zC, zD, zE, zF, zG, zL, zM, zN, reduceCtorEq, e1, Tryz.results7]) | ((first | refine yg rfl ?_ | refine yn ?_); try simp only [go_sem]) | ((first | refine yx hN _ _ ?_ | refine yz hN _ _ ?_); clear hN N) | fail
  refine W.loopN (fun m fr st' => st = st' ∧ ∃ i : Nat, i + m = l.length ∧ (∀ j, j < i → declB (l.getD j De.z) = true) ∧ fr 15 = .int .i64 i ∧ fr 14 = .int .i64 l.length ∧ fr 13 = .sl ow 15 (l.map De.d) ∧ fr 0 = .sl ow 15 (l.map De.d)) ?_ l.length _ _ ⟨rfl, 0, by simp, by simp, by simp only [go_sem, ↓reduceIte, zA, zB, zC, zD, zE, zF, zG, zL, zM, zN, reduceCtorEq]; rfl, by simp only [go_sem, ↓reduceIte, zA, zB, zC, zD, zE, zF, zG, zL, zM, zN, reduceCtorEq], by simp only [go_sem, ↓reduceIte, zA, zB, zC, zD, zE, zF, zG, zL, zM, zN, reduceCtorEq], by simp only [go_sem, ↓reduceIte, zA, zB, zC, zD, zE, zF, zG, zL, zM, zN, reduceCtorEq]⟩
  rintro m N' ih fr _ ⟨rfl, i, hi, hal, f15, f14, f13, f0⟩
  rcases Nat.lt_or_ge i l.length with hlt | hge
  · have hg : (l.map De.d).getD i .any = (l.getD i De.z).d := getD_map _ _ _ hlt
    have i4 : (i : Int) < l.length := by omega
    have hmx := getD_mem l De.z hlt
    cases hb : declB (l.getD i De.z) with
    | true =>
      repeat' first | rw [yu hr] | refine yj fun N hN => ?_ | refine yk ?_ | refine yl [] ?_ | ((first | refine ya rfl rfl fun N hN => ?_ | refine ym ?_); simp only [go_sem, ↓reduceIte, zA, zB, zC, zD, zE, zF, zG, zL, zM, zN, reduceCtorEq, f15, f14, f13, f0, hg, hlt, i4, hb, Tryz.results7]) | ((first | refine yg rfl ?_ | refine yn ?_); try simp only [go_sem]) | ((first | refine yx hN _ _ ?_ | refine yz hN _ _ ?_); clear hN N) | (refine sem9 _ (hw _ hmx) _ _ ?_; try simp only [go_sem, ↓reduceIte, zA, zB, zC, zD, zE, zF, zG, zL, zM, zN, reduceCtorEq, f15, f14, f13, f0, hg, hlt, i4, hb]) | ((refine ys fun r hr => ?_; (try have hrn := (St.set_none hr).1); (try have hrn2 := Ne.symm (St.set_none hr).1)); try simp only [go_sem, ↓reduceIte, zA, zB, zC, zD, zE, zF, zG, zL, zM, zN, reduceCtorEq, f15, f14, f13, f0, hg, hlt, i4, hb]) | (refine And.intro ?_ ?_; · omega) | clear hN N | fail
      refine ih.back (m - 1) (by omega) _ _ ⟨rfl, i + 1, by omega, lt_succ_all hal hb, ?_, ?_, ?_, ?_⟩
      · simp only [go_sem, ↓reduceIte, zA, zB, zC, zD, zE, zF, zG, zL, zM, zN, reduceCtorEq]; rfl
      · simp only [go_sem, ↓reduceIte, zA, zB, zC, zD, zE, zF, zG, zL, zM, zN, reduceCtorEq, f14]
      · simp only [go_sem, ↓reduceIte, zA, zB, zC, zD, zE, zF, zG, zL, zM, zN, reduceCtorEq, f13]
      · simp only [go_sem, ↓reduceIte, zA, zB, zC, zD, zE, zF, zG, zL, zM, zN, reduceCtorEq, f0]
    | false =>
      have hbad := all_badG De.z hlt hb
      repeat' first | rw [yu hr] | refine yj fun N hN => ?_ | refine yk ?_ | refine yl [] ?_ | ((first | refine ya rfl rfl fun N hN => ?_ | refine ym ?_ | refine yo ?_); simp only [go_sem, ↓reduceIte, zA, zB, zC, zD, zE, zF, zG, zL, zM, zN, reduceCtorEq, f15, f14, f13, f0, hg, hlt, i4, hb, Tryz.results7]) | ((first | refine yg rfl ?_ | refine yn ?_); try simp only [go_sem]) | ((first | refine yx hN _ _ ?_ | refine yz hN _ _ ?_); clear hN N) | (refine sem9 _ (hw _ hmx) _ _ ?_; try simp only [go_sem, ↓reduceIte, zA, zB, zC, zD, zE, zF, zG, zL, zM, zN, reduceCtorEq, f15, f14, f13, f0, hg, hlt, i4, hb]) | ((refine ys fun r hr => ?_; (try have hrn := (St.set_none hr).1); (try have hrn2 := Ne.symm (St.set_none hr).1)); try simp only [go_sem, ↓reduceIte, zA, zB, zC, zD, zE, zF, zG, zL, zM, zN, reduceCtorEq, f15, f14, f13, f0, hg, hlt, i4, hb]) | clear hN N | fail
      all_goals exact h1 hl256 hbad _
  · have i4 : ¬ (i : Int) < l.length := by omega
    have hall := all_goodG De.z (q := declB) (fun j hj => hal j (by omega))
    have hc := hcost hl256 hall
    replace hB := hB hl256 hall
    replace hk := hk hl256 hall
    clear hcost h1 h4 hal
    repeat' first | refine yj fun N hN => ?_ | refine yl [25, 36] ?_ | ((first | refine ya rfl rfl fun N hN => ?_ | refine ym ?_ | refine yp ?_); simp only [go_sem, ↓reduceIte, zA, zB, zC, zD, zE, zF, zG, zL, zM, zN, reduceCtorEq, f15, f14, f13, f0, i4, Tryz.results7]) | (refine yg rfl ?_; try simp only [go_sem]) | ((first | refine yx hN _ _ ?_ | refine yz hN _ _ ?_); clear hN N) | clear hN N | fail
    refine sem17 _ _ (fun m1 a1 q1 q2 q3 => ?_)
    have w1 : (st.set m1 (.map 177 [])).mem a1 = none := by rw [St.mem_set, if_neg q3.symm]; exact q2
    repeat' first | refine yj fun N hN => ?_ | refine yk ?_ | refine yl [25, 36] ?_ | (refine ya rfl rfl fun N hN => ?_; simp only [go_sem, ↓reduceIte, zA, zB, zC, zD, zE, zF, zG, zL, zM, zN, reduceCtorEq, f15, f14, f13, f0, i4, Tryz.results7]) | (refine yg rfl ?_; try simp only [go_sem]) | ((first | refine yx hN _ _ ?_ | refine yz hN _ _ ?_); clear hN N) | ((refine ys fun r hr => ?_; (try have hrn := (St.set_none hr).1); (try have hrn2 := Ne.symm (St.set_none hr).1)); try simp only [go_sem, ↓reduceIte, zA, zB, zC, zD, zE, zF, zG, zL, zM, zN, reduceCtorEq, f15, f14, f13, f0, i4]) | fail
    have r1 : r ≠ a1 := (St.set_none hr).1
    have r2 : r ≠ m1 := (St.set_none (St.set_none hr).2).1
    refine W.loopN (fun m fr st' => ∃ i : Nat, WX r a1 m1 ((l.take i).foldl declE En.z) ((l.take i).map De.cost).sum st' ∧ i + m = l.length ∧ fr 28 = .int .i64 i ∧ fr 27 = .int .i64 l.length ∧ fr 26 = .sl ow 15 (l.map De.d) ∧ fr 6 = .ptr r 0 ∧ fr 0 = .sl ow 15 (l.map De.d)) ?_ l.length _ _
      ⟨0, WX.init q3 r2 r1, by simp, by simp only [go_sem, ↓reduceIte, zA, zB, zC, zD, zE, zF, zG, zL, zM, zN, reduceCtorEq]; rfl, by simp only [go_sem, ↓reduceIte, zA, zB, zC, zD, zE, zF, zG, zL, zM, zN, reduceCtorEq], by simp only [go_sem, ↓reduceIte, zA, zB, zC, zD, zE, zF, zG, zL, zM, zN, reduceCtorEq], by simp only [go_sem, ↓reduceIte, zA, zB, zC, zD, zE, zF, zG, zL, zM, zN, reduceCtorEq], by simp only [go_sem, ↓reduceIte, zA, zB, zC, zD, zE, zF, zG, zL, zM, zN, reduceCtorEq, f0]⟩
    clear f15 f14 f13 f0 i4 hi hge ih
    rintro m N' ih fr st' ⟨i, hX, hi, f28, f27, f26, f6, f0⟩
    rcases Nat.lt_or_ge i l.length with hlt | hge
    · have hg : (l.map De.d).getD i .any = (l.getD i De.z).d := getD_map _ _ _ hlt
      have i4 : (i : Int) < l.length := by omega
      have hmx := getD_mem l De.z hlt
      have hcs := map_sum_take De.cost l De.z hlt
      have hfold := foldl_take declE En.z l De.z hlt
      have hdb : declB (l.getD i De.z) = true := by rw [List.all_eq_true] at hall; exact hall _ hmx
      repeat' first | rw [yu hr] | refine yj fun N hN => ?_ | refine yk ?_ | refine yl [] ?_ | ((first | refine ya rfl rfl fun N hN => ?_ | refine ym ?_); simp only [go_sem, ↓reduceIte, zA, zB, zC, zD, zE, zF, zG, zL, zM, zN, reduceCtorEq, f28, f27, f26, f6, f0, hg, hlt, i4, Tryz.results7]) | ((first | refine yg rfl ?_ | refine yn ?_); try simp only [go_sem]) | ((first | refine yx hN _ _ ?_ | refine yz hN _ _ ?_); clear hN N) | (refine sem18 _ (hw _ hmx) hdb _ _ _ _ _ _ hX (by omega) _ (fun st' hX => ?_); try simp only [go_sem, ↓reduceIte, zA, zB, zC, zD, zE, zF, zG, zL, zM, zN, reduceCtorEq, f28, f27, f26, f6, f0, hg, hlt, i4]) | ((refine ys fun r hr => ?_; (try have hrn := (St.set_none hr).1); (try have hrn2 := Ne.symm (St.set_none hr).1)); try simp only [go_sem, ↓reduceIte, zA, zB, zC, zD, zE, zF, zG, zL, zM, zN, reduceCtorEq, f28, f27, f26, f6, f0, hg, hlt, i4]) | (refine And.intro ?_ ?_; · omega) | clear hN N | fail
      refine ih.back (m - 1) (by omega) _ _ ⟨i + 1, by rw [hfold, hcs.1]; exact hX, by omega, ?_, ?_, ?_, ?_, ?_⟩
      · simp only [go_sem, ↓reduceIte, zA, zB, zC, zD, zE, zF, zG, zL, zM, zN, reduceCtorEq]; rfl
      · simp only [go_sem, ↓reduceIte, zA, zB, zC, zD, zE, zF, zG, zL, zM, zN, reduceCtorEq, f27]
      · simp only [go_sem, ↓reduceIte, zA, zB, zC, zD, zE, zF, zG, zL, zM, zN, reduceCtorEq, f26]
      · simp only [go_sem, ↓reduceIte, zA, zB, zC, zD, zE, zF, zG, zL, zM, zN, reduceCtorEq, f6]
      · simp only [go_sem, ↓reduceIte, zA, zB, zC, zD, zE, zF, zG, zL, zM, zN, reduceCtorEq, f0]
    · have i4 : ¬ (i : Int) < l.length := by omega
      rw [List.take_of_length_le hge] at hX
      obtain ⟨A, c, hS, hE, hv, hz, hAl⟩ := hX
      have hw0 := hS.w
      rw [wCells] at hw0
      have zn := hz.nm
      have zl := hz.l
      have zt := hz.t
      have zd := hz.d
      generalize hEE : List.foldl declE En.z l = e at *
      have hE2 : encE l = e := hEE
      have wn := wrap_u64 (n := e.names.length) (by omega)
      have wl := wrap_u64 (n := e.levels.length) (by omega)
      have wt := wrap_u64 (n := e.terms.length) (by omega)
      have ww := wrap_u64 (n := l.length) (by omega)
      have nn := num_len64 (n := e.names.length) (by omega)
      have nl := num_len64 (n := e.levels.length) (by omega)
      have nt := num_len64 (n := e.terms.length) (by omega)
      have nw := num_len64 (n := l.length) (by omega)
      have hap : ∀ a b : List UInt8, byD a ++ byD b = byD (a ++ b) := fun a b => (byD_append a b).symm
      have hd4 : [D.int .u8 66, D.int .u8 84, D.int .u8 78, D.int .u8 49] = byD [66, 84, 78, 49] := rfl
      obtain ⟨tw, tz, htb, _⟩ := bD_sl hS.b0
      obtain ⟨dw, dz, hdb, _⟩ := bD_sl hS.d0
      rw [htb, hdb] at hw0
      have hcn : (c.rn = none ∧ e.names = []) ∨ ∃ x, c.rn = some x ∧ st'.mem x = some (.map 9 (nent e.names)) := by
        cases h : c.rn with
        | none => exact .inl ⟨rfl, hS.n0 h⟩
        | some x => exact .inr ⟨x, rfl, hS.n1 x h⟩
      have hcl : (c.rl = none ∧ e.levels = []) ∨ ∃ x, c.rl = some x ∧ st'.mem x = some (.map 78 (lent e.levels)) := by
        cases h : c.rl with
        | none => exact .inl ⟨rfl, hS.l0 h⟩
        | some x => exact .inr ⟨x, rfl, hS.l1 x h⟩
      have hct : (c.rt = none ∧ e.terms = []) ∨ ∃ x, c.rt = some x ∧ st'.mem x = some (.map 3 (tent A e.terms)) := by
        cases h : c.rt with
        | none => exact .inl ⟨rfl, hS.t0 h⟩
        | some x => exact .inr ⟨x, rfl, hS.t1 x h⟩
      have ln : ((nent e.names).length : Int) = e.names.length := by simp [nent]
      have ll : ((lent e.levels).length : Int) = e.levels.length := by simp [lent]
      have lt : ((tent A e.terms).length : Int) = e.terms.length := by simp [tent]
      rw [encBig, encBy, hE2] at hB hk
      have w0 : IntKind.u64.wrap 0 = ((0 : Nat) : Int) := rfl
      rcases hcn with ⟨a2, a3⟩ | ⟨x1, a2, a3⟩
      · have an : e.names.length = 0 := by rw [a3]; rfl
        replace a3 : True := trivial
        rw [a2, show mapD none = .nilmap from rfl] at hw0
        rw [an] at hB hk nn
        rcases hcl with ⟨b2, b3⟩ | ⟨x2, b2, b3⟩
        · have bn : e.levels.length = 0 := by rw [b3]; rfl
          replace b3 : True := trivial
          rw [b2, show mapD none = .nilmap from rfl] at hw0
          rw [bn] at hB hk nl
          rcases hct with ⟨c2, c3⟩ | ⟨x3, c2, c3⟩
          · have cn : e.terms.length = 0 := by rw [c3]; rfl
            replace c3 : True := trivial
            rw [c2, show mapD none = .nilmap from rfl] at hw0
            rw [cn] at hB hk nt
            repeat' first | refine yj fun N hN => ?_ | refine yl [36] ?_ | ((first | refine ya rfl rfl fun N hN => ?_ | refine yb rfl rfl rfl rfl fun N hN => ?_ | refine yc rfl rfl fun N hN => ?_ | refine ye rfl rfl fun N hN => ?_ | (refine yw hN _ _ ?_; clear hN N) | refine ym ?_ | refine yo ?_ | refine yp ?_); simp only [go_sem, ↓reduceIte, zA, zB, zC, zD, zE, zF, zG, zL, zM, zN, reduceCtorEq, f28, f27, f26, f6, f0, i4, hw0, a3, b3, c3, ln, ll, lt, wn, wl, wt, ww, w0, hd4, hap, Tryz.results7]) | ((first | refine yg rfl ?_ | refine yn ?_ | refine yi ?_); try simp only [go_sem]) | ((first | refine yx hN _ _ ?_ | refine yz hN _ _ ?_ | refine yy hN _ ?_); clear hN N) | refine yt (id := 16) mixed [36] (.rd 0 (.rd 1 (.rd 2 (.rd 3 (.rd 4 (.rd 5 (.rd 7 (.rd 8 (.rd 9 (.rd 10 (.rd 11 (.act 6 [11, 10, 9, 8, 7] (.act 12 [] (.act 13 [] (.act 14 [] (.act 15 [] (.nil))))))))))))))))) (by kernel_rfl) ?_ | refine yt (id := 17) mixed [36] (.rd 0 (.rd 1 (.rd 2 (.rd 3 (.rd 4 (.rd 5 (.rd 7 (.rd 8 (.rd 9 (.rd 10 (.rd 11 (.act 6 [11, 10, 9, 8, 7] (.act 12 [] (.act 13 [] (.act 14 [] (.act 15 [] (.nil))))))))))))))))) (by kernel_rfl) ?_ | (refine sem19 _ _ _ _ _ _ (by simp only [List.length_append, List.length_cons, List.length_nil]; omega) (by omega) fun j hj => ?_; try simp only [go_sem, ↓reduceIte, zA, zB, zC, zD, zE, zF, zG, zL, zM, zN, reduceCtorEq, f28, f27, f26, f6, f0, i4, hw0, a3, b3, c3, ln, ll, lt, wn, wl, wt, ww, w0, hd4, hap]) | rw [yv hj] | ((apply And.intro <;> intro h) <;> (try simp only [zS, zT, zU, zV, Bool.not_true, Bool.not_false] at h) <;> (first | (exfalso; omega) | simp only [go_sem, ↓reduceIte, zA, zB, zC, zD, zE, zF, zG, zL, zM, zN, reduceCtorEq, f28, f27, f26, f6, f0, i4, hw0, a3, b3, c3, ln, ll, lt, wn, wl, wt, ww, w0, hd4, hap, h] | skip)) | ((refine yr fun j hj => ?_; (try have hj0 := St.tok_of_give hj)); try simp only [go_sem, ↓reduceIte, zA, zB, zC, zD, zE, zF, zG, zL, zM, zN, reduceCtorEq, f28, f27, f26, f6, f0, i4, hw0, a3, b3, c3, ln, ll, lt, wn, wl, wt, ww, w0, hd4, hap]) | (refine And.intro ?_ ?_; · omega) | clear hN N | fail
            all_goals first
              | exact hB (.inl (by omega)) _
              | exact hB (.inr (.inl (by omega))) _
              | (refine hB (.inr (.inr (.inr ?_))) _; simp only [List.length_append, List.length_cons, List.length_nil] at h ⊢; omega)
              | (refine hk ?_ _ _
                 rintro (q | q | q | q)
                 · omega
                 · omega
                 · omega
                 · simp only [List.length_append, List.length_cons, List.length_nil] at h q; omega)
          · rw [c2, show mapD (some x3) = .map x3 from rfl] at hw0
            repeat' first | refine yj fun N hN => ?_ | refine yl [36] ?_ | ((first | refine ya rfl rfl fun N hN => ?_ | refine yb rfl rfl rfl rfl fun N hN => ?_ | refine yc rfl rfl fun N hN => ?_ | refine ye rfl rfl fun N hN => ?_ | (refine yw hN _ _ ?_; clear hN N) | refine ym ?_ | refine yo ?_ | refine yp ?_); simp only [go_sem, ↓reduceIte, zA, zB, zC, zD, zE, zF, zG, zL, zM, zN, reduceCtorEq, f28, f27, f26, f6, f0, i4, hw0, a3, b3, c3, ln, ll, lt, wn, wl, wt, ww, w0, hd4, hap, Tryz.results7]) | ((first | refine yg rfl ?_ | refine yn ?_ | refine yi ?_); try simp only [go_sem]) | ((first | refine yx hN _ _ ?_ | refine yz hN _ _ ?_ | refine yy hN _ ?_); clear hN N) | refine yt (id := 16) mixed [36] (.rd 0 (.rd 1 (.rd 2 (.rd 3 (.rd 4 (.rd 5 (.rd 7 (.rd 8 (.rd 9 (.rd 10 (.rd 11 (.act 6 [11, 10, 9, 8, 7] (.act 12 [] (.act 13 [] (.act 14 [] (.act 15 [] (.nil))))))))))))))))) (by kernel_rfl) ?_ | refine yt (id := 17) mixed [36] (.rd 0 (.rd 1 (.rd 2 (.rd 3 (.rd 4 (.rd 5 (.rd 7 (.rd 8 (.rd 9 (.rd 10 (.rd 11 (.act 6 [11, 10, 9, 8, 7] (.act 12 [] (.act 13 [] (.act 14 [] (.act 15 [] (.nil))))))))))))))))) (by kernel_rfl) ?_ | (refine sem19 _ _ _ _ _ _ (by simp only [List.length_append, List.length_cons, List.length_nil]; omega) (by omega) fun j hj => ?_; try simp only [go_sem, ↓reduceIte, zA, zB, zC, zD, zE, zF, zG, zL, zM, zN, reduceCtorEq, f28, f27, f26, f6, f0, i4, hw0, a3, b3, c3, ln, ll, lt, wn, wl, wt, ww, w0, hd4, hap]) | rw [yv hj] | ((first | refine yq (fun h => ?_) (fun h => ?_) | (apply And.intro <;> intro h)) <;> (try simp only [zS, zT, zU, zV, Bool.not_true, Bool.not_false] at h) <;> (first | (exfalso; omega) | simp only [go_sem, ↓reduceIte, zA, zB, zC, zD, zE, zF, zG, zL, zM, zN, reduceCtorEq, f28, f27, f26, f6, f0, i4, hw0, a3, b3, c3, ln, ll, lt, wn, wl, wt, ww, w0, hd4, hap, h] | skip)) | ((refine yr fun j hj => ?_; (try have hj0 := St.tok_of_give hj)); try simp only [go_sem, ↓reduceIte, zA, zB, zC, zD, zE, zF, zG, zL, zM, zN, reduceCtorEq, f28, f27, f26, f6, f0, i4, hw0, a3, b3, c3, ln, ll, lt, wn, wl, wt, ww, w0, hd4, hap]) | (refine And.intro ?_ ?_; · omega) | clear hN N | fail
            all_goals first
              | exact hB (.inl (by omega)) _
              | exact hB (.inr (.inl (by omega))) _
              | (refine hB (.inr (.inr (.inr ?_))) _; simp only [List.length_append, List.length_cons, List.length_nil] at h ⊢; omega)
              | (refine hk ?_ _ _
                 rintro (q | q | q | q)
                 · omega
                 · omega
                 · omega
                 · simp only [List.length_append, List.length_cons, List.length_nil] at h q; omega)
        · rw [b2, show mapD (some x2) = .map x2 from rfl] at hw0
          rcases hct with ⟨c2, c3⟩ | ⟨x3, c2, c3⟩
          · have cn : e.terms.length = 0 := by rw [c3]; rfl
            replace c3 : True := trivial
            rw [c2, show mapD none = .nilmap from rfl] at hw0
            rw [cn] at hB hk nt
            repeat' first | refine yj fun N hN => ?_ | refine yl [36] ?_ | ((first | refine ya rfl rfl fun N hN => ?_ | refine yb rfl rfl rfl rfl fun N hN => ?_ | refine yc rfl rfl fun N hN => ?_ | refine ye rfl rfl fun N hN => ?_ | (refine yw hN _ _ ?_; clear hN N) | refine ym ?_ | refine yo ?_ | refine yp ?_); simp only [go_sem, ↓reduceIte, zA, zB, zC, zD, zE, zF, zG, zL, zM, zN, reduceCtorEq, f28, f27, f26, f6, f0, i4, hw0, a3, b3, c3, ln, ll, lt, wn, wl, wt, ww, w0, hd4, hap, Tryz.results7]) | ((first | refine yg rfl ?_ | refine yn ?_ | refine yi ?_); try simp only [go_sem]) | ((first | refine yx hN _ _ ?_ | refine yz hN _ _ ?_ | refine yy hN _ ?_); clear hN N) | refine yt (id := 16) mixed [36] (.rd 0 (.rd 1 (.rd 2 (.rd 3 (.rd 4 (.rd 5 (.rd 7 (.rd 8 (.rd 9 (.rd 10 (.rd 11 (.act 6 [11, 10, 9, 8, 7] (.act 12 [] (.act 13 [] (.act 14 [] (.act 15 [] (.nil))))))))))))))))) (by kernel_rfl) ?_ | refine yt (id := 17) mixed [36] (.rd 0 (.rd 1 (.rd 2 (.rd 3 (.rd 4 (.rd 5 (.rd 7 (.rd 8 (.rd 9 (.rd 10 (.rd 11 (.act 6 [11, 10, 9, 8, 7] (.act 12 [] (.act 13 [] (.act 14 [] (.act 15 [] (.nil))))))))))))))))) (by kernel_rfl) ?_ | (refine sem19 _ _ _ _ _ _ (by simp only [List.length_append, List.length_cons, List.length_nil]; omega) (by omega) fun j hj => ?_; try simp only [go_sem, ↓reduceIte, zA, zB, zC, zD, zE, zF, zG, zL, zM, zN, reduceCtorEq, f28, f27, f26, f6, f0, i4, hw0, a3, b3, c3, ln, ll, lt, wn, wl, wt, ww, w0, hd4, hap]) | rw [yv hj] | ((first | refine yq (fun h => ?_) (fun h => ?_) | (apply And.intro <;> intro h)) <;> (try simp only [zS, zT, zU, zV, Bool.not_true, Bool.not_false] at h) <;> (first | (exfalso; omega) | simp only [go_sem, ↓reduceIte, zA, zB, zC, zD, zE, zF, zG, zL, zM, zN, reduceCtorEq, f28, f27, f26, f6, f0, i4, hw0, a3, b3, c3, ln, ll, lt, wn, wl, wt, ww, w0, hd4, hap, h] | skip)) | ((refine yr fun j hj => ?_; (try have hj0 := St.tok_of_give hj)); try simp only [go_sem, ↓reduceIte, zA, zB, zC, zD, zE, zF, zG, zL, zM, zN, reduceCtorEq, f28, f27, f26, f6, f0, i4, hw0, a3, b3, c3, ln, ll, lt, wn, wl, wt, ww, w0, hd4, hap]) | (refine And.intro ?_ ?_; · omega) | clear hN N | fail
            all_goals first
              | exact hB (.inl (by omega)) _
              | exact hB (.inr (.inl (by omega))) _
              | (refine hB (.inr (.inr (.inr ?_))) _; simp only [List.length_append, List.length_cons, List.length_nil] at h ⊢; omega)
              | (refine hk ?_ _ _
                 rintro (q | q | q | q)
                 · omega
                 · omega
                 · omega
                 · simp only [List.length_append, List.length_cons, List.length_nil] at h q; omega)
          · rw [c2, show mapD (some x3) = .map x3 from rfl] at hw0
            repeat' first | refine yj fun N hN => ?_ | refine yl [36] ?_ | ((first | refine ya rfl rfl fun N hN => ?_ | refine yb rfl rfl rfl rfl fun N hN => ?_ | refine yc rfl rfl fun N hN => ?_ | refine ye rfl rfl fun N hN => ?_ | (refine yw hN _ _ ?_; clear hN N) | refine ym ?_ | refine yo ?_ | refine yp ?_); simp only [go_sem, ↓reduceIte, zA, zB, zC, zD, zE, zF, zG, zL, zM, zN, reduceCtorEq, f28, f27, f26, f6, f0, i4, hw0, a3, b3, c3, ln, ll, lt, wn, wl, wt, ww, w0, hd4, hap, Tryz.results7]) | ((first | refine yg rfl ?_ | refine yn ?_ | refine yi ?_); try simp only [go_sem]) | ((first | refine yx hN _ _ ?_ | refine yz hN _ _ ?_ | refine yy hN _ ?_); clear hN N) | refine yt (id := 16) mixed [36] (.rd 0 (.rd 1 (.rd 2 (.rd 3 (.rd 4 (.rd 5 (.rd 7 (.rd 8 (.rd 9 (.rd 10 (.rd 11 (.act 6 [11, 10, 9, 8, 7] (.act 12 [] (.act 13 [] (.act 14 [] (.act 15 [] (.nil))))))))))))))))) (by kernel_rfl) ?_ | refine yt (id := 17) mixed [36] (.rd 0 (.rd 1 (.rd 2 (.rd 3 (.rd 4 (.rd 5 (.rd 7 (.rd 8 (.rd 9 (.rd 10 (.rd 11 (.act 6 [11, 10, 9, 8, 7] (.act 12 [] (.act 13 [] (.act 14 [] (.act 15 [] (.nil))))))))))))))))) (by kernel_rfl) ?_ | (refine sem19 _ _ _ _ _ _ (by simp only [List.length_append, List.length_cons, List.length_nil]; omega) (by omega) fun j hj => ?_; try simp only [go_sem, ↓reduceIte, zA, zB, zC, zD, zE, zF, zG, zL, zM, zN, reduceCtorEq, f28, f27, f26, f6, f0, i4, hw0, a3, b3, c3, ln, ll, lt, wn, wl, wt, ww, w0, hd4, hap]) | rw [yv hj] | ((first | refine yq (fun h => ?_) (fun h => ?_) | (apply And.intro <;> intro h)) <;> (try simp only [zS, zT, zU, zV, Bool.not_true, Bool.not_false] at h) <;> (first | (exfalso; omega) | simp only [go_sem, ↓reduceIte, zA, zB, zC, zD, zE, zF, zG, zL, zM, zN, reduceCtorEq, f28, f27, f26, f6, f0, i4, hw0, a3, b3, c3, ln, ll, lt, wn, wl, wt, ww, w0, hd4, hap, h] | skip)) | ((refine yr fun j hj => ?_; (try have hj0 := St.tok_of_give hj)); try simp only [go_sem, ↓reduceIte, zA, zB, zC, zD, zE, zF, zG, zL, zM, zN, reduceCtorEq, f28, f27, f26, f6, f0, i4, hw0, a3, b3, c3, ln, ll, lt, wn, wl, wt, ww, w0, hd4, hap]) | (refine And.intro ?_ ?_; · omega) | clear hN N | fail
            all_goals first
              | exact hB (.inl (by omega)) _
              | exact hB (.inr (.inl (by omega))) _
              | (refine hB (.inr (.inr (.inr ?_))) _; simp only [List.length_append, List.length_cons, List.length_nil] at h ⊢; omega)
              | (refine hk ?_ _ _
                 rintro (q | q | q | q)
                 · omega
                 · omega
                 · omega
                 · simp only [List.length_append, List.length_cons, List.length_nil] at h q; omega)
      · rw [a2, show mapD (some x1) = .map x1 from rfl] at hw0
        rcases hcl with ⟨b2, b3⟩ | ⟨x2, b2, b3⟩
        · have bn : e.levels.length = 0 := by rw [b3]; rfl
          replace b3 : True := trivial
          rw [b2, show mapD none = .nilmap from rfl] at hw0
          rw [bn] at hB hk nl
          rcases hct with ⟨c2, c3⟩ | ⟨x3, c2, c3⟩
          · have cn : e.terms.length = 0 := by rw [c3]; rfl
            replace c3 : True := trivial
            rw [c2, show mapD none = .nilmap from rfl] at hw0
            rw [cn] at hB hk nt
            repeat' first | refine yj fun N hN => ?_ | refine yl [36] ?_ | ((first | refine ya rfl rfl fun N hN => ?_ | refine yb rfl rfl rfl rfl fun N hN => ?_ | refine yc rfl rfl fun N hN => ?_ | refine ye rfl rfl fun N hN => ?_ | (refine yw hN _ _ ?_; clear hN N) | refine ym ?_ | refine yo ?_ | refine yp ?_); simp only [go_sem, ↓reduceIte, zA, zB, zC, zD, zE, zF, zG, zL, zM, zN, reduceCtorEq, f28, f27, f26, f6, f0, i4, hw0, a3, b3, c3, ln, ll, lt, wn, wl, wt, ww, w0, hd4, hap, Tryz.results7]) | ((first | refine yg rfl ?_ | refine yn ?_ | refine yi ?_); try simp only [go_sem]) | ((first | refine yx hN _ _ ?_ | refine yz hN _ _ ?_ | refine yy hN _ ?_); clear hN N) | refine yt (id := 16) mixed [36] (.rd 0 (.rd 1 (.rd 2 (.rd 3 (.rd 4 (.rd 5 (.rd 7 (.rd 8 (.rd 9 (.rd 10 (.rd 11 (.act 6 [11, 10, 9, 8, 7] (.act 12 [] (.act 13 [] (.act 14 [] (.act 15 [] (.nil))))))))))))))))) (by kernel_rfl) ?_ | refine yt (id := 17) mixed [36] (.rd 0 (.rd 1 (.rd 2 (.rd 3 (.rd 4 (.rd 5 (.rd 7 (.rd 8 (.rd 9 (.rd 10 (.rd 11 (.act 6 [11, 10, 9, 8, 7] (.act 12 [] (.act 13 [] (.act 14 [] (.act 15 [] (.nil))))))))))))))))) (by kernel_rfl) ?_ | (refine sem19 _ _ _ _ _ _ (by simp only [List.length_append, List.length_cons, List.length_nil]; omega) (by omega) fun j hj => ?_; try simp only [go_sem, ↓reduceIte, zA, zB, zC, zD, zE, zF, zG, zL, zM, zN, reduceCtorEq, f28, f27, f26, f6, f0, i4, hw0, a3, b3, c3, ln, ll, lt, wn, wl, wt, ww, w0, hd4, hap]) | rw [yv hj] | ((first | refine yq (fun h => ?_) (fun h => ?_) | (apply And.intro <;> intro h)) <;> (try simp only [zS, zT, zU, zV, Bool.not_true, Bool.not_false] at h) <;> (first | (exfalso; omega) | simp only [go_sem, ↓reduceIte, zA, zB, zC, zD, zE, zF, zG, zL, zM, zN, reduceCtorEq, f28, f27, f26, f6, f0, i4, hw0, a3, b3, c3, ln, ll, lt, wn, wl, wt, ww, w0, hd4, hap, h] | skip)) | ((refine yr fun j hj => ?_; (try have hj0 := St.tok_of_give hj)); try simp only [go_sem, ↓reduceIte, zA, zB, zC, zD, zE, zF, zG, zL, zM, zN, reduceCtorEq, f28, f27, f26, f6, f0, i4, hw0, a3, b3, c3, ln, ll, lt, wn, wl, wt, ww, w0, hd4, hap]) | (refine And.intro ?_ ?_; · omega) | clear hN N | fail
            all_goals first
              | exact hB (.inl (by omega)) _
              | exact hB (.inr (.inl (by omega))) _
              | (refine hB (.inr (.inr (.inr ?_))) _; simp only [List.length_append, List.length_cons, List.length_nil] at h ⊢; omega)
              | (refine hk ?_ _ _
                 rintro (q | q | q | q)
                 · omega
                 · omega
                 · omega
                 · simp only [List.length_append, List.length_cons, List.length_nil] at h q; omega)
          · rw [c2, show mapD (some x3) = .map x3 from rfl] at hw0
            repeat' first | refine yj fun N hN => ?_ | refine yl [36] ?_ | ((first | refine ya rfl rfl fun N hN => ?_ | refine yb rfl rfl rfl rfl fun N hN => ?_ | refine yc rfl rfl fun N hN => ?_ | refine ye rfl rfl fun N hN => ?_ | (refine yw hN _ _ ?_; clear hN N) | refine ym ?_ | refine yo ?_ | refine yp ?_); simp only [go_sem, ↓reduceIte, zA, zB, zC, zD, zE, zF, zG, zL, zM, zN, reduceCtorEq, f28, f27, f26, f6, f0, i4, hw0, a3, b3, c3, ln, ll, lt, wn, wl, wt, ww, w0, hd4, hap, Tryz.results7]) | ((first | refine yg rfl ?_ | refine yn ?_ | refine yi ?_); try simp only [go_sem]) | ((first | refine yx hN _ _ ?_ | refine yz hN _ _ ?_ | refine yy hN _ ?_); clear hN N) | refine yt (id := 16) mixed [36] (.rd 0 (.rd 1 (.rd 2 (.rd 3 (.rd 4 (.rd 5 (.rd 7 (.rd 8 (.rd 9 (.rd 10 (.rd 11 (.act 6 [11, 10, 9, 8, 7] (.act 12 [] (.act 13 [] (.act 14 [] (.act 15 [] (.nil))))))))))))))))) (by kernel_rfl) ?_ | refine yt (id := 17) mixed [36] (.rd 0 (.rd 1 (.rd 2 (.rd 3 (.rd 4 (.rd 5 (.rd 7 (.rd 8 (.rd 9 (.rd 10 (.rd 11 (.act 6 [11, 10, 9, 8, 7] (.act 12 [] (.act 13 [] (.act 14 [] (.act 15 [] (.nil))))))))))))))))) (by kernel_rfl) ?_ | (refine sem19 _ _ _ _ _ _ (by simp only [List.length_append, List.length_cons, List.length_nil]; omega) (by omega) fun j hj => ?_; try simp only [go_sem, ↓reduceIte, zA, zB, zC, zD, zE, zF, zG, zL, zM, zN, reduceCtorEq, f28, f27, f26, f6, f0, i4, hw0, a3, b3, c3, ln, ll, lt, wn, wl, wt, ww, w0, hd4, hap]) | rw [yv hj] | ((first | refine yq (fun h => ?_) (fun h => ?_) | (apply And.intro <;> intro h)) <;> (try simp only [zS, zT, zU, zV, Bool.not_true, Bool.not_false] at h) <;> (first | (exfalso; omega) | simp only [go_sem, ↓reduceIte, zA, zB, zC, zD, zE, zF, zG, zL, zM, zN, reduceCtorEq, f28, f27, f26, f6, f0, i4, hw0, a3, b3, c3, ln, ll, lt, wn, wl, wt, ww, w0, hd4, hap, h] | skip)) | ((refine yr fun j hj => ?_; (try have hj0 := St.tok_of_give hj)); try simp only [go_sem, ↓reduceIte, zA, zB, zC, zD, zE, zF, zG, zL, zM, zN, reduceCtorEq, f28, f27, f26, f6, f0, i4, hw0, a3, b3, c3, ln, ll, lt, wn, wl, wt, ww, w0, hd4, hap]) | (refine And.intro ?_ ?_; · omega) | clear hN N | fail
            all_goals first
              | exact hB (.inl (by omega)) _
              | exact hB (.inr (.inl (by omega))) _
              | (refine hB (.inr (.inr (.inr ?_))) _; simp only [List.length_append, List.length_cons, List.length_nil] at h ⊢; omega)
              | (refine hk ?_ _ _
                 rintro (q | q | q | q)
                 · omega
                 · omega
                 · omega
                 · simp only [List.length_append, List.length_cons, List.length_nil] at h q; omega)
        · rw [b2, show mapD (some x2) = .map x2 from rfl] at hw0
          rcases hct with ⟨c2, c3⟩ | ⟨x3, c2, c3⟩
          · have cn : e.terms.length = 0 := by rw [c3]; rfl
            replace c3 : True := trivial
            rw [c2, show mapD none = .nilmap from rfl] at hw0
            rw [cn] at hB hk nt
            repeat' first | refine yj fun N hN => ?_ | refine yl [36] ?_ | ((first | refine ya rfl rfl fun N hN => ?_ | refine yb rfl rfl rfl rfl fun N hN => ?_ | refine yc rfl rfl fun N hN => ?_ | refine ye rfl rfl fun N hN => ?_ | (refine yw hN _ _ ?_; clear hN N) | refine ym ?_ | refine yo ?_ | refine yp ?_); simp only [go_sem, ↓reduceIte, zA, zB, zC, zD, zE, zF, zG, zL, zM, zN, reduceCtorEq, f28, f27, f26, f6, f0, i4, hw0, a3, b3, c3, ln, ll, lt, wn, wl, wt, ww, w0, hd4, hap, Tryz.results7]) | ((first | refine yg rfl ?_ | refine yn ?_ | refine yi ?_); try simp only [go_sem]) | ((first | refine yx hN _ _ ?_ | refine yz hN _ _ ?_ | refine yy hN _ ?_); clear hN N) | refine yt (id := 16) mixed [36] (.rd 0 (.rd 1 (.rd 2 (.rd 3 (.rd 4 (.rd 5 (.rd 7 (.rd 8 (.rd 9 (.rd 10 (.rd 11 (.act 6 [11, 10, 9, 8, 7] (.act 12 [] (.act 13 [] (.act 14 [] (.act 15 [] (.nil))))))))))))))))) (by kernel_rfl) ?_ | refine yt (id := 17) mixed [36] (.rd 0 (.rd 1 (.rd 2 (.rd 3 (.rd 4 (.rd 5 (.rd 7 (.rd 8 (.rd 9 (.rd 10 (.rd 11 (.act 6 [11, 10, 9, 8, 7] (.act 12 [] (.act 13 [] (.act 14 [] (.act 15 [] (.nil))))))))))))))))) (by kernel_rfl) ?_ | (refine sem19 _ _ _ _ _ _ (by simp only [List.length_append, List.length_cons, List.length_nil]; omega) (by omega) fun j hj => ?_; try simp only [go_sem, ↓reduceIte, zA, zB, zC, zD, zE, zF, zG, zL, zM, zN, reduceCtorEq, f28, f27, f26, f6, f0, i4, hw0, a3, b3, c3, ln, ll, lt, wn, wl, wt, ww, w0, hd4, hap]) | rw [yv hj] | ((first | refine yq (fun h => ?_) (fun h => ?_) | (apply And.intro <;> intro h)) <;> (try simp only [zS, zT, zU, zV, Bool.not_true, Bool.not_false] at h) <;> (first | (exfalso; omega) | simp only [go_sem, ↓reduceIte, zA, zB, zC, zD, zE, zF, zG, zL, zM, zN, reduceCtorEq, f28, f27, f26, f6, f0, i4, hw0, a3, b3, c3, ln, ll, lt, wn, wl, wt, ww, w0, hd4, hap, h] | skip)) | ((refine yr fun j hj => ?_; (try have hj0 := St.tok_of_give hj)); try simp only [go_sem, ↓reduceIte, zA, zB, zC, zD, zE, zF, zG, zL, zM, zN, reduceCtorEq, f28, f27, f26, f6, f0, i4, hw0, a3, b3, c3, ln, ll, lt, wn, wl, wt, ww, w0, hd4, hap]) | (refine And.intro ?_ ?_; · omega) | clear hN N | fail
            all_goals first
              | exact hB (.inl (by omega)) _
              | exact hB (.inr (.inl (by omega))) _
              | (refine hB (.inr (.inr (.inr ?_))) _; simp only [List.length_append, List.length_cons, List.length_nil] at h ⊢; omega)
              | (refine hk ?_ _ _
                 rintro (q | q | q | q)
                 · omega
                 · omega
                 · omega
                 · simp only [List.length_append, List.length_cons, List.length_nil] at h q; omega)
          · rw [c2, show mapD (some x3) = .map x3 from rfl] at hw0
            repeat' first | refine yj fun N hN => ?_ | refine yl [36] ?_ | ((first | refine ya rfl rfl fun N hN => ?_ | refine yb rfl rfl rfl rfl fun N hN => ?_ | refine yc rfl rfl fun N hN => ?_ | refine ye rfl rfl fun N hN => ?_ | (refine yw hN _ _ ?_; clear hN N) | refine ym ?_ | refine yo ?_ | refine yp ?_); simp only [go_sem, ↓reduceIte, zA, zB, zC, zD, zE, zF, zG, zL, zM, zN, reduceCtorEq, f28, f27, f26, f6, f0, i4, hw0, a3, b3, c3, ln, ll, lt, wn, wl, wt, ww, w0, hd4, hap, Tryz.results7]) | ((first | refine yg rfl ?_ | refine yn ?_ | refine yi ?_); try simp only [go_sem]) | ((first | refine yx hN _ _ ?_ | refine yz hN _ _ ?_ | refine yy hN _ ?_); clear hN N) | refine yt (id := 16) mixed [36] (.rd 0 (.rd 1 (.rd 2 (.rd 3 (.rd 4 (.rd 5 (.rd 7 (.rd 8 (.rd 9 (.rd 10 (.rd 11 (.act 6 [11, 10, 9, 8, 7] (.act 12 [] (.act 13 [] (.act 14 [] (.act 15 [] (.nil))))))))))))))))) (by kernel_rfl) ?_ | refine yt (id := 17) mixed [36] (.rd 0 (.rd 1 (.rd 2 (.rd 3 (.rd 4 (.rd 5 (.rd 7 (.rd 8 (.rd 9 (.rd 10 (.rd 11 (.act 6 [11, 10, 9, 8, 7] (.act 12 [] (.act 13 [] (.act 14 [] (.act 15 [] (.nil))))))))))))))))) (by kernel_rfl) ?_ | (refine sem19 _ _ _ _ _ _ (by simp only [List.length_append, List.length_cons, List.length_nil]; omega) (by omega) fun j hj => ?_; try simp only [go_sem, ↓reduceIte, zA, zB, zC, zD, zE, zF, zG, zL, zM, zN, reduceCtorEq, f28, f27, f26, f6, f0, i4, hw0, a3, b3, c3, ln, ll, lt, wn, wl, wt, ww, w0, hd4, hap]) | rw [yv hj] | ((first | refine yq (fun h => ?_) (fun h => ?_) | (apply And.intro <;> intro h)) <;> (try simp only [zS, zT, zU, zV, Bool.not_true, Bool.not_false] at h) <;> (first | (exfalso; omega) | simp only [go_sem, ↓reduceIte, zA, zB, zC, zD, zE, zF, zG, zL, zM, zN, reduceCtorEq, f28, f27, f26, f6, f0, i4, hw0, a3, b3, c3, ln, ll, lt, wn, wl, wt, ww, w0, hd4, hap, h] | skip)) | ((refine yr fun j hj => ?_; (try have hj0 := St.tok_of_give hj)); try simp only [go_sem, ↓reduceIte, zA, zB, zC, zD, zE, zF, zG, zL, zM, zN, reduceCtorEq, f28, f27, f26, f6, f0, i4, hw0, a3, b3, c3, ln, ll, lt, wn, wl, wt, ww, w0, hd4, hap]) | (refine And.intro ?_ ?_; · omega) | clear hN N | fail
            all_goals first
              | exact hB (.inl (by omega)) _
              | exact hB (.inr (.inl (by omega))) _
              | (refine hB (.inr (.inr (.inr ?_))) _; simp only [List.length_append, List.length_cons, List.length_nil] at h ⊢; omega)
              | (refine hk ?_ _ _
                 rintro (q | q | q | q)
                 · omega
                 · omega
                 · omega
                 · simp only [List.length_append, List.length_cons, List.length_nil] at h q; omega)
end Go.Proofs.YtddbidoaolnegaaGreatDoor
/- What declarations cost at most, when they are not vast: plain law. No statement of the seat is proved here; no condition. -/
namespace Go.Proofs.YtddbidoaolnegaaGreatDoor
open Go Go.RowKit
open Nat renaming reduceLT → zA, reduceEqDiff → zB, reduceBEq → zC, reduceAdd → zD, reduceMul → zE, reduceSub → zF, reduceLeDiff → zG, mul_one → zH, zero_add → zI, add_zero → zJ
open Int renaming toNat_natCast → zK, reduceAdd → zL, reduceLE → zM, reduceLT → zN, natCast_nonneg → zO
open Go.Proofs.YtddbidoaolnegaaGreatDoor renaming evI_plain → ya, evI_guard → yb, evT_rd → yc, evT_rdg → yd, evT_act → ye, evT_actg → yf, evI_done → yg, evT_two → yh, evT_nil → yi, W.seqG → yj, W.block → yk, W.regionI → yl, W.cond → ym, W.skip → yn, W.ret → yo, W.exit → yp, gdD_split → yq, newT_intro → yr, newB_intro → ys, W.draw → yt, St.set_del → yu, St.give_take → yv, AGo.go → yw, IGo.go → yx, TGo.go → yy, Goes.go → yz
attribute [local go_sem] zK zP zQ zH zI zJ zO
attribute [local irreducible] W evI evT evL evOp evBin gdD Sem newT newB fillD bldOf

theorem sizes_app : ∀ a b : List Tm, Tm.sizes (a ++ b) = Tm.sizes a + Tm.sizes b
  | [], b => by simp [Tm.sizes]
  | x :: a, b => by rw [List.cons_append, Tm.sizes, Tm.sizes, sizes_app a b]; omega
theorem size_pos (t : Tm) : 1 ≤ t.size := by rw [Tm.size_eq]; omega
theorem cost_cs : ∀ cs : List Cc, (cs.map Cc.cost).sum ≤ 6 * Tm.sizes (cs.map Cc.ty)
  | [] => by simp
  | c :: cs => by
    have h := cost_cs cs
    have h1 := size_pos c.ty
    simp only [List.map_cons, List.sum_cons, Tm.sizes, Cc.cost]; omega
theorem cost_in (x : In) : x.cost ≤ 6 * Tm.sizes (indTs x) := by
  have h := cost_cs x.cs
  have h1 := size_pos x.ty
  simp only [In.cost, indTs, Tm.sizes]; omega
theorem cost_ins : ∀ l : List In, (l.map In.cost).sum ≤ 6 * Tm.sizes (l.flatMap indTs)
  | [] => by simp
  | x :: l => by
    have h := cost_ins l
    have h1 := cost_in x
    simp only [List.map_cons, List.sum_cons, List.flatMap_cons, sizes_app]; omega
theorem cost_de (d : De) : d.cost ≤ 10 + 6 * Tm.sizes (termsOf d) := by
  have h := cost_ins d.inds
  simp only [De.cost, termsOf, Tm.sizes]; omega
theorem cost_all : ∀ l : List De, (l.map De.cost).sum ≤ 10 * l.length + 6 * Tm.sizes (l.flatMap termsOf)
  | [] => by simp
  | d :: l => by
    have h := cost_all l
    have h1 := cost_de d
    simp only [List.map_cons, List.sum_cons, List.flatMap_cons, sizes_app, List.length_cons]; omega
theorem cost_vast {l : List De} (h : vastB l 40 600 = false) : (l.map De.cost).sum ≤ 15000 := by
  have h1 := cost_all l
  simp only [vastB, vast5, Bool.or_eq_false_iff, decide_eq_false_iff_not] at h
  omega
end Go.Proofs.YtddbidoaolnegaaGreatDoor
