/-
PART OF A CLAIM: RB. No statement of the seat is proved here; no condition. -/
import Derived.Test.YtddbidoaolnegaaGreatDoorWO9
import Derived.Test.YtddbidoaolnegaaGreatDoorWO21
set_option linter.all false
/- The reader: small numbers, kinds, entries: the walks. No statement of the seat is proved here; no condition. -/
namespace Go.Proofs.YtddbidoaolnegaaGreatDoor
open Go Go.RowKit
open Nat renaming reduceLT → zA, reduceEqDiff → zB, reduceBEq → zC, reduceAdd → zD, reduceMul → zE, reduceSub → zF, reduceLeDiff → zG, mul_one → zH, zero_add → zI, add_zero → zJ
open Int renaming toNat_natCast → zK, reduceAdd → zL, reduceLE → zM, reduceLT → zN, natCast_nonneg → zO
open Go.Proofs.YtddbidoaolnegaaGreatDoor renaming evI_plain → ya, evI_guard → yb, evT_rd → yc, evT_rdg → yd, evT_act → ye, evT_actg → yf, evI_done → yg, evT_two → yh, evT_nil → yi, W.seqG → yj, W.block → yk, W.regionI → yl, W.cond → ym, W.skip → yn, W.ret → yo, W.exit → yp, gdD_split → yq, newT_intro → yr, newB_intro → ys, W.draw → yt, St.set_del → yu, St.give_take → yv, AGo.go → yw, IGo.go → yx, TGo.go → yy, Goes.go → yz
attribute [local go_sem] zK zP zQ zH zI zJ zO
attribute [local irreducible] W evI evT evL evOp evBin gdD Sem newT newB fillD bldOf
set_option maxRecDepth 10000
set_option maxHeartbeats 1000000

theorem rd_ne {st : St} {p q q2 : Nat} {bs : List UInt8} {a b s : Int} {c1 c2 c3 : D} (hp : st.mem p = some (.cells [.ptr q2 0, c1, c2, c3])) (hq : st.mem q = some (.cells (rdC bs a b s))) : p ≠ q ∧ q ≠ p := by
  have : p ≠ q := fun e => by rw [e, hq] at hp; simp [rdC] at hp
  exact ⟨this, this.symm⟩

section
variable {bs : List UInt8} {a n m : Nat} {b s : Int} {p q : Nat} {c1 c2 c3 : D} {st : St} {k : D → St → Prop}

theorem sem69 (hn : NumAt bs a n m) (most : Nat) (hm : n ≤ most) (hm2 : most < 1000000000) (hl : bs.length < 1000000000) (hp : st.mem p = some (.cells [.ptr q 0, c1, c2, c3])) (hq : st.mem q = some (.cells (rdC bs a 0 s)))
    (hk : k (.int .i64 n) (st.set q (.cells (rdC bs (a + m : Nat) 0 s)))) : Sem P 69 [.ptr p 0, .int .i64 most] st k := by
  have w1 : IntKind.u64.wrap (most : Int) = (most : Int) := by rw [IntKind.wrap_u64]; omega
  have w2 : IntKind.i64.wrap (n : Int) = (n : Int) := by rw [IntKind.wrap_i64]; omega
  refine Sem.of_body Tryz.call69 Tryz.func69 rfl Tryz.ntmps69 (by simp) ?_
  repeat' first | refine yj fun N hN => ?_ | refine yl [] ?_ | ((first | refine ya rfl rfl fun N hN => ?_ | refine yo ?_); simp only [go_sem, ↓reduceIte, zA, zB, zC, zD, zE, zF, zG, zL, zM, zN, reduceCtorEq, hp, w1, w2, Tryz.results69]) | (refine yg rfl ?_; try simp only [go_sem]) | ((first | refine yx hN _ _ ?_ | refine yz hN _ _ ?_); clear hN N) | (refine sem102 hn most hm q _ _ hl hq ?_; try simp only [go_sem, ↓reduceIte, zA, zB, zC, zD, zE, zF, zG, zL, zM, zN, reduceCtorEq, hp, w1, w2]) | fail
  all_goals exact hk
theorem sem69b (most : Nat) (hm2 : most < 1000000000) (hb : b ≠ 0) (hp : st.mem p = some (.cells [.ptr q 0, c1, c2, c3])) (hq : st.mem q = some (.cells (rdC bs a b s)))
    (hk : k (.int .i64 0) st) : Sem P 69 [.ptr p 0, .int .i64 most] st k := by
  have w1 : IntKind.u64.wrap (most : Int) = (most : Int) := by rw [IntKind.wrap_u64]; omega
  have w2 : IntKind.i64.wrap 0 = 0 := by decide
  refine Sem.of_body Tryz.call69 Tryz.func69 rfl Tryz.ntmps69 (by simp) ?_
  repeat' first | refine yj fun N hN => ?_ | refine yl [] ?_ | ((first | refine ya rfl rfl fun N hN => ?_ | refine yo ?_); simp only [go_sem, ↓reduceIte, zA, zB, zC, zD, zE, zF, zG, zL, zM, zN, reduceCtorEq, hp, w1, w2, Tryz.results69]) | (refine yg rfl ?_; try simp only [go_sem]) | ((first | refine yx hN _ _ ?_ | refine yz hN _ _ ?_); clear hN N) | (refine sem102b most hb q _ _ hq ?_; try simp only [go_sem, ↓reduceIte, zA, zB, zC, zD, zE, zF, zG, zL, zM, zN, reduceCtorEq, hp, w1, w2]) | fail
  all_goals exact hk
theorem sem70 {a : Int} (hp : st.mem p = some (.cells [.ptr q 0, c1, c2, c3])) (hq : st.mem q = some (.cells (rdC bs a b s)))
    (hk : k (.bool (decide (b = 0))) st) : Sem P 70 [.ptr p 0] st k := by
  refine Sem.of_body Tryz.call70 Tryz.func70 rfl Tryz.ntmps70 (by simp) ?_
  repeat' first | refine yj fun N hN => ?_ | refine yl [] ?_ | ((first | refine ya rfl rfl fun N hN => ?_ | refine yo ?_); simp only [go_sem, ↓reduceIte, zA, zB, zC, zD, zE, zF, zG, zL, zM, zN, reduceCtorEq, hp, Tryz.results70]) | (refine yg rfl ?_; try simp only [go_sem]) | ((first | refine yx hN _ _ ?_ | refine yz hN _ _ ?_); clear hN N) | (refine sem42 hq ?_; try simp only [go_sem, ↓reduceIte, zA, zB, zC, zD, zE, zF, zG, zL, zM, zN, reduceCtorEq, hp]) | fail
  all_goals exact hk
theorem sem75 (c : UInt8) (rest : List UInt8) (most : Nat) (h1 : 1 ≤ c.toNat) (h2 : c.toNat ≤ most) (hl : bs.length < 1000000000) (hal : a ≤ bs.length) (hp : st.mem p = some (.cells [.ptr q 0, c1, c2, c3])) (hq : st.mem q = some (.cells (rdC bs a 0 s)))
    (hd : bs.drop a = c :: rest) (hk : k (.int .u8 c.toNat) (st.set q (.cells (rdC bs (a + 1 : Nat) 0 s)))) : Sem P 75 [.ptr p 0, .int .u8 most] st k := by
  have e1 : ¬ (c.toNat : Int) < 1 := by omega
  have e2 : ¬ (most : Int) < c.toNat := by omega
  refine Sem.of_body Tryz.call75 Tryz.func75 rfl Tryz.ntmps75 (by simp) ?_
  repeat' first | refine yj fun N hN => ?_ | refine yl [] ?_ | ((first | refine ya rfl rfl fun N hN => ?_ | refine yb rfl rfl rfl rfl fun N hN => ?_ | refine ym ?_ | refine yo ?_); simp only [go_sem, ↓reduceIte, zA, zB, zC, zD, zE, zF, zG, zL, zM, zN, reduceCtorEq, hp, e1, e2, Tryz.results75]) | ((first | refine yg rfl ?_ | refine yn ?_); try simp only [go_sem]) | ((first | refine yx hN _ _ ?_ | refine yz hN _ _ ?_); clear hN N) | (refine sem41 hq ?_; try simp only [go_sem, ↓reduceIte, zA, zB, zC, zD, zE, zF, zG, zL, zM, zN, reduceCtorEq, hp, e1, e2]) | (refine sem31 bs a s c rest q _ _ (Int.natCast_nonneg a) (by omega) hl hq (by rw [Int.toNat_natCast]; exact hd) ?_; try simp only [go_sem, ↓reduceIte, zA, zB, zC, zD, zE, zF, zG, zL, zM, zN, reduceCtorEq, hp, e1, e2]) | fail
  all_goals exact hk
theorem sem79 (hk : k (.agg [.int .i64 0, .int .i64 0, .int .i64 0, .int .i64 0, .int .i64 2, .int .i64 2, .int .i64 2, .int .i64 3, .int .i64 1]) st) : Sem P 79 [] st k := by
  refine Sem.of_body Tryz.call79 Tryz.func79 rfl Tryz.ntmps79 (by simp) ?_
  repeat' first | rw [yu hr] | refine yj fun N hN => ?_ | refine yl [] ?_ | ((first | refine ya rfl rfl fun N hN => ?_ | refine yo ?_); simp only [go_sem, ↓reduceIte, zA, zB, zC, zD, zE, zF, zG, zL, zM, zN, reduceCtorEq, Tryz.results79]) | (refine yg rfl ?_; try simp only [go_sem]) | ((first | refine yx hN _ _ ?_ | refine yz hN _ _ ?_); clear hN N) | ((refine ys fun r hr => ?_; (try have hrn := (St.set_none hr).1); (try have hrn2 := Ne.symm (St.set_none hr).1)); try simp only [go_sem, ↓reduceIte, zA, zB, zC, zD, zE, zF, zG, zL, zM, zN, reduceCtorEq]) | fail
  all_goals exact hk

/-- An entry that is not there. -/
theorem sem80none (hn : NumAt bs a n m) (hl : bs.length < 1000000000) (hp : st.mem p = some (.cells [.ptr q 0, c1, c2, c3])) (hq : st.mem q = some (.cells (rdC bs a 0 s))) (ow : Own) (z : Nat)
    (hk : k (.agg [.int .u8 0, .int .i64 0, .str [], .sl .nil 0 [], .sl .nil 0 [], .int .i64 0, .int .i64 0]) (st.set q (.cells (rdC bs (a + m : Nat) 6 a)))) : Sem P 80 [.ptr p 0, .sl ow z []] st k := by
  have hpq := rd_ne hp hq
  refine Sem.drop ?_
  refine Sem.of_body Tryz.call80 Tryz.func80 rfl Tryz.ntmps80 (by simp) ?_
  refine W.seqG fun N hN => ?_
  refine W.regionI [4] ?_
  repeat' first | (refine ya rfl rfl fun N hN => ?_; simp only [go_sem, ↓reduceIte, zA, zB, zC, zD, zE, zF, zG, zL, zM, zN, reduceCtorEq, hp, Tryz.results80]) | (refine yg rfl ?_; try simp only [go_sem]) | (refine yx hN _ _ ?_; clear hN N) | ((refine ys fun r hr => ?_; (try have hrn := (St.set_none hr).1); (try have hrn2 := Ne.symm (St.set_none hr).1)); try simp only [go_sem, ↓reduceIte, zA, zB, zC, zD, zE, zF, zG, zL, zM, zN, reduceCtorEq, hp]) | fail
  have n1 := mem_ne hp hr
  have n2 := mem_ne hq hr
  have hp2 : (st.set r (.cells [.int .u8 0, .int .i64 0, .str [], .sl .nil 0 [], .sl .nil 0 [], .int .i64 0, .int .i64 0])).mem p = some (.cells [.ptr q 0, c1, c2, c3]) := by rw [St.mem_set, if_neg n1.1]; exact hp
  have hq2 : (st.set r (.cells [.int .u8 0, .int .i64 0, .str [], .sl .nil 0 [], .sl .nil 0 [], .int .i64 0, .int .i64 0])).mem q = some (.cells (rdC bs a 0 s)) := by rw [St.mem_set, if_neg n2.1]; exact hq
  refine Goes.go hN _ _ ?_
  clear hN N
  have hw0 : IntKind.u64.wrap ((0 : Nat) : Int) = 0 := by decide
  repeat' first | refine yj fun N hN => ?_ | refine yl [4] ?_ | ((first | refine ya rfl rfl fun N hN => ?_ | refine ym ?_ | refine yo ?_); simp only [go_sem, ↓reduceIte, zA, zB, zC, zD, zE, zF, zG, zL, zM, zN, reduceCtorEq, hp, n1, n2, hpq, hw0, Tryz.results80]) | ((first | refine yg rfl ?_ | refine yn ?_); try simp only [go_sem]) | ((first | refine yx hN _ _ ?_ | refine yz hN _ _ ?_); clear hN N) | (refine sem41 hq2 ?_; try simp only [go_sem, ↓reduceIte, zA, zB, zC, zD, zE, zF, zG, zL, zM, zN, reduceCtorEq, hp, n1, n2, hpq, hw0]) | (refine sem102 hn 18446744073709551615 (by have := hn.nlt; omega) q _ _ hl hq2 ?_; try simp only [go_sem, ↓reduceIte, zA, zB, zC, zD, zE, zF, zG, zL, zM, zN, reduceCtorEq, hp, n1, n2, hpq, hw0]) | (refine sem40 6 a (by omega) (by rw [St.mem_set, if_pos rfl]) ?_; try simp only [go_sem, ↓reduceIte, zA, zB, zC, zD, zE, zF, zG, zL, zM, zN, reduceCtorEq, hp, n1, n2, hpq, hw0]) | (refine sem70 (q := q) (bs := bs) (a := (a + m : Nat)) (b := 6) (s := a) (by simp only [St.mem_set, if_neg hpq.1, if_neg n1.1]; exact hp) (by rw [St.mem_set, if_pos rfl]) ?_; try simp only [go_sem, ↓reduceIte, zA, zB, zC, zD, zE, zF, zG, zL, zM, zN, reduceCtorEq, hp, n1, n2, hpq, hw0]) | ((apply And.intro <;> intro h) <;> (try simp only [zS, zT, zU, zV, Bool.not_true, Bool.not_false] at h) <;> (first | (exfalso; omega) | simp only [go_sem, ↓reduceIte, zA, zB, zC, zD, zE, zF, zG, zL, zM, zN, reduceCtorEq, hp, n1, n2, hpq, hw0, h] | skip)) | fail
  all_goals exact ⟨st.set q (.cells (rdC bs (a + m : Nat) 6 a)), St.le_but (r := r) (by rw [St.mem_set, if_neg n2.2]; exact hr) (fun x hx => by simp only [St.mem_set, if_neg hx]) rfl, hk⟩
theorem sem80b (hb : b ≠ 0) (hp : st.mem p = some (.cells [.ptr q 0, c1, c2, c3])) (hq : st.mem q = some (.cells (rdC bs a b s))) (ow : Own) (z : Nat)
    (hk : k (.agg [.int .u8 0, .int .i64 0, .str [], .sl .nil 0 [], .sl .nil 0 [], .int .i64 0, .int .i64 0]) st) : Sem P 80 [.ptr p 0, .sl ow z []] st k := by
  refine Sem.drop ?_
  refine Sem.of_body Tryz.call80 Tryz.func80 rfl Tryz.ntmps80 (by simp) ?_
  refine W.seqG fun N hN => ?_
  refine W.regionI [4] ?_
  repeat' first | (refine ya rfl rfl fun N hN => ?_; simp only [go_sem, ↓reduceIte, zA, zB, zC, zD, zE, zF, zG, zL, zM, zN, reduceCtorEq, hp, Tryz.results80]) | (refine yg rfl ?_; try simp only [go_sem]) | (refine yx hN _ _ ?_; clear hN N) | ((refine ys fun r hr => ?_; (try have hrn := (St.set_none hr).1); (try have hrn2 := Ne.symm (St.set_none hr).1)); try simp only [go_sem, ↓reduceIte, zA, zB, zC, zD, zE, zF, zG, zL, zM, zN, reduceCtorEq, hp]) | fail
  have n1 := mem_ne hp hr
  have n2 := mem_ne hq hr
  have hp2 : (st.set r (.cells [.int .u8 0, .int .i64 0, .str [], .sl .nil 0 [], .sl .nil 0 [], .int .i64 0, .int .i64 0])).mem p = some (.cells [.ptr q 0, c1, c2, c3]) := by rw [St.mem_set, if_neg n1.1]; exact hp
  have hq2 : (st.set r (.cells [.int .u8 0, .int .i64 0, .str [], .sl .nil 0 [], .sl .nil 0 [], .int .i64 0, .int .i64 0])).mem q = some (.cells (rdC bs a b s)) := by rw [St.mem_set, if_neg n2.1]; exact hq
  refine Goes.go hN _ _ ?_
  clear hN N
  have hw0 : IntKind.u64.wrap ((0 : Nat) : Int) = 0 := by decide
  repeat' first | refine yj fun N hN => ?_ | refine yl [4] ?_ | ((first | refine ya rfl rfl fun N hN => ?_ | refine ym ?_ | refine yo ?_); simp only [go_sem, ↓reduceIte, zA, zB, zC, zD, zE, zF, zG, zL, zM, zN, reduceCtorEq, hp, n1, n2, hb, hw0, Int.le_refl, Tryz.results80]) | ((first | refine yg rfl ?_ | refine yn ?_); try simp only [go_sem]) | ((first | refine yx hN _ _ ?_ | refine yz hN _ _ ?_); clear hN N) | (refine sem41 hq2 ?_; try simp only [go_sem, ↓reduceIte, zA, zB, zC, zD, zE, zF, zG, zL, zM, zN, reduceCtorEq, hp, n1, n2, hb, hw0, Int.le_refl]) | (refine sem102b 18446744073709551615 hb q _ _ hq2 ?_; try simp only [go_sem, ↓reduceIte, zA, zB, zC, zD, zE, zF, zG, zL, zM, zN, reduceCtorEq, hp, n1, n2, hb, hw0, Int.le_refl]) | (refine sem40b 6 a hb hq2 ?_; try simp only [go_sem, ↓reduceIte, zA, zB, zC, zD, zE, zF, zG, zL, zM, zN, reduceCtorEq, hp, n1, n2, hb, hw0, Int.le_refl]) | (refine sem70 (q := q) hp2 hq2 ?_; try simp only [go_sem, ↓reduceIte, zA, zB, zC, zD, zE, zF, zG, zL, zM, zN, reduceCtorEq, hp, n1, n2, hb, hw0, Int.le_refl]) | fail
  all_goals exact ⟨st, St.le_set (St.le.refl _) _ hr, hk⟩

/-- So many rounds of reading. -/
theorem sem32 (hn : NumAt bs a n m) (most : Nat) (hm : n ≤ most) (hm2 : most < 1000000000) (hl : bs.length < 1000000000) (hp : st.mem p = some (.cells [.ptr q 0, c1, c2, c3])) (hq : st.mem q = some (.cells (rdC bs a 0 s)))
    (f : FuncId) (first cap : List D) (hf1 : flats first = true) (hf2 : flats cap = true) (J : Nat → St → Prop) (h0 : J 0 (st.set q (.cells (rdC bs (a + m : Nat) 0 s))))
    (hJ : ∀ i st', i < n → J i st' → (∃ a' s' d1 d2 d3, st'.mem p = some (.cells [.ptr q 0, d1, d2, d3]) ∧ st'.mem q = some (.cells (rdC bs a' 0 s'))) ∧ Sem P f (first ++ cap) st' fun _ st'' => J (i + 1) st'')
    (hk : ∀ st', J n st' → k (.tup []) st') : Sem P 32 [.ptr p 0, .int .i64 most, .fn f first cap] st k := by
  refine Sem.of_body Tryz.call32 Tryz.func32 rfl Tryz.ntmps32 (by simp) ?_
  repeat' first | refine yj fun N hN => ?_ | refine yk ?_ | refine yl [] ?_ | (refine ya rfl rfl fun N hN => ?_; simp only [go_sem, ↓reduceIte, zA, zB, zC, zD, zE, zF, zG, zL, zM, zN, reduceCtorEq, Tryz.results32]) | (refine yg rfl ?_; try simp only [go_sem]) | ((first | refine yx hN _ _ ?_ | refine yz hN _ _ ?_); clear hN N) | (refine sem69 hn most hm hm2 hl hp hq ?_; try simp only [go_sem, ↓reduceIte, zA, zB, zC, zD, zE, zF, zG, zL, zM, zN, reduceCtorEq]) | fail
  refine W.loopN (fun m fr st' => ∃ i : Nat, i + m = n ∧ J i st' ∧ fr 6 = .int .i64 m ∧ fr 0 = .ptr p 0 ∧ fr 2 = .fn f first cap) ?_ n _ _ ⟨0, by simp, h0, by simp only [go_sem, ↓reduceIte, zA, zB, zC, zD, zE, zF, zG, zL, zM, zN, reduceCtorEq], by simp only [go_sem, ↓reduceIte, zA, zB, zC, zD, zE, zF, zG, zL, zM, zN, reduceCtorEq], by simp only [go_sem, ↓reduceIte, zA, zB, zC, zD, zE, zF, zG, zL, zM, zN, reduceCtorEq]⟩
  clear h0 hp hq
  rintro m' N' ih fr st' ⟨i, hi, hJi, f6, f0, f2⟩
  rcases Nat.eq_zero_or_pos m' with hm0 | hpos
  · subst hm0
    have h0 : ¬ (0 : Int) < ((0 : Nat) : Int) := by omega
    have hin : i = n := by omega
    subst hin
    repeat' first | refine yj fun N hN => ?_ | refine yl [] ?_ | ((first | refine ya rfl rfl fun N hN => ?_ | refine yb rfl rfl rfl rfl fun N hN => ?_ | refine ym ?_ | refine yp ?_); simp only [go_sem, ↓reduceIte, zA, zB, zC, zD, zE, zF, zG, zL, zM, zN, reduceCtorEq, f6, f0, f2, h0, Tryz.results32]) | (refine yg rfl ?_; try simp only [go_sem]) | ((first | refine yx hN _ _ ?_ | refine yz hN _ _ ?_); clear hN N) | clear hN N | fail
    all_goals exact hk _ hJi
  · have h0 : (0 : Int) < (m' : Int) := by omega
    obtain ⟨⟨a', s', d1, d2, d3, hp, hq⟩, hs⟩ := hJ i st' (by omega) hJi
    repeat' first | refine yj fun N hN => ?_ | refine yk ?_ | refine yl [] ?_ | ((first | refine ya rfl rfl fun N hN => ?_ | refine yb rfl rfl rfl rfl fun N hN => ?_ | refine ym ?_); simp only [go_sem, ↓reduceIte, zA, zB, zC, zD, zE, zF, zG, zL, zM, zN, reduceCtorEq, f6, f0, f2, h0, Tryz.results32]) | ((first | refine yg rfl ?_ | refine yn ?_); try simp only [go_sem]) | ((first | refine yx hN _ _ ?_ | refine yz hN _ _ ?_); clear hN N) | (refine sem70 hp hq ?_; try simp only [go_sem, ↓reduceIte, zA, zB, zC, zD, zE, zF, zG, zL, zM, zN, reduceCtorEq, f6, f0, f2, h0]) | (refine And.intro ?_ ?_; · omega) | fail
    refine hs.mono ?_
    intro d st'' hJ2
    repeat' first | refine yl [] ?_ | (refine ya rfl rfl fun N hN => ?_; simp only [go_sem, ↓reduceIte, zA, zB, zC, zD, zE, zF, zG, zL, zM, zN, reduceCtorEq, f6, f0, f2, h0, Tryz.results32]) | (refine yg rfl ?_; try simp only [go_sem]) | ((first | refine yx hN _ _ ?_ | refine yz hN _ _ ?_); clear hN N) | (refine And.intro ?_ ?_; · omega) | fail
    refine ih.back (m' - 1) (by omega) _ _ ⟨i + 1, by omega, hJ2, ?_, ?_, ?_⟩
    · simp only [go_sem, ↓reduceIte, zA, zB, zC, zD, zE, zF, zG, zL, zM, zN, reduceCtorEq]; congr 1; omega
    · simp only [go_sem, ↓reduceIte, zA, zB, zC, zD, zE, zF, zG, zL, zM, zN, reduceCtorEq, f0]
    · simp only [go_sem, ↓reduceIte, zA, zB, zC, zD, zE, zF, zG, zL, zM, zN, reduceCtorEq, f2]
end
end Go.Proofs.YtddbidoaolnegaaGreatDoor
