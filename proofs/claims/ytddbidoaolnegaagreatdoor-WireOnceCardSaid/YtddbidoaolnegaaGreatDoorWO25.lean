/-
PART OF A CLAIM: RH, RJ, RK, RL. No statement of the seat is proved here; no condition. -/
import Derived.Laws.Bits64b
import Derived.Test.YtddbidoaolnegaaGreatDoorWO8
import Derived.Test.YtddbidoaolnegaaGreatDoorWO11
import Derived.Test.YtddbidoaolnegaaGreatDoorWO20
import Derived.Test.YtddbidoaolnegaaGreatDoorWO21
import Derived.Test.YtddbidoaolnegaaGreatDoorWO22
import Derived.Test.YtddbidoaolnegaaGreatDoorWO24
set_option linter.all false
/- works: the anchor's walk. No statement of the seat is proved here; no condition. -/
namespace Go.Proofs.YtddbidoaolnegaaGreatDoor
open Go Go.RowKit
open Nat renaming reduceLT → zA, reduceEqDiff → zB, reduceBEq → zC, reduceAdd → zD, reduceMul → zE, reduceSub → zF, reduceLeDiff → zG, mul_one → zH, zero_add → zI, add_zero → zJ
open Int renaming toNat_natCast → zK, reduceAdd → zL, reduceLE → zM, reduceLT → zN, natCast_nonneg → zO
open Go.Proofs.YtddbidoaolnegaaGreatDoor renaming evI_plain → ya, evI_guard → yb, evT_rd → yc, evT_rdg → yd, evT_act → ye, evT_actg → yf, evI_done → yg, evT_two → yh, evT_nil → yi, W.seqG → yj, W.block → yk, W.regionI → yl, W.cond → ym, W.skip → yn, W.ret → yo, W.exit → yp, gdD_split → yq, newT_intro → yr, newB_intro → ys, W.draw → yt, St.set_del → yu, St.give_take → yv, AGo.go → yw, IGo.go → yx, TGo.go → yy, Goes.go → yz
attribute [local go_sem] zK zP zQ zH zI zJ zO
attribute [local irreducible] W evI evT evL evOp evBin gdD Sem newT newB fillD bldOf
set_option maxRecDepth 10000
set_option maxHeartbeats 4000000

theorem encBy_nil : encBy [] = [66, 84, 78, 49, 0, 0, 0, 0] := by
  simp [encBy, encE, En.z, nmB, lvBs, num_small]
theorem encBig_nil : ¬ encBig [] := by
  unfold encBig
  rw [encBy_nil]
  simp [encE, En.z]

theorem sem6 (st : St) (k : D → St → Prop) (hk : ∀ st', k (.bool true) st') : Sem P 6 [] st k := by
  refine Sem.of_body Tryz.call6 Tryz.func6 rfl Tryz.ntmps6 (by simp) ?_
  repeat' first | refine yj fun N hN => ?_ | refine yl [7, 13, 19] ?_ | (refine ya rfl rfl fun N hN => ?_; simp only [go_sem, ↓reduceIte, zA, zB, zC, zD, zE, zF, zG, zL, zM, zN, reduceCtorEq, Tryz.results6]) | (refine yg rfl ?_; try simp only [go_sem]) | ((first | refine yx hN _ _ ?_ | refine yz hN _ _ ?_); clear hN N) | fail
  refine Sem.nilArg (b := 15) (Sem.frzT (sem7 .nil [] (by simp) (by simp) (fun _ _ => by simp) _ _ (fun h => absurd h (by simp)) (fun _ h => absurd h (by simp)) (fun _ _ h => absurd h encBig_nil) (fun _ _ _ ow1 st1 => ⟨_, _, _, _, rfl, .inr rfl, ?_⟩)))
  rw [encBy_nil]
  repeat' first | refine yj fun N hN => ?_ | refine yl [7, 13, 19] ?_ | (refine ya rfl rfl fun N hN => ?_; simp only [go_sem, ↓reduceIte, zA, zB, zC, zD, zE, zF, zG, zL, zM, zN, reduceCtorEq, Tryz.results6]) | (refine yg rfl ?_; try simp only [go_sem]) | ((first | refine yx hN _ _ ?_ | refine yz hN _ _ ?_); clear hN N) | ((refine yr fun j hj => ?_; (try have hj0 := St.tok_of_give hj)); try simp only [go_sem, ↓reduceIte, zA, zB, zC, zD, zE, zF, zG, zL, zM, zN, reduceCtorEq]) | fail
  refine sem11_1 _ _ _ fun st2 => ?_
  repeat' first | refine yj fun N hN => ?_ | refine yl [7, 13, 19] ?_ | (refine ya rfl rfl fun N hN => ?_; simp only [go_sem, ↓reduceIte, zA, zB, zC, zD, zE, zF, zG, zL, zM, zN, reduceCtorEq, Tryz.results6]) | (refine yg rfl ?_; try simp only [go_sem]) | ((first | refine yx hN _ _ ?_ | refine yz hN _ _ ?_); clear hN N) | ((refine yr fun j hj => ?_; (try have hj0 := St.tok_of_give hj)); try simp only [go_sem, ↓reduceIte, zA, zB, zC, zD, zE, zF, zG, zL, zM, zN, reduceCtorEq]) | fail
  refine sem11_2 _ _ _ fun st3 => ?_
  repeat' first | refine yj fun N hN => ?_ | refine yl [7, 13, 19] ?_ | ((first | refine ya rfl rfl fun N hN => ?_ | refine yb rfl rfl rfl rfl fun N hN => ?_ | refine yo ?_); simp only [go_sem, ↓reduceIte, zA, zB, zC, zD, zE, zF, zG, zL, zM, zN, reduceCtorEq, bytesOf_byD, Tryz.results6]) | (refine yg rfl ?_; try simp only [go_sem]) | ((first | refine yx hN _ _ ?_ | refine yz hN _ _ ?_); clear hN N) | (refine sem15 8 6 r .nilptr _ _ (by simp only [go_sem, ↓reduceIte, zA, zB, zC, zD, zE, zF, zG, zL, zM, zN, reduceCtorEq]) ?_; try simp only [go_sem, ↓reduceIte, zA, zB, zC, zD, zE, zF, zG, zL, zM, zN, reduceCtorEq, bytesOf_byD]) | (refine sem16 8 6 _ _ _ ?_; try simp only [go_sem, ↓reduceIte, zA, zB, zC, zD, zE, zF, zG, zL, zM, zN, reduceCtorEq, bytesOf_byD]) | (refine yq (fun h => ?_) (fun h => ?_) <;> (try simp only [zS, zT, zU, zV, Bool.not_true, Bool.not_false] at h) <;> (first | (exfalso; omega) | simp only [go_sem, ↓reduceIte, zA, zB, zC, zD, zE, zF, zG, zL, zM, zN, reduceCtorEq, bytesOf_byD, h] | skip)) | ((refine ys fun r hr => ?_; (try have hrn := (St.set_none hr).1); (try have hrn2 := Ne.symm (St.set_none hr).1)); try simp only [go_sem, ↓reduceIte, zA, zB, zC, zD, zE, zF, zG, zL, zM, zN, reduceCtorEq, bytesOf_byD]) | fail
  exact hk _
end Go.Proofs.YtddbidoaolnegaaGreatDoor
/- A number of the file's, read: the walk, in general. No statement of the seat is proved here; no condition. -/
namespace Go.Proofs.YtddbidoaolnegaaGreatDoor
open Go Go.RowKit
open Nat renaming reduceLT → zA, reduceEqDiff → zB, reduceBEq → zC, reduceAdd → zD, reduceMul → zE, reduceSub → zF, reduceLeDiff → zG, mul_one → zH, zero_add → zI, add_zero → zJ
open Int renaming toNat_natCast → zK, reduceAdd → zL, reduceLE → zM, reduceLT → zN, natCast_nonneg → zO
open Go.Proofs.YtddbidoaolnegaaGreatDoor renaming evI_plain → ya, evI_guard → yb, evT_rd → yc, evT_rdg → yd, evT_act → ye, evT_actg → yf, evI_done → yg, evT_two → yh, evT_nil → yi, W.seqG → yj, W.block → yk, W.regionI → yl, W.cond → ym, W.skip → yn, W.ret → yo, W.exit → yp, gdD_split → yq, newT_intro → yr, newB_intro → ys, W.draw → yt, St.set_del → yu, St.give_take → yv, AGo.go → yw, IGo.go → yx, TGo.go → yy, Goes.go → yz
attribute [local go_sem] zK zP zQ zH zI zJ zO
attribute [local irreducible] W evI evT evL evOp evBin gdD Sem newT newB fillD bldOf
set_option maxRecDepth 10000
set_option maxHeartbeats 1000000

theorem num_head (m : Nat) : ∃ rest, num m = (if m < 128 then UInt8.ofNat m else UInt8.ofNat (128 + m % 128)) :: rest ∧ (m < 128 → rest = []) ∧ (¬ m < 128 → rest = num (m / 128)) := by
  by_cases h : m < 128
  · exact ⟨[], by rw [num_small h, if_pos h], fun _ => rfl, fun h2 => absurd h h2⟩
  · exact ⟨num (m / 128), by rw [num_big h, if_neg h], fun h2 => absurd h2 h, fun _ => rfl⟩
theorem num_pos (m : Nat) : 0 < (num m).length := by obtain ⟨r, h, _⟩ := num_head m; rw [h]; simp
theorem pow7 (i : Nat) : (2 : Nat) ^ (7 * i) = 128 ^ i := by rw [Nat.pow_mul]
theorem or_sum {x y i : Nat} (hx : x < 128 ^ i) : x ||| y * 128 ^ i = x + y * 128 ^ i := by
  rw [← pow7] at *
  rw [Nat.or_comm, Nat.mul_comm, ← Nat.two_pow_add_eq_or_of_lt hx, Nat.add_comm]
theorem mod_step (n i : Nat) : n % 128 ^ (i + 1) = n % 128 ^ i + (n / 128 ^ i % 128) * 128 ^ i := by
  rw [Nat.pow_succ, Nat.mod_mul, Nat.mul_comm (128 ^ i)]

/-- The bytes of a number from one of them on. -/
theorem num_drop : ∀ (i n : Nat), i < (num n).length → (num n).drop i = num (n / 128 ^ i)
  | 0, n, _ => by simp
  | i + 1, n, h => by
    by_cases hn : n < 128
    · rw [num_small hn] at h; simp at h
    · rw [num_big hn] at h ⊢
      rw [List.drop_succ_cons, num_drop i (n / 128) (by simpa using h), Nat.div_div_eq_div_mul, Nat.pow_succ, Nat.mul_comm]
theorem num_top (i n : Nat) (h : i < (num n).length) (hi : 0 < i) : 1 ≤ n / 128 ^ i := by
  obtain ⟨j, rfl⟩ : ∃ j, i = j + 1 := ⟨i - 1, by omega⟩
  have hj := num_drop j n (by omega)
  obtain ⟨r, h1, h2, h3⟩ := num_head (n / 128 ^ j)
  by_cases hm : n / 128 ^ j < 128
  · exfalso
    rw [h1, h2 hm] at hj
    have : ((num n).drop j).length = 1 := by rw [hj]; rfl
    rw [List.length_drop] at this; omega
  · rw [Nat.pow_succ, ← Nat.div_div_eq_div_mul]
    omega

theorem andNot128' (c : UInt8) : bits .andNot .u8 (c.toNat : Int) 128 = ((c.toNat % 128 : Nat) : Int) := andNot128 ⟨c.toNat, c.toNat_lt⟩

theorem sem72 (n : Nat) (rest : List UInt8) (hn : n < 18446744073709551616) (ow : Own) (st : St) (k : D → St → Prop) (hl : rest.length < 1000000000) (hk : k (.tup [.int .u64 n, .int .i64 (num n).length, .int .i64 0]) st) : Sem P 72 [.sl ow 1 (byD (num n ++ rest))] st k := by
  have hlen := num_len64 hn
  have hpos := num_pos n
  obtain ⟨L, hL⟩ : ∃ L : Nat, (min (((num n).length + rest.length : Nat) : Int) 10).toNat = L := ⟨_, rfl⟩
  have hL1 : (num n).length ≤ L ∧ L ≤ 10 ∧ L ≤ (num n ++ rest).length := by rw [List.length_append]; omega
  have htl : (List.take L (byD (num n ++ rest))).length = L := by rw [List.length_take, byD_length]; omega
  refine Sem.of_body Tryz.call72 Tryz.func72 rfl Tryz.ntmps72 (by simp) ?_
  repeat' first | refine yj fun N hN => ?_ | refine yk ?_ | refine yl [] ?_ | (refine ya rfl rfl fun N hN => ?_; simp only [go_sem, ↓reduceIte, zA, zB, zC, zD, zE, zF, zG, zL, zM, zN, reduceCtorEq, hL, htl, Tryz.results72]) | (refine yg rfl ?_; try simp only [go_sem]) | ((first | refine yx hN _ _ ?_ | refine yz hN _ _ ?_); clear hN N) | (refine And.intro ?_ ?_; · omega) | fail
  refine W.loopN (fun m' fr st' => ∃ i : Nat, i + m' = (num n).length ∧ i < (num n).length ∧ st' = st ∧ fr 2 = .int .u64 (n % 128 ^ i : Nat) ∧ fr 13 = .int .i64 i ∧ fr 12 = .int .i64 L ∧ fr 11 = .sl .frozen 1 (List.take L (byD (num n ++ rest)))) ?_ (num n).length _ _
    ⟨0, by simp, hpos, rfl, by simp only [go_sem, ↓reduceIte, zA, zB, zC, zD, zE, zF, zG, zL, zM, zN, reduceCtorEq]; simp [Nat.mod_one], by simp only [go_sem, ↓reduceIte, zA, zB, zC, zD, zE, zF, zG, zL, zM, zN, reduceCtorEq]; rfl, by simp only [go_sem, ↓reduceIte, zA, zB, zC, zD, zE, zF, zG, zL, zM, zN, reduceCtorEq, hL, htl], by simp only [go_sem, ↓reduceIte, zA, zB, zC, zD, zE, zF, zG, zL, zM, zN, reduceCtorEq, hL]⟩
  rintro m' N' ih fr st' ⟨i, hi, hil, rfl, f2, f13, f12, f11⟩
  have hnd := num_drop i n hil
  obtain ⟨r, hr1, hr2, hr3⟩ := num_head (n / 128 ^ i)
  obtain ⟨c, hc⟩ : ∃ c, (if n / 128 ^ i < 128 then UInt8.ofNat (n / 128 ^ i) else UInt8.ofNat (128 + n / 128 ^ i % 128)) = c := ⟨_, rfl⟩
  rw [hc] at hr1
  rw [hr1] at hnd
  have hlen2 : (num n).length = i + 1 + r.length := by
    have : ((num n).drop i).length = (c :: r).length := by rw [hnd]
    simp only [List.length_drop, List.length_cons] at this; omega
  have hX : (num n ++ rest).getD i 0 = c := by
    have : (num n)[i]? = some c := by
      have h0 : ((num n).drop i)[0]? = some c := by rw [hnd]; rfl
      simpa using h0
    simp [List.getD, List.getElem?_append_left hil, this]
  have hg : (List.take L (byD (num n ++ rest))).getD i .any = .int .u8 c.toNat := by
    rw [byD_take, byD_getD _ (by rw [List.length_take]; omega)]
    congr 3
    rw [← hX]
    simp only [List.getD_eq_getElem?_getD, List.getElem?_take_of_lt (show i < L by omega)]
  have hi9 : i ≤ 9 := by omega
  have hcm : c.toNat % 128 = n / 128 ^ i % 128 := by
    rw [← hc]
    split
    · rw [UInt8.toNat_ofNat']; omega
    · rw [UInt8.toNat_ofNat']; omega
  have hp : 128 ^ i * (n / 128 ^ i) ≤ n := Nat.mul_div_le _ _
  have hple : n / 128 ^ i % 128 * 128 ^ i ≤ n := Nat.le_trans (by rw [Nat.mul_comm]; exact Nat.mul_le_mul_left _ (Nat.mod_le _ _)) hp
  have hand : bits .andNot .u8 (c.toNat : Int) 128 = ((n / 128 ^ i % 128 : Nat) : Int) := by rw [andNot128', hcm]
  have hw1 : IntKind.u64.wrap ((n / 128 ^ i % 128 : Nat) : Int) = ((n / 128 ^ i % 128 : Nat) : Int) := by rw [IntKind.wrap_u64]; omega
  have hsh : IntKind.u64.wrap (((n / 128 ^ i % 128 : Nat) : Int) * 2 ^ (7 * (i : Int)).toNat) = ((n / 128 ^ i % 128 * 128 ^ i : Nat) : Int) := by
    have e : (7 * (i : Int)).toNat = 7 * i := by omega
    rw [e, ← pow7]
    have : (((n / 128 ^ i % 128 : Nat) : Int) * 2 ^ (7 * i)) = ((n / 128 ^ i % 128 * 2 ^ (7 * i) : Nat) : Int) := by simp
    rw [pow7] at *
    rw [this, IntKind.wrap_u64]
    have : n / 128 ^ i % 128 * 128 ^ i < 18446744073709551616 := Nat.lt_of_le_of_lt hple hn
    omega
  have hor : bits .or .u64 ((n % 128 ^ i : Nat) : Int) ((n / 128 ^ i % 128 * 128 ^ i : Nat) : Int) = ((n % 128 ^ (i + 1) : Nat) : Int) := by
    rw [bits_or_u64_nat _ _ (Nat.lt_of_le_of_lt (Nat.mod_le _ _) hn) (Nat.lt_of_le_of_lt hple hn), or_sum (Nat.mod_lt _ (Nat.pow_pos (by decide))), mod_step]
  have h12 : (i : Int) < L := by omega
  have h12n : i < L := by omega
  by_cases hm : n / 128 ^ i < 128
  · have hcv : c.toNat = n / 128 ^ i := by rw [← hc, if_pos hm, UInt8.toNat_ofNat']; exact Nat.mod_eq_of_lt (by omega)
    have hlt : ¬ (128 : Int) ≤ c.toNat := by omega
    have hr0 := hr2 hm
    rw [hr0] at hlen2
    simp only [List.length_nil, Nat.add_zero] at hlen2
    have hfull : n % 128 ^ (i + 1) = n := by
      rw [mod_step, Nat.mod_eq_of_lt hm, Nat.mul_comm]; exact Nat.mod_add_div n _
    rw [hfull] at hor
    have ht1 : ¬ ((0 : Int) < i ∧ (c.toNat : Int) = 0) := fun h => by have := num_top i n hil (by omega); omega
    have ht2 : ¬ ((i : Int) = 9 ∧ (1 : Int) < c.toNat) := fun ⟨h1, h2⟩ => by
      have e9 : i = 9 := by omega
      have e : (128 : Nat) ^ i = 9223372036854775808 := by rw [e9]
      rw [e] at hcv
      omega
    rw [hlen2] at hk
    by_cases c0 : (0 : Int) < i
    · have c1 : ¬ (c.toNat : Int) = 0 := fun h => ht1 ⟨c0, h⟩
      by_cases c2 : (i : Int) = 9
      · have c3 : ¬ (1 : Int) < c.toNat := fun h => ht2 ⟨c2, h⟩
        have c4 : ((i : Int) = 9) = True := eq_true c2
        clear c2
        repeat' first | refine yj fun N hN => ?_ | refine yk ?_ | refine yl [] ?_ | ((first | refine ya rfl rfl fun N hN => ?_ | refine yb rfl rfl rfl rfl fun N hN => ?_ | refine ym ?_ | refine yo ?_); simp only [go_sem, ↓reduceIte, zA, zB, zC, zD, zE, zF, zG, zL, zM, zN, reduceCtorEq, f2, f13, f12, f11, htl, hg, h12, h12n, hand, hw1, hsh, hor, hlt, c0, c1, c4, c3, Tryz.results72]) | ((first | refine yg rfl ?_ | refine yn ?_); try simp only [go_sem]) | ((first | refine yx hN _ _ ?_ | refine yz hN _ _ ?_); clear hN N) | (refine And.intro ?_ ?_; · omega) | clear hN N | fail
        all_goals exact hk
      · repeat' first | refine yj fun N hN => ?_ | refine yk ?_ | refine yl [] ?_ | ((first | refine ya rfl rfl fun N hN => ?_ | refine yb rfl rfl rfl rfl fun N hN => ?_ | refine ym ?_ | refine yo ?_); simp only [go_sem, ↓reduceIte, zA, zB, zC, zD, zE, zF, zG, zL, zM, zN, reduceCtorEq, f2, f13, f12, f11, htl, hg, h12, h12n, hand, hw1, hsh, hor, hlt, c0, c1, c2, Tryz.results72]) | ((first | refine yg rfl ?_ | refine yn ?_); try simp only [go_sem]) | ((first | refine yx hN _ _ ?_ | refine yz hN _ _ ?_); clear hN N) | (refine And.intro ?_ ?_; · omega) | clear hN N | fail
        all_goals exact hk
    · by_cases c2 : (i : Int) = 9
      · omega
      · repeat' first | refine yj fun N hN => ?_ | refine yk ?_ | refine yl [] ?_ | ((first | refine ya rfl rfl fun N hN => ?_ | refine yb rfl rfl rfl rfl fun N hN => ?_ | refine ym ?_ | refine yo ?_); simp only [go_sem, ↓reduceIte, zA, zB, zC, zD, zE, zF, zG, zL, zM, zN, reduceCtorEq, f2, f13, f12, f11, htl, hg, h12, h12n, hand, hw1, hsh, hor, hlt, c0, c2, Tryz.results72]) | ((first | refine yg rfl ?_ | refine yn ?_); try simp only [go_sem]) | ((first | refine yx hN _ _ ?_ | refine yz hN _ _ ?_); clear hN N) | (refine And.intro ?_ ?_; · omega) | clear hN N | fail
        all_goals exact hk
  · have hcv : c.toNat = 128 + n / 128 ^ i % 128 := by rw [← hc, if_neg hm, UInt8.toNat_ofNat']; exact Nat.mod_eq_of_lt (by have := Nat.mod_lt (n / 128 ^ i) (show 0 < 128 by decide); omega)
    have hlt : (128 : Int) ≤ c.toNat := by omega
    have hr0 := hr3 hm
    have hrp := num_pos (n / 128 ^ i / 128)
    rw [← hr0] at hrp
    repeat' first | refine yj fun N hN => ?_ | refine yk ?_ | refine yl [] ?_ | ((first | refine ya rfl rfl fun N hN => ?_ | refine ym ?_ | refine yp ?_); simp only [go_sem, ↓reduceIte, zA, zB, zC, zD, zE, zF, zG, zL, zM, zN, reduceCtorEq, f2, f13, f12, f11, htl, hg, h12, h12n, hand, hw1, hsh, hor, hlt, Tryz.results72]) | ((first | refine yg rfl ?_ | refine yn ?_); try simp only [go_sem]) | ((first | refine yx hN _ _ ?_ | refine yz hN _ _ ?_); clear hN N) | (refine And.intro ?_ ?_; · omega) | clear hN N | fail
    refine ih.back (m' - 1) (by omega) _ _ ⟨i + 1, by omega, by omega, rfl, by simp only [go_sem, ↓reduceIte, zA, zB, zC, zD, zE, zF, zG, zL, zM, zN, reduceCtorEq], by simp only [go_sem, ↓reduceIte, zA, zB, zC, zD, zE, zF, zG, zL, zM, zN, reduceCtorEq]; rfl, by simp only [go_sem, ↓reduceIte, zA, zB, zC, zD, zE, zF, zG, zL, zM, zN, reduceCtorEq, f12], by simp only [go_sem, ↓reduceIte, zA, zB, zC, zD, zE, zF, zG, zL, zM, zN, reduceCtorEq, f11]⟩

theorem NumAt.of_num {bs rest : List UInt8} {a n : Nat} (h : bs.drop a = num n ++ rest) (hn : n < 18446744073709551616) (hl : bs.length < 1000000000) : NumAt bs a n (num n).length := by
  have h1 : (bs.drop a).length = (num n ++ rest).length := by rw [h]
  simp only [List.length_drop, List.length_append] at h1
  have hp := num_pos n
  refine ⟨fun ow st k hk => ?_, hn, by omega, num_len64 hn, hp⟩
  rw [h]
  exact sem72 n rest hn ow st k (by omega) hk
end Go.Proofs.YtddbidoaolnegaaGreatDoor
/- The reader: names, and entries that are there: the walks. No statement of the seat is proved here; no condition. -/
namespace Go.Proofs.YtddbidoaolnegaaGreatDoor
open Go Go.RowKit
open Nat renaming reduceLT → zA, reduceEqDiff → zB, reduceBEq → zC, reduceAdd → zD, reduceMul → zE, reduceSub → zF, reduceLeDiff → zG, mul_one → zH, zero_add → zI, add_zero → zJ
open Int renaming toNat_natCast → zK, reduceAdd → zL, reduceLE → zM, reduceLT → zN, natCast_nonneg → zO
open Go.Proofs.YtddbidoaolnegaaGreatDoor renaming evI_plain → ya, evI_guard → yb, evT_rd → yc, evT_rdg → yd, evT_act → ye, evT_actg → yf, evI_done → yg, evT_two → yh, evT_nil → yi, W.seqG → yj, W.block → yk, W.regionI → yl, W.cond → ym, W.skip → yn, W.ret → yo, W.exit → yp, gdD_split → yq, newT_intro → yr, newB_intro → ys, W.draw → yt, St.set_del → yu, St.give_take → yv, AGo.go → yw, IGo.go → yx, TGo.go → yy, Goes.go → yz
attribute [local go_sem] zK zP zQ zH zI zJ zO
attribute [local irreducible] W evI evT evL evOp evBin gdD Sem newT newB fillD bldOf
set_option maxRecDepth 10000
set_option maxHeartbeats 1000000

theorem name_len {s : List UInt8} (h : nameB s = true) : 1 ≤ s.length ∧ s.length ≤ 32 := by
  simp only [nameB, Bool.and_eq_true, decide_eq_true_eq] at h
  exact ⟨h.1.2, h.2⟩
theorem name_mem {s : List UInt8} (h : nameB s = true) : ∀ c ∈ s, letterB c.toNat = true := by
  simp only [nameB, Bool.and_eq_true, List.all_eq_true] at h
  exact h.1.1

section
variable {bs : List UInt8} {a n m : Nat} {b s : Int} {p q : Nat} {c1 c2 c3 : D} {st : St} {k : D → St → Prop}

theorem sem71 {x : List UInt8} {rest : List UInt8} (hn : NumAt bs a x.length m) (hd : bs.drop (a + m) = x ++ rest) (hx : nameB x = true) (hl : bs.length < 1000000000) (r : Nat) (x0 : D) (hr : st.mem r = some (.cells [x0]))
    (hk : k (.tup [.int .i64 (m + x.length : Nat), .int .i64 0]) (st.set r (.cells [.str x]))) : Sem P 71 [.sl .frozen 1 (byD (bs.drop a)), .ptr r 0] st k := by
  have hxl := name_len hx
  have hml := hn.mle
  have hle := hn.le
  have h1 : (bs.drop (a + m)).length = (x ++ rest).length := by rw [hd]
  simp only [List.length_drop, List.length_append] at h1
  have e1 : ¬ (32 : Int) < x.length := by omega
  have w1 : IntKind.i64.wrap (x.length : Int) = (x.length : Int) := by rw [IntKind.wrap_i64]; omega
  have hsem := hn.sem
  have hdl : (bs.drop a).length = bs.length - a := by simp
  obtain ⟨ds, hds⟩ : ∃ ds, bs.drop a = ds := ⟨_, rfl⟩
  have hd2 : ds.drop m = x ++ rest := by rw [← hds, List.drop_drop]; exact hd
  rw [hds] at hsem hdl ⊢
  have e2 : ¬ ((ds.length : Int) - (m : Int)) < (x.length : Int) := by omega
  have e3 : (m : Int) + (x.length : Int) = ((m + x.length : Nat) : Int) := by omega
  have e4 : List.drop m (List.take (m + x.length) (byD ds)) = byD x := by
    rw [List.drop_take, byD_drop, hd2]
    simp [byD]
  refine Sem.of_body Tryz.call71 Tryz.func71 rfl Tryz.ntmps71 (by simp) ?_
  repeat' first | refine yj fun N hN => ?_ | refine yk ?_ | refine yl [1] ?_ | ((first | refine ya rfl rfl fun N hN => ?_ | refine ym ?_ | refine yo ?_); simp only [go_sem, ↓reduceIte, zA, zB, zC, zD, zE, zF, zG, zL, zM, zN, reduceCtorEq, hr, e1, e2, e3, e4, w1, hx, Tryz.results71]) | ((first | refine yg rfl ?_ | refine yn ?_); try simp only [go_sem]) | ((first | refine yx hN _ _ ?_ | refine yz hN _ _ ?_); clear hN N) | (refine hsem _ _ _ ?_; try simp only [go_sem, ↓reduceIte, zA, zB, zC, zD, zE, zF, zG, zL, zM, zN, reduceCtorEq, hr, e1, e2, e3, e4, w1, hx]) | (refine sem73 _ _ _ (by omega) ?_; try simp only [go_sem, ↓reduceIte, zA, zB, zC, zD, zE, zF, zG, zL, zM, zN, reduceCtorEq, hr, e1, e2, e3, e4, w1, hx]) | (refine And.intro ?_ ?_; · omega) | fail
  all_goals exact hk

theorem sem34 {x : List UInt8} {rest : List UInt8} (hn : NumAt bs a x.length m) (hd : bs.drop (a + m) = x ++ rest) (hx : nameB x = true) (hl : bs.length < 1000000000) (hq : st.mem q = some (.cells (rdC bs a 0 s)))
    (hk : k (.str x) (st.set q (.cells (rdC bs (a + (m + x.length) : Nat) 0 s)))) : Sem P 34 [.ptr q 0] st k := by
  have hle := hn.le
  have hml := hn.mle
  have hxl := name_len hx
  refine Sem.drop ?_
  refine Sem.of_body Tryz.call34 Tryz.func34 rfl Tryz.ntmps34 (by simp) ?_
  repeat' first | refine yj fun N hN => ?_ | refine yl [2] ?_ | (refine ya rfl rfl fun N hN => ?_; simp only [go_sem, ↓reduceIte, zA, zB, zC, zD, zE, zF, zG, zL, zM, zN, reduceCtorEq, hq, Tryz.results34]) | (refine yg rfl ?_; try simp only [go_sem]) | ((first | refine yx hN _ _ ?_ | refine yz hN _ _ ?_); clear hN N) | ((refine ys fun r hr => ?_; (try have hrn := (St.set_none hr).1); (try have hrn2 := Ne.symm (St.set_none hr).1)); try simp only [go_sem, ↓reduceIte, zA, zB, zC, zD, zE, zF, zG, zL, zM, zN, reduceCtorEq, hq]) | fail
  have n2 := mem_ne hq hr
  have hq2 : (st.set r (.cells [.str []])).mem q = some (.cells (rdC bs a 0 s)) := by rw [St.mem_set, if_neg n2.1]; exact hq
  refine sem67 71 [.ptr r 0] rfl (Int.natCast_nonneg a) (by omega) hl hq2 ?_
  rw [Int.toNat_natCast]
  refine sem71 hn hd hx hl r (.str []) (by rw [St.mem_set, if_pos rfl]) ⟨(m + x.length : Nat), rfl, by omega, by omega, ?_, ?_⟩
  · rw [St.mem_set, if_neg n2.1]; exact hq2
  have e1 : (a : Int) + ((m + x.length : Nat) : Int) = (a + (m + x.length) : Nat) := by omega
  rw [rdC_eq, e1]
  repeat' first | refine yj fun N hN => ?_ | refine yl [2] ?_ | ((first | refine ya rfl rfl fun N hN => ?_ | refine yo ?_); simp only [go_sem, ↓reduceIte, zA, zB, zC, zD, zE, zF, zG, zL, zM, zN, reduceCtorEq, hq, n2, Tryz.results34]) | (refine yg rfl ?_; try simp only [go_sem]) | ((first | refine yx hN _ _ ?_ | refine yz hN _ _ ?_); clear hN N) | fail
  refine ⟨_, ?_, hk⟩
  exact St.le_but (r := r) (by rw [St.mem_set, if_neg n2.2]; exact hr) (fun x hx => by simp only [St.mem_set, if_neg hx, rdC_eq]) rfl

theorem wrapU {n : Nat} (h : n < 1000000000) : IntKind.u64.wrap (n : Int) = (n : Int) := by rw [IntKind.wrap_u64]; omega

theorem sem78 (hn : NumAt bs a n m) (hl : bs.length < 1000000000) (hp : st.mem p = some (.cells [.ptr q 0, c1, c2, c3])) (hq : st.mem q = some (.cells (rdC bs a 0 s))) (ow : Own) {es : List D} {x : List UInt8} (hes : es.length < 1000000000) (hlt : n < es.length) (hg : es.getD n .any = .str x)
    (hk : k (.str x) (st.set q (.cells (rdC bs (a + m : Nat) 0 s)))) : Sem P 78 [.ptr p 0, .sl ow 1 es] st k := by
  have hpq := rd_ne hp hq
  have w1 := wrapU hes
  have e1 : ¬ (es.length : Int) ≤ (n : Int) := by omega
  have e2 : (n : Int) < es.length := by omega
  refine Sem.of_body Tryz.call78 Tryz.func78 rfl Tryz.ntmps78 (by simp) ?_
  repeat' first | refine yj fun N hN => ?_ | refine yl [] ?_ | ((first | refine ya rfl rfl fun N hN => ?_ | refine ym ?_ | refine yo ?_); simp only [go_sem, ↓reduceIte, zA, zB, zC, zD, zE, zF, zG, zL, zM, zN, reduceCtorEq, hp, hpq, w1, e1, e2, hlt, hg, Tryz.results78]) | ((first | refine yg rfl ?_ | refine yn ?_); try simp only [go_sem]) | ((first | refine yx hN _ _ ?_ | refine yz hN _ _ ?_); clear hN N) | (refine sem41 hq ?_; try simp only [go_sem, ↓reduceIte, zA, zB, zC, zD, zE, zF, zG, zL, zM, zN, reduceCtorEq, hp, hpq, w1, e1, e2, hlt, hg]) | (refine sem102 hn 18446744073709551615 (by have := hn.nlt; omega) q _ _ hl hq ?_; try simp only [go_sem, ↓reduceIte, zA, zB, zC, zD, zE, zF, zG, zL, zM, zN, reduceCtorEq, hp, hpq, w1, e1, e2, hlt, hg]) | (refine sem70 (q := q) (c1 := c1) (c2 := c2) (c3 := c3) (bs := bs) (a := (a + m : Nat)) (b := 0) (s := s) (by simp only [St.mem_set, if_neg hpq.1]; exact hp) (by rw [St.mem_set, if_pos rfl]) ?_; try simp only [go_sem, ↓reduceIte, zA, zB, zC, zD, zE, zF, zG, zL, zM, zN, reduceCtorEq, hp, hpq, w1, e1, e2, hlt, hg]) | fail
  all_goals exact hk

theorem sem77 (hn : NumAt bs a n m) (hl : bs.length < 1000000000) (hp : st.mem p = some (.cells [.ptr q 0, c1, c2, c3])) (hq : st.mem q = some (.cells (rdC bs a 0 s))) (ow : Own) {es : List D} {x0 x1 x2 x3 x4 : D} (hes : es.length < 1000000000) (hlt : n < es.length) (hg : es.getD n .any = .agg [x0, x1, x2, x3, x4])
    (hk : k (.agg [x0, x1, x2, x3, x4]) (st.set q (.cells (rdC bs (a + m : Nat) 0 s)))) : Sem P 77 [.ptr p 0, .sl ow 5 es] st k := by
  have hpq := rd_ne hp hq
  have w1 := wrapU hes
  have e1 : ¬ (es.length : Int) ≤ (n : Int) := by omega
  have e2 : (n : Int) < es.length := by omega
  have nb : True := trivial
  refine Sem.drop ?_
  refine Sem.of_body Tryz.call77 Tryz.func77 rfl Tryz.ntmps77 (by simp) ?_
  repeat' first | refine yj fun N hN => ?_ | refine yl [4] ?_ | ((first | refine ya rfl rfl fun N hN => ?_ | refine ym ?_ | refine yo ?_); simp only [go_sem, ↓reduceIte, zA, zB, zC, zD, zE, zF, zG, zL, zM, zN, reduceCtorEq, hp, hpq, w1, e1, e2, hlt, hg, nb, Tryz.results77]) | ((first | refine yg rfl ?_ | refine yn ?_); try simp only [go_sem]) | ((first | refine yx hN _ _ ?_ | refine yz hN _ _ ?_); clear hN N) | (refine sem41 (q := q) (bs := bs) (a := a) (b := 0) (s := s) (by simp only [go_sem, ↓reduceIte, zA, zB, zC, zD, zE, zF, zG, zL, zM, zN, reduceCtorEq, hq, hpq, nb]) ?_; try simp only [go_sem, ↓reduceIte, zA, zB, zC, zD, zE, zF, zG, zL, zM, zN, reduceCtorEq, hp, hpq, w1, e1, e2, hlt, hg, nb]) | (refine sem102 hn 18446744073709551615 (by have := hn.nlt; omega) (s := s) q _ _ hl (by simp only [go_sem, ↓reduceIte, zA, zB, zC, zD, zE, zF, zG, zL, zM, zN, reduceCtorEq, hq, hpq, nb]) ?_; try simp only [go_sem, ↓reduceIte, zA, zB, zC, zD, zE, zF, zG, zL, zM, zN, reduceCtorEq, hp, hpq, w1, e1, e2, hlt, hg, nb]) | (refine sem70 (q := q) (c1 := c1) (c2 := c2) (c3 := c3) (bs := bs) (a := (a + m : Nat)) (b := 0) (s := s) (by simp only [go_sem, ↓reduceIte, zA, zB, zC, zD, zE, zF, zG, zL, zM, zN, reduceCtorEq, hp, hpq, nb]) (by simp only [go_sem, ↓reduceIte, zA, zB, zC, zD, zE, zF, zG, zL, zM, zN, reduceCtorEq, nb]) ?_; try simp only [go_sem, ↓reduceIte, zA, zB, zC, zD, zE, zF, zG, zL, zM, zN, reduceCtorEq, hp, hpq, w1, e1, e2, hlt, hg, nb]) | ((refine ys fun r hr => ?_; (have hr1 := hr; try simp only [St.set_none_iff, St.mem_give, St.mem_take] at hr1); (first | have nbq := mem_ne hp hr1 | have nbq := mem_ne hp hr1.2 | have nbq := mem_ne hp hr1.2.2 | have nbq := mem_ne hp hr1.2.2.2 | have nbq := mem_ne hp hr1.2.2.2.2); have nb := And.intro nb nbq; (first | have nbq := mem_ne hq hr1 | have nbq := mem_ne hq hr1.2 | have nbq := mem_ne hq hr1.2.2 | have nbq := mem_ne hq hr1.2.2.2 | have nbq := mem_ne hq hr1.2.2.2.2); have nb := And.intro nb nbq; have nb := And.intro nb hr1); try simp only [go_sem, ↓reduceIte, zA, zB, zC, zD, zE, zF, zG, zL, zM, zN, reduceCtorEq, hp, hpq, w1, e1, e2, hlt, hg, nb]) | fail
  all_goals exact ⟨st.set q (.cells (rdC bs (a + m : Nat) 0 s)), St.le_but (r := r) (by rw [St.mem_set, if_neg (mem_ne hq hr1).2]; exact hr1) (fun x hx => by simp only [St.mem_set, if_neg hx]) rfl, hk⟩

theorem sem80 (hn : NumAt bs a n m) (hl : bs.length < 1000000000) (hp : st.mem p = some (.cells [.ptr q 0, c1, c2, c3])) (hq : st.mem q = some (.cells (rdC bs a 0 s))) (ow : Own) {es : List D} {x0 x1 x2 x3 x4 x5 x6 : D} (hes : es.length < 1000000000) (hlt : n < es.length) (hg : es.getD n .any = .agg [x0, x1, x2, x3, x4, x5, x6])
    (hk : k (.agg [x0, x1, x2, x3, x4, x5, x6]) (st.set q (.cells (rdC bs (a + m : Nat) 0 s)))) : Sem P 80 [.ptr p 0, .sl ow 7 es] st k := by
  have hpq := rd_ne hp hq
  have w1 := wrapU hes
  have e1 : ¬ (es.length : Int) ≤ (n : Int) := by omega
  have e2 : (n : Int) < es.length := by omega
  have nb : True := trivial
  refine Sem.drop ?_
  refine Sem.of_body Tryz.call80 Tryz.func80 rfl Tryz.ntmps80 (by simp) ?_
  repeat' first | refine yj fun N hN => ?_ | refine yl [4] ?_ | ((first | refine ya rfl rfl fun N hN => ?_ | refine ym ?_ | refine yo ?_); simp only [go_sem, ↓reduceIte, zA, zB, zC, zD, zE, zF, zG, zL, zM, zN, reduceCtorEq, hp, hpq, w1, e1, e2, hlt, hg, nb, Tryz.results80]) | ((first | refine yg rfl ?_ | refine yn ?_); try simp only [go_sem]) | ((first | refine yx hN _ _ ?_ | refine yz hN _ _ ?_); clear hN N) | (refine sem41 (q := q) (bs := bs) (a := a) (b := 0) (s := s) (by simp only [go_sem, ↓reduceIte, zA, zB, zC, zD, zE, zF, zG, zL, zM, zN, reduceCtorEq, hq, hpq, nb]) ?_; try simp only [go_sem, ↓reduceIte, zA, zB, zC, zD, zE, zF, zG, zL, zM, zN, reduceCtorEq, hp, hpq, w1, e1, e2, hlt, hg, nb]) | (refine sem102 hn 18446744073709551615 (by have := hn.nlt; omega) (s := s) q _ _ hl (by simp only [go_sem, ↓reduceIte, zA, zB, zC, zD, zE, zF, zG, zL, zM, zN, reduceCtorEq, hq, hpq, nb]) ?_; try simp only [go_sem, ↓reduceIte, zA, zB, zC, zD, zE, zF, zG, zL, zM, zN, reduceCtorEq, hp, hpq, w1, e1, e2, hlt, hg, nb]) | (refine sem70 (q := q) (c1 := c1) (c2 := c2) (c3 := c3) (bs := bs) (a := (a + m : Nat)) (b := 0) (s := s) (by simp only [go_sem, ↓reduceIte, zA, zB, zC, zD, zE, zF, zG, zL, zM, zN, reduceCtorEq, hp, hpq, nb]) (by simp only [go_sem, ↓reduceIte, zA, zB, zC, zD, zE, zF, zG, zL, zM, zN, reduceCtorEq, nb]) ?_; try simp only [go_sem, ↓reduceIte, zA, zB, zC, zD, zE, zF, zG, zL, zM, zN, reduceCtorEq, hp, hpq, w1, e1, e2, hlt, hg, nb]) | ((refine ys fun r hr => ?_; (have hr1 := hr; try simp only [St.set_none_iff, St.mem_give, St.mem_take] at hr1); (first | have nbq := mem_ne hp hr1 | have nbq := mem_ne hp hr1.2 | have nbq := mem_ne hp hr1.2.2 | have nbq := mem_ne hp hr1.2.2.2 | have nbq := mem_ne hp hr1.2.2.2.2); have nb := And.intro nb nbq; (first | have nbq := mem_ne hq hr1 | have nbq := mem_ne hq hr1.2 | have nbq := mem_ne hq hr1.2.2 | have nbq := mem_ne hq hr1.2.2.2 | have nbq := mem_ne hq hr1.2.2.2.2); have nb := And.intro nb nbq; have nb := And.intro nb hr1); try simp only [go_sem, ↓reduceIte, zA, zB, zC, zD, zE, zF, zG, zL, zM, zN, reduceCtorEq, hp, hpq, w1, e1, e2, hlt, hg, nb]) | fail
  all_goals exact ⟨st.set q (.cells (rdC bs (a + m : Nat) 0 s)), St.le_but (r := r) (by rw [St.mem_set, if_neg (mem_ne hq hr1).2]; exact hr1) (fun x hx => by simp only [St.mem_set, if_neg hx]) rfl, hk⟩
end
end Go.Proofs.YtddbidoaolnegaaGreatDoor
/- The reader's tables have one more: names, levels: the walks. No statement of the seat is proved here; no condition. -/
namespace Go.Proofs.YtddbidoaolnegaaGreatDoor
open Go Go.RowKit
open Nat renaming reduceLT → zA, reduceEqDiff → zB, reduceBEq → zC, reduceAdd → zD, reduceMul → zE, reduceSub → zF, reduceLeDiff → zG, mul_one → zH, zero_add → zI, add_zero → zJ
open Int renaming toNat_natCast → zK, reduceAdd → zL, reduceLE → zM, reduceLT → zN, natCast_nonneg → zO
open Go.Proofs.YtddbidoaolnegaaGreatDoor renaming evI_plain → ya, evI_guard → yb, evT_rd → yc, evT_rdg → yd, evT_act → ye, evT_actg → yf, evI_done → yg, evT_two → yh, evT_nil → yi, W.seqG → yj, W.block → yk, W.regionI → yl, W.cond → ym, W.skip → yn, W.ret → yo, W.exit → yp, gdD_split → yq, newT_intro → yr, newB_intro → ys, W.draw → yt, St.set_del → yu, St.give_take → yv, AGo.go → yw, IGo.go → yx, TGo.go → yy, Goes.go → yz
attribute [local go_sem] zK zP zQ zH zI zJ zO
attribute [local irreducible] W evI evT evL evOp evBin gdD Sem newT newB fillD bldOf
set_option maxRecDepth 10000
set_option maxHeartbeats 1000000

/-- A table's slice: nil, or with room that is its own. -/
def tabD (o : Option Nat) (z : Nat) (es : List D) : D := match o with | none => .sl .nil 0 [] | some j => .sl (.tok j) z es
structure Tab (o : Option Nat) (es : List D) (st : St) : Prop where
  n : o = none → es = []
  t : ∀ j, o = some j → st.tok j = true
/-- What a step of reading leaves: all but two blocks; the tokens, but for one that is given for another one. -/
structure Stp (B : Nat → Prop) (o : Option Nat) (j : Nat) (st st' : St) : Prop where
  mem : ∀ x, ¬ B x → ∀ ob, st.mem x = some ob → st'.mem x = some ob
  tj : st'.tok j = true
  tok : ∀ i, o ≠ some i → st.tok i = true → st'.tok i = true ∧ i ≠ j

theorem Stp.mk0 {B : Nat → Prop} {j : Nat} {st st' : St} (hm : ∀ x, ¬ B x → ∀ ob, st.mem x = some ob → st'.mem x = some ob) (ht : ∀ i, st'.tok i = if i = j then true else st.tok i) (hj : st.tok j = false) : Stp B none j st st' :=
  ⟨hm, by rw [ht, if_pos rfl], fun i _ hi => by
    have : i ≠ j := fun e => by rw [e, hj] at hi; cases hi
    exact ⟨by rw [ht, if_neg this]; exact hi, this⟩⟩
theorem Stp.mk1 {B : Nat → Prop} {j0 j : Nat} {st st' : St} (hm : ∀ x, ¬ B x → ∀ ob, st.mem x = some ob → st'.mem x = some ob) (ht : ∀ i, st'.tok i = if i = j then true else if i = j0 then false else st.tok i) (hj : st.tok j = false) : Stp B (some j0) j st st' :=
  ⟨hm, by rw [ht, if_pos rfl], fun i h0 hi => by
    have h1 : i ≠ j0 := fun e => h0 (by rw [e])
    have h2 : i ≠ j := fun e => by rw [← e, hi] at hj; cases hj
    exact ⟨by rw [ht, if_neg h2, if_neg h1]; exact hi, h2⟩⟩

/-- Numbers one behind the other. -/
def nums (ns : List Nat) : List UInt8 := ns.flatMap num
theorem nums_cons (n : Nat) (ns : List Nat) : nums (n :: ns) = num n ++ nums ns := by simp [nums]
theorem nums_at {bs rest : List UInt8} (hl : bs.length < 1000000000) : ∀ {ns : List Nat} {a : Nat}, bs.drop a = nums ns ++ rest → (∀ n ∈ ns, n < 18446744073709551616) → ∀ i, i < ns.length →
    NumAt bs (a + (nums (ns.take i)).length) (ns.getD i 0) (num (ns.getD i 0)).length ∧ a + (nums (ns.take (i + 1))).length = a + (nums (ns.take i)).length + (num (ns.getD i 0)).length
  | [], _, _, _, _, hi => by simp at hi
  | n :: ns, a, h, hb, 0, _ => by
    rw [nums_cons, List.append_assoc] at h
    refine ⟨by simpa [nums] using NumAt.of_num h (hb n (by simp)) hl, by simp [nums]⟩
  | n :: ns, a, h, hb, i + 1, hi => by
    rw [nums_cons, List.append_assoc] at h
    have h2 : bs.drop (a + (num n).length) = nums ns ++ rest := by rw [← List.drop_drop, h, List.drop_left]
    have ih := nums_at hl h2 (fun x hx => hb x (by simp [hx])) i (by simpa using hi)
    simp only [List.take_succ_cons, nums_cons, List.length_append, List.getD_cons_succ, ← Nat.add_assoc]
    exact ih
theorem drop_past {bs x rest : List UInt8} {a : Nat} (h : bs.drop a = x ++ rest) : bs.drop (a + x.length) = rest := by rw [← List.drop_drop, h, List.drop_left]

section
variable {bs : List UInt8} {a n m : Nat} {b s : Int} {p q : Nat} {c1 c2 c3 : D} {st : St} {k : D → St → Prop}

theorem sem33 {x : List UInt8} {rest : List UInt8} (hn : NumAt bs a x.length m) (hd : bs.drop (a + m) = x ++ rest) (hx : nameB x = true) (hl : bs.length < 1000000000) {r4 : Nat} (hr4 : st.mem r4 = some (.cells [.ptr p 0])) {o : Option Nat} {es : List D} (ho : Tab o es st) (hes : es.length < 1000000000)
    (hp : st.mem p = some (.cells [.ptr q 0, tabD o 1 es, c2, c3])) (hq : st.mem q = some (.cells (rdC bs a 0 s)))
    (hk : ∀ j st', st'.mem p = some (.cells [.ptr q 0, tabD (some j) 1 (es ++ [.str x]), c2, c3]) → st'.mem q = some (.cells (rdC bs (a + (m + x.length) : Nat) 0 s)) → Stp (fun x => x = p ∨ x = q) o j st st' → k (.tup []) st') : Sem P 33 [.ptr r4 0] st k := by
  have hpq := rd_ne hp hq
  have n4 : q ≠ r4 ∧ r4 ≠ q := by
    have : q ≠ r4 := fun e => by rw [e, hr4] at hq; simp [rdC] at hq
    exact ⟨this, this.symm⟩
  have n5 : p ≠ r4 ∧ r4 ≠ p := by
    have : p ≠ r4 := fun e => by rw [e, hr4] at hp; simp at hp
    exact ⟨this, this.symm⟩
  cases o with
  | none =>
    obtain rfl := ho.n rfl
    simp only [tabD] at hp
    refine Sem.of_body Tryz.call33 Tryz.func33 rfl Tryz.ntmps33 (by simp) ?_
    repeat' first | ((first | refine yc rfl rfl fun N hN => ?_ | refine ye rfl rfl fun N hN => ?_ | (refine yw hN _ _ ?_; clear hN N)); simp only [go_sem, ↓reduceIte, zA, zB, zC, zD, zE, zF, zG, zL, zM, zN, reduceCtorEq, hr4, hp, hpq, n4, n5, Tryz.results33]) | (refine yi ?_; try simp only [go_sem]) | (refine yy hN _ ?_; clear hN N) | refine yt (id := 0) mixed [] (.rd 0 (.rd 1 (.rd 2 (.rd 3 (.rd 4 (.act 5 [4, 3, 2, 1, 0] (.act 6 [4, 3, 2, 1, 0] (.act 7 [4, 3, 2, 1, 0] (.act 8 [4, 3, 2, 1, 0] (.act 9 [4, 3, 2, 1, 0] (.act 10 [4, 3, 2, 1, 0] (.act 11 [0] (.act 12 [] (.act 13 [] (.act 14 [] (.nil)))))))))))))))) (by kernel_rfl) ?_ | (refine sem34 hn hd hx hl hq ?_; try simp only [go_sem, ↓reduceIte, zA, zB, zC, zD, zE, zF, zG, zL, zM, zN, reduceCtorEq, hr4, hp, hpq, n4, n5]) | ((refine yr fun j hj => ?_; (try have hj0 := St.tok_of_give hj)); try simp only [go_sem, ↓reduceIte, zA, zB, zC, zD, zE, zF, zG, zL, zM, zN, reduceCtorEq, hr4, hp, hpq, n4, n5]) | fail
    refine hk j _ (by simp only [go_sem, ↓reduceIte, zA, zB, zC, zD, zE, zF, zG, zL, zM, zN, reduceCtorEq, tabD]) (by simp only [go_sem, ↓reduceIte, zA, zB, zC, zD, zE, zF, zG, zL, zM, zN, reduceCtorEq, hpq]) (.mk0 (fun x hx ob ho => ?_) (fun i => rfl) hj)
    simp only [not_or] at hx
    simp only [go_sem, ↓reduceIte, zA, zB, zC, zD, zE, zF, zG, zL, zM, zN, reduceCtorEq, hx]; exact ho
  | some j0 =>
    have htok := ho.t j0 rfl
    simp only [tabD] at hp
    refine Sem.of_body Tryz.call33 Tryz.func33 rfl Tryz.ntmps33 (by simp) ?_
    repeat' first | ((first | refine yc rfl rfl fun N hN => ?_ | refine ye rfl rfl fun N hN => ?_ | (refine yw hN _ _ ?_; clear hN N)); simp only [go_sem, ↓reduceIte, zA, zB, zC, zD, zE, zF, zG, zL, zM, zN, reduceCtorEq, hr4, hp, hpq, n4, n5, htok, Tryz.results33]) | (refine yi ?_; try simp only [go_sem]) | (refine yy hN _ ?_; clear hN N) | refine yt (id := 0) mixed [] (.rd 0 (.rd 1 (.rd 2 (.rd 3 (.rd 4 (.act 5 [4, 3, 2, 1, 0] (.act 6 [4, 3, 2, 1, 0] (.act 7 [4, 3, 2, 1, 0] (.act 8 [4, 3, 2, 1, 0] (.act 9 [4, 3, 2, 1, 0] (.act 10 [4, 3, 2, 1, 0] (.act 11 [0] (.act 12 [] (.act 13 [] (.act 14 [] (.nil)))))))))))))))) (by kernel_rfl) ?_ | (refine sem34 hn hd hx hl hq ?_; try simp only [go_sem, ↓reduceIte, zA, zB, zC, zD, zE, zF, zG, zL, zM, zN, reduceCtorEq, hr4, hp, hpq, n4, n5, htok]) | ((refine yr fun j hj => ?_; (try have hj0 := St.tok_of_give hj)); try simp only [go_sem, ↓reduceIte, zA, zB, zC, zD, zE, zF, zG, zL, zM, zN, reduceCtorEq, hr4, hp, hpq, n4, n5, htok]) | (refine And.intro ?_ ?_; · omega) | fail
    refine hk j _ (by simp only [go_sem, ↓reduceIte, zA, zB, zC, zD, zE, zF, zG, zL, zM, zN, reduceCtorEq, tabD]) (by simp only [go_sem, ↓reduceIte, zA, zB, zC, zD, zE, zF, zG, zL, zM, zN, reduceCtorEq, hpq]) (.mk1 (fun x hx ob ho => ?_) (fun i => rfl) hj)
    simp only [not_or] at hx
    simp only [go_sem, ↓reduceIte, zA, zB, zC, zD, zE, zF, zG, zL, zM, zN, reduceCtorEq, hx]; exact ho

theorem lv_cases (l : Lv) : ∃ c p0 p1 p2 p3, l = ⟨c, [p0, p1, p2, p3], rfl⟩ := by
  obtain ⟨c, p, hp⟩ := l
  match p, hp with
  | [p0, p1, p2, p3], _ => exact ⟨c, p0, p1, p2, p3, rfl⟩
theorem lvNum_nums (l : Lv) : lvNum l = nums (l.c.toNat :: l.p.map fun n => (n + 1).toNat) := by
  simp [lvNum, nums, List.flatMap_map]
def pcs (c p0 p1 p2 p3 : Int) : Nat → List D
  | 0 => [.int .i64 c, .int .i64 0, .int .i64 0, .int .i64 0, .int .i64 0]
  | 1 => [.int .i64 c, .int .i64 p0, .int .i64 0, .int .i64 0, .int .i64 0]
  | 2 => [.int .i64 c, .int .i64 p0, .int .i64 p1, .int .i64 0, .int .i64 0]
  | 3 => [.int .i64 c, .int .i64 p0, .int .i64 p1, .int .i64 p2, .int .i64 0]
  | _ => [.int .i64 c, .int .i64 p0, .int .i64 p1, .int .i64 p2, .int .i64 p3]
theorem pcs_len (c p0 p1 p2 p3 : Int) (i : Nat) : (pcs c p0 p1 p2 p3 i).length = 5 := by
  unfold pcs; split <;> rfl
theorem pcs_put (c p0 p1 p2 p3 : Int) (i : Nat) (hi : i < 4) : splice (pcs c p0 p1 p2 p3 i) (1 + i) [.int .i64 ([p0, p1, p2, p3].getD i 0)] = pcs c p0 p1 p2 p3 (i + 1) := by
  rcases (show i = 0 ∨ i = 1 ∨ i = 2 ∨ i = 3 by omega) with rfl | rfl | rfl | rfl <;> rfl

theorem lvD_iff {l : Lv} (h : lvD l = true) : lvB l = true ∧ 0 ≤ l.c ∧ l.c ≤ 64 ∧ ∀ i, i < 4 → -1 ≤ l.p.getD i 0 ∧ l.p.getD i 0 ≤ 64 := by
  simp only [lvD, Bool.and_eq_true, decide_eq_true_eq, List.all_eq_true] at h
  obtain ⟨⟨h1, h2⟩, h3⟩ := h
  have h4 := h1
  simp only [lvB, Bool.and_eq_true, decide_eq_true_eq, List.all_eq_true] at h4
  refine ⟨h1, h4.1.1, h3, fun i hi => ?_⟩
  have hm : l.p.getD i 0 ∈ l.p := getD_mem l.p 0 (by rw [l.n]; exact hi)
  have := h4.2 _ hm
  simp only [entB, Bool.and_eq_true, decide_eq_true_eq] at this
  exact ⟨this.1.1, h2 _ hm⟩

theorem sem35 {l : Lv} {rest : List UInt8} (hd : bs.drop a = lvNum l ++ rest) (hv : lvD l = true) (hl : bs.length < 1000000000) {o : Option Nat} {es : List D} (ho : Tab o es st) (hes : es.length < 1000000000)
    (hp : st.mem p = some (.cells [.ptr q 0, c1, tabD o 5 es, c3])) (hq : st.mem q = some (.cells (rdC bs a 0 s)))
    (hk : ∀ j st', st'.mem p = some (.cells [.ptr q 0, c1, tabD (some j) 5 (es ++ [l.d]), c3]) → st'.mem q = some (.cells (rdC bs (a + (lvNum l).length : Nat) 0 s)) → Stp (fun x => x = p ∨ x = q) o j st st' → k (.tup []) st') : Sem P 35 [.ptr p 0] st k := by
  have hpq := rd_ne hp hq
  obtain ⟨hlv, hc0, hc1, hpp⟩ := lvD_iff hv
  rw [lvNum_nums] at hd hk
  have hwf : l.wf := ⟨by omega, by omega, fun i hi => by have := hpp i hi; omega⟩
  have hns := nums_at hl hd (fun n hn => by
    rcases List.mem_cons.1 hn with rfl | hn
    · omega
    · obtain ⟨x, hx, rfl⟩ := List.mem_map.1 hn
      obtain ⟨i, hi, rfl⟩ := List.getElem_of_mem hx
      rw [l.n] at hi
      have := hpp i hi
      simp only [List.getD_eq_getElem?_getD, List.getElem?_eq_getElem (show i < l.p.length by rw [l.n]; exact hi), Option.getD_some] at this
      omega)
  obtain ⟨c, p0, p1, p2, p3, rfl⟩ := lv_cases l
  simp only at hc0 hc1 hpp hns hk hd
  generalize hnl : (c.toNat :: [p0, p1, p2, p3].map fun n => (n + 1).toNat) = ns at *
  have hnl5 : ns.length = 5 := by subst hnl; rfl
  have hg0 : ns.getD 0 0 = c.toNat := by subst hnl; rfl
  have hgi : ∀ i, i < 4 → ns.getD (i + 1) 0 = ([p0, p1, p2, p3].getD i 0 + 1).toNat := fun i hi => by
    subst hnl
    rcases (show i = 0 ∨ i = 1 ∨ i = 2 ∨ i = 3 by omega) with rfl | rfl | rfl | rfl <;> rfl
  obtain ⟨n0, e0⟩ := hns 0 (by omega)
  simp only [List.take_zero, nums, List.flatMap_nil, List.length_nil, Nat.add_zero] at n0
  rw [hg0] at n0
  replace e0 : a + (nums (ns.take (0 + 1))).length = a + (num c.toNat).length := by rw [e0, hg0]; simp [nums]
  have cc : ((c.toNat : Nat) : Int) = c := by omega
  have nb : True := trivial
  refine Sem.of_body Tryz.call35 Tryz.func35 rfl Tryz.ntmps35 (by simp) ?_
  repeat' first | refine yj fun N hN => ?_ | refine yk ?_ | refine yl [3] ?_ | (refine ya rfl rfl fun N hN => ?_; simp only [go_sem, ↓reduceIte, zA, zB, zC, zD, zE, zF, zG, zL, zM, zN, reduceCtorEq, hp, hpq, cc, nb, Tryz.results35]) | (refine yg rfl ?_; try simp only [go_sem]) | ((first | refine yx hN _ _ ?_ | refine yz hN _ _ ?_); clear hN N) | (refine sem41 hq ?_; try simp only [go_sem, ↓reduceIte, zA, zB, zC, zD, zE, zF, zG, zL, zM, zN, reduceCtorEq, hp, hpq, cc, nb]) | (refine sem69 n0 64 (by omega) (by omega) hl hp hq ?_; try simp only [go_sem, ↓reduceIte, zA, zB, zC, zD, zE, zF, zG, zL, zM, zN, reduceCtorEq, hp, hpq, cc, nb]) | ((refine ys fun r hr => ?_; (have hr1 := hr; try simp only [St.set_none_iff, St.mem_give, St.mem_take] at hr1); (first | have nbq := mem_ne hp hr1 | have nbq := mem_ne hp hr1.2 | have nbq := mem_ne hp hr1.2.2 | have nbq := mem_ne hp hr1.2.2.2 | have nbq := mem_ne hp hr1.2.2.2.2); have nb := And.intro nb nbq; (first | have nbq := mem_ne hq hr1 | have nbq := mem_ne hq hr1.2 | have nbq := mem_ne hq hr1.2.2 | have nbq := mem_ne hq hr1.2.2.2 | have nbq := mem_ne hq hr1.2.2.2.2); have nb := And.intro nb nbq; have nb := And.intro nb hr1); try simp only [go_sem, ↓reduceIte, zA, zB, zC, zD, zE, zF, zG, zL, zM, zN, reduceCtorEq, hp, hpq, cc, nb]) | fail
  refine W.loopN (fun m' fr' st' => ∃ i : Nat, i + m' = 4 ∧ fr' 13 = .int .i64 i ∧ fr' 0 = .ptr p 0 ∧ fr' 3 = .ptr r 0 ∧ fr' 2 = .int .i64 a ∧ st'.mem p = some (.cells [.ptr q 0, c1, tabD o 5 es, c3]) ∧ st'.mem q = some (.cells (rdC bs (a + (nums (ns.take (i + 1))).length : Nat) 0 s)) ∧
    st'.mem r = some (.cells (pcs c p0 p1 p2 p3 i)) ∧ st'.tok = st.tok ∧ ∀ x, x ≠ p → x ≠ q → ∀ ob, st.mem x = some ob → x ≠ r ∧ st'.mem x = some ob) ?_ 4 _ _
    ⟨0, rfl, by simp only [go_sem, ↓reduceIte, zA, zB, zC, zD, zE, zF, zG, zL, zM, zN, reduceCtorEq]; rfl, by simp only [go_sem, ↓reduceIte, zA, zB, zC, zD, zE, zF, zG, zL, zM, zN, reduceCtorEq], by simp only [go_sem, ↓reduceIte, zA, zB, zC, zD, zE, zF, zG, zL, zM, zN, reduceCtorEq], by simp only [go_sem, ↓reduceIte, zA, zB, zC, zD, zE, zF, zG, zL, zM, zN, reduceCtorEq], by simp only [go_sem, ↓reduceIte, zA, zB, zC, zD, zE, zF, zG, zL, zM, zN, reduceCtorEq, hp, hpq, nb], by rw [e0]; simp only [go_sem, ↓reduceIte, zA, zB, zC, zD, zE, zF, zG, zL, zM, zN, reduceCtorEq, nb], by simp only [go_sem, ↓reduceIte, zA, zB, zC, zD, zE, zF, zG, zL, zM, zN, reduceCtorEq]; rfl, rfl, fun x h1 h2 ob h3 => ⟨by intro e; rw [e] at h3; simp only [nb, reduceCtorEq] at h3, by
      simp only [go_sem, ↓reduceIte, zA, zB, zC, zD, zE, zF, zG, zL, zM, zN, reduceCtorEq, h1, h2]
      split
      · rename_i e; rw [e] at h3; simp only [nb, reduceCtorEq] at h3
      · exact h3⟩⟩
  rintro m' N' ih fr' st' ⟨i, hi, f13, f0, f3, f2, mp, mq, mr, mt, hfr⟩
  have hpl := pcs_len c p0 p1 p2 p3 i
  have hrr : (p ≠ r ∧ r ≠ p) ∧ q ≠ r ∧ r ≠ q := by
    refine ⟨?_, ?_⟩ <;> simp only [ne_eq, nb, not_false_eq_true, and_self]
  rcases Nat.lt_or_ge i 4 with h4 | h4
  · obtain ⟨n1, e1⟩ := hns (i + 1) (by omega)
    rw [hgi i h4] at n1 e1
    have hpi := hpp i h4
    have hsub : ((([p0, p1, p2, p3].getD i 0 + 1).toNat : Nat) : Int) - 1 = [p0, p1, p2, p3].getD i 0 := by omega
    have h4i : (i : Int) < 4 := by omega
    have hput := pcs_put c p0 p1 p2 p3 i h4
    repeat' first | refine yj fun N hN => ?_ | refine yk ?_ | refine yl [3] ?_ | ((first | refine ya rfl rfl fun N hN => ?_ | refine ym ?_); simp only [go_sem, ↓reduceIte, zA, zB, zC, zD, zE, zF, zG, zL, zM, zN, reduceCtorEq, f13, f0, f3, f2, mp, mq, mr, hpq, hrr, hpl, hsub, h4i, h4, hput, Tryz.results35]) | ((first | refine yg rfl ?_ | refine yn ?_); try simp only [go_sem]) | ((first | refine yx hN _ _ ?_ | refine yz hN _ _ ?_); clear hN N) | (refine sem69 n1 65 (by omega) (by omega) hl mp mq ?_; try simp only [go_sem, ↓reduceIte, zA, zB, zC, zD, zE, zF, zG, zL, zM, zN, reduceCtorEq, f13, f0, f3, f2, mp, mq, mr, hpq, hrr, hpl, hsub, h4i, h4, hput]) | (refine And.intro ?_ ?_; · omega) | clear hN N | fail
    rw [← e1]
    refine ih.back (m' - 1) (by omega) _ _ ⟨i + 1, by omega, by simp only [go_sem, ↓reduceIte, zA, zB, zC, zD, zE, zF, zG, zL, zM, zN, reduceCtorEq]; rfl, by simp only [go_sem, ↓reduceIte, zA, zB, zC, zD, zE, zF, zG, zL, zM, zN, reduceCtorEq, f0], by simp only [go_sem, ↓reduceIte, zA, zB, zC, zD, zE, zF, zG, zL, zM, zN, reduceCtorEq, f3], by simp only [go_sem, ↓reduceIte, zA, zB, zC, zD, zE, zF, zG, zL, zM, zN, reduceCtorEq, f2], by simp only [go_sem, ↓reduceIte, zA, zB, zC, zD, zE, zF, zG, zL, zM, zN, reduceCtorEq, mp, hpq, hrr], by simp only [go_sem, ↓reduceIte, zA, zB, zC, zD, zE, zF, zG, zL, zM, zN, reduceCtorEq, hrr], by simp only [go_sem, ↓reduceIte, zA, zB, zC, zD, zE, zF, zG, zL, zM, zN, reduceCtorEq], mt, fun x h1 h2 ob h3 => ⟨(hfr x h1 h2 ob h3).1, by
      simp only [go_sem, ↓reduceIte, zA, zB, zC, zD, zE, zF, zG, zL, zM, zN, reduceCtorEq, h2, (hfr x h1 h2 ob h3).1]; exact (hfr x h1 h2 ob h3).2⟩⟩
  · obtain rfl : i = 4 := by omega
    have hall : ns.take (4 + 1) = ns := List.take_of_length_le (by omega)
    rw [hall] at mq
    have h4i : ¬ ((4 : Nat) : Int) < 4 := by omega
    have hps : pcs c p0 p1 p2 p3 4 = [.int .i64 c, .int .i64 p0, .int .i64 p1, .int .i64 p2, .int .i64 p3] := rfl
    rw [hps] at mr
    cases o with
    | none =>
      obtain rfl := ho.n rfl
      simp only [tabD] at mp
      repeat' first | refine yj fun N hN => ?_ | refine yl [3] ?_ | ((first | refine ya rfl rfl fun N hN => ?_ | refine yc rfl rfl fun N hN => ?_ | refine ye rfl rfl fun N hN => ?_ | (refine yw hN _ _ ?_; clear hN N) | refine ym ?_ | refine yp ?_); simp only [go_sem, ↓reduceIte, zA, zB, zC, zD, zE, zF, zG, zL, zM, zN, reduceCtorEq, f13, f0, f3, f2, mp, mq, mr, hpq, hrr, h4i, Tryz.results35]) | ((first | refine yg rfl ?_ | refine yn ?_ | refine yi ?_); try simp only [go_sem]) | ((first | refine yx hN _ _ ?_ | refine yz hN _ _ ?_ | refine yy hN _ ?_); clear hN N) | refine yt (id := 9) mixed [3] (.rd 0 (.rd 1 (.rd 2 (.rd 3 (.rd 4 (.act 5 [4, 3, 2, 1, 0] (.act 6 [4, 3, 2, 1, 0] (.act 7 [0] (.act 8 [] (.act 9 [] (.act 10 [] (.nil)))))))))))) (by kernel_rfl) ?_ | (refine sem74 ⟨c, [p0, p1, p2, p3], rfl⟩ hwf _ _ ?_; rw [hlv]; try simp only [go_sem, ↓reduceIte, zA, zB, zC, zD, zE, zF, zG, zL, zM, zN, reduceCtorEq, f13, f0, f3, f2, mp, mq, mr, hpq, hrr, h4i]) | ((refine yr fun j hj => ?_; (try have hj0 := St.tok_of_give hj)); try simp only [go_sem, ↓reduceIte, zA, zB, zC, zD, zE, zF, zG, zL, zM, zN, reduceCtorEq, f13, f0, f3, f2, mp, mq, mr, hpq, hrr, h4i]) | clear hN N | fail
      refine hk j _ (by simp only [go_sem, ↓reduceIte, zA, zB, zC, zD, zE, zF, zG, zL, zM, zN, reduceCtorEq, tabD]; rfl) (by simp only [go_sem, ↓reduceIte, zA, zB, zC, zD, zE, zF, zG, zL, zM, zN, reduceCtorEq, mq, hpq]) (.mk0 (fun x hx ob ho => ?_) (fun i => by simp only [go_sem, ↓reduceIte, zA, zB, zC, zD, zE, zF, zG, zL, zM, zN, reduceCtorEq, mt]) (by rw [← mt]; exact hj))
      simp only [not_or] at hx
      simp only [go_sem, ↓reduceIte, zA, zB, zC, zD, zE, zF, zG, zL, zM, zN, reduceCtorEq, hx]; exact (hfr x hx.1 hx.2 ob ho).2
    | some j0 =>
      have htok : st'.tok j0 = true := by rw [mt]; exact ho.t j0 rfl
      simp only [tabD] at mp
      repeat' first | refine yj fun N hN => ?_ | refine yl [3] ?_ | ((first | refine ya rfl rfl fun N hN => ?_ | refine yc rfl rfl fun N hN => ?_ | refine ye rfl rfl fun N hN => ?_ | (refine yw hN _ _ ?_; clear hN N) | refine ym ?_ | refine yp ?_); simp only [go_sem, ↓reduceIte, zA, zB, zC, zD, zE, zF, zG, zL, zM, zN, reduceCtorEq, f13, f0, f3, f2, mp, mq, mr, hpq, hrr, h4i, htok, Tryz.results35]) | ((first | refine yg rfl ?_ | refine yn ?_ | refine yi ?_); try simp only [go_sem]) | ((first | refine yx hN _ _ ?_ | refine yz hN _ _ ?_ | refine yy hN _ ?_); clear hN N) | refine yt (id := 9) mixed [3] (.rd 0 (.rd 1 (.rd 2 (.rd 3 (.rd 4 (.act 5 [4, 3, 2, 1, 0] (.act 6 [4, 3, 2, 1, 0] (.act 7 [0] (.act 8 [] (.act 9 [] (.act 10 [] (.nil)))))))))))) (by kernel_rfl) ?_ | (refine sem74 ⟨c, [p0, p1, p2, p3], rfl⟩ hwf _ _ ?_; rw [hlv]; try simp only [go_sem, ↓reduceIte, zA, zB, zC, zD, zE, zF, zG, zL, zM, zN, reduceCtorEq, f13, f0, f3, f2, mp, mq, mr, hpq, hrr, h4i, htok]) | ((refine yr fun j hj => ?_; (try have hj0 := St.tok_of_give hj)); try simp only [go_sem, ↓reduceIte, zA, zB, zC, zD, zE, zF, zG, zL, zM, zN, reduceCtorEq, f13, f0, f3, f2, mp, mq, mr, hpq, hrr, h4i, htok]) | (refine And.intro ?_ ?_; · omega) | clear hN N | fail
      refine hk j _ (by simp only [go_sem, ↓reduceIte, zA, zB, zC, zD, zE, zF, zG, zL, zM, zN, reduceCtorEq, tabD]; rfl) (by simp only [go_sem, ↓reduceIte, zA, zB, zC, zD, zE, zF, zG, zL, zM, zN, reduceCtorEq, mq, hpq]) (.mk1 (fun x hx ob ho => ?_) (fun i => by simp only [go_sem, ↓reduceIte, zA, zB, zC, zD, zE, zF, zG, zL, zM, zN, reduceCtorEq, mt]) (by rw [← mt]; exact hj))
      simp only [not_or] at hx
      simp only [go_sem, ↓reduceIte, zA, zB, zC, zD, zE, zF, zG, zL, zM, zN, reduceCtorEq, hx]; exact (hfr x hx.1 hx.2 ob ho).2
end
end Go.Proofs.YtddbidoaolnegaaGreatDoor
