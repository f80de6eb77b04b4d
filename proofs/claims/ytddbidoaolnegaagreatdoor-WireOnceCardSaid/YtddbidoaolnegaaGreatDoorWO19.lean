/-
PART OF A CLAIM: PK. No statement of the seat is proved here; no condition. -/
import Derived.Test.YtddbidoaolnegaaGreatDoorWO18
set_option linter.all false
/- The writer: declarations: the walk. No statement of the seat is proved here; no condition. -/
namespace Go.Proofs.YtddbidoaolnegaaGreatDoor
open Go Go.RowKit
open Nat renaming reduceLT → zA, reduceEqDiff → zB, reduceBEq → zC, reduceAdd → zD, reduceMul → zE, reduceSub → zF, reduceLeDiff → zG, mul_one → zH, zero_add → zI, add_zero → zJ
open Int renaming toNat_natCast → zK, reduceAdd → zL, reduceLE → zM, reduceLT → zN, natCast_nonneg → zO
open Go.Proofs.YtddbidoaolnegaaGreatDoor renaming evI_plain → ya, evI_guard → yb, evT_rd → yc, evT_rdg → yd, evT_act → ye, evT_actg → yf, evI_done → yg, evT_two → yh, evT_nil → yi, W.seqG → yj, W.block → yk, W.regionI → yl, W.cond → ym, W.skip → yn, W.ret → yo, W.exit → yp, gdD_split → yq, newT_intro → yr, newB_intro → ys, W.draw → yt, St.set_del → yu, St.give_take → yv, AGo.go → yw, IGo.go → yx, TGo.go → yy, Goes.go → yz
attribute [local go_sem] zK zP zQ zH zI zJ zO
attribute [local irreducible] W evI evT evL evOp evBin gdD Sem newT newB fillD bldOf
set_option maxRecDepth 10000
set_option maxHeartbeats 4000000

noncomputable def En.num (e : En) (n : Nat) : En := { e with db := e.db ++ YtddbidoaolnegaaGreatDoor.num n }
noncomputable def En.nm (e : En) (s : List UInt8) : En := (e.name s).num (pos e.names s)
noncomputable def En.tm (e : En) (t : Tm) : En := (termE t e).num (pos (termE t e).terms t)
noncomputable def ctorE (e : En) (c : Cc) : En := (e.nm c.name).tm c.ty
noncomputable def indE (e : En) (x : In) : En := x.cs.foldl ctorE (((e.nm x.name).tm x.ty).num x.cs.length)
noncomputable def En.kind (e : En) (d : De) : En := ({ e with db := e.db ++ [UInt8.ofNat d.kind] } : En).num d.params.toNat
noncomputable def declE (e : En) (d : De) : En :=
  if d.kind = 4 then d.inds.foldl indE (((e.kind d).num d.fixed.toNat).num d.inds.length)
  else if d.kind = 1 then ((e.kind d).nm d.name).tm d.ty else (((e.kind d).nm d.name).tm d.ty).tm d.val

def Cc.cost (c : Cc) : Nat := 5 + c.ty.size
def In.cost (x : In) : Nat := 5 + x.ty.size + (x.cs.map Cc.cost).sum
def De.cost (d : De) : Nat := 10 + d.ty.size + d.val.size + (d.inds.map In.cost).sum

def WX (rw ra rm : Nat) (e : En) (n : Nat) (st : St) : Prop := ∃ A c, WS rw ra rm e A c st ∧ EOk e A ∧ AV A ∧ ESz e n ∧ A.length ≤ n
theorem WX.le {rw ra rm : Nat} {e : En} {n m : Nat} {st : St} (h : WX rw ra rm e n st) (hn : n ≤ m) : WX rw ra rm e m st := by
  obtain ⟨A, c, h1, h2, h3, h4, h5⟩ := h
  exact ⟨A, c, h1, h2, h3, h4.le hn, by omega⟩

theorem semX52 {m : Nat} (hm : m < 18446744073709551616) {rw ra rm : Nat} {e : En} {n : Nat} {st : St} {k : D → St → Prop} (h : WX rw ra rm e n st) (hn : n ≤ 20000) (hk : ∀ st', WX rw ra rm (e.num m) (n + 1) st' → k (.tup []) st') : Sem P 52 [.ptr rw 0, .int .u64 m] st k := by
  obtain ⟨A, c, h1, h2, h3, h4, h5⟩ := h
  have hd := h4.d
  have hl := num_len64 hm
  refine sem52 m hm rw ra rm e A c st h1 (by omega) k fun c' st' uS _ => hk st' ⟨A, c', uS, ⟨h2.names, h2.levels, h2.terms⟩, h3, ⟨by have := h4.nm; exact ⟨by show e.names.length ≤ _; omega, by show (nmB e.names).length ≤ _; omega⟩, by have := h4.l; exact ⟨by show e.levels.length ≤ _; omega, by show (lvBs e.levels).length ≤ _; omega⟩, by have := h4.t; exact ⟨by show e.terms.length ≤ _; omega, by show e.tb.length ≤ _; omega⟩, ?_⟩, by omega⟩
  show (e.db ++ num m).length ≤ _
  rw [List.length_append]; omega

theorem semX53 {s : List UInt8} (hs : nameB s = true) {rw ra rm : Nat} {e : En} {n : Nat} {st : St} {k : D → St → Prop} (h : WX rw ra rm e n st) (hn : n ≤ 20000) (hk : ∀ st', WX rw ra rm (e.name s) (n + 1) st' → pos e.names s ≤ 20000 → k (.int .u64 (pos e.names s)) st') : Sem P 53 [.ptr rw 0, .str s] st k := by
  obtain ⟨A, c, h1, h2, h3, h4, h5⟩ := h
  have hl := nmB_len (l := e.names) hs
  have a1 := h4.nm
  have a2 := h4.l
  have a3 := h4.t
  have a4 := h4.d
  exact sem53 s hs rw ra rm e A c st h1 h2 (h4.sm hn) k fun c' st' uS _ => hk st' ⟨A, c', uS, h2.name hs, h3, ⟨⟨by show (addU e.names s).length ≤ _; omega, by show (nmB (addU e.names s)).length ≤ _; omega⟩, ⟨by show e.levels.length ≤ _; omega, by show (lvBs e.levels).length ≤ _; omega⟩, ⟨by show e.terms.length ≤ _; omega, by show e.tb.length ≤ _; omega⟩, by show e.db.length ≤ _; omega⟩, by omega⟩ (by have := pos_le e.names s; omega)

theorem termB_ok {t : Tm} (h : termB t = true) : okT3 t = true ∧ t.size ≤ 4096 := by
  simp only [termB, Bool.and_eq_true, decide_eq_true_eq] at h
  have := Tm.deep_le_size t
  refine ⟨?_, h.1.1.2⟩
  simp only [okT3, Bool.and_eq_true, decide_eq_true_eq]
  exact ⟨⟨h.1.1.1, by omega⟩, by omega⟩

theorem semX54 {t : Tm} (hw : t.wf) (ht : termB t = true) {rw ra rm : Nat} {e : En} {n : Nat} {st : St} {k : D → St → Prop} (h : WX rw ra rm e n st) (hn : n + t.size ≤ 20000) (hk : ∀ st', WX rw ra rm (termE t e) (n + t.size) st' → pos (termE t e).terms t ≤ 20000 → k (.int .u64 (pos (termE t e).terms t)) st') :
    Sem P 54 [.ptr rw 0, t.d] st k := by
  obtain ⟨A, c, h1, h2, h3, h4, h5⟩ := h
  obtain ⟨ho, hs⟩ := termB_ok ht
  obtain ⟨oA, _, _⟩ := okT3_all ho
  obtain ⟨m, hm, hm2⟩ := putA_ext t A
  have hlen : (putA t A).length ≤ n + t.size := by rw [hm, List.length_append]; omega
  have hE' : EOk e (putA t A) := ⟨h2.names, h2.levels, fun x hx => putA_sub (h2.terms x hx)⟩
  have hv' := putA_av t A h3 oA hw
  have hz := ESz.term t h4 hn oA
  refine sem54 t hw ho rw ra rm e A c st n h1 h2 h3 h4 hn (by omega) k fun c' st' uS _ => hk st' ⟨putA t A, c', uS, EOk.term hv' t hE' (putA_mem t A), hv', hz, hlen⟩ ?_
  have := pos_le (termE t e).terms t
  have := hz.t
  omega

theorem semX54n {t : Tm} (hw : t.wf) (ht : termB t = true) {rw ra rm : Nat} {e : En} {n : Nat} {st : St} {k : D → St → Prop} (h : WX rw ra rm e n st) (hn : n + t.size ≤ 20000) (hk : ∀ st', WX rw ra rm (termE t e) (n + t.size) st' → pos (termE t e).terms t ≤ 20000 → k (.int .u64 (pos (termE t e).terms t)) st') :
    Sem P 54 [.ptr rw 0, t.d] st k := semX54 hw ht h hn hk

/-- The kind's byte. -/
theorem kind_up {rw ra rm : Nat} {e : En} {A : List Tm} {c : WC} {st : St} (hS : WS rw ra rm e A c st) {b : UInt8} {j : Nat} {s : St} (hj : st.tok j = false)
    (hs : ∀ i, c.dj ≠ some i → st.tok i = true → s.tok i = true) (hj2 : s.tok j = true) (hm : ∀ r x, st.mem r = some x → s.mem r = some x) :
    WS rw ra rm { e with db := e.db ++ [b] } A { c with dj := some j } (s.set rw (.cells [mapD c.rn, .sl c.nw c.nz (byD (nmB e.names)), mapD c.rl, .sl c.lw c.lz (byD (lvBs e.levels)), mapD c.rt, bD c.tj e.tb, .ptr ra 0, .sl (.tok j) 1 (byD (e.db ++ [b])), .bool false])) :=
  (hS.upDecl (j := j) (db := e.db ++ [b]) (by rw [St.mem_set, if_pos rfl]; rfl) (fun r x hr hx => by rw [St.mem_set, if_neg hr]; exact hm r x hx) hj (by rw [St.tok_set]; exact hj2) (fun i hi ht => by rw [St.tok_set]; exact hs i hi ht)).1

theorem map_sum_take {α : Type} (f : α → Nat) (l : List α) (z : α) {i : Nat} (h : i < l.length) : ((l.take (i + 1)).map f).sum = ((l.take i).map f).sum + f (l.getD i z) ∧ ((l.take (i + 1)).map f).sum ≤ (l.map f).sum := by
  have e := take_succ_getD l z h
  refine ⟨by rw [e]; simp, ?_⟩
  conv => rhs; rw [← List.take_append_drop (i + 1) l]
  rw [List.map_append, List.sum_append]; omega
theorem foldl_take {α β : Type} (f : β → α → β) (b : β) (l : List α) (z : α) {i : Nat} (h : i < l.length) : (l.take (i + 1)).foldl f b = f ((l.take i).foldl f b) (l.getD i z) := by
  rw [take_succ_getD l z h, List.foldl_append]; rfl

theorem sem18 (d : De) (hw : d.Wf) (hd : declB d = true) (rw ra rm : Nat) (e : En) (n : Nat) (st : St) (hX : WX rw ra rm e n st) (hn : n + d.cost ≤ 20000) (k : D → St → Prop)
    (hk : ∀ st', WX rw ra rm (declE e d) (n + d.cost) st' → k (.tup []) st') : Sem P 18 [.ptr rw 0, d.d] st k := by
  simp only [declB, Bool.and_eq_true, decide_eq_true_eq] at hd
  obtain ⟨⟨p0, p4⟩, hd⟩ := hd
  have hk256 := hw.kind
  have hpw := wrap_u64i p0 (by omega)
  rw [De.cost] at hn hk
  refine Sem.of_body Tryz.call18 Tryz.func18 rfl Tryz.ntmps18 (by simp) ?_
  repeat' first | refine yj fun N hN => ?_ | refine yl [] ?_ | (refine ya rfl rfl fun N hN => ?_; simp only [go_sem, ↓reduceIte, zA, zB, zC, zD, zE, zF, zG, zL, zM, zN, reduceCtorEq, Tryz.results18]) | (refine yg rfl ?_; try simp only [go_sem]) | ((first | refine yx hN _ _ ?_ | refine yz hN _ _ ?_); clear hN N) | fail
  have key : ∀ (fr : Fr) (st' : St), WX rw ra rm { e with db := e.db ++ [UInt8.ofNat d.kind] } (n + 1) st' → fr 0 = .ptr rw 0 → fr 3 = .eptr d.d 0 → N fr st' := by
    intro fr st' hX f0 f3
    refine Goes.go hN _ _ ?_
    clear hN N
    by_cases k4 : d.kind = 4
    · have ei : (d.kind : Int) = 4 := by omega
      simp only [k4, Nat.reduceEqDiff, reduceIte, or_self, Bool.and_eq_true, decide_eq_true_eq] at hd
      obtain ⟨⟨⟨⟨⟨⟨⟨h1, h2⟩, h3⟩, h4⟩, h5⟩, h6⟩, h7⟩, h8⟩ := hd
      have hfw := wrap_u64i h4 (by omega)
      have hiw := wrap_u64 (n := d.inds.length) (by omega)
      rw [declE, if_pos k4] at hk
      repeat' first | refine yj fun N hN => ?_ | refine yk ?_ | refine yl [] ?_ | ((first | refine ya rfl rfl fun N hN => ?_ | refine ym ?_); simp only [go_sem, ↓reduceIte, zA, zB, zC, zD, zE, zF, zG, zL, zM, zN, reduceCtorEq, f0, f3, hpw, ei, hfw, hiw, Tryz.results18]) | ((first | refine yg rfl ?_ | refine yn ?_); try simp only [go_sem]) | ((first | refine yx hN _ _ ?_ | refine yz hN _ _ ?_); clear hN N) | (refine semX52 (by omega) hX (by omega) (fun st' hX => ?_); try simp only [go_sem, ↓reduceIte, zA, zB, zC, zD, zE, zF, zG, zL, zM, zN, reduceCtorEq, f0, f3, hpw, ei, hfw, hiw]) | fail
      refine W.loopN (fun m fr st' => ∃ i : Nat, WX rw ra rm ((d.inds.take i).foldl indE (((e.kind d).num d.fixed.toNat).num d.inds.length)) (n + 4 + ((d.inds.take i).map In.cost).sum) st' ∧ i + m = d.inds.length ∧
        fr 62 = .int .i64 i ∧ fr 61 = .int .i64 d.inds.length ∧ fr 60 = .sl .frozen 7 (d.inds.map In.d) ∧ fr 0 = .ptr rw 0) ?_ d.inds.length _ _
        ⟨0, hX.le (by simp), by simp, by simp only [go_sem, ↓reduceIte, zA, zB, zC, zD, zE, zF, zG, zL, zM, zN, reduceCtorEq]; rfl, by simp only [go_sem, ↓reduceIte, zA, zB, zC, zD, zE, zF, zG, zL, zM, zN, reduceCtorEq], by simp only [go_sem, ↓reduceIte, zA, zB, zC, zD, zE, zF, zG, zL, zM, zN, reduceCtorEq], by simp only [go_sem, ↓reduceIte, zA, zB, zC, zD, zE, zF, zG, zL, zM, zN, reduceCtorEq, f0]⟩
      clear hX f0 f3
      rintro m N' ih fr st' ⟨i, hX, hi, f62, f61, f60, f0⟩
      rcases Nat.lt_or_ge i d.inds.length with hlt | hge
      · have hg : (d.inds.map In.d).getD i .any = (d.inds.getD i In.z).d := getD_map _ _ _ hlt
        have i4 : (i : Int) < d.inds.length := by omega
        have hmx := getD_mem d.inds In.z hlt
        have hcost := map_sum_take In.cost d.inds In.z hlt
        have hfold := foldl_take indE (((e.kind d).num d.fixed.toNat).num d.inds.length) d.inds In.z hlt
        have hxw := hw.inds _ hmx
        have hxb : indB (d.inds.getD i In.z) = true := by rw [List.all_eq_true] at h8; exact h8 _ hmx
        rw [In.cost] at hcost
        generalize d.inds.getD i In.z = x at *
        generalize hB : (d.inds.take i).foldl indE (((e.kind d).num d.fixed.toNat).num d.inds.length) = eB at *
        simp only [indB, Bool.and_eq_true, decide_eq_true_eq] at hxb
        obtain ⟨⟨⟨x1, x2⟩, x3⟩, x4⟩ := hxb
        have hcw := wrap_u64 (n := x.cs.length) (by omega)
        repeat' first | rw [yu hr] | refine yj fun N hN => ?_ | refine yk ?_ | refine yl [] ?_ | ((first | refine ya rfl rfl fun N hN => ?_ | refine ym ?_); simp only [go_sem, ↓reduceIte, zA, zB, zC, zD, zE, zF, zG, zL, zM, zN, reduceCtorEq, f62, f61, f60, f0, hg, hlt, i4, hcw, Tryz.results18]) | ((first | refine yg rfl ?_ | refine yn ?_); try simp only [go_sem]) | ((first | refine yx hN _ _ ?_ | refine yz hN _ _ ?_); clear hN N) | (refine semX53 x1 hX (by omega) (fun st' hX hp => ?_); try simp only [go_sem, ↓reduceIte, zA, zB, zC, zD, zE, zF, zG, zL, zM, zN, reduceCtorEq, f62, f61, f60, f0, hg, hlt, i4, hcw]) | (refine semX54 hxw.ty x2 hX (by omega) (fun st' hX hp => ?_); try simp only [go_sem, ↓reduceIte, zA, zB, zC, zD, zE, zF, zG, zL, zM, zN, reduceCtorEq, f62, f61, f60, f0, hg, hlt, i4, hcw]) | (refine semX52 (by omega) hX (by omega) (fun st' hX => ?_); try simp only [go_sem, ↓reduceIte, zA, zB, zC, zD, zE, zF, zG, zL, zM, zN, reduceCtorEq, f62, f61, f60, f0, hg, hlt, i4, hcw]) | ((refine ys fun r hr => ?_; (try have hrn := (St.set_none hr).1); (try have hrn2 := Ne.symm (St.set_none hr).1)); try simp only [go_sem, ↓reduceIte, zA, zB, zC, zD, zE, zF, zG, zL, zM, zN, reduceCtorEq, f62, f61, f60, f0, hg, hlt, i4, hcw]) | fail
        refine W.loopN (fun m fr st' => ∃ j : Nat, WX rw ra rm ((x.cs.take j).foldl ctorE (((eB.nm x.name).tm x.ty).num x.cs.length)) (n + 4 + ((d.inds.take i).map In.cost).sum + 4 + x.ty.size + ((x.cs.take j).map Cc.cost).sum) st' ∧ j + m = x.cs.length ∧
          fr 87 = .int .i64 j ∧ fr 86 = .int .i64 x.cs.length ∧ fr 85 = .sl .frozen 6 (x.cs.map Cc.d) ∧ fr 62 = .int .i64 i ∧ fr 61 = .int .i64 d.inds.length ∧ fr 60 = .sl .frozen 7 (d.inds.map In.d) ∧ fr 0 = .ptr rw 0) ?_ x.cs.length _ _
          ⟨0, hX.le (by simp <;> omega), by simp, by simp only [go_sem, ↓reduceIte, zA, zB, zC, zD, zE, zF, zG, zL, zM, zN, reduceCtorEq]; rfl, by simp only [go_sem, ↓reduceIte, zA, zB, zC, zD, zE, zF, zG, zL, zM, zN, reduceCtorEq], by simp only [go_sem, ↓reduceIte, zA, zB, zC, zD, zE, zF, zG, zL, zM, zN, reduceCtorEq], by simp only [go_sem, ↓reduceIte, zA, zB, zC, zD, zE, zF, zG, zL, zM, zN, reduceCtorEq, f62], by simp only [go_sem, ↓reduceIte, zA, zB, zC, zD, zE, zF, zG, zL, zM, zN, reduceCtorEq, f61], by simp only [go_sem, ↓reduceIte, zA, zB, zC, zD, zE, zF, zG, zL, zM, zN, reduceCtorEq, f60], by simp only [go_sem, ↓reduceIte, zA, zB, zC, zD, zE, zF, zG, zL, zM, zN, reduceCtorEq, f0]⟩
        clear hX f0 f60 f61 f62
        rintro m2 N2 ih2 fr2 st2 ⟨j, hX, hj, f87, f86, f85, f62, f61, f60, f0⟩
        rcases Nat.lt_or_ge j x.cs.length with jlt | jge
        · have jg : (x.cs.map Cc.d).getD j .any = (x.cs.getD j Cc.z).d := getD_map _ _ _ jlt
          have j4 : (j : Int) < x.cs.length := by omega
          have jmx := getD_mem x.cs Cc.z jlt
          have jcost := map_sum_take Cc.cost x.cs Cc.z jlt
          have jfold := foldl_take ctorE (((eB.nm x.name).tm x.ty).num x.cs.length) x.cs Cc.z jlt
          have jxw := hxw.cs _ jmx
          have jxb : ctorB (x.cs.getD j Cc.z) = true := by rw [List.all_eq_true] at x4; exact x4 _ jmx
          rw [Cc.cost] at jcost
          generalize x.cs.getD j Cc.z = y at *
          simp only [ctorB, Bool.and_eq_true] at jxb
          repeat' first | rw [yu hr] | refine yj fun N hN => ?_ | refine yk ?_ | refine yl [] ?_ | ((first | refine ya rfl rfl fun N hN => ?_ | refine ym ?_); simp only [go_sem, ↓reduceIte, zA, zB, zC, zD, zE, zF, zG, zL, zM, zN, reduceCtorEq, f87, f86, f85, f62, f61, f60, f0, jg, jlt, j4, Tryz.results18]) | ((first | refine yg rfl ?_ | refine yn ?_); try simp only [go_sem]) | ((first | refine yx hN _ _ ?_ | refine yz hN _ _ ?_); clear hN N) | (refine semX53 jxb.1 hX (by omega) (fun st' hX hp => ?_); try simp only [go_sem, ↓reduceIte, zA, zB, zC, zD, zE, zF, zG, zL, zM, zN, reduceCtorEq, f87, f86, f85, f62, f61, f60, f0, jg, jlt, j4]) | (refine semX54 jxw.ty jxb.2 hX (by omega) (fun st' hX hp => ?_); try simp only [go_sem, ↓reduceIte, zA, zB, zC, zD, zE, zF, zG, zL, zM, zN, reduceCtorEq, f87, f86, f85, f62, f61, f60, f0, jg, jlt, j4]) | (refine semX52 (by omega) hX (by omega) (fun st' hX => ?_); try simp only [go_sem, ↓reduceIte, zA, zB, zC, zD, zE, zF, zG, zL, zM, zN, reduceCtorEq, f87, f86, f85, f62, f61, f60, f0, jg, jlt, j4]) | ((refine ys fun r hr => ?_; (try have hrn := (St.set_none hr).1); (try have hrn2 := Ne.symm (St.set_none hr).1)); try simp only [go_sem, ↓reduceIte, zA, zB, zC, zD, zE, zF, zG, zL, zM, zN, reduceCtorEq, f87, f86, f85, f62, f61, f60, f0, jg, jlt, j4]) | (refine And.intro ?_ ?_; · omega) | clear hN N | fail
          refine ih2.back (m2 - 1) (by omega) _ _ ⟨j + 1, by rw [jfold]; exact hX.le (by omega), by omega, ?_, ?_, ?_, ?_, ?_, ?_, ?_⟩
          · simp only [go_sem, ↓reduceIte, zA, zB, zC, zD, zE, zF, zG, zL, zM, zN, reduceCtorEq]; rfl
          · simp only [go_sem, ↓reduceIte, zA, zB, zC, zD, zE, zF, zG, zL, zM, zN, reduceCtorEq, f86]
          · simp only [go_sem, ↓reduceIte, zA, zB, zC, zD, zE, zF, zG, zL, zM, zN, reduceCtorEq, f85]
          · simp only [go_sem, ↓reduceIte, zA, zB, zC, zD, zE, zF, zG, zL, zM, zN, reduceCtorEq, f62]
          · simp only [go_sem, ↓reduceIte, zA, zB, zC, zD, zE, zF, zG, zL, zM, zN, reduceCtorEq, f61]
          · simp only [go_sem, ↓reduceIte, zA, zB, zC, zD, zE, zF, zG, zL, zM, zN, reduceCtorEq, f60]
          · simp only [go_sem, ↓reduceIte, zA, zB, zC, zD, zE, zF, zG, zL, zM, zN, reduceCtorEq, f0]
        · have j4 : ¬ (j : Int) < x.cs.length := by omega
          rw [List.take_of_length_le jge] at hX
          repeat' first | refine yj fun N hN => ?_ | refine yl [] ?_ | ((first | refine ya rfl rfl fun N hN => ?_ | refine ym ?_ | refine yp ?_); simp only [go_sem, ↓reduceIte, zA, zB, zC, zD, zE, zF, zG, zL, zM, zN, reduceCtorEq, f87, f86, f85, f62, f61, f60, f0, j4, Tryz.results18]) | (refine yg rfl ?_; try simp only [go_sem]) | ((first | refine yx hN _ _ ?_ | refine yz hN _ _ ?_); clear hN N) | (refine And.intro ?_ ?_; · omega) | clear hN N | fail
          refine ih.back (m - 1) (by omega) _ _ ⟨i + 1, by rw [hfold]; exact hX.le (by omega), by omega, ?_, ?_, ?_, ?_⟩
          · simp only [go_sem, ↓reduceIte, zA, zB, zC, zD, zE, zF, zG, zL, zM, zN, reduceCtorEq]; rfl
          · simp only [go_sem, ↓reduceIte, zA, zB, zC, zD, zE, zF, zG, zL, zM, zN, reduceCtorEq, f61]
          · simp only [go_sem, ↓reduceIte, zA, zB, zC, zD, zE, zF, zG, zL, zM, zN, reduceCtorEq, f60]
          · simp only [go_sem, ↓reduceIte, zA, zB, zC, zD, zE, zF, zG, zL, zM, zN, reduceCtorEq, f0]
      · have i4 : ¬ (i : Int) < d.inds.length := by omega
        rw [List.take_of_length_le hge] at hX
        repeat' first | refine yj fun N hN => ?_ | refine yl [] ?_ | ((first | refine ya rfl rfl fun N hN => ?_ | refine ym ?_ | refine yp ?_); simp only [go_sem, ↓reduceIte, zA, zB, zC, zD, zE, zF, zG, zL, zM, zN, reduceCtorEq, f62, f61, f60, f0, i4, Tryz.results18]) | (refine yg rfl ?_; try simp only [go_sem]) | ((first | refine yx hN _ _ ?_ | refine yz hN _ _ ?_); clear hN N) | clear hN N | fail
        exact hk _ (hX.le (by omega))
    · have ei : ¬ (d.kind : Int) = 4 := by omega
      rw [declE, if_neg k4] at hk
      simp only [k4, if_false] at hd
      by_cases k1 : d.kind = 1
      · have e1 : (d.kind : Int) = 1 := by omega
        rw [if_pos k1] at hk
        simp only [k1, Nat.reduceEqDiff, reduceIte, Bool.and_eq_true, decide_eq_true_eq] at hd
        obtain ⟨⟨⟨⟨d1, d2⟩, d3⟩, d4⟩, d5⟩ := hd
        repeat' first | refine yj fun N hN => ?_ | refine yl [] ?_ | ((first | refine ya rfl rfl fun N hN => ?_ | refine ym ?_ | refine yo ?_); simp only [go_sem, ↓reduceIte, zA, zB, zC, zD, zE, zF, zG, zL, zM, zN, reduceCtorEq, f0, f3, hpw, e1, Tryz.results18]) | ((first | refine yg rfl ?_ | refine yn ?_); try simp only [go_sem]) | ((first | refine yx hN _ _ ?_ | refine yz hN _ _ ?_); clear hN N) | (refine semX53 d1 hX (by omega) (fun st' hX hp => ?_); try simp only [go_sem, ↓reduceIte, zA, zB, zC, zD, zE, zF, zG, zL, zM, zN, reduceCtorEq, f0, f3, hpw, e1]) | (refine semX54 hw.ty d2 hX (by omega) (fun st' hX hp => ?_); try simp only [go_sem, ↓reduceIte, zA, zB, zC, zD, zE, zF, zG, zL, zM, zN, reduceCtorEq, f0, f3, hpw, e1]) | (refine semX52 (by omega) hX (by omega) (fun st' hX => ?_); try simp only [go_sem, ↓reduceIte, zA, zB, zC, zD, zE, zF, zG, zL, zM, zN, reduceCtorEq, f0, f3, hpw, e1]) | ((apply And.intro <;> intro h) <;> (try simp only [zS, zT, zU, zV, Bool.not_true, Bool.not_false] at h) <;> (first | (exfalso; omega) | simp only [go_sem, ↓reduceIte, zA, zB, zC, zD, zE, zF, zG, zL, zM, zN, reduceCtorEq, f0, f3, hpw, e1, h] | skip)) | clear hN N | fail
        exact hk _ (hX.le (by omega))
      · have e1 : ¬ (d.kind : Int) = 1 := by omega
        rw [if_neg k1] at hk
        have k23 : d.kind = 2 ∨ d.kind = 3 := by
          simp only [k1, reduceIte] at hd
          split at hd
          · assumption
          · cases hd
        simp only [k1, k23, reduceIte, Bool.and_eq_true, decide_eq_true_eq] at hd
        obtain ⟨⟨⟨⟨d1, d2⟩, d3⟩, d4⟩, d5⟩ := hd
        repeat' first | refine yj fun N hN => ?_ | refine yl [] ?_ | ((first | refine ya rfl rfl fun N hN => ?_ | refine ym ?_ | refine yo ?_); simp only [go_sem, ↓reduceIte, zA, zB, zC, zD, zE, zF, zG, zL, zM, zN, reduceCtorEq, f0, f3, hpw, e1, ei, Tryz.results18]) | (refine yg rfl ?_; try simp only [go_sem]) | ((first | refine yx hN _ _ ?_ | refine yz hN _ _ ?_); clear hN N) | (refine semX53 d1 hX (by omega) (fun st' hX hp => ?_); try simp only [go_sem, ↓reduceIte, zA, zB, zC, zD, zE, zF, zG, zL, zM, zN, reduceCtorEq, f0, f3, hpw, e1, ei]) | (refine semX54 hw.ty d2 hX (by omega) (fun st' hX hp => ?_); try simp only [go_sem, ↓reduceIte, zA, zB, zC, zD, zE, zF, zG, zL, zM, zN, reduceCtorEq, f0, f3, hpw, e1, ei]) | (refine semX54 hw.val d3 hX (by omega) (fun st' hX hp => ?_); try simp only [go_sem, ↓reduceIte, zA, zB, zC, zD, zE, zF, zG, zL, zM, zN, reduceCtorEq, f0, f3, hpw, e1, ei]) | (refine semX52 (by omega) hX (by omega) (fun st' hX => ?_); try simp only [go_sem, ↓reduceIte, zA, zB, zC, zD, zE, zF, zG, zL, zM, zN, reduceCtorEq, f0, f3, hpw, e1, ei]) | clear hN N | fail
        exact hk _ (hX.le (by omega))
  clear hN
  obtain ⟨A, c, h1, h2, h3, h4, h5⟩ := hX
  have hw0 := h1.w
  rw [wCells] at hw0
  have hu8 := u8_k d.kind hk256
  have hdl := h4.d
  have hne : [D.int .u8 (d.kind : Int)] ≠ [] := by simp
  have hz' : ESz { e with db := e.db ++ [UInt8.ofNat d.kind] } (n + 1) := ⟨by have := h4.nm; exact ⟨by show e.names.length ≤ _; omega, by show (nmB e.names).length ≤ _; omega⟩, by have := h4.l; exact ⟨by show e.levels.length ≤ _; omega, by show (lvBs e.levels).length ≤ _; omega⟩, by have := h4.t; exact ⟨by show e.terms.length ≤ _; omega, by show e.tb.length ≤ _; omega⟩, by show (e.db ++ _).length ≤ _; rw [List.length_append]; simp; omega⟩
  have hb1 : byD (e.db ++ [UInt8.ofNat d.kind]) = byD e.db ++ [D.int .u8 (d.kind : Int)] := by rw [byD_append, ← hu8]
  cases hdj : c.dj with
  | none =>
    have hd0 := h1.d0 hdj
    rw [hdj, show bD none e.db = .sl .nil 0 [] from rfl] at hw0
    repeat' first | ((first | refine yc rfl rfl fun N hN => ?_ | refine ye rfl rfl fun N hN => ?_ | (refine yw hN _ _ ?_; clear hN N)); simp only [go_sem, ↓reduceIte, zA, zB, zC, zD, zE, zF, zG, zL, zM, zN, reduceCtorEq, hw0, hne, Tryz.results18]) | (refine yi ?_; try simp only [go_sem]) | (refine yy hN _ ?_; clear hN N) | refine yt (id := 1) mixed [] (.rd 0 (.rd 1 (.rd 2 (.rd 3 (.rd 4 (.act 5 [4, 3, 2, 1, 0] (.act 6 [4, 3, 2, 1, 0] (.act 7 [4, 3, 2, 1, 0] (.act 8 [0] (.act 9 [] (.act 10 [] (.act 11 [] (.nil))))))))))))) (by kernel_rfl) ?_ | ((refine yr fun j hj => ?_; (try have hj0 := St.tok_of_give hj)); try simp only [go_sem, ↓reduceIte, zA, zB, zC, zD, zE, zF, zG, zL, zM, zN, reduceCtorEq, hw0, hne]) | fail
    have ku := kind_up h1 (b := UInt8.ofNat d.kind) (j := j) (s := st.give j) hj (fun i _ ht => by simp [St.tok_give, ht]) (by simp [St.tok_give]) (fun r x h => h)
    have e0 : [D.int .u8 (d.kind : Int)] = byD (e.db ++ [UInt8.ofNat d.kind]) := by rw [hd0]; simpa using hu8
    rw [e0]
    refine key _ _ ⟨A, _, ku, ⟨h2.names, h2.levels, h2.terms⟩, h3, hz', by omega⟩ ?_ ?_
    · simp only [go_sem, ↓reduceIte, zA, zB, zC, zD, zE, zF, zG, zL, zM, zN, reduceCtorEq]
    · simp only [go_sem, ↓reduceIte, zA, zB, zC, zD, zE, zF, zG, zL, zM, zN, reduceCtorEq]
  | some j0 =>
    have hj0 := h1.d1 j0 hdj
    rw [hdj, show bD (some j0) e.db = .sl (.tok j0) 1 (byD e.db) from rfl] at hw0
    repeat' first | ((first | refine yc rfl rfl fun N hN => ?_ | refine ye rfl rfl fun N hN => ?_ | (refine yw hN _ _ ?_; clear hN N)); simp only [go_sem, ↓reduceIte, zA, zB, zC, zD, zE, zF, zG, zL, zM, zN, reduceCtorEq, hw0, hne, hj0, Tryz.results18]) | (refine yi ?_; try simp only [go_sem]) | (refine yy hN _ ?_; clear hN N) | refine yt (id := 1) mixed [] (.rd 0 (.rd 1 (.rd 2 (.rd 3 (.rd 4 (.act 5 [4, 3, 2, 1, 0] (.act 6 [4, 3, 2, 1, 0] (.act 7 [4, 3, 2, 1, 0] (.act 8 [0] (.act 9 [] (.act 10 [] (.act 11 [] (.nil))))))))))))) (by kernel_rfl) ?_ | ((refine yr fun j hj => ?_; (try have hj0 := St.tok_of_give hj)); try simp only [go_sem, ↓reduceIte, zA, zB, zC, zD, zE, zF, zG, zL, zM, zN, reduceCtorEq, hw0, hne, hj0]) | (refine And.intro ?_ ?_; · omega) | fail
    have ku := kind_up h1 (b := UInt8.ofNat d.kind) (j := j) (s := (st.take j0).give j) hj (fun i hi ht => by
      have : i ≠ j0 := fun e => hi (by rw [hdj, e])
      simp [St.tok_give, St.tok_take, ht, this]) (by simp [St.tok_give]) (fun r x h => h)
    rw [← hb1]
    refine key _ _ ⟨A, _, ku, ⟨h2.names, h2.levels, h2.terms⟩, h3, hz', by omega⟩ ?_ ?_
    · simp only [go_sem, ↓reduceIte, zA, zB, zC, zD, zE, zF, zG, zL, zM, zN, reduceCtorEq]
    · simp only [go_sem, ↓reduceIte, zA, zB, zC, zD, zE, zF, zG, zL, zM, zN, reduceCtorEq]
end Go.Proofs.YtddbidoaolnegaaGreatDoor
