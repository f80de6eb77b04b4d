/-
PART OF A CLAIM: V, X, Y. No statement of the seat is proved here; no condition. -/
import Derived.Test.YtddbidoaolnegaaGreatDoorWO5
set_option linter.all false
/- Regions whose order is open: one plan serves every order. No statement of the seat is proved here; no condition. -/
namespace Go.Proofs.YtddbidoaolnegaaGreatDoor
open Go Go.RowKit

section irrel
variable {P : Program} {M : List Tmp} {n : Nat} {fr : Fr} {st : St} {i : Nat} {x : D}

theorem ev_put {y : Operand} (h : y ≠ .tmp i) : ev (fr.put i x) y = ev fr y := by
  cases y with
  | tmp t =>
    have : t ≠ i := fun e => h (by rw [e])
    simp [ev, Fr.put, this]
  | const v => rfl
  | global g => rfl
  | func f => rfl

theorem Fr.put_comm {fr : Fr} {i j : Nat} {x y : D} (h : i ≠ j) : (fr.put i x).put j y = (fr.put j y).put i x := by
  funext s; simp only [Fr.put]; split <;> split <;> simp_all

theorem map_ev_put {l : List Operand} (h : ∀ y ∈ l, y ≠ .tmp i) : l.map (ev (fr.put i x)) = l.map (ev fr) :=
  List.map_congr_left fun y hy => ev_put (h y hy)
theorem all_ev_put {l : List Operand} (p : D → Prop) (h : ∀ y ∈ l, y ≠ .tmp i) : (∀ y ∈ l, p (ev (fr.put i x) y)) ↔ ∀ y ∈ l, p (ev fr y) :=
  forall_congr' fun y => forall_congr' fun hy => by rw [ev_put (h y hy)]

theorem optB_put {o : Option Operand} {d : Int} {k : Int → Prop} (h : ∀ y, o = some y → y ≠ .tmp i) : optB (fr.put i x) o d k = optB fr o d k := by
  cases o with
  | none => rfl
  | some y => simp only [optB, ev_put (h y rfl)]

theorem evOp_irrel {op : Op} {dst : Option Tmp} {k : D → Fr → St → Prop} (h : ∀ y ∈ op.operands.toList, y ≠ .tmp i) :
    evOp P M op dst (fr.put i x) st k → evOp P M op dst fr st fun d fr' st' => k d (fr'.put i x) st' := by
  intro H
  have hp : ∀ y ∈ op.operands.toList, ev (fr.put i x) y = ev fr y := fun y hy => ev_put (h y hy)
  unfold evOp at H
  split at H
  case h_7 t a y =>
    have ha : a ≠ .tmp i := h a (by simp [Op.operands])
    have hy : y ≠ .tmp i := h y (by simp [Op.operands])
    rw [ev_put ha, ev_put hy] at H
    simp only [evOp]
    cases hE : ev fr a <;> rw [hE] at H <;> try exact H.elim
    simp only at H ⊢
    refine ⟨H.1, H.2.1, ?_⟩
    have H := H.2.2
    unfold asCells at H ⊢
    split at H
    · rename_i cs hm
      refine ⟨H.1, ?_⟩
      have H := H.2
      cases a with
      | tmp s =>
        have hs : i ≠ s := fun e => ha (by rw [e])
        simp only at H ⊢
        split
        · rw [if_pos (by assumption)] at H; exact H
        · rw [if_neg (by assumption), Fr.put_comm hs] at H; exact H
      | const v => exact H
      | global g => exact H
      | func f => exact H
    · exact H.elim
  case h_13 f a b =>
    have hA : ∀ y ∈ a.toList, y ≠ .tmp i := fun y hy => h y (by simp [Op.operands]; exact .inl (by simpa using hy))
    have hB : ∀ y ∈ b.toList, y ≠ .tmp i := fun y hy => h y (by simp [Op.operands]; exact .inr (by simpa using hy))
    rw [map_ev_put hA, map_ev_put hB, all_ev_put (fun d => d.flat = true) hA, all_ev_put (fun d => d.flat = true) hB] at H
    simpa only [evOp] using H
  case h_14 t ps =>
    have hA : ∀ y ∈ ps.toList, ev (fr.put i x) y.2 = ev fr y.2 := fun y hy => hp _ (by simp [Op.operands]; exact ⟨y.1, by simpa using hy⟩)
    have hM : (ps.toList.map fun y => (y.1, ev (fr.put i x) y.2)) = ps.toList.map fun y => (y.1, ev fr y.2) := List.map_congr_left fun y hy => by rw [hA y hy]
    rw [hM] at H
    simp only [evOp]
    split at H
    · rename_i z hz
      exact ⟨H.1, H.2.1, fun y hy => by rw [← hA y hy]; exact H.2.2.1 y hy, H.2.2.2⟩
    · exact H.elim
  case h_15 t m ps =>
    have hA : ∀ y ∈ ps.toList, ev (fr.put i x) y.2 = ev fr y.2 := fun y hy => hp _ (by simp [Op.operands]; exact ⟨y.1, by simpa using hy⟩)
    have hM : (ps.toList.map fun y => ev (fr.put i x) y.2) = ps.toList.map fun y => ev fr y.2 := List.map_congr_left hA
    simp only [evOp]
    split at H
    · rename_i z b hz hb
      rw [hM] at H
      exact ⟨H.1, H.2.1, fun y hy => by rw [← hA y hy]; exact H.2.2.1 y hy, H.2.2.2⟩
    · exact H.elim
  case h_18 t y lo hi =>
    have hy : ev (fr.put i x) y = ev fr y := hp y (by simp [Op.operands])
    have hl : ∀ d k, optB (fr.put i x) lo d k = optB fr lo d k := fun d k => optB_put fun z hz => h z (by simp [Op.operands, hz])
    have hh : ∀ d k, optB (fr.put i x) hi d k = optB fr hi d k := fun d k => optB_put fun z hz => h z (by simp [Op.operands, hz])
    simp only [evSlice, hy, hl, hh] at H
    simpa only [evOp, evSlice] using H
  case h_26 c =>
    have hA : c.args.toList.map (ev (fr.put i x)) = c.args.toList.map (ev fr) := map_ev_put fun y hy => h y (by
      cases hc : c.callee <;> simp [Op.operands, Call.operands, hc] <;> first | exact .inr (by simpa using hy) | exact .inl (by simpa using hy) | simpa using hy)
    simp only [evOp]
    split at H
    · rename_i b hc
      rw [← hA]; exact H
    · rename_i f hc
      have hf : ev (fr.put i x) f = ev fr f := hp f (by simp [Op.operands, Call.operands, hc])
      rw [hf] at H
      split at H
      · rename_i g a b he
        refine ⟨H.1, H.2.1, fun y hy => ?_, ?_⟩
        · rw [← hp y (by simp [Op.operands, Call.operands, hc]; exact .inr (by simpa using hy))]; exact H.2.2.1 y hy
        · rw [← hA]; exact H.2.2.2
      · exact H.elim
    · exact H.elim
  all_goals first
    | exact H.elim
    | (simpa only [evOp] using H)
    | (simp [Op.operands] at hp
       simp only [hp] at H
       simpa only [evOp] using H)
end irrel

/-! Operations that read, and change nothing: what they come to. -/
def rdCs (l : Option (Option Nat)) (cs : List D) (o : Nat) : Option D :=
  match l with
  | some (some n) => if o + n ≤ cs.length then some (.agg ((cs.drop o).take n)) else none
  | some none => if o < cs.length ∧ (cs.getD o .any).flat = true then some (cs.getD o .any) else none
  | none => none
theorem rdCs_ok {l : Option (Option Nat)} {cs : List D} {o : Nat} {d : D} (h : rdCs l cs o = some d) {k : D → Prop} (hk : k d) : ldCs l cs o k := by
  unfold rdCs at h; unfold ldCs
  split at h
  · split at h
    · cases h; exact ⟨by assumption, hk⟩
    · cases h
  · split at h
    · rename_i h1; cases h; exact ⟨h1.1, h1.2, hk⟩
    · cases h
  · cases h

def rdE (l : Option (Option Nat)) (e : D) (o : Nat) : Option D :=
  match l with
  | some (some n) => if o = 0 ∧ e.isAgg n = true then some e else rdCs l e.cells o
  | l => rdCs l e.cells o
theorem rdE_ok {l : Option (Option Nat)} {e : D} {o : Nat} {d : D} (h : rdE l e o = some d) {k : D → Prop} (hk : k d) : ldE l e o k := by
  unfold rdE at h; unfold ldE
  split at h
  · split at h
    · rename_i h1; cases h; simp only; rw [if_pos h1]; exact hk
    · rename_i h1; simp only; rw [if_neg h1]; exact rdCs_ok h hk
  · rename_i l h1
    split
    · exact (h1 _ rfl).elim
    · exact rdCs_ok h hk

def rdInt (op : BinOp) (k : IntKind) (a b : Int) : Option D :=
  match op with
  | .add => if lo k ≤ a + b ∧ a + b ≤ hi k then some (.int k (a + b)) else none
  | .sub => if lo k ≤ a - b ∧ a - b ≤ hi k then some (.int k (a - b)) else none
  | .eql => some (.bool (decide (a = b)))
  | .neq => some (.bool (!decide (a = b)))
  | .lss => some (.bool (decide (a < b)))
  | .leq => some (.bool (decide (a ≤ b)))
  | .gtr => some (.bool (decide (b < a)))
  | .geq => some (.bool (decide (b ≤ a)))
  | _ => none
theorem rdInt_ok {op : BinOp} {k : IntKind} {a b : Int} {d : D} (h : rdInt op k a b = some d) {c : D → Prop} (hc : c d) : evInt op k a b c := by
  unfold rdInt at h
  split at h
  case h_1 => split at h <;> cases h; rename_i h1; exact ⟨h1.1, h1.2, hc⟩
  case h_2 => split at h <;> cases h; rename_i h1; exact ⟨h1.1, h1.2, hc⟩
  case h_9 => cases h
  all_goals (cases h; exact hc)

def rdBin (op : BinOp) (x y : D) : Option D :=
  match x, y with
  | .int k a, .int l b => if k = l then rdInt op k a b else none
  | .str a, .str b => match op with
    | .eql => some (.bool (decide (a = b)))
    | .neq => some (.bool (!decide (a = b)))
    | _ => none
  | _, _ => none
theorem rdBin_ok {P : Program} {op : BinOp} {t : TypeId} {lit : Bool} {x y d : D} (h : rdBin op x y = some d) {c : D → Prop} (hc : c d) : evBin P op t lit x y c := by
  unfold rdBin at h
  split at h
  · rename_i k a l b
    split at h
    · rename_i hk
      subst hk
      have := rdInt_ok (c := c) h hc
      cases op <;> first | exact ⟨rfl, this⟩ | (simp [rdInt] at h)
    · cases h
  · split at h <;> cases h <;> exact hc
  · cases h

/-- What a reading operation comes to. -/
def rd (P : Program) (op : Op) (fr : Fr) (st : St) : Option D :=
  match op with
  | .move x => some (ev fr x)
  | .assign x => some (ev fr x)
  | .pick c a b => match ev fr c with
    | .bool t => some (if t = true then ev fr a else ev fr b)
    | _ => none
  | .load t a => match ev fr a with
    | .ptr r o => match st.mem r with
      | some (.cells cs) => rdCs (ldTy P t) cs o
      | _ => none
    | .eptr e o => rdE (ldTy P t) e o
    | _ => none
  | .nilCheck x => match ev fr x with
    | .ptr r o => some (.ptr r o)
    | .eptr e o => some (.eptr e o)
    | .fn f a b => some (.fn f a b)
    | _ => none
  | .binOp op _ x y _ => rdBin op (ev fr x) (ev fr y)
  | .unOp .not _ x => match ev fr x with
    | .bool b => some (.bool (!b))
    | _ => none
  | .convert s d x => match ev fr x with
    | .int _ n => match intTy P d with
      | some kd => if (P.underlying s).isSome = true then some (.int kd (kd.wrap n)) else none
      | none => none
    | .sl _ sz es => match bytesOf es with
      | some b => if isStr P d = true ∧ slTy P s = some sz ∧ isBytes P s = true then some (.str b) else none
      | none => none
    | _ => none
  | .makeFunc (.func f) a b => if (∀ x ∈ a.toList, (ev fr x).flat = true) ∧ (∀ x ∈ b.toList, (ev fr x).flat = true) then some (.fn f (a.toList.map (ev fr)) (b.toList.map (ev fr))) else none
  | .build t ps => match zeroD P t with
    | some z => if structOk P t = true ∧ z.fine = true ∧ (∀ x ∈ ps.toList, (ev fr x.2).fine = true ∧ (bldOf P t x.1).map (·.2) = some (ev fr x.2).cells.length) then
        (fillD (fun i => (bldOf P t i).map (·.1)) z.cells (ps.toList.map fun x => (x.1, ev fr x.2))).map .agg else none
    | none => none
  | .slice t x none none none => match ev fr x with
    | .ptr r o => match arTy P t with
      | some (n, sz) => if 0 < sz ∧ 0 < n then some (.msl r o n sz) else none
      | none => none
    | _ => none
  | .fieldAddr s x f => match offOf P s f, ev fr x with
    | some o, .ptr r p => some (.ptr r (p + o))
    | some o, .eptr e p => some (.eptr e (p + o))
    | _, _ => none
  | .field s x f => match partOf P s f, ev fr x with
    | some (o, l), .agg cs => rdCs (some l) cs o
    | _, _ => none
  | .indexAddr t x i => match ev fr i with
    | .int _ i => match ev fr x with
      | .sl _ sz es => if slTy P t = some sz ∧ 0 ≤ i ∧ i.toNat < es.length then some (.eptr (es.getD i.toNat .any) 0) else none
      | .ptr r o => match arTy P t with
        | some (n, sz) => if 0 ≤ i ∧ i.toNat < n then some (.ptr r (o + i.toNat * sz)) else none
        | none => none
      | .eptr e o => match arTy P t with
        | some (n, sz) => if 0 ≤ i ∧ i.toNat < n then some (.eptr e (o + i.toNat * sz)) else none
        | none => none
      | _ => none
    | _ => none
  | .index t x i => match ev fr i with
    | .int _ i => match ev fr x with
      | .agg cs => if arTy P t = some (cs.length, 1) ∧ 0 ≤ i ∧ i.toNat < cs.length ∧ (cs.getD i.toNat .any).flat = true ∧ arEl P t = some none then some (cs.getD i.toNat .any) else none
      | _ => none
    | _ => none
  | .extract x i => match ev fr x with
    | .tup l => if i < l.length then some (l.getD i .any) else none
    | _ => none
  | .call c => match c.callee, c.argTypes.toList, c.args.toList with
    | .builtin .len, [t], [x] => match ev fr x with
      | .sl _ _ es => if isSlTy P t = true then some (.int .i64 es.length) else none
      | .str s => if isStr P t = true then some (.int .i64 s.length) else none
      | .nilmap => if isMapTy P t = true then some (.int .i64 0) else none
      | .map r => match st.mem r with
        | some (.map _ es) => if isMapTy P t = true then some (.int .i64 es.length) else none
        | _ => none
      | _ => none
    | .builtin .max, _, [x, y] => match ev fr x, ev fr y with
      | .int ka a, .int kb b => if ka = kb then some (.int ka (max a b)) else none
      | _, _ => none
    | _, _, _ => none
  | _ => none

open Classical in
/-- The same, the table's answer too. -/
noncomputable def rdL (P : Program) (op : Op) (fr : Fr) (st : St) : Option D :=
  match op with
  | .lookup t x i true => match mapTy P t, keyV (ev fr i), zeroD P ((mapTy P t).getD (0, 0)).2 with
    | some (K, _), some v, some z => match ev fr x with
      | .nilmap => if KeyOk P K v ∧ z.flat = true then some (.tup [z, .bool false]) else none
      | .map r => match st.mem r with
        | some (.map K' es) => if KeyOk P K v ∧ z.flat = true ∧ K' = K ∧ (∀ e ∈ es, KeyOk P K e.1 ∧ e.2.flat = true) then some (.tup [(find es v).getD z, .bool (find es v).isSome]) else none
        | _ => none
      | _ => none
    | _, _, _ => none
  | op => rd P op fr st

section rd
variable {P : Program} {M : List Tmp} {fr : Fr} {st : St} {dst : Option Tmp} {op : Op} {d : D} {k : D → Fr → St → Prop}

theorem rd_ok (h : rd P op fr st = some d) (hk : k d fr st) : evOp P M op dst fr st k := by
  unfold rd at h
  split at h
  case h_18 => cases h
  case h_1 => cases h; exact hk
  case h_2 => cases h; exact hk
  case h_3 =>
    simp only [evOp]
    split at h <;> cases h
    rename_i he; rw [he]; exact hk
  case h_4 =>
    simp only [evOp]
    split at h
    · rename_i he
      split at h
      · rename_i hm; rw [he]; simp only [asCells, hm]; exact rdCs_ok h hk
      · cases h
    · rename_i he; rw [he]; exact rdE_ok h hk
    · cases h
  case h_5 =>
    simp only [evOp]
    split at h <;> cases h <;> (rename_i he; rw [he]; exact hk)
  case h_6 => exact rdBin_ok (c := fun d => k d fr st) h hk
  case h_7 =>
    simp only [evOp]
    split at h <;> cases h
    rename_i he; rw [he]; exact hk
  case h_8 =>
    simp only [evOp]
    split at h
    · rename_i he
      rw [he]
      split at h
      · rename_i hd
        split at h <;> cases h
        rename_i hs
        simp only [evConv, hd]; exact ⟨hs, hk⟩
      · cases h
    · rename_i ow sz es he
      rw [he]
      split at h
      · rename_i b hb
        split at h <;> cases h
        rename_i hs
        cases ow <;> simp only [evConv, hb, hs.1, if_true] <;> first | exact ⟨rfl, hs.2.1, hs.2.2, hk⟩ | exact ⟨hs.2.1, hs.2.2, hk⟩ | exact ⟨trivial, hs.2.1, hs.2.2, hk⟩
      · cases h
    · cases h
  case h_9 =>
    simp only [evOp]
    split at h <;> cases h
    rename_i hs; exact ⟨hs.1, hs.2, hk⟩
  case h_10 =>
    simp only [evOp]
    split at h
    · rename_i z hz
      split at h
      · rename_i hs
        cases hf : fillD (fun i => (bldOf P _ i).map (·.1)) z.cells _ with
        | none => rw [hf] at h; cases h
        | some cs =>
          rw [hf] at h
          cases h
          rw [hz]
          refine ⟨hs.1, hs.2.1, hs.2.2, ?_⟩
          rw [hf]; exact hk
      · cases h
    · cases h
  case h_11 =>
    simp only [evOp]
    split at h
    · rename_i r o he
      rw [he]
      split at h
      · rename_i n sz ha
        split at h <;> cases h
        rename_i hs
        simp only [evSlice, ha, optB]
        refine ⟨hs.1, by omega, by omega, by omega, by omega, ?_⟩
        simpa using hk
      · cases h
    · cases h
  case h_12 =>
    simp only [evOp]
    split at h <;> cases h <;> (rename_i h1 h2; rw [h1, h2]; exact hk)
  case h_13 =>
    simp only [evOp]
    split at h
    · rename_i h1 h2; rw [h1, h2]; exact rdCs_ok h hk
    · cases h
  case h_14 =>
    simp only [evOp]
    split at h
    · rename_i he
      rw [he]
      simp only [D.asInt]
      split at h
      · rename_i h1; rw [h1]
        split at h <;> cases h
        rename_i hs; exact ⟨hs.1, hs.2.1, hs.2.2, hk⟩
      · rename_i h1; rw [h1]
        split at h
        · rename_i h2; rw [h2]
          split at h <;> cases h
          rename_i hs; exact ⟨hs.1, hs.2, hk⟩
        · cases h
      · rename_i h1; rw [h1]
        split at h
        · rename_i h2; rw [h2]
          split at h <;> cases h
          rename_i hs; exact ⟨hs.1, hs.2, hk⟩
        · cases h
      · cases h
    · cases h
  case h_15 =>
    simp only [evOp]
    split at h
    · rename_i he
      rw [he]
      simp only [D.asInt]
      split at h
      · rename_i h1; rw [h1]
        split at h <;> cases h
        rename_i hs; exact ⟨hs.1, hs.2.1, hs.2.2.1, hs.2.2.2.1, hs.2.2.2.2, hk⟩
      · cases h
    · cases h
  case h_16 =>
    simp only [evOp]
    split at h
    · rename_i he
      rw [he]
      split at h <;> cases h
      rename_i hs; exact ⟨hs, hk⟩
    · cases h
  case h_17 c =>
    simp only [evOp]
    split at h
    · rename_i t x hc ht hx
      rw [hc]
      simp only [ht, hx, List.map_cons, List.map_nil, evBuiltin]
      split at h
      · rename_i h1; rw [h1]
        split at h <;> cases h
        rename_i hs; exact ⟨hs, hk⟩
      · rename_i h1; rw [h1]
        split at h <;> cases h
        rename_i hs; exact ⟨hs, hk⟩
      · rename_i h1; rw [h1]
        split at h <;> cases h
        rename_i hs; exact ⟨hs, hk⟩
      · rename_i h1; rw [h1]
        split at h
        · rename_i hm
          split at h <;> cases h
          rename_i hs
          simp only [evLen, asMap, hm]
          exact ⟨hs, hk⟩
        · cases h
      · cases h
    · rename_i x y hc hx
      rw [hc]
      simp only [hx, List.map_cons, List.map_nil]
      split at h
      · rename_i h1 h2; rw [h1, h2]
        split at h <;> cases h
        rename_i hs
        simp only [evBuiltin]
        exact ⟨hs, hk⟩
      · cases h
    · cases h

theorem rdL_ok (h : rdL P op fr st = some d) (hk : k d fr st) : evOp P M op dst fr st k := by
  unfold rdL at h
  split at h
  · simp only [evOp]
    split at h
    · rename_i h1 h2 h3
      rw [h1, h2]
      rw [h1] at h3
      simp only [Option.getD_some] at h3 ⊢
      rw [h3]
      split at h
      · rename_i he
        split at h <;> cases h
        rename_i hs
        rw [he]; exact ⟨hs.1, hs.2, hk⟩
      · rename_i he
        split at h
        · rename_i hm
          split at h <;> cases h
          rename_i hs
          rw [he]
          refine ⟨hs.1, hs.2.1, ?_⟩
          simp only [asMap, hm]
          exact ⟨hs.2.2.1, hs.2.2.2, hk⟩
        · cases h
      · cases h
    · cases h
  · exact rd_ok h hk

theorem rd_irrel {i : Nat} {x : D} (h : ∀ y ∈ op.operands.toList, y ≠ .tmp i) : rd P op (fr.put i x) st = rd P op fr st := by
  have hp : ∀ y ∈ op.operands.toList, ev (fr.put i x) y = ev fr y := fun y hy => ev_put (h y hy)
  unfold rd
  split
  case h_18 => rfl
  case h_9 f a b =>
    have hA : ∀ y ∈ a.toList, y ≠ .tmp i := fun y hy => h y (by simp [Op.operands]; exact .inl (by simpa using hy))
    have hB : ∀ y ∈ b.toList, y ≠ .tmp i := fun y hy => h y (by simp [Op.operands]; exact .inr (by simpa using hy))
    rw [map_ev_put hA, map_ev_put hB]
    simp only [all_ev_put (fun d => d.flat = true) hA, all_ev_put (fun d => d.flat = true) hB]
  case h_10 t ps =>
    have hA : ∀ y ∈ ps.toList, ev (fr.put i x) y.2 = ev fr y.2 := fun y hy => hp _ (by simp [Op.operands]; exact ⟨y.1, by simpa using hy⟩)
    have hM : (ps.toList.map fun y => (y.1, ev (fr.put i x) y.2)) = ps.toList.map fun y => (y.1, ev fr y.2) := List.map_congr_left fun y hy => by rw [hA y hy]
    have hB : (∀ y ∈ ps.toList, (ev (fr.put i x) y.2).fine = true ∧ (bldOf P t y.1).map (·.2) = some (ev (fr.put i x) y.2).cells.length) ↔ (∀ y ∈ ps.toList, (ev fr y.2).fine = true ∧ (bldOf P t y.1).map (·.2) = some (ev fr y.2).cells.length) :=
      forall_congr' fun y => forall_congr' fun hy => by rw [hA y hy]
    simp only [hM, hB]
  case h_17 c =>
    have hA : ∀ y ∈ c.args.toList, ev (fr.put i x) y = ev fr y := fun y hy => ev_put (h y (by
      cases hc : c.callee <;> simp [Op.operands, Call.operands, hc] <;> first | exact .inr (by simpa using hy) | exact .inl (by simpa using hy) | simpa using hy))
    split
    · rename_i z hc ht hx
      rw [hx] at hA
      rw [hA z (by simp)]
    · rename_i z u hc hx
      rw [hx] at hA
      rw [hA z (by simp), hA u (by simp)]
    · rfl
  all_goals
    (simp [Op.operands] at hp
     simp only [hp])
theorem rdL_irrel {i : Nat} {x : D} (h : ∀ y ∈ op.operands.toList, y ≠ .tmp i) : rdL P op (fr.put i x) st = rdL P op fr st := by
  have hp : ∀ y ∈ op.operands.toList, ev (fr.put i x) y = ev fr y := fun y hy => ev_put (h y hy)
  unfold rdL
  split
  · simp [Op.operands] at hp
    simp only [hp]
  · exact rd_irrel h
end rd
end Go.Proofs.YtddbidoaolnegaaGreatDoor
/- Regions whose order is open: one plan serves every order. No statement of the seat is proved here; no condition. -/
namespace Go.Proofs.YtddbidoaolnegaaGreatDoor
open Go Go.RowKit

def tmpsOf (l : List Operand) : List Tmp := l.filterMap fun | .tmp t => some t | _ => none
def RO.looks (o : RO) : List Tmp := tmpsOf o.op.operands.toList ++ (match o.gd with | some (some i, _) => [i] | _ => [])
def RO.apart (x y : RO) : Bool :=
  (match x.dst with | some d => !y.looks.contains d && y.dst != some d | none => true) &&
  (match y.dst with | some d => !x.looks.contains d | none => true)

/-- One operation, guarded. -/
noncomputable def stp (P : Program) (M : List Tmp) (n : Nat) (o : RO) (fr : Fr) (st : St) (k : Fr → St → Prop) : Prop :=
  gdv o.gd fr (evOp P M o.op o.dst fr st fun d fr' st' => dstOk n o.dst ∧ k (putO fr' o.dst d) st') (dstOk n o.dst ∧ k (putO fr o.dst (.tup [])) st)

/-- One reading operation, guarded. -/
noncomputable def rdg (P : Program) (o : RO) (fr : Fr) (st : St) : Option D :=
  match o.gd with
  | none => rdL P o.op fr st
  | some (none, _) => some (.tup [])
  | some (some i, want) => match fr i with
    | .bool b => if b = want then rdL P o.op fr st else some (.tup [])
    | .tup [] => some (.tup [])
    | _ => none

section steps
variable {P : Program} {M : List Tmp} {n : Nat} {fr : Fr} {st : St} {o : RO} {d : D} {k : Fr → St → Prop}

theorem not_tmp {l : List Operand} {i : Nat} (h : i ∉ tmpsOf l) : ∀ y ∈ l, y ≠ .tmp i := by
  intro y hy he
  subst he
  exact h (List.mem_filterMap.2 ⟨_, hy, rfl⟩)

theorem rdg_ok (h : rdg P o fr st = some d) (hd : dstOk n o.dst) (hk : k (putO fr o.dst d) st) : stp P M n o fr st k := by
  unfold rdg at h
  unfold stp gdv
  split at h
  · rename_i hg; rw [hg]; exact rdL_ok h ⟨hd, hk⟩
  · rename_i hg; rw [hg]; cases h; exact ⟨hd, hk⟩
  · rename_i i want hg
    rw [hg]
    split at h
    · rename_i b hb
      simp only [hb]
      split at h
      · rename_i he
        exact ⟨fun _ => rdL_ok h ⟨hd, hk⟩, fun hn => by subst he; cases b <;> simp at hn⟩
      · rename_i he
        cases h
        exact ⟨fun hn => (he hn).elim, fun _ => ⟨hd, hk⟩⟩
    · rename_i hb; simp only [hb]; cases h; exact ⟨hd, hk⟩
    · cases h

theorem gdv_mono {gd : Option (Option Tmp × Bool)} {p q p' q' : Prop} (hp : p → p') (hq : q → q') (h : gdv gd fr p q) : gdv gd fr p' q' := by
  unfold gdv at *
  split
  · exact hp h
  · exact hq h
  · rename_i i want
    simp only at h
    split
    · rename_i b hb; simp only [hb] at h; exact ⟨fun e => hp (h.1 e), fun e => hq (h.2 e)⟩
    · rename_i hb; simp only [hb] at h; exact hq h
    · rename_i h1 h2
      split at h
      · exact (h1 _ (by assumption)).elim
      · exact (h2 (by assumption)).elim
      · exact h

theorem gdv_irrel {gd : Option (Option Tmp × Bool)} {i : Nat} {x : D} {p q : Prop} (h : ∀ j want, gd = some (some j, want) → i ≠ j) : gdv gd (fr.put i x) p q = gdv gd fr p q := by
  unfold gdv
  split
  · rfl
  · rfl
  · rename_i j want
    have : Fr.put fr i x j = fr j := by have := h j want rfl; simp [Fr.put, Ne.symm this]
    rw [this]

theorem looks_gd {i j : Nat} {want : Bool} (h : i ∉ o.looks) (hg : o.gd = some (some j, want)) : i ≠ j := by
  intro e; subst e
  exact h (by simp [RO.looks, hg])
theorem looks_op {i : Nat} (h : i ∉ o.looks) : ∀ y ∈ o.op.operands.toList, y ≠ .tmp i :=
  not_tmp fun hm => h (List.mem_append_left _ hm)

section mono
theorem asBool_mono {d : D} {k k' : Bool → Prop} (hk : ∀ b, k b → k' b) (h : d.asBool k) : d.asBool k' := by
  cases d <;> first | exact hk _ h | exact h
theorem asInt_mono {d : D} {k k' : IntKind → Int → Prop} (hk : ∀ t b, k t b → k' t b) (h : d.asInt k) : d.asInt k' := by
  cases d <;> first | exact hk _ _ h | exact h
theorem asTup_mono {d : D} {k k' : List D → Prop} (hk : ∀ b, k b → k' b) (h : d.asTup k) : d.asTup k' := by
  cases d <;> first | exact hk _ h | exact h
theorem asCells_mono {o : Option Ob} {k k' : List D → Prop} (hk : ∀ b, k b → k' b) (h : asCells o k) : asCells o k' := by
  unfold asCells at *; split <;> simp_all
theorem asMap_mono {o : Option Ob} {k k' : TypeId → List (Value × D) → Prop} (hk : ∀ t b, k t b → k' t b) (h : asMap o k) : asMap o k' := by
  unfold asMap at *; split <;> simp_all
theorem ldCs_mono {l : Option (Option Nat)} {cs : List D} {o : Nat} {k k' : D → Prop} (hk : ∀ d, k d → k' d) (h : ldCs l cs o k) : ldCs l cs o k' := by
  unfold ldCs at *
  split
  · exact ⟨h.1, hk _ h.2⟩
  · exact ⟨h.1, h.2.1, hk _ h.2.2⟩
  · exact h
theorem ldE_mono {l : Option (Option Nat)} {e : D} {o : Nat} {k k' : D → Prop} (hk : ∀ d, k d → k' d) (h : ldE l e o k) : ldE l e o k' := by
  unfold ldE at *
  split
  · simp only at h
    split
    · rw [if_pos (by assumption)] at h; exact hk _ h
    · rw [if_neg (by assumption)] at h; exact ldCs_mono hk h
  · rename_i l h1
    split at h
    · exact (h1 _ rfl).elim
    · exact ldCs_mono hk h
theorem evInt_mono {op : BinOp} {t : IntKind} {a b : Int} {k k' : D → Prop} (hk : ∀ d, k d → k' d) (h : evInt op t a b k) : evInt op t a b k' := by
  cases op <;> first | exact hk _ h | exact h | exact ⟨h.1, h.2.1, hk _ h.2.2⟩ | exact ⟨h.1, h.2.1, h.2.2.1, hk _ h.2.2.2⟩
theorem evAgg_mono {t : TypeId} {xs ys : List D} {k k' : Bool → Prop} (hk : ∀ d, k d → k' d) (h : evAgg P t xs ys k) : evAgg P t xs ys k' := by
  unfold evAgg at *
  split
  · rename_i h1 h2; rw [h1, h2] at h; exact ⟨h.1, h.2.1, hk _ h.2.2⟩
  · rename_i h1
    split at h
    · exact (h1 _ _ (by assumption) (by assumption)).elim
    · exact h
theorem evBin_mono {op : BinOp} {t : TypeId} {lit : Bool} {x y : D} {k k' : D → Prop} (hk : ∀ d, k d → k' d) (h : evBin P op t lit x y k) : evBin P op t lit x y k' := by
  unfold evBin at h
  split at h
  all_goals first
    | exact h.elim
    | exact evAgg_mono (fun _ => hk _) h
    | exact hk _ h
    | exact ⟨h.1, hk _ h.2⟩
    | exact ⟨h.1, h.2.1, hk _ h.2.2⟩
    | exact ⟨h.1, fun b hb => hk _ (h.2 b hb)⟩
    | skip
  obtain ⟨h4, h5⟩ := h
  subst h4
  have h3 := evInt_mono hk h5
  cases op <;> first | exact ⟨rfl, h3⟩ | (simp [evInt] at h3)
theorem optB_mono {o : Option Operand} {dfl : Int} {k k' : Int → Prop} (hk : ∀ d, k d → k' d) (h : optB fr o dfl k) : optB fr o dfl k' := by
  cases o with
  | none => exact hk _ h
  | some x => exact asInt_mono (fun _ => hk) h
theorem evSlice_mono {t : TypeId} {x : D} {l h : Option Operand} {k k' : D → Prop} (hk : ∀ d, k d → k' d) (H : evSlice P t x fr l h k) : evSlice P t x fr l h k' := by
  unfold evSlice at *
  split
  · exact ⟨H.1, optB_mono (fun _ => optB_mono fun _ h => ⟨h.1, h.2.1, h.2.2.1, hk _ h.2.2.2⟩) H.2⟩
  · simp only at H
    split
    · rename_i h1; simp only [h1] at H
      exact ⟨H.1, optB_mono (fun _ => optB_mono fun _ h => ⟨h.1, h.2.1, h.2.2.1, h.2.2.2.1, hk _ h.2.2.2.2⟩) H.2⟩
    · rename_i h1; simp only [h1] at H
  · rename_i h1 h2
    split at H
    · exact (h1 _ _ _ rfl).elim
    · exact (h2 _ _ rfl).elim
    · exact H
theorem evConv_mono {s t : TypeId} {x : D} {k k' : D → St → Prop} (hk : ∀ d st, k d st → k' d st) (H : evConv P s t x st k) : evConv P s t x st k' := by
  unfold evConv at H
  split at H
  · split at H
    · rename_i h1; simp only [evConv, h1]; exact ⟨H.1, hk _ _ H.2⟩
    · exact H.elim
  · exact ⟨H.1, H.2.1, H.2.2.1, fun j hj => hk _ _ (H.2.2.2 j hj)⟩
  · split at H
    · rename_i h1
      split at H
      · rename_i h2; simp only [evConv, h1, h2, if_true]; exact ⟨H.1, H.2.1, hk _ _ H.2.2⟩
      · exact H.elim
    · rename_i h1; simp only [evConv, h1]; exact ⟨H.1, H.2.1, H.2.2.1, hk _ _ H.2.2.2⟩
  · rename_i ow sz es hne
    obtain ⟨h1, H⟩ := H
    split at H
    · rename_i b h2
      cases ow with
      | frozen => simp only [evConv, h2]; exact ⟨h1, H.1, H.2.1, hk _ _ H.2.2⟩
      | nil => simp only [evConv, h2]; exact ⟨h1, H.1, H.2.1, hk _ _ H.2.2⟩
      | tok i => simp only [evConv, h2, h1, if_true]; exact ⟨H.1, H.2.1, hk _ _ H.2.2⟩
    · exact H.elim
  · exact H.elim
theorem evAppend_mono {t : TypeId} {x : D} {ys : List D} {k k' : D → St → Prop} (hk : ∀ d st, k d st → k' d st) (H : evAppend P t x ys st k) : evAppend P t x ys st k' := by
  unfold evAppend at H
  split at H
  · split at H
    · rename_i h1 h2
      simp only [evAppend, h1, h2]
      refine ⟨H.1, H.2.1, ?_⟩
      have H := H.2.2
      split at H
      · exact ⟨H.1, H.2.1, fun j hj => hk _ _ (H.2.2 j hj)⟩
      · exact ⟨H.1, fun j hj => hk _ _ (H.2 j hj)⟩
      · exact H.elim
    · exact H.elim
  · exact H.elim
theorem evCopy_mono {t : TypeId} {x y : D} {k k' : D → St → Prop} (hk : ∀ d st, k d st → k' d st) (H : evCopy P t x y st k) : evCopy P t x y st k' := by
  unfold evCopy at *
  split
  · exact ⟨H.1, H.2.1, H.2.2.1, asCells_mono (fun _ h => ⟨h.1, hk _ _ h.2⟩) H.2.2.2⟩
  · rename_i h1
    split at H
    · exact (h1 _ _ _ _ _ _ _ rfl rfl).elim
    · exact H
theorem evLen_mono {t : TypeId} {x : D} {k k' : D → Prop} (hk : ∀ d, k d → k' d) (H : evLen P t x st k) : evLen P t x st k' := by
  cases x <;> first | exact H.elim | exact ⟨H.1, hk _ H.2⟩ | exact ⟨H.1, asMap_mono (fun _ _ h => hk _ h) H.2⟩
theorem evBuiltin_mono {b : Builtin} {ts : List TypeId} {xs : List D} {k k' : D → St → Prop} (hk : ∀ d st, k d st → k' d st) (H : evBuiltin P b ts xs st k) : evBuiltin P b ts xs st k' := by
  unfold evBuiltin at H
  split at H
  · exact evLen_mono (fun _ => hk _ _) H
  · exact ⟨H.1, evAppend_mono hk H.2⟩
  · exact ⟨H.1, H.2.1, evAppend_mono hk H.2.2⟩
  · exact evCopy_mono hk H
  · exact ⟨H.1, hk _ _ H.2⟩
  · exact ⟨H.1, hk _ _ H.2⟩
  · exact H.elim
end mono

theorem evOp_mono {op : Op} {dst : Option Tmp} {k k' : D → Fr → St → Prop} (hk : ∀ d fr st, k d fr st → k' d fr st) (h : evOp P M op dst fr st k) : evOp P M op dst fr st k' := by
  unfold evOp at h
  split at h
  case h_1 => exact hk _ _ _ h
  case h_2 => exact hk _ _ _ h
  case h_3 => exact asBool_mono (fun _ => hk _ _ _) h
  case h_4 =>
    simp only [evOp]
    refine ⟨h.1, ?_⟩
    have h := h.2
    split
    · rw [if_pos (by assumption)] at h; exact fun r hr => hk _ _ _ (h r hr)
    · rw [if_neg (by assumption)] at h; exact hk _ _ _ h
  case h_5 =>
    simp only [evOp]
    split
    · rename_i h1; rw [h1] at h; exact ⟨h.1, fun r hr => hk _ _ _ (h.2 r hr)⟩
    · rename_i h1; rw [h1] at h; exact h
  case h_6 =>
    simp only [evOp]
    split at h
    · rename_i h1; (try simp only [h1]); exact asCells_mono (fun _ => ldCs_mono fun _ => hk _ _ _) h
    · rename_i h1; (try simp only [h1]); exact ldE_mono (fun _ => hk _ _ _) h
    · exact h.elim
  case h_7 t a y =>
    simp only [evOp]
    split at h
    · rename_i h1; (try simp only [h1])
      refine ⟨h.1, h.2.1, asCells_mono (fun cs h => ⟨h.1, ?_⟩) h.2.2⟩
      have h := h.2
      cases a with
      | tmp s =>
        simp only at h ⊢
        split
        · rw [if_pos (by assumption)] at h; exact hk _ _ _ h
        · rw [if_neg (by assumption)] at h; exact hk _ _ _ h
      | const v => exact hk _ _ _ h
      | global g => exact hk _ _ _ h
      | func f => exact hk _ _ _ h
    · exact h.elim
  case h_8 =>
    simp only [evOp]
    split at h
    · rename_i h1; (try simp only [h1]); exact hk _ _ _ h
    · rename_i h1; (try simp only [h1]); exact hk _ _ _ h
    · rename_i h1; (try simp only [h1]); exact hk _ _ _ h
    · exact h.elim
  case h_9 => exact evBin_mono (fun _ => hk _ _ _) h
  case h_10 => exact asBool_mono (fun _ => hk _ _ _) h
  case h_11 => exact evConv_mono (fun _ _ => hk _ _ _) h
  case h_12 => exact ⟨h.1, h.2.1, h.2.2.1, hk _ _ _ h.2.2.2⟩
  case h_13 => exact ⟨h.1, h.2.1, hk _ _ _ h.2.2⟩
  case h_14 =>
    simp only [evOp]
    split at h
    · rename_i h1; (try simp only [h1])
      refine ⟨h.1, h.2.1, h.2.2.1, ?_⟩
      have h := h.2.2.2
      split at h
      · exact hk _ _ _ h
      · exact h.elim
    · exact h.elim
  case h_15 =>
    simp only [evOp]
    split at h
    · rename_i h1 h2; (try simp only [h1, h2])
      refine ⟨h.1, h.2.1, h.2.2.1, ?_⟩
      have h := h.2.2.2
      split
      · rw [if_pos (by assumption)] at h; exact fun j hj => hk _ _ _ (h j hj)
      · rw [if_neg (by assumption)] at h; exact hk _ _ _ h
    · exact h.elim
  case h_16 =>
    simp only [evOp]
    split at h
    · rename_i h1; (try simp only [h1]); exact fun j hj => hk _ _ _ (h j hj)
    · exact h.elim
  case h_17 =>
    refine asInt_mono (fun _ _ => asInt_mono fun _ _ h => ?_) h
    split at h
    · rename_i h1 h2; (try simp only [h1, h2]); exact ⟨h.1, h.2.1, h.2.2.1, fun j hj => hk _ _ _ (h.2.2.2 j hj)⟩
    · exact h.elim
  case h_18 => exact evSlice_mono (fun _ => hk _ _ _) h
  case h_19 =>
    simp only [evOp]
    split at h
    · rename_i h1 h2; (try simp only [h1, h2]); exact hk _ _ _ h
    · rename_i h1 h2; (try simp only [h1, h2]); exact hk _ _ _ h
    · exact h.elim
  case h_20 =>
    simp only [evOp]
    split at h
    · rename_i h1 h2; (try simp only [h1, h2]); exact ldCs_mono (fun _ => hk _ _ _) h
    · exact h.elim
  case h_21 =>
    refine asInt_mono (fun _ _ h => ?_) h
    split at h
    · rename_i h1; (try simp only [h1]); exact ⟨h.1, h.2.1, h.2.2.1, hk _ _ _ h.2.2.2⟩
    · rename_i h1; (try simp only [h1]); exact ⟨h.1, h.2.1, h.2.2.1, hk _ _ _ h.2.2.2⟩
    · rename_i h1; (try simp only [h1])
      split at h
      · rename_i h2; (try simp only [h2]); exact ⟨h.1, h.2.1, hk _ _ _ h.2.2⟩
      · exact h.elim
    · rename_i h1; (try simp only [h1])
      split at h
      · rename_i h2; (try simp only [h2]); exact ⟨h.1, h.2.1, hk _ _ _ h.2.2⟩
      · exact h.elim
    · exact h.elim
  case h_22 =>
    refine asInt_mono (fun _ _ h => ?_) h
    split at h
    · rename_i h1; (try simp only [h1]); exact ⟨h.1, h.2.1, h.2.2.1, h.2.2.2.1, h.2.2.2.2.1, hk _ _ _ h.2.2.2.2.2⟩
    · rename_i h1; (try simp only [h1]); exact ⟨h.1, h.2.1, h.2.2.1, hk _ _ _ h.2.2.2⟩
    · exact h.elim
  case h_23 =>
    simp only [evOp]
    split at h
    · rename_i h1 h2 h3; (try simp only [h2, h3])
      refine ⟨h.1, h.2.1, ?_⟩
      have h := h.2.2
      split at h
      · exact hk _ _ _ h
      · exact asMap_mono (fun _ _ h => ⟨h.1, h.2.1, hk _ _ _ h.2.2⟩) h
      · exact h.elim
    · exact h.elim
  case h_24 =>
    simp only [evOp]
    split at h
    · rename_i h1 h2; (try simp only [h1, h2])
      refine ⟨h.1, h.2.1, ?_⟩
      have h := h.2.2
      split at h
      · exact asMap_mono (fun _ _ h => ⟨h.1, h.2.1, hk _ _ _ h.2.2⟩) h
      · exact h.elim
    · exact h.elim
  case h_25 => exact asTup_mono (fun _ h => ⟨h.1, hk _ _ _ h.2⟩) h
  case h_26 =>
    simp only [evOp]
    split at h
    · rename_i h1; (try simp only [h1]); exact evBuiltin_mono (fun _ _ => hk _ _ _) h
    · rename_i h1; (try simp only [h1])
      split at h
      · rename_i h2
        exact ⟨h.1, h.2.1, h.2.2.1, Sem.mono h.2.2.2 fun _ _ => hk _ _ _⟩
      · exact h.elim
    · exact h.elim
  case h_27 => exact h.elim

theorem putO_comm {i : Nat} {x : D} {dst : Option Tmp} (h : dst ≠ some i) : putO (fr.put i x) dst d = (putO fr dst d).put i x := by
  cases dst with
  | none => rfl
  | some j => exact Fr.put_comm fun e => h (by rw [e])

theorem stp_irrel {i : Nat} {x : D} (h : i ∉ o.looks) (hd : o.dst ≠ some i) (H : stp P M n o (fr.put i x) st k) : stp P M n o fr st fun fr' st' => k (fr'.put i x) st' := by
  unfold stp at *
  rw [gdv_irrel fun j want hg => looks_gd h hg] at H
  refine gdv_mono (fun H => ?_) (fun H => ?_) H
  · refine evOp_mono (fun d fr' st' hk => ?_) (evOp_irrel (looks_op h) H)
    rw [putO_comm hd] at hk; exact hk
  · rw [putO_comm hd] at H; exact H

theorem stp_mono {k' : Fr → St → Prop} (hk : ∀ fr st, k fr st → k' fr st) (H : stp P M n o fr st k) : stp P M n o fr st k' :=
  gdv_mono (evOp_mono fun _ _ _ h => ⟨h.1, hk _ _ h.2⟩) (fun h => ⟨h.1, hk _ _ h.2⟩) H

theorem rdg_irrel {i : Nat} {x : D} (h : i ∉ o.looks) : rdg P o (fr.put i x) st = rdg P o fr st := by
  unfold rdg
  split
  · exact rdL_irrel (looks_op h)
  · rfl
  · rename_i j want hg
    have : Fr.put fr i x j = fr j := by have := looks_gd h hg; simp [Fr.put, Ne.symm this]
    rw [this, rdL_irrel (looks_op h)]
theorem rdg_irrelO {dst : Option Tmp} {x : D} (h : ∀ i, dst = some i → i ∉ o.looks) : rdg P o (putO fr dst x) st = rdg P o fr st := by
  cases dst with
  | none => rfl
  | some i => exact rdg_irrel (h i rfl)
theorem stp_irrelO {dst : Option Tmp} {x : D} (h : ∀ i, dst = some i → i ∉ o.looks ∧ o.dst ≠ some i) (H : stp P M n o (putO fr dst x) st k) : stp P M n o fr st fun fr' st' => k (putO fr' dst x) st' := by
  cases dst with
  | none => exact H
  | some i => exact stp_irrel (h i rfl).1 (h i rfl).2 H
end steps
end Go.Proofs.YtddbidoaolnegaaGreatDoor
/- Regions whose order is open: one plan serves every order. No statement of the seat is proved here; no condition. -/
namespace Go.Proofs.YtddbidoaolnegaaGreatDoor
open Go Go.RowKit

/-- One operation comes behind another in every order. -/
def isAnc (ops : Array Oper) : Nat → Nat → Nat → Bool
  | 0, _, _ => false
  | f + 1, j, y => ((ops[j]?).map fun o => o.after.toList.any fun e => Region.binds .any e && (e.on == y || isAnc ops f e.on y)).getD false

def keep (ops : Array Oper) (j : Nat) (fl : List (Nat × D)) : List (Nat × D) := fl.filter fun y => !isAnc ops ops.size j y.1

noncomputable def absF (P : Program) (M : List Tmp) (n : Nat) (ops : Array Oper) (K : Fr → St → Prop) : Nat → Array Bool → List (Nat × D) → Fr → St → Prop
  | 0, listed, _, fr, st => Region.ready .any ops listed = [] ∧ K fr st
  | f + 1, listed, fl, fr, st => (Region.ready .any ops listed = [] → K fr st) ∧ ∀ j ∈ Region.ready .any ops listed, ∀ o, ops[j]? = some o →
      stp P M n (er ops o) fr st fun fr' st' => (∀ y ∈ keep ops j fl, ∀ q, ops[y.1]? = some q → rdg P (er ops q) fr' st' = some y.2) ∧
        absF P M n ops K f (listed.setIfInBounds j true) (keep ops j fl) fr' st'

def Down (ops : Array Oper) (listed : Array Bool) : Prop := ∀ k o, ops[k]? = some o → listed.getD k false = true → ∀ e ∈ o.after, Region.binds .any e = true → listed.getD e.on false = true

/-- A reading operation that stands apart from all that is not bound to it. -/
def Static (ops : Array Oper) (i : Nat) : Prop := ∀ oi, ops[i]? = some oi → (∀ t, oi.dst = some t → t ∉ (er ops oi).looks) ∧
  ∀ j oj, ops[j]? = some oj → j ≠ i → (isAnc ops ops.size j i = false → isAnc ops ops.size i j = false → RO.apart (er ops oi) (er ops oj) = true)

section draw
variable {P : Program} {M : List Tmp} {n : Nat} {ops : Array Oper} {K : Fr → St → Prop} {fr : Fr} {st : St}

theorem anc_listed {listed : Array Bool} (hD : Down ops listed) : ∀ (f k y : Nat), listed.getD k false = true → isAnc ops f k y = true → listed.getD y false = true
  | 0, _, _, _, h => by simp [isAnc] at h
  | f + 1, k, y, hk, h => by
    unfold isAnc at h
    cases ho : ops[k]? with
    | none => simp [ho] at h
    | some o =>
      simp only [ho, Option.map_some, Option.getD_some, List.any_eq_true, Bool.and_eq_true, Bool.or_eq_true, beq_iff_eq] at h
      obtain ⟨e, he, hb, h⟩ := h
      have hl := hD k o ho hk e (by simpa using he) hb
      rcases h with h | h
      · rw [← h]; exact hl
      · exact anc_listed hD f _ _ hl h

theorem anc_ready {listed : Array Bool} (hD : Down ops listed) {j y : Nat} (hj : j ∈ Region.ready .any ops listed) : ∀ (f : Nat), isAnc ops f j y = true → listed.getD y false = true
  | 0, h => by simp [isAnc] at h
  | f + 1, h => by
    obtain ⟨h0, o, ho, hall⟩ := mem_ready.1 hj
    unfold isAnc at h
    simp only [ho, Option.map_some, Option.getD_some, List.any_eq_true, Bool.and_eq_true, Bool.or_eq_true, beq_iff_eq] at h
    obtain ⟨e, he, hb, h⟩ := h
    have hl := hall e (by simpa using he) hb
    rcases h with h | h
    · rw [← h]; exact hl
    · exact anc_listed hD f _ _ hl h

theorem not_listed {listed : Array Bool} {j : Nat} (h : listed.getD j true = false) : listed.getD j false = false := by
  simp only [Array.getD_eq_getD_getElem?] at *
  cases hx : listed[j]? <;> simp_all

theorem Down.set {listed : Array Bool} (hD : Down ops listed) {j : Nat} (hj : j ∈ Region.ready .any ops listed) : Down ops (listed.setIfInBounds j true) := by
  obtain ⟨h0, o, ho, hall⟩ := mem_ready.1 hj
  intro k q hq hk e he hb
  by_cases hkj : k = j
  · subst hkj
    rw [ho] at hq; cases hq
    exact getD_set_true (hall e he hb)
  · rw [getD_set_ne false (Ne.symm hkj)] at hk
    exact getD_set_true (hD k q hq hk e he hb)

theorem absF_weak : ∀ (f : Nat) {listed : Array Bool} {fl fl' : List (Nat × D)} {fr : Fr} {st : St}, (∀ y ∈ fl', y ∈ fl) → absF P M n ops K f listed fl fr st → absF P M n ops K f listed fl' fr st
  | 0, _, _, _, _, _, _, h => h
  | f + 1, listed, fl, fl', fr, st, hs, h => by
    refine ⟨h.1, fun j hj o ho => stp_mono (fun fr' st' hh => ?_) (h.2 j hj o ho)⟩
    have hs' : ∀ y ∈ keep ops j fl', y ∈ keep ops j fl := fun y hy => by
      unfold keep at *
      rw [List.mem_filter] at *
      exact ⟨hs y hy.1, hy.2⟩
    exact ⟨fun y hy q hq => hh.1 y (hs' y hy) q hq, absF_weak f hs' hh.2⟩

structure FlOk (P : Program) (ops : Array Oper) (listed : Array Bool) (fl : List (Nat × D)) (fr : Fr) (st : St) : Prop where
  ok : ∀ y ∈ fl, listed.getD y.1 false = true ∧ Static ops y.1 ∧ ∃ q, ops[y.1]? = some q ∧ rdg P (er ops q) fr st = some y.2

theorem apart_of {x y : RO} (h : x.apart y = true) : (∀ t, x.dst = some t → t ∉ y.looks ∧ y.dst ≠ some t) ∧ (∀ t, y.dst = some t → t ∉ x.looks) := by
  refine ⟨fun t ht => ?_, fun t ht => ?_⟩
  · simp [RO.apart, ht] at h; exact h.1
  · simp [RO.apart, ht] at h; exact h.2

/-- Static, also against what was read before. -/
def Static2 (ops : Array Oper) (i : Nat) (fs : List Nat) : Prop := ∀ oi, ops[i]? = some oi → ∀ y ∈ fs, ∀ q, ops[y]? = some q → y ≠ i → ∀ t, oi.dst = some t → t ∉ (er ops q).looks

theorem absF_float {i : Nat} {oi : Oper} (ho : ops[i]? = some oi) (hst : Static ops i) {d : D} (hdst : dstOk n oi.dst) :
    ∀ (f : Nat) (listed : Array Bool) (fl : List (Nat × D)) (fr : Fr) (st : St), Down ops listed → FlOk P ops listed fl fr st → Static2 ops i (fl.map (·.1)) → i ∈ Region.ready .any ops listed →
      rdg P (er ops oi) fr st = some d → absF P M n ops K f (listed.setIfInBounds i true) ((i, d) :: fl) (putO fr oi.dst d) st → absF P M n ops K (f + 1) listed fl fr st := by
  intro f
  induction f with
  | zero =>
    intro listed fl fr st hD hfl hs2 hi hr H
    refine ⟨fun he => (by rw [he] at hi; cases hi), fun j hj o hj' => ?_⟩
    by_cases hji : j = i
    · subst hji
      rw [ho] at hj'; cases hj'
      refine rdg_ok (d := d) hr hdst ?_
      refine ⟨fun y hy q hq => ?_, ?_⟩
      · have hy' := (List.mem_filter.1 hy).1
        obtain ⟨hl, _, q', hq', hrd⟩ := hfl.ok y hy'
        rw [hq'] at hq; cases hq
        rw [← hrd]
        refine rdg_irrelO fun t ht => hs2 _ ho y.1 (List.mem_map.2 ⟨y, hy', rfl⟩) _ hq' (fun e => ?_) t ht
        have := not_listed (mem_ready.1 hi).1
        rw [← e] at this; rw [this] at hl; cases hl
      · exact H
    · have := ready_mono hj hji
      rw [H.1] at this; cases this
  | succ f ih =>
    intro listed fl fr st hD hfl hs2 hi hr H
    refine ⟨fun he => (by rw [he] at hi; cases hi), fun j hj o hj' => ?_⟩
    have hnl := not_listed (mem_ready.1 hi).1
    by_cases hji : j = i
    · subst hji
      rw [ho] at hj'; cases hj'
      refine rdg_ok (d := d) hr hdst ?_
      refine ⟨fun y hy q hq => ?_, ?_⟩
      · have hy' := (List.mem_filter.1 hy).1
        obtain ⟨hl, _, q', hq', hrd⟩ := hfl.ok y hy'
        rw [hq'] at hq; cases hq
        rw [← hrd]
        refine rdg_irrelO fun t ht => hs2 _ ho y.1 (List.mem_map.2 ⟨y, hy', rfl⟩) _ hq' (fun e => ?_) t ht
        rw [← e] at hnl; rw [hnl] at hl; cases hl
      · exact absF_weak _ (fun y hy => List.mem_cons_of_mem _ (List.mem_filter.1 hy).1) H
    · have hnj := not_listed (mem_ready.1 hj).1
      have a1 : isAnc ops ops.size j i = false := by
        cases h : isAnc ops ops.size j i with
        | false => rfl
        | true => have := anc_ready hD hj _ h; rw [hnl] at this; cases this
      have a2 : isAnc ops ops.size i j = false := by
        cases h : isAnc ops ops.size i j with
        | false => rfl
        | true => have := anc_ready hD hi _ h; rw [hnj] at this; cases this
      obtain ⟨hself, hstat⟩ := hst oi ho
      obtain ⟨ap1, ap2⟩ := apart_of (hstat j o hj' hji a1 a2)
      have hH := H.2 j (ready_mono hj hji) o hj'
      refine stp_mono (fun fr' st' hh => ?_) (stp_irrelO (dst := oi.dst) (x := d) (fun t ht => ap1 t ht) hH)
      have hin : (i, d) ∈ keep ops j ((i, d) :: fl) := by unfold keep; rw [List.mem_filter]; exact ⟨by simp, by simp [a1]⟩
      have hri : rdg P (er ops oi) fr' st' = some d := by
        have := hh.1 _ hin oi ho
        rwa [rdg_irrelO (dst := oi.dst) hself] at this
      have hyk : ∀ y ∈ keep ops j fl, y ∈ keep ops j ((i, d) :: fl) := fun y hy => by
        unfold keep at *; rw [List.mem_filter] at *; exact ⟨List.mem_cons_of_mem _ hy.1, hy.2⟩
      have hyr : ∀ y ∈ keep ops j fl, ∀ q, ops[y.1]? = some q → rdg P (er ops q) fr' st' = some y.2 := fun y hy q hq => by
        have := hh.1 y (hyk y hy) q hq
        have hy' := (List.mem_filter.1 hy).1
        obtain ⟨hl, _, _⟩ := hfl.ok y hy'
        rwa [rdg_irrelO (dst := oi.dst) fun t ht => hs2 _ ho y.1 (List.mem_map.2 ⟨y, hy', rfl⟩) q hq (fun e => by rw [← e] at hnl; rw [hnl] at hl; cases hl) t ht] at this
      refine ⟨hyr, ?_⟩
      have hcomm : (listed.setIfInBounds i true).setIfInBounds j true = (listed.setIfInBounds j true).setIfInBounds i true := Array.setIfInBounds_comm _ _ (Ne.symm hji)
      refine ih (listed.setIfInBounds j true) (keep ops j fl) fr' st' (hD.set hj) ⟨fun y hy => ?_⟩ ?_ (ready_mono hi (Ne.symm hji)) hri ?_
      · have hy' := (List.mem_filter.1 hy).1
        obtain ⟨hl, hs, q, hq, _⟩ := hfl.ok y hy'
        exact ⟨getD_set_true hl, hs, q, hq, hyr y hy q hq⟩
      · intro oi' ho' y hy
        obtain ⟨y', hy', rfl⟩ := List.mem_map.1 hy
        exact hs2 oi' ho' y'.1 (List.mem_map.2 ⟨y', (List.mem_filter.1 hy').1, rfl⟩)
      · rw [← hcomm]
        refine absF_weak _ (fun y hy => ?_) hh.2
        rcases List.mem_cons.1 hy with rfl | hy
        · exact hin
        · exact hyk y hy
end draw
end Go.Proofs.YtddbidoaolnegaaGreatDoor
