/- Lemmas and walks for the law RoadCauses (part 1). No condition: every theorem names its own hypotheses. -/
import Derived.OwnWalkIn
import Derived.WalkKit
import Derived.RangeFuncNested
import Derived.RangeFuncLeaves
import Derived.RangeFuncCalls
import Derived.Below
import Derived.KernelRfl
import Derived.Deep.MidRow
import Derived.OrdersIn
import Derived.Maps.AppendAt
import Derived.Great.BuildSlice
import Derived.Laws.OwnMore
import Derived.Laws.Slices
set_option linter.unusedVariables false
set_option linter.unusedSimpArgs false
set_option maxHeartbeats 4000000
namespace Go.Proofs.Ythniebmammmacaa
open Go.RowKit
abbrev Mem := Nat → Option (Array Value)
def memOf (w : World) : Mem := fun b => match w.heap[b]? with
  | some (.cells c _ _) => some c
  | _ => none
def Mem.le (M M' : Mem) : Prop := ∀ b c, M b = some c → M' b = some c
theorem Mem.le_refl (M : Mem) : Mem.le M M := fun _ _ h => h
theorem Mem.le_trans {A B C : Mem} (h : Mem.le A B) (k : Mem.le B C) : Mem.le A C := fun b c hb => k b c (h b c hb)
def memCell (M : Mem) (b o : Nat) : Option Value := (M b).bind (·[o]?)
theorem memCell_le {M M' : Mem} (h : Mem.le M M') {b o : Nat} {v : Value} (hc : memCell M b o = some v) : memCell M' b o = some v := by
  unfold memCell at *
  cases hb : M b with
  | none => simp [hb] at hc
  | some c => rw [hb] at hc; rw [h b c hb]; exact hc
theorem memOf_some {w : World} {b : Nat} {c : Array Value} : memOf w b = some c ↔ ∃ T fr, w.heap[b]? = some (.cells c T fr) := by
  unfold memOf
  constructor
  · intro h
    split at h
    · rename_i c' T fr e; simp at h; subst h; exact ⟨T, fr, e⟩
    · simp at h
  · rintro ⟨T, fr, h⟩
    rw [h]
theorem memCell_cell {w : World} {M : Mem} (h : Mem.le M (memOf w)) {b o : Nat} {v : Value} (hc : memCell M b o = some v) : w.cell? ⟨b, o, none⟩ = some v := by
  have h2 := memCell_le h hc
  unfold memCell at h2
  cases hb : memOf w b with
  | none => simp [hb] at h2
  | some c =>
    obtain ⟨T, fr, e⟩ := memOf_some.1 hb
    rw [hb] at h2
    simp only [Option.bind_some] at h2
    simp [World.cell?, e, h2]
theorem memOf_below {w w' : World} (h : Below w.heap.size w w') : Mem.le (memOf w) (memOf w') := by
  intro b c hb
  obtain ⟨T, fr, e⟩ := memOf_some.1 hb
  exact memOf_some.2 ⟨T, fr, by rw [h.block b (Array.getElem?_eq_some_iff.1 e).1]; exact e⟩
theorem memOf_lt {w : World} {b : Nat} {c : Array Value} (h : memOf w b = some c) : b < w.heap.size := by
  obtain ⟨T, fr, e⟩ := memOf_some.1 h
  exact (Array.getElem?_eq_some_iff.1 e).1
inductive Lf where
  | v (x : Value)
  | own (n off : Nat)
  | vec (n : Nat)
  | vel (n sz i j : Nat)
  | ep (x : Value) (sz i j : Nat)
  | oel (n off : Nat)
inductive Sg where
  | one (l : Lf)
  | arr (k : IntKind) (n : Nat) (L : List Int)
inductive SV where
  | lf (l : Lf)
  | agg (s : List Sg)
  | tup (l : List (Option Lf × List Sg))
def baseOf : Value → Addr
  | .slice (some a) _ _ => a
  | _ => ⟨0, 0, none⟩
def elemPtr (x : Value) (sz i j : Nat) : Value := .pointer (some ⟨(baseOf x).block, (baseOf x).off + i * sz + j, none⟩)
section
variable (ids : Nat → Nat) (vals : Nat → Value)
def Lf.val : Lf → Value
  | .v x => x
  | .own n off => .pointer (some ⟨ids n, off, none⟩)
  | .oel n off => .pointer (some ⟨ids n, off, none⟩)
  | .vec n => vals n
  | .vel n sz i j => elemPtr (vals n) sz i j
  | .ep x sz i j => elemPtr x sz i j
def ints (k : IntKind) (L : List Int) : List Value := L.map fun x => .int k x
def Sg.cells : Sg → List Value
  | .one l => [l.val ids vals]
  | .arr k _ L => ints k L
def Sg.size : Sg → Nat
  | .one _ => 1
  | .arr _ n _ => n
def sgCells : List Sg → List Value
  | [] => []
  | s :: r => s.cells ids vals ++ sgCells r
def sgSize : List Sg → Nat
  | [] => 0
  | s :: r => s.size + sgSize r
def tupVal : Option Lf × List Sg → Value
  | (some l, _) => l.val ids vals
  | (none, s) => .agg (sgCells ids vals s).toArray
def SV.val : SV → Value
  | .lf l => l.val ids vals
  | .agg s => .agg (sgCells ids vals s).toArray
  | .tup l => .tuple (l.map (tupVal ids vals)).toArray
end
def Lf.storable : Lf → Bool
  | .v x => x.oneCell'
  | .own .. | .vec _ => true
  | _ => false
def Sg.wf : Sg → Prop
  | .one l => l.storable = true
  | .arr _ n L => L.length = n
def sgWf : List Sg → Prop
  | [] => True
  | s :: r => s.wf ∧ sgWf r
def tupWf : Option Lf × List Sg → Prop
  | (some _, _) => True
  | (none, s) => sgWf s
def SV.wf : SV → Prop
  | .lf _ => True
  | .agg s => sgWf s
  | .tup l => ∀ x ∈ l, tupWf x
theorem ints_length (k : IntKind) (L : List Int) : (ints k L).length = L.length := by simp [ints]
theorem Sg.cells_length {ids vals} {s : Sg} (h : s.wf) : (s.cells ids vals).length = s.size := by
  cases s with
  | one l => rfl
  | arr k n L => simp [Sg.cells, Sg.size, ints]; exact h
theorem sgCells_length {ids vals} : ∀ {l : List Sg}, sgWf l → (sgCells ids vals l).length = sgSize l
  | [], _ => rfl
  | s :: r, h => by simp only [sgCells, sgSize, List.length_append, Sg.cells_length h.1, sgCells_length h.2]
theorem sgCells_append {ids vals} : ∀ (a b : List Sg), sgCells ids vals (a ++ b) = sgCells ids vals a ++ sgCells ids vals b
  | [], _ => rfl
  | s :: r, b => by simp only [List.cons_append, sgCells, sgCells_append r b, List.append_assoc]
theorem sgSize_append : ∀ (a b : List Sg), sgSize (a ++ b) = sgSize a + sgSize b
  | [], _ => by simp [sgSize]
  | s :: r, b => by simp only [List.cons_append, sgSize, sgSize_append r b]; omega
theorem sgWf_append : ∀ {a b : List Sg}, sgWf (a ++ b) ↔ sgWf a ∧ sgWf b
  | [], _ => by simp [sgWf]
  | s :: r, b => by simp only [List.cons_append, sgWf, sgWf_append (a := r) (b := b), and_assoc]
def sgInts (k : IntKind) : List Sg → Option (List Int)
  | [] => some []
  | .one (.v (.int k' x)) :: r => if k' = k then (sgInts k r).map (x :: ·) else none
  | .arr k' _ L :: r => if k' = k then (sgInts k r).map (L ++ ·) else none
  | _ => none
theorem sgInts_cells {ids vals} {k : IntKind} : ∀ {l : List Sg} {L : List Int}, sgInts k l = some L → sgCells ids vals l = ints k L
  | [], L, h => by simp [sgInts] at h; subst h; rfl
  | .one l :: r, L, h => by
    cases l with
    | v x =>
      cases x with
      | int k' y =>
        simp only [sgInts] at h
        split at h
        · rename_i hk; subst hk
          cases hr : sgInts k' r with
          | none => simp [hr] at h
          | some L' => simp [hr] at h; subst h; simp [sgCells, Sg.cells, Lf.val, sgInts_cells hr, ints]
        · simp at h
      | _ => simp [sgInts] at h
    | _ => simp [sgInts] at h
  | .arr k' n L' :: r, L, h => by
    simp only [sgInts] at h
    split at h
    · rename_i hk; subst hk
      cases hr : sgInts k' r with
      | none => simp [hr] at h
      | some L'' => simp [hr] at h; subst h; simp [sgCells, Sg.cells, sgInts_cells hr, ints]
    · simp at h
def sgSplit : Nat → List Sg → Option (List Sg × List Sg)
  | 0, l => some ([], l)
  | _ + 1, [] => none
  | m + 1, s :: r => if s.size = 0 then none else if s.size ≤ m + 1 then (sgSplit (m + 1 - s.size) r).map fun (x, y) => (s :: x, y) else none
theorem sgSplit_eq : ∀ (m : Nat) (l x y : List Sg), sgSplit m l = some (x, y) → l = x ++ y ∧ sgSize x = m := by
  intro m
  induction m using Nat.strongRecOn with
  | _ m ih =>
    intro l x y h
    cases m with
    | zero => simp [sgSplit] at h; obtain ⟨rfl, rfl⟩ := h; exact ⟨rfl, rfl⟩
    | succ m =>
      cases l with
      | nil => simp [sgSplit] at h
      | cons s r =>
        simp only [sgSplit] at h
        split at h
        · simp at h
        · rename_i hz
          split at h
          · rename_i hle
            cases hr : sgSplit (m + 1 - s.size) r with
            | none => simp [hr] at h
            | some p =>
              obtain ⟨x', y'⟩ := p
              simp [hr] at h
              obtain ⟨rfl, rfl⟩ := h
              obtain ⟨e1, e2⟩ := ih (m + 1 - s.size) (by omega) r x' y' hr
              exact ⟨by rw [e1]; rfl, by simp only [sgSize, e2]; omega⟩
          · simp at h
def sgGet : Nat → Nat → List Sg → Option (List Sg)
  | _, _, [] => none
  | off, m, s :: r =>
    if s.size ≤ off then sgGet (off - s.size) m r else
    match s with
    | .arr k n L =>
      if off = 0 ∧ n ≤ m then (sgSplit m (s :: r)).map (·.1)
      else if off + m ≤ n then (if m = 1 then some [.one (.v (.int k (L.getD off 0)))] else some [.arr k m ((L.drop off).take m)]) else none
    | .one _ => (sgSplit m (s :: r)).map (·.1)
theorem sgGet_eq {ids vals} : ∀ {l : List Sg} {off m : Nat} {x : List Sg}, sgWf l → sgGet off m l = some x → 0 < m →
    sgCells ids vals x = ((sgCells ids vals l).drop off).take m ∧ sgWf x ∧ sgSize x = m ∧ off + m ≤ sgSize l
  | [], off, m, x, _, h, _ => by simp [sgGet] at h
  | s :: r, off, m, x, hw, h, hm => by
    have hsp : ∀ x', (sgSplit m (s :: r)).map (·.1) = some x' → off = 0 → sgCells ids vals x' = ((sgCells ids vals (s :: r)).drop off).take m ∧ sgWf x' ∧ sgSize x' = m ∧ off + m ≤ sgSize (s :: r) := by
      intro x' hx h0
      subst h0
      cases hp : sgSplit m (s :: r) with
      | none => simp [hp] at hx
      | some p =>
        obtain ⟨a, b⟩ := p
        simp [hp] at hx
        subst hx
        obtain ⟨e1, e2⟩ := sgSplit_eq m (s :: r) a b hp
        rw [e1] at hw ⊢
        obtain ⟨wa, wb⟩ := sgWf_append.1 hw
        refine ⟨?_, wa, e2, by rw [sgSize_append, e2]; omega⟩
        rw [sgCells_append, List.drop_zero, List.take_left' (by rw [sgCells_length wa, e2])]
    unfold sgGet at h
    split at h
    · rename_i hle
      obtain ⟨e1, e2, e3, e4⟩ := sgGet_eq (ids := ids) (vals := vals) hw.2 h hm
      refine ⟨?_, e2, e3, by simp only [sgSize]; omega⟩
      rw [e1]
      simp only [sgCells]
      have hl := Sg.cells_length (ids := ids) (vals := vals) hw.1
      rw [List.drop_append, List.drop_eq_nil_of_le («as» := Sg.cells ids vals s) (by omega), List.nil_append, hl]
    · rename_i hlt
      cases s with
      | one l =>
        simp only [Sg.size] at hlt
        exact hsp x h (by omega)
      | arr k n L =>
        have hL : L.length = n := hw.1
        simp only at h
        split at h
        · rename_i h0
          exact hsp x h h0.1
        · split at h
          · rename_i hle
            have e0 : (sgCells ids vals (.arr k n L :: r)).drop off = (ints k L).drop off ++ sgCells ids vals r := by
              simp only [sgCells, Sg.cells]
              rw [List.drop_append_of_le_length (by rw [ints_length]; omega)]
            split at h
            · rename_i h1
              simp at h; subst h; subst h1
              refine ⟨?_, ⟨rfl, trivial⟩, rfl, by simp only [sgSize, Sg.size]; omega⟩
              rw [e0]
              have hlt' : off < L.length := by omega
              rw [List.drop_eq_getElem_cons (by rw [ints_length]; omega)]
              simp [sgCells, Sg.cells, Lf.val, ints, List.getD_eq_getElem?_getD, List.getElem?_eq_getElem hlt']
            · simp at h; subst h
              refine ⟨?_, ⟨by simp [Sg.wf]; omega, trivial⟩, by simp [sgSize, Sg.size], by simp only [sgSize, Sg.size]; omega⟩
              rw [e0, List.take_append_of_le_length (by simp [ints]; omega)]
              simp [sgCells, Sg.cells, ints, List.map_take, List.map_drop]
          · simp at h
def sgSet (new : List Sg) (m : Nat) : Nat → List Sg → Option (List Sg)
  | _, [] => none
  | off, s :: r =>
    if s.size ≤ off then (sgSet new m (off - s.size) r).map (s :: ·) else
    match s with
    | .arr k n L =>
      if off = 0 ∧ n ≤ m then (sgSplit m (s :: r)).map (new ++ ·.2)
      else if off + m ≤ n then
        match new with
        | [.one (.v (.int k' x))] => if k' = k then some (.arr k n (L.set off x) :: r) else none
        | _ => (sgInts k new).map fun L' => .arr k n (L.take off ++ L' ++ L.drop (off + m)) :: r
      else none
    | .one _ => if off = 0 then (sgSplit m (s :: r)).map (new ++ ·.2) else none
theorem sgSet_eq {ids vals} {new : List Sg} {m : Nat} (hn : sgWf new) (hs : sgSize new = m) (hm : 0 < m) : ∀ {l : List Sg} {off : Nat} {x : List Sg}, sgWf l → sgSet new m off l = some x →
    sgCells ids vals x = (sgCells ids vals l).take off ++ sgCells ids vals new ++ (sgCells ids vals l).drop (off + m) ∧ sgWf x ∧ sgSize x = sgSize l ∧ off + m ≤ sgSize l
  | [], off, x, _, h => by simp [sgSet] at h
  | s :: r, off, x, hw, h => by
    have hsp : ∀ x', (sgSplit m (s :: r)).map (new ++ ·.2) = some x' → off = 0 → sgCells ids vals x' = (sgCells ids vals (s :: r)).take off ++ sgCells ids vals new ++ (sgCells ids vals (s :: r)).drop (off + m) ∧ sgWf x' ∧ sgSize x' = sgSize (s :: r) ∧ off + m ≤ sgSize (s :: r) := by
      intro x' hx h0
      subst h0
      cases hp : sgSplit m (s :: r) with
      | none => simp [hp] at hx
      | some p =>
        obtain ⟨a, b⟩ := p
        simp [hp] at hx
        subst hx
        obtain ⟨e1, e2⟩ := sgSplit_eq m (s :: r) a b hp
        rw [e1] at hw ⊢
        obtain ⟨wa, wb⟩ := sgWf_append.1 hw
        refine ⟨?_, sgWf_append.2 ⟨hn, wb⟩, by rw [sgSize_append, sgSize_append, hs, e2], by rw [sgSize_append, e2]; omega⟩
        rw [sgCells_append, sgCells_append, List.take_zero, List.nil_append, Nat.zero_add, List.drop_left' (by rw [sgCells_length wa, e2])]
    unfold sgSet at h
    split at h
    · rename_i hle
      cases hr : sgSet new m (off - s.size) r with
      | none => simp [hr] at h
      | some x' =>
        simp [hr] at h; subst h
        obtain ⟨e1, e2, e3, e4⟩ := sgSet_eq (ids := ids) (vals := vals) hn hs hm hw.2 hr
        have hl := Sg.cells_length (ids := ids) (vals := vals) hw.1
        refine ⟨?_, ⟨hw.1, e2⟩, by simp only [sgSize, e3], by simp only [sgSize]; omega⟩
        simp only [sgCells]
        rw [e1, List.take_append, List.take_of_length_le (l := Sg.cells ids vals s) (by omega), hl, List.drop_append, List.drop_eq_nil_of_le («as» := Sg.cells ids vals s) (by omega), List.nil_append, hl]
        simp only [List.append_assoc]
        rw [show off + m - s.size = off - s.size + m from by omega]
    · rename_i hlt
      cases s with
      | one l =>
        simp only [Sg.size] at hlt
        simp only at h
        split at h
        · rename_i h0; exact hsp x h h0
        · simp at h
      | arr k n L =>
        have hL : L.length = n := hw.1
        simp only at h
        split at h
        · rename_i h0
          exact hsp x h h0.1
        · split at h
          · rename_i hle
            have gen : ∀ L' : List Int, L'.length = m → sgCells ids vals new = ints k L' →
                sgCells ids vals (.arr k n (L.take off ++ L' ++ L.drop (off + m)) :: r) = (sgCells ids vals (.arr k n L :: r)).take off ++ sgCells ids vals new ++ (sgCells ids vals (.arr k n L :: r)).drop (off + m) ∧
                sgWf (.arr k n (L.take off ++ L' ++ L.drop (off + m)) :: r) := by
              intro L' hL' hc
              refine ⟨?_, ⟨by simp [Sg.wf]; omega, hw.2⟩⟩
              simp only [sgCells, Sg.cells]
              rw [List.take_append_of_le_length (by rw [ints_length]; omega), List.drop_append_of_le_length (by rw [ints_length]; omega), hc]
              simp [ints, List.map_append, List.map_take, List.map_drop]
            have hint : ∀ L', sgInts k new = some L' → L'.length = m := fun L' hi => by
              have := sgInts_cells (ids := ids) (vals := vals) hi
              have h2 := congrArg List.length this
              rw [sgCells_length hn, ints_length, hs] at h2
              exact h2.symm
            have hmain : ∀ (new' : List Sg), new' = new → (sgInts k new').map (fun L' => Sg.arr k n (L.take off ++ L' ++ L.drop (off + m)) :: r) = some x →
                sgCells ids vals x = (sgCells ids vals (.arr k n L :: r)).take off ++ sgCells ids vals new ++ (sgCells ids vals (.arr k n L :: r)).drop (off + m) ∧ sgWf x ∧ sgSize x = sgSize (.arr k n L :: r) ∧ off + m ≤ sgSize (.arr k n L :: r) := by
              clear h
              intro new' en h2
              subst en
              cases hi : sgInts k new' with
              | none => simp [hi] at h2
              | some L' =>
                simp [hi] at h2; subst h2
                obtain ⟨g1, g2⟩ := gen L' (hint L' hi) (sgInts_cells hi)
                have hg1 := g1
                simp only [List.append_assoc] at hg1 g2
                refine ⟨?_, g2, by simp [sgSize, Sg.size], by simp only [sgSize, Sg.size]; omega⟩
                simp only [List.append_assoc]
                exact hg1
            split at h
            · rename_i k' y
              split at h
              · rename_i hk
                subst hk
                simp at h; subst h
                simp [sgSize, Sg.size] at hs
                subst hs
                obtain ⟨g1, g2⟩ := gen [y] rfl (by simp [sgCells, Sg.cells, Lf.val, ints])
                have e : L.set off y = L.take off ++ [y] ++ L.drop (off + 1) := by
                  rw [List.set_eq_take_append_cons_drop, if_pos (by omega)]; simp
                rw [e]
                exact ⟨g1, g2, by simp [sgSize, Sg.size], by simp only [sgSize, Sg.size]; omega⟩
              · simp at h
            · exact hmain _ rfl h
          · simp at h
end Go.Proofs.Ythniebmammmacaa
namespace Go.Proofs.Ythniebmammmacaa
open Go.RowKit
structure Vc where
  e : TypeId
  sz : Nat
  len : Nat
  cs : List Value
structure St where
  σ : List (Nat × SV)
  H : List (Nat × List Sg)
  V : List (Nat × Vc)
  M : Mem
  ds : List Nat
  os : List (Nat × Obj) := []
  ats : List (Nat × Nat) := []
def look {α : Type} : List (Nat × α) → Nat → Option α
  | [], _ => none
  | (k, v) :: r, t => match Nat.beq k t with | true => some v | false => look r t
theorem beq_ne {k t : Nat} : Nat.beq k t = false ↔ k ≠ t := by
  constructor
  · intro h e; subst e; rw [Nat.beq_refl] at h; cases h
  · intro h
    cases hb : Nat.beq k t with
    | false => rfl
    | true => exact absurd (Nat.eq_of_beq_eq_true hb) h
theorem look_cons_eq {α : Type} (k : Nat) (v : α) (r : List (Nat × α)) : look ((k, v) :: r) k = some v := by simp [look]
theorem look_cons_ne {α : Type} {k t : Nat} (h : k ≠ t) (v : α) (r : List (Nat × α)) : look ((k, v) :: r) t = look r t := by
  have : Nat.beq k t = false := beq_ne.2 h
  simp [look, this]
theorem look_cons {α : Type} (k t : Nat) (v : α) (r : List (Nat × α)) : look ((k, v) :: r) t = if k = t then some v else look r t := by
  by_cases h : k = t
  · subst h; simp [look_cons_eq]
  · rw [look_cons_ne h, if_neg h]
def upd {α : Type} (f : Nat → α) (n : Nat) (x : α) : Nat → α := fun m => if m = n then x else f m
theorem upd_same {α : Type} (f : Nat → α) (n : Nat) (x : α) : upd f n x n = x := by simp [upd]
theorem upd_other {α : Type} {f : Nat → α} {n m : Nat} {x : α} (h : m ≠ n) : upd f n x m = f m := by simp [upd, h]
def Lf.free (n : Nat) : Lf → Bool
  | .v _ | .ep .. => true
  | .own m _ | .oel m _ | .vec m | .vel m .. => !(Nat.beq m n)
def sgFree (n : Nat) : List Sg → Bool
  | [] => true
  | .one l :: r => l.free n && sgFree n r
  | .arr .. :: r => sgFree n r
def tupFree (n : Nat) : List (Option Lf × List Sg) → Bool
  | [] => true
  | (some l, _) :: r => l.free n && tupFree n r
  | (none, s) :: r => sgFree n s && tupFree n r
def SV.free (n : Nat) : SV → Bool
  | .lf l => l.free n
  | .agg s => sgFree n s
  | .tup l => tupFree n l
def frees (n : Nat) : List (Nat × SV) → Bool
  | [] => true
  | (_, x) :: r => x.free n && frees n r
def freeH (n : Nat) : List (Nat × List Sg) → Bool
  | [] => true
  | (m, c) :: r => !(Nat.beq m n) && sgFree n c && freeH n r
def freeV (n : Nat) : List (Nat × Vc) → Bool
  | [] => true
  | (m, _) :: r => !(Nat.beq m n) && freeV n r
def freeA (n : Nat) : List (Nat × Nat) → Bool
  | [] => true
  | (m, _) :: r => !(Nat.beq m n) && freeA n r
theorem freeA_mem {n : Nat} : ∀ {l : List (Nat × Nat)}, freeA n l = true → ∀ p ∈ l, p.1 ≠ n
  | [], _, p, hp => by cases hp
  | (m, b) :: r, h, p, hp => by
    simp only [freeA, Bool.and_eq_true, Bool.not_eq_true'] at h
    simp only [List.mem_cons] at hp
    rcases hp with rfl | hp
    · exact beq_ne.1 h.1
    · exact freeA_mem h.2 p hp
def St.fresh (n : Nat) (s : St) : Bool := frees n s.σ && freeH n s.H && (freeV n s.V && freeA n s.ats)
theorem Lf.free_val {ids ids' : Nat → Nat} {vals vals' : Nat → Value} {n : Nat} (hi : ∀ m, m ≠ n → ids' m = ids m) (hv : ∀ m, m ≠ n → vals' m = vals m) {l : Lf} (h : l.free n = true) : l.val ids' vals' = l.val ids vals := by
  cases l with
  | v x => rfl
  | ep A sz i j => rfl
  | own m o => simp [Lf.free, beq_ne] at h; simp [Lf.val, hi _ h]
  | oel m o => simp [Lf.free, beq_ne] at h; simp [Lf.val, hi _ h]
  | vec m => simp [Lf.free, beq_ne] at h; simp [Lf.val, hv _ h]
  | vel m sz i j => simp [Lf.free, beq_ne] at h; simp [Lf.val, hv _ h]
theorem sgFree_cells {ids ids' : Nat → Nat} {vals vals' : Nat → Value} {n : Nat} (hi : ∀ m, m ≠ n → ids' m = ids m) (hv : ∀ m, m ≠ n → vals' m = vals m) : ∀ {l : List Sg}, sgFree n l = true → sgCells ids' vals' l = sgCells ids vals l
  | [], _ => rfl
  | .one l :: r, h => by
    simp only [sgFree, Bool.and_eq_true] at h
    simp only [sgCells, Sg.cells, Lf.free_val hi hv h.1, sgFree_cells hi hv h.2]
  | .arr .. :: r, h => by
    simp only [sgFree] at h
    simp only [sgCells, Sg.cells, sgFree_cells hi hv h]
theorem tupFree_val {ids ids' : Nat → Nat} {vals vals' : Nat → Value} {n : Nat} (hi : ∀ m, m ≠ n → ids' m = ids m) (hv : ∀ m, m ≠ n → vals' m = vals m) : ∀ {l : List (Option Lf × List Sg)}, tupFree n l = true → l.map (tupVal ids' vals') = l.map (tupVal ids vals)
  | [], _ => rfl
  | (some l, _) :: r, h => by
    simp only [tupFree, Bool.and_eq_true] at h
    simp only [List.map_cons, tupVal, Lf.free_val hi hv h.1, tupFree_val hi hv h.2]
  | (none, s) :: r, h => by
    simp only [tupFree, Bool.and_eq_true] at h
    simp only [List.map_cons, tupVal, sgFree_cells hi hv h.1, tupFree_val hi hv h.2]
theorem SV.free_val {ids ids' : Nat → Nat} {vals vals' : Nat → Value} {n : Nat} (hi : ∀ m, m ≠ n → ids' m = ids m) (hv : ∀ m, m ≠ n → vals' m = vals m) {x : SV} (h : x.free n = true) : x.val ids' vals' = x.val ids vals := by
  cases x with
  | lf l => exact Lf.free_val hi hv h
  | agg s => simp only [SV.val, sgFree_cells hi hv h]
  | tup l => simp only [SV.val, tupFree_val hi hv h]
theorem frees_look {n : Nat} : ∀ {l : List (Nat × SV)} {t : Nat} {x : SV}, frees n l = true → look l t = some x → x.free n = true
  | [], _, _, _, h => by simp [look] at h
  | (k, y) :: r, t, x, hf, h => by
    simp only [frees, Bool.and_eq_true] at hf
    rw [look_cons] at h
    split at h
    · simp at h; subst h; exact hf.1
    · exact frees_look hf.2 h
theorem freeH_look {n : Nat} : ∀ {l : List (Nat × List Sg)} {t : Nat} {x : List Sg}, freeH n l = true → look l t = some x → sgFree n x = true ∧ t ≠ n
  | [], _, _, _, h => by simp [look] at h
  | (k, y) :: r, t, x, hf, h => by
    simp only [freeH, Bool.and_eq_true] at hf
    rw [look_cons] at h
    split at h
    · rename_i hk; subst hk; simp at h; subst h; exact ⟨hf.1.2, by have := hf.1.1; simp only [Bool.not_eq_true'] at this; exact beq_ne.1 this⟩
    · exact freeH_look hf.2 h
theorem freeV_look {n : Nat} : ∀ {l : List (Nat × Vc)} {t : Nat} {x : Vc}, freeV n l = true → look l t = some x → t ≠ n
  | [], _, _, _, h => by simp [look] at h
  | (k, y) :: r, t, x, hf, h => by
    simp only [freeV, Bool.and_eq_true] at hf
    rw [look_cons] at h
    split at h
    · rename_i hk; subst hk; have := hf.1; simp only [Bool.not_eq_true'] at this; exact beq_ne.1 this
    · exact freeV_look hf.2 h
structure Cx where
  P : Program
  rd : Option Nat
  B : Nat
  N : Nat
  w0 : World
  M0 : Mem
structure Rel (X : Cx) (ids : Nat → Nat) (vals : Nat → Value) (s : St) (a : Act) (w : World) : Prop where
  size : a.tmps.size = X.N
  defers : a.defers = s.ds.map fun D => { target := .collected D, args := #[] }
  marks : ∀ D ∈ s.ds, X.B ≤ D ∧ w.heap[D]? = some (.deferred (some []))
  att : ∀ p ∈ s.ats, ids p.1 = p.2
  others : ∀ p ∈ s.os, X.B ≤ p.1 ∧ w.heap[p.1]? = some p.2 ∧ p.2.isCells = false
  onev : ∀ n, (vals n).oneCell' = true
  tmp : ∀ t x, look s.σ t = some x → a.tmps[t]? = some (x.val ids vals) ∧ x.wf
  blk : ∀ n c, look s.H n = some c → sgWf c ∧ X.B ≤ ids n ∧ s.M (ids n) = none ∧ ∃ T, w.heap[ids n]? = some (.cells (sgCells ids vals c).toArray T (0, 0))
  inj : ∀ n m c d, look s.H n = some c → look s.H m = some d → ids n = ids m → n = m
  vec : ∀ n v, look s.V n = some v → w.ownsRow X.B v.e v.sz (vals n) v.len v.cs
  apart : ∀ n v g, look s.V n = some v → (vals n).ownBlock = some g → s.M g = none ∧ (∀ m c, look s.H m = some c → ids m ≠ g) ∧ ∀ m u, look s.V m = some u → m ≠ n → (vals m).ownBlock ≠ some g
  mem : Mem.le s.M (memOf w)
  grow : Mem.le X.M0 s.M ∧ ∀ b, X.M0 b = none → s.M b ≠ none → X.B ≤ b
  below : Below X.B X.w0 w
  base : X.B ≤ w.heap.size
def Fx (rd : Option Nat) : Fence := { Fence.wide with round := rd }
theorem Rel.lt_blk {X : Cx} {ids vals s a w} (h : Rel X ids vals s a w) {n : Nat} {c : List Sg} (hc : look s.H n = some c) : ids n < w.heap.size := by
  obtain ⟨_, _, _, T, e⟩ := h.blk n c hc
  exact (Array.getElem?_eq_some_iff.1 e).1
theorem Rel.mem_lt {X : Cx} {ids vals s a w} (h : Rel X ids vals s a w) {b : Nat} {c : Array Value} (hc : s.M b = some c) : b < w.heap.size := memOf_lt (h.mem b c hc)
theorem Rel.put {X : Cx} {ids vals s a w} (h : Rel X ids vals s a w) {d : Nat} (hd : d < X.N) {x : SV} (hx : x.wf) :
    Rel X ids vals { s with σ := (d, x) :: s.σ } (a.put (some d) (x.val ids vals)) w where
  size := by simp [Act.put, h.size]
  defers := h.defers
  marks := h.marks
  others := h.others
  att := h.att
  onev := h.onev
  tmp := fun t y hy => by
    rw [look_cons] at hy
    have hs := h.size
    simp only [Act.put, Array.getElem?_setIfInBounds]
    split at hy
    · rename_i e; subst e; simp at hy; subst hy
      simp [hs, hd, hx]
    · rename_i e
      rw [if_neg e]
      exact h.tmp t y hy
  blk := h.blk
  inj := h.inj
  vec := h.vec
  apart := h.apart
  mem := h.mem
  grow := h.grow
  below := h.below
  base := h.base
theorem Rel.later {X : Cx} {ids vals s a w w'} (h : Rel X ids vals s a w) (hb : Below w.heap.size w w') : Rel X ids vals s a w' where
  size := h.size
  defers := h.defers
  marks := fun D hD => ⟨(h.marks D hD).1, by rw [hb.block D (Array.getElem?_eq_some_iff.1 (h.marks D hD).2).1]; exact (h.marks D hD).2⟩
  att := h.att
  others := fun p hp => ⟨(h.others p hp).1, by rw [hb.block p.1 (Array.getElem?_eq_some_iff.1 (h.others p hp).2.1).1]; exact (h.others p hp).2.1, (h.others p hp).2.2⟩
  onev := h.onev
  tmp := h.tmp
  blk := fun n c hc => by
    obtain ⟨w1, w2, w3, T, e⟩ := h.blk n c hc
    exact ⟨w1, w2, w3, T, by rw [hb.block _ (Array.getElem?_eq_some_iff.1 e).1]; exact e⟩
  inj := h.inj
  vec := fun n v hv => (h.vec n v hv).kept (row := none) ⟨hb.os, hb.tape, hb.output, hb.size, fun i hi _ => hb.block i hi⟩ (by cases (vals n).ownBlock <;> simp)
  apart := h.apart
  mem := Mem.le_trans h.mem (memOf_below hb)
  grow := h.grow
  below := h.below.trans (hb.mono h.base)
  base := Nat.le_trans h.base hb.size
theorem Rel.alloc {X : Cx} {ids vals s a w} (h : Rel X ids vals s a w) {n : Nat} (hn : s.fresh n = true) {c : List Sg} (hc : sgWf c) (hf : sgFree n c = true) (T : TypeId) :
    Rel X (upd ids n w.heap.size) vals { s with H := (n, c) :: s.H } a (w.alloc (.cells (sgCells ids vals c).toArray T)) := by
  simp only [St.fresh, Bool.and_eq_true] at hn
  obtain ⟨⟨f1, f2⟩, f3, f4⟩ := hn
  have hi : ∀ m, m ≠ n → upd ids n w.heap.size m = ids m := fun m hm => upd_other hm
  have hv : ∀ m, m ≠ n → vals m = vals m := fun _ _ => rfl
  have hb : Below w.heap.size w (w.alloc (.cells (sgCells ids vals c).toArray T)) := (Below.refl _ _).alloc (Nat.le_refl _) _
  have h' := h.later hb
  have hM : s.M w.heap.size = none := by
    cases hm : s.M w.heap.size with
    | none => rfl
    | some c' => exact absurd (h.mem_lt hm) (Nat.lt_irrefl _)
  exact {
    size := h'.size
    defers := h'.defers
    marks := h'.marks
    others := h'.others
    att := fun p hp => by rw [hi p.1 (freeA_mem f4 p hp)]; exact h.att p hp
    onev := h.onev
    tmp := fun t x hx => by rw [SV.free_val hi hv (frees_look f1 hx)]; exact h'.tmp t x hx
    blk := fun m d hd => by
      rw [look_cons] at hd
      split at hd
      · rename_i e; subst e; simp at hd; subst hd
        rw [upd_same]
        exact ⟨hc, h.base, hM, T, by rw [sgFree_cells hi hv hf]; exact heap_alloc_new w _⟩
      · rename_i e
        obtain ⟨g1, g2⟩ := freeH_look f2 hd
        rw [sgFree_cells hi hv g1, hi m g2]
        exact h'.blk m d hd
    inj := fun m k x y hx hy e => by
      rw [look_cons] at hx hy
      split at hx
      · rename_i e1; subst e1
        split at hy
        · rename_i e2; exact e2
        · rename_i e2
          obtain ⟨_, g2⟩ := freeH_look f2 hy
          rw [upd_same, hi k g2] at e
          exact absurd (h.lt_blk hy) (by omega)
      · split at hy
        · rename_i e2; subst e2
          obtain ⟨_, g2⟩ := freeH_look f2 hx
          rw [upd_same, hi m g2] at e
          exact absurd (h.lt_blk hx) (by omega)
        · obtain ⟨_, g2⟩ := freeH_look f2 hx
          obtain ⟨_, g3⟩ := freeH_look f2 hy
          rw [hi m g2, hi k g3] at e
          exact h.inj m k x y hx hy e
    vec := h'.vec
    apart := fun m v g hv2 hg => by
      obtain ⟨a1, a2, a3⟩ := h.apart m v g hv2 hg
      refine ⟨a1, fun k d hd => ?_, a3⟩
      rw [look_cons] at hd
      split at hd
      · rename_i e; subst e
        rw [upd_same]
        have := ((h.vec m v hv2).lt g hg).2
        omega
      · obtain ⟨_, g2⟩ := freeH_look f2 hd
        rw [hi k g2]
        exact a2 k d hd
    mem := h'.mem
    grow := h'.grow
    below := h'.below
    base := h'.base }
theorem Rel.setBlock {X : Cx} {ids vals s a w w'} (h : Rel X ids vals s a w) {n : Nat} {c c' : List Sg} (hc : look s.H n = some c) (hw : sgWf c')
    (hT : ∀ T, w.heap[ids n]? = some (.cells (sgCells ids vals c).toArray T (0, 0)) → w'.heap[ids n]? = some (.cells (sgCells ids vals c').toArray T (0, 0)))
    (hsz : w'.heap.size = w.heap.size) (ho : ∀ k, k ≠ ids n → w'.heap[k]? = w.heap[k]?) (e1 : w'.os = w.os) (e2 : w'.tape = w.tape) (e3 : w'.output = w.output) :
    Rel X ids vals { s with H := (n, c') :: s.H } a w' := by
  obtain ⟨w1, w2, w3, T, e⟩ := h.blk n c hc
  have hg : w.grownBy w' (some (ids n)) := ⟨e1, e2, e3, by omega, fun i _ hne => ho i (fun hh => hne (by rw [hh]))⟩
  exact {
    size := h.size
    defers := h.defers
    att := h.att
    others := fun p hp => by
      obtain ⟨t0, t1, t2⟩ := h.others p hp
      refine ⟨t0, ?_, t2⟩
      rw [ho p.1 (fun hh => by rw [hh, e] at t1; injection t1 with t1; rw [← t1] at t2; cases t2)]
      exact t1
    marks := fun D hD => ⟨(h.marks D hD).1, by
      rw [ho D (fun hh => by have := (h.marks D hD).2; rw [hh, e] at this; simp at this)]; exact (h.marks D hD).2⟩
    onev := h.onev
    tmp := h.tmp
    blk := fun m d hd => by
      rw [look_cons] at hd
      split at hd
      · rename_i e'; subst e'; simp at hd; subst hd
        exact ⟨hw, w2, w3, T, hT T e⟩
      · rename_i hne
        obtain ⟨u1, u2, u3, T', e'⟩ := h.blk m d hd
        exact ⟨u1, u2, u3, T', by rw [ho _ (fun hh => hne (h.inj n m c d hc hd hh.symm))]; exact e'⟩
    inj := fun m k x y hx hy e' => by
      rw [look_cons] at hx hy
      have hx' : ∃ x', look s.H m = some x' := by split at hx; (rename_i q; subst q; exact ⟨_, hc⟩); exact ⟨_, hx⟩
      have hy' : ∃ y', look s.H k = some y' := by split at hy; (rename_i q; subst q; exact ⟨_, hc⟩); exact ⟨_, hy⟩
      obtain ⟨x', hx'⟩ := hx'
      obtain ⟨y', hy'⟩ := hy'
      exact h.inj m k x' y' hx' hy' e'
    vec := fun m v hv => (h.vec m v hv).kept hg (by
      cases hb : (vals m).ownBlock with
      | none => exact .inl rfl
      | some g => exact .inr (fun hh => (h.apart m v g hv hb).2.1 n c hc (by simpa using hh.symm)))
    apart := fun m v g hv hb => by
      obtain ⟨a1, a2, a3⟩ := h.apart m v g hv hb
      refine ⟨a1, fun k d hd => ?_, a3⟩
      rw [look_cons] at hd
      split at hd
      · rename_i q; subst q; exact a2 n c hc
      · exact a2 k d hd
    mem := fun b cc hb => by
      have hne : b ≠ ids n := fun hh => by rw [hh, w3] at hb; simp at hb
      have := h.mem b cc hb
      obtain ⟨T', fr, e'⟩ := memOf_some.1 this
      exact memOf_some.2 ⟨T', fr, by rw [ho b hne]; exact e'⟩
    grow := h.grow
    below := h.below.trans ⟨e1, e2, e3, by omega, fun k hk => ho k (by omega)⟩
    base := by have := h.base; omega }
theorem Rel.forget {X : Cx} {ids vals s a w} (h : Rel X ids vals s a w) {s' : St} (hM : Mem.le s'.M s.M) (hM0 : Mem.le X.M0 s'.M) (hd : s'.ds = s.ds)
    (h1 : ∀ t x, look s'.σ t = some x → look s.σ t = some x) (h2 : ∀ t x, look s'.H t = some x → look s.H t = some x) (h3 : ∀ t x, look s'.V t = some x → look s.V t = some x) (hos : ∀ p ∈ s'.os, p ∈ s.os := by exact fun _ h => h) (hat : ∀ p ∈ s'.ats, p ∈ s.ats := by exact fun _ h => h) : Rel X ids vals s' a w where
  size := h.size
  defers := by rw [hd]; exact h.defers
  marks := by rw [hd]; exact h.marks
  others := fun p hp => h.others p (hos p hp)
  att := fun p hp => h.att p (hat p hp)
  onev := h.onev
  tmp := fun t x hx => h.tmp t x (h1 t x hx)
  blk := fun n c hc => by
    obtain ⟨u1, u2, u3, u4⟩ := h.blk n c (h2 n c hc)
    refine ⟨u1, u2, ?_, u4⟩
    cases hm : s'.M (ids n) with
    | none => rfl
    | some cc => have := hM _ _ hm; rw [u3] at this; simp at this
  inj := fun n m c d hc hd e => h.inj n m c d (h2 n c hc) (h2 m d hd) e
  vec := fun n v hv => h.vec n v (h3 n v hv)
  apart := fun n v g hv hb => by
    obtain ⟨a1, a2, a3⟩ := h.apart n v g (h3 n v hv) hb
    refine ⟨?_, fun m c hc => a2 m c (h2 m c hc), fun m u hu hne => a3 m u (h3 m u hu) hne⟩
    cases hm : s'.M g with
    | none => rfl
    | some cc => have := hM _ _ hm; rw [a1] at this; simp at this
  mem := Mem.le_trans hM h.mem
  grow := ⟨hM0, fun b hb hs => h.grow.2 b hb (by
    cases hm : s'.M b with
    | none => exact absurd hm hs
    | some cc => rw [hM _ _ hm]; simp)⟩
  below := h.below
  base := h.base
end Go.Proofs.Ythniebmammmacaa
namespace Go.Proofs.Ythniebmammmacaa
open Go.RowKit
def homog (P : Program) : Nat → TypeId → Option (IntKind × Nat)
  | 0, _ => none
  | d + 1, t =>
    match P.underlying t with
    | some (.int k) => some (k, 1)
    | some (.array n e) => (homog P d e).map fun (k, m) => (k, n * m)
    | some (.struct fs) => (fs.toList.map fun f => homog P d f.type).foldr (fun x acc => match x, acc with
        | some (k, n), some none => some (some (k, n))
        | some (k, n), some (some (k', m)) => if k = k' then some (some (k, n + m)) else none
        | _, _ => none) (some none) |>.join
    | _ => none
inductive Sh where
  | one
  | arr (k : IntKind) (n : Nat)
def shp (P : Program) : Nat → TypeId → List Sh
  | 0, _ => [.one]
  | d + 1, t =>
    match P.underlying t with
    | some (.struct fs) => match homog P 6 t with
      | some (k, n) => [.arr k n]
      | none => (fs.toList.map fun f => shp P d f.type).flatten
    | some (.array n e) => match homog P 6 t with
      | some (k, m) => [.arr k m]
      | none => (List.replicate n (shp P d e)).flatten
    | _ => [.one]
def takeInts (k : IntKind) : Nat → List Value → Option (List Int × List Value)
  | 0, l => some ([], l)
  | n + 1, .int k' x :: r => if k' = k then (takeInts k n r).map fun (a, b) => (x :: a, b) else none
  | _ + 1, _ => none
theorem takeInts_eq {k : IntKind} : ∀ {n : Nat} {l : List Value} {a : List Int} {b : List Value}, takeInts k n l = some (a, b) → l = ints k a ++ b ∧ a.length = n
  | 0, l, a, b, h => by simp [takeInts] at h; obtain ⟨rfl, rfl⟩ := h; exact ⟨rfl, rfl⟩
  | n + 1, [], a, b, h => by simp [takeInts] at h
  | n + 1, v :: r, a, b, h => by
    cases v with
    | int k' x =>
      simp only [takeInts] at h
      split at h
      · rename_i hk; subst hk
        cases hr : takeInts k' n r with
        | none => simp [hr] at h
        | some p =>
          obtain ⟨a', b'⟩ := p
          simp [hr] at h
          obtain ⟨rfl, rfl⟩ := h
          obtain ⟨e1, e2⟩ := takeInts_eq hr
          exact ⟨by rw [e1]; simp [ints], by simp [e2]⟩
      · simp at h
    | _ => simp [takeInts] at h
def sgOf : List Sh → List Value → Option (List Sg)
  | [], [] => some []
  | .one :: r, v :: l => if v.oneCell' then (sgOf r l).map (.one (.v v) :: ·) else none
  | .arr k n :: r, l => match takeInts k n l with
    | some (a, b) => (sgOf r b).map (.arr k n a :: ·)
    | none => none
  | _, _ => none
theorem sgOf_eq {ids vals} : ∀ {sh : List Sh} {l : List Value} {c : List Sg}, sgOf sh l = some c → sgCells ids vals c = l ∧ sgWf c ∧ ∀ n, sgFree n c = true
  | [], [], c, h => by simp [sgOf] at h; subst h; exact ⟨rfl, trivial, fun _ => rfl⟩
  | [], _ :: _, c, h => by simp [sgOf] at h
  | .one :: r, [], c, h => by simp [sgOf] at h
  | .one :: r, v :: l, c, h => by
    simp only [sgOf] at h
    split at h
    · rename_i hv
      cases hr : sgOf r l with
      | none => simp [hr] at h
      | some c' =>
        simp [hr] at h; subst h
        obtain ⟨e1, e2, e3⟩ := sgOf_eq (ids := ids) (vals := vals) hr
        exact ⟨by simp [sgCells, Sg.cells, Lf.val, e1], ⟨hv, e2⟩, fun n => by simp [sgFree, Lf.free, e3]⟩
    · simp at h
  | .arr k n :: r, l, c, h => by
    simp only [sgOf] at h
    split at h
    · rename_i a b ht
      cases hr : sgOf r b with
      | none => simp [hr] at h
      | some c' =>
        simp [hr] at h; subst h
        obtain ⟨e1, e2, e3⟩ := sgOf_eq (ids := ids) (vals := vals) hr
        obtain ⟨f1, f2⟩ := takeInts_eq ht
        exact ⟨by simp [sgCells, Sg.cells, e1, f1], ⟨f2, e2⟩, fun n => by simp [sgFree, e3]⟩
    · simp at h
def szOf (P : Program) (t : TypeId) : Option Nat := (P.info? t).map (·.size)
def zeroSg (P : Program) (t : TypeId) : Option (List Sg) :=
  match (P.info? t).bind (·.zero) with
  | some z => sgOf (shp P 6 t) z.cells.toList
  | none => none
def allInts : List Value → Option (IntKind × Nat)
  | [] => none
  | .int k _ :: r => match r with
    | [] => some (k, 1)
    | _ => (allInts r).bind fun (k', n) => if k = k' then some (k, n + 1) else none
  | _ => none
def constSV (v : Value) : Option SV :=
  match v with
  | .agg cs => match allInts cs.toList with
    | some (k, n) => (sgOf [.arr k n] cs.toList).map .agg
    | none => (sgOf (cs.toList.map fun _ => .one) cs.toList).map .agg
  | .tuple _ => none
  | x => some (.lf (.v x))
theorem constSV_eq {ids vals} {v : Value} {x : SV} (h : constSV v = some x) : x.val ids vals = v ∧ x.wf := by
  unfold constSV at h
  split at h
  · rename_i cs
    split at h
    · rename_i k n _
      cases hr : sgOf [.arr k n] cs.toList with
      | none => simp [hr] at h
      | some c =>
        simp [hr] at h; subst h
        obtain ⟨e1, e2, _⟩ := sgOf_eq (ids := ids) (vals := vals) hr
        exact ⟨by simp [SV.val, e1], e2⟩
    · cases hr : sgOf (cs.toList.map fun _ => .one) cs.toList with
      | none => simp [hr] at h
      | some c =>
        simp [hr] at h; subst h
        obtain ⟨e1, e2, _⟩ := sgOf_eq (ids := ids) (vals := vals) hr
        exact ⟨by simp [SV.val, e1], e2⟩
  · simp at h
  · simp at h; subst h; exact ⟨rfl, trivial⟩
def evO (s : St) : Operand → Option SV
  | .tmp t => look s.σ t
  | .const v => constSV v
  | .func f => some (.lf (.v (.func (.func f) #[] #[])))
  | .global _ => none
theorem evO_eq {X ids vals s a w} (h : Rel X ids vals s a w) {x : Operand} {y : SV} (hx : evO s x = some y) : a.eval x = y.val ids vals ∧ y.wf := by
  cases x with
  | tmp t =>
    obtain ⟨e, wf⟩ := h.tmp t y hx
    refine ⟨?_, wf⟩
    simp only [Act.eval]
    rw [Array.getD_eq_getD_getElem?, e]; rfl
  | const v => obtain ⟨e, wf⟩ := constSV_eq (ids := ids) (vals := vals) (show constSV v = some y from hx); exact ⟨e.symm, wf⟩
  | func f => simp [evO] at hx; subst hx; exact ⟨rfl, trivial⟩
  | global g => simp [evO] at hx
def asV : Option SV → Option Value
  | some (.lf (.v x)) => some x
  | _ => none
theorem asV_eq {o : Option SV} {x : Value} (h : asV o = some x) : o = some (.lf (.v x)) := by
  cases o with
  | none => simp [asV] at h
  | some y => cases y with
    | lf l => cases l <;> simp [asV] at h; subst h; rfl
    | _ => simp [asV] at h
def mx (x y : Int) : Int := if y > x then y else x
def mn (x y : Int) : Int := if y < x then y else x
def exBin (op : BinOp) : Value → Value → Option Value
  | .int k a, .int k' b =>
    match op with
    | .shl => if b < 0 then none else some (.int k (k.wrap (a * 2 ^ (min b.toNat k.bits))))
    | .shr => if b < 0 then none else some (.int k (a.fdiv (2 ^ (min b.toNat k.bits))))
    | _ =>
    if k ≠ k' then none else
    match op with
    | .add => some (.int k (k.wrap (a + b)))
    | .sub => some (.int k (k.wrap (a - b)))
    | .mul => some (.int k (k.wrap (a * b)))
    | .quo => if b = 0 then none else some (.int k (k.wrap (a.tdiv b)))
    | .rem => if b = 0 then none else some (.int k (a.tmod b))
    | .eql => some (.bool (a == b))
    | .neq => some (.bool (a != b))
    | .lss => some (.bool (decide (a < b)))
    | .leq => some (.bool (decide (a ≤ b)))
    | .gtr => some (.bool (decide (a > b)))
    | .geq => some (.bool (decide (a ≥ b)))
    | .and => some (.int k (k.wrap (BitVec.ofInt k.bits a &&& BitVec.ofInt k.bits b).toNat))
    | .or => some (.int k (k.wrap (BitVec.ofInt k.bits a ||| BitVec.ofInt k.bits b).toNat))
    | _ => none
  | _, _ => none
theorem exBin_run {P : Program} {op : BinOp} {t : TypeId} {x y : Operand} {a b v : Value} (w : World) (h : exBin op a b = some v) :
    (do eqGuard op t x y a b; binOp op t a b : Sem Value).run P w = .ok v w := by
  cases a with
  | int k m =>
    cases b with
    | int k' n =>
      have hg : (eqGuard op t x y (.int k m) (.int k' n)).run P w = .ok () w := by
        unfold eqGuard
        cases op <;> rfl
      rw [Sem.run_bind, hg]
      simp only [Result.andThen_ok]
      simp only [exBin] at h
      cases op <;> simp only at h
      case shl =>
        split at h
        · simp at h
        · rename_i hb; simp at h; subst h
          simp only [binOp, Op.shift]; rw [if_neg hb]; rfl
      case shr =>
        split at h
        · simp at h
        · rename_i hb; simp at h; subst h
          simp only [binOp, Op.shift]; rw [if_neg hb]; rfl
      all_goals
        split at h
        · simp at h
        · rename_i hk
          have hk' : k = k' := Classical.byContradiction hk
          subst hk'
          first
          | (simp at h; done)
          | (simp at h; subst h; simp [binOp, Op.intArith, Op.intCmp, Op.intBits, Sem.run_pure]; done)
          | (split at h
             · simp at h
             · rename_i hb; simp at h; subst h; simp [binOp, Op.intDiv, hb, Sem.run_pure])
    | _ => simp [exBin] at h
  | _ => simp [exBin] at h
def exUn (op : UnOp) : Value → Option Value
  | .bool b => match op with
    | .not => some (.bool !b)
    | _ => none
  | .int k n => match op with
    | .neg => some (.int k (k.wrap (0 - n)))
    | _ => none
  | _ => none
theorem exUn_run {P : Program} {op : UnOp} {a v : Value} (w : World) (h : exUn op a = some v) : (Op.unary op a).run P w = .ok v w := by
  cases a with
  | bool b => cases op <;> simp [exUn] at h; subst h; rfl
  | int k n => cases op <;> simp [exUn] at h; subst h; simp [Op.unary, Op.intArith, Sem.run_pure]
  | _ => simp [exUn] at h
def exBuiltin (s : St) (b : Builtin) (args : List (Option SV)) : Option Value :=
  match b, args with
  | .max, [x, y] => match asV x, asV y with
    | some (.int k m), some (.int _ n) => some (.int k (mx m n))
    | _, _ => none
  | .min, [x, y] => match asV x, asV y with
    | some (.int k m), some (.int _ n) => some (.int k (mn m n))
    | _, _ => none
  | .len, [some (.lf (.vec n))] => match look s.V n with
    | some v => some (.int .i64 v.len)
    | none => none
  | .len, [some (.lf (.v (.slice _ n _)))] => some (.int .i64 n)
  | _, _ => none
end Go.Proofs.Ythniebmammmacaa
namespace Go.Proofs.Ythniebmammmacaa
open Go.RowKit
def St.put (s : St) (d : Nat) (x : SV) : St := { s with σ := (d, x) :: s.σ }
def sgOfSV : SV → Option (List Sg)
  | .lf l => if l.storable then some [.one l] else none
  | .agg c => some c
  | .tup _ => none
theorem Lf.storable_one {ids : Nat → Nat} {vals : Nat → Value} (hv : ∀ n, (vals n).oneCell' = true) {l : Lf} (h : l.storable = true) : (l.val ids vals).oneCell' = true := by
  cases l <;> simp [Lf.storable] at h <;> simp [Lf.val, hv]
  · exact h
  · rfl
theorem cells_one {v : Value} (h : v.oneCell' = true) : v.cells.toList = [v] := by
  cases v <;> simp_all [Value.cells, Value.oneCell']
theorem sgWf_one {ids : Nat → Nat} {vals : Nat → Value} (hv : ∀ n, (vals n).oneCell' = true) : ∀ {c : List Sg}, sgWf c → ∀ u ∈ sgCells ids vals c, u.oneCell' = true
  | [], _, u, hu => by simp [sgCells] at hu
  | .one l :: r, hw, u, hu => by
    simp only [sgCells, Sg.cells, List.mem_append, List.mem_singleton] at hu
    rcases hu with rfl | hu
    · exact Lf.storable_one hv hw.1
    · exact sgWf_one hv hw.2 u hu
  | .arr k n L :: r, hw, u, hu => by
    simp only [sgCells, Sg.cells, List.mem_append, ints, List.mem_map] at hu
    rcases hu with ⟨x, _, rfl⟩ | hu
    · rfl
    · exact sgWf_one hv hw.2 u hu
theorem sgOfSV_eq {ids : Nat → Nat} {vals : Nat → Value} (hv : ∀ n, (vals n).oneCell' = true) {x : SV} {c : List Sg} (h : sgOfSV x = some c) (hw : x.wf) : sgWf c ∧ sgCells ids vals c = (x.val ids vals).cells.toList := by
  cases x with
  | lf l =>
    simp only [sgOfSV] at h
    split at h
    · rename_i hl
      simp at h; subst h
      refine ⟨⟨hl, trivial⟩, ?_⟩
      simp only [sgCells, Sg.cells, SV.val, List.append_nil]
      rw [cells_one (Lf.storable_one hv hl)]
    · simp at h
  | agg c' => simp [sgOfSV] at h; subst h; exact ⟨hw, by simp [SV.val, Value.cells]⟩
  | tup l => simp [sgOfSV] at h
def offAdd (l : Lf) (o : Nat) : Option Lf :=
  match l with
  | .own n off => some (.own n (off + o))
  | .oel n off => some (.oel n (off + o))
  | .vel n sz i j => some (.vel n sz i (j + o))
  | .ep x sz i j => some (.ep x sz i (j + o))
  | .v (.pointer (some ⟨b, off, none⟩)) => some (.v (.pointer (some ⟨b, off + o, none⟩)))
  | _ => none
def evsV (s : St) (xs : List Operand) : Option (List Value) :=
  match xs with
  | [] => some []
  | x :: r => match asV (evO s x), evsV s r with
    | some v, some vs => some (v :: vs)
    | _, _ => none
def buildSg (place : Nat → Option (Nat × Nat)) (s : St) : List Sg → List (Nat × Operand) → Option (List Sg)
  | c, [] => some c
  | c, (i, x) :: r =>
    match place i, (evO s x).bind sgOfSV with
    | some (off, m), some new => if sgSize new = m ∧ 0 < m then (match sgSet new m off c with | some c' => buildSg place s c' r | none => none) else none
    | _, _ => none
def placeOf (P : Program) (t : TypeId) : Option (Nat → Option (Nat × Nat)) :=
  match P.underlying t with
  | some (.struct fs) => (fs.toList.mapM fun f => (P.info? f.type).map fun i => (f.offset, i.size)).map fun places => fun i => places.toArray[i]?
  | some (.array _ e) => (P.info? e).map fun ie => fun i => some (i * ie.size, ie.size)
  | _ => none
def exOp (P : Program) (s : St) (op : Op) (dst : Option Nat) (type : TypeId) : Option St :=
  match op, dst with
  | .move x, some d | .assign x, some d => match evO s x with
    | some y => some (s.put d y)
    | none => none
  | .pick c a b, some d => match asV (evO s c) with
    | some (.bool true) => (evO s a).map (s.put d)
    | some (.bool false) => (evO s b).map (s.put d)
    | _ => none
  | .binOp o _ x y _, some d => match asV (evO s x), asV (evO s y) with
    | some a, some b => match exBin o a b with
      | some v => some (s.put d (.lf (.v v)))
      | none => none
    | _, _ => none
  | .unOp o _ x, some d => match asV (evO s x) with
    | some a => match exUn o a with
      | some v => some (s.put d (.lf (.v v)))
      | none => none
    | none => none
  | .convert src dst' x, some d => match asV (evO s x), P.underlying src, P.underlying dst' with
    | some (.int _ n), some (.int _), some (.int k) => some (s.put d (.lf (.v (.int k (k.wrap n)))))
    | _, _, _ => none
  | .nilCheck x, some d => match evO s x with
    | some (.lf (.own n o)) => some (s.put d (.lf (.own n o)))
    | some (.lf (.v (.pointer (some a)))) => some (s.put d (.lf (.v (.pointer (some a)))))
    | _ => none
  | .fieldAddr t x f, some d => match P.underlying t, evO s x with
    | some (.struct fs), some (.lf l) => match fs[f]? with
      | some fd => if szOf P fd.type = some 0 then none else if (szOf P fd.type).isNone = true then none else match offAdd l fd.offset with
        | some l' => some (s.put d (.lf l'))
        | none => none
      | none => none
    | _, _ => none
  | .load t x, some d => match P.underlying t, szOf P t, evO s x with
    | some de, some m, some (.lf (.own n off)) => match look s.H n with
      | some c => if m = 0 then none else match sgGet off m c with
        | some y => if de.isRow then some (s.put d (.agg y)) else match y with
          | [.one l] => some (s.put d (.lf l))
          | _ => none
        | none => none
      | none => none
    | _, _, _ => none
  | .store t p x, none => match szOf P t, evO s p, (evO s x).bind sgOfSV with
    | some m, some (.lf (.own n off)), some new => match look s.H n with
      | some c => if sgSize new = m ∧ 0 < m then (match sgSet new m off c with
        | some c' => some { s with H := (n, c') :: s.H }
        | none => none) else none
      | none => none
    | _, _, _ => none
  | .box t x, some d => match (evO s x).bind sgOfSV with
    | some c => if (s.fresh d && sgFree d c) = true then some { s with H := (d, c) :: s.H, σ := (d, .lf (.own d 0)) :: s.σ } else none
    | none => none
  | .alloc t, some d => match zeroSg P t with
    | some c => if (s.fresh d && sgFree d c) = true then some { s with H := (d, c) :: s.H, σ := (d, .lf (.own d 0)) :: s.σ } else none
    | none => none
  | .build t parts, some d => match zeroSg P t, placeOf P t with
    | some c, some place => match buildSg place s c parts.toList with
      | some c' => some (s.put d (.agg c'))
      | none => none
    | _, _ => none
  | .field t x f, some d => match P.underlying t, evO s x with
    | some (.struct fs), some (.agg c) => match fs[f]? with
      | some fd => match P.underlying fd.type, szOf P fd.type with
        | some de, some m => if m = 0 then none else match sgGet fd.offset m c with
          | some y => if de.isRow then some (s.put d (.agg y)) else match y with
            | [.one l] => some (s.put d (.lf l))
            | _ => none
          | none => none
        | _, _ => none
      | none => none
    | _, _ => none
  | .indexAddr t x i, some d => match P.underlying t, evO s x, asV (evO s i) with
    | some (.array n e), some (.lf (.own b off)), some (.int _ (.ofNat k)) => match szOf P e with
      | some m => if k < n then some (s.put d (.lf (.own b (off + k * m)))) else none
      | none => none
    | _, _, _ => none
  | .extract x i, some d => match evO s x with
    | some (.tup l) => match l[i]? with
      | some (some lf, _) => some (s.put d (.lf lf))
      | some (none, c) => some (s.put d (.agg c))
      | none => none
    | _ => none
  | .makeFunc fn first cap, some d => match evsV s first.toList, evsV s cap.toList with
    | some vs, some us => some (s.put d (.lf (.v (.func fn vs.toArray us.toArray))))
    | _, _ => none
  | .call { callee := .builtin b, args, argTypes }, some d => match exBuiltin s b (args.toList.map (evO s)), (argTypes[0]?).bind P.underlying with
    | some v, some de => match b, de with
      | .len, .slice _ => some (s.put d (.lf (.v v)))
      | .len, _ => none
      | _, _ => some (s.put d (.lf (.v v)))
    | _, _ => none
  | _, _ => none
def Does (X : Cx) (o : Oper) (a : Act) (w : World) (a' : Act) (w' : World) : Prop :=
  ∀ next Q, next a' w' → o.wpIn (Fx X.rd) 0 X.P a w next Q
theorem does_value {X : Cx} {o : Oper} {a : Act} {w w' : World} {v : Value} (hd : ∀ c, o.op ≠ .defer c) (hc : ∀ c, o.op = .call c → ∃ b, c.callee = .builtin b)
    (h : (execOp a.eval o).run X.P w = .ok (.value v) w') : Does X o a w (a.put o.dst v) w' := fun next Q hn => by
  unfold Oper.wpIn
  refine ⟨fun f _ => trivial, ?_⟩
  rw [Oper.semAt_plain (Fx X.rd) _ _ hd, h]
  exact hn
theorem does_skip {X : Cx} {o : Oper} {a : Act} {w w' : World} (hd : ∀ c, o.op ≠ .defer c)
    (h : (execOp a.eval o).run X.P w = .ok .skip w') : Does X o a w (a.put o.dst undef) w' := fun next Q hn => by
  unfold Oper.wpIn
  refine ⟨fun f _ => trivial, ?_⟩
  rw [Oper.semAt_plain (Fx X.rd) _ _ hd, h]
  exact hn
theorem run_load_own {P : Program} {w : World} {b off : Nat} {t : TypeId} {d : TypeDesc} {cs : List Value} (hu : P.underlying t = some d) {m : Nat} (hm : szOf P t = some m) (hl : cs.length = m)
    (hc : w.rangeAt b off cs) (hrow : d.isRow = true) : (Instr.loadAt t (.pointer (some ⟨b, off, none⟩))).run P w = .ok (.agg cs.toArray) w :=
  run_loadAt_mid w b off t cs d hc hu hrow (by rw [hl]; exact hm)
theorem run_isAgg_not {P : Program} {w : World} {t : TypeId} {d : TypeDesc} (hu : P.underlying t = some d) (hrow : d.isRow = false) : (isAgg t).run P w = .ok false w := by
  unfold isAgg
  rw [Sem.run_bind, run_underlying hu w]
  cases d <;> first | (simp [TypeDesc.isRow] at hrow; done) | rfl
theorem run_load_one {P : Program} {w : World} {b off : Nat} {t : TypeId} {d : TypeDesc} {v : Value} (hu : P.underlying t = some d) (hrow : d.isRow = false)
    (hc : w.cell? ⟨b, off, none⟩ = some v) : (Instr.loadAt t (.pointer (some ⟨b, off, none⟩))).run P w = .ok v w := by
  simp only [Instr.loadAt, Instr.sureAddr, Sem.run_bind, Sem.run_pure, Result.andThen_ok, loadVar, run_isAgg_not hu hrow]
  simp [load, Sem.run, hc]
theorem rangeAt_block {w : World} {b : Nat} {cs : List Value} {T : TypeId} {fr : Nat × Nat} (h : w.heap[b]? = some (.cells cs.toArray T fr)) (off m : Nat) : w.rangeAt b off ((cs.drop off).take m) := by
  intro j v hj
  rw [List.getElem?_take] at hj
  split at hj
  · rw [List.getElem?_drop] at hj
    simp [World.cell?, h, hj]
  · simp at hj
theorem run_store_own {P : Program} {w : World} {b off : Nat} {t T : TypeId} {m : Nat} {v : Value} {cur : List Value} (hm : szOf P t = some m) (hl : v.cells.size = m)
    (h : w.heap[b]? = some (.cells cur.toArray T (0, 0))) (hle : off + m ≤ cur.length) (h1 : ∀ u ∈ v.cells.toList, u.oneCell' = true) :
    (Instr.storeAt t (.pointer (some ⟨b, off, none⟩)) v).run P w = .ok () (w.setRow b (cur.take off ++ v.cells.toList ++ cur.drop (off + m)).toArray) := by
  have hst := run_storeCells_at (P := P) b off T v.cells.toList 0 cur.toArray w h (by simp; omega) h1
  simp only [Nat.add_zero, Array.length_toList, hl] at hst
  unfold szOf at hm
  cases hq : P.info? t with
  | none => simp [hq] at hm
  | some i =>
    have hs : i.size = m := by simpa [hq] using hm
    simp only [Instr.storeAt, Instr.sureAddr, Sem.run_bind, Sem.run_pure, Result.andThen_ok, storeVar, sizeOf, typeInfo, program, Sem.run, hq]
    simp [hs, hl, Sem.run_pure, hst, Sem.run_bind, Sem.run]
end Go.Proofs.Ythniebmammmacaa
namespace Go.Proofs.Ythniebmammmacaa
open Go.RowKit
theorem Rel.ev {X ids vals s a w} (h : Rel X ids vals s a w) {x : Operand} {y : SV} (hx : evO s x = some y) : a.eval x = y.val ids vals := (evO_eq h hx).1
theorem Rel.evV {X ids vals s a w} (h : Rel X ids vals s a w) {x : Operand} {v : Value} (hx : asV (evO s x) = some v) : a.eval x = v := by
  rw [h.ev (asV_eq hx)]; rfl
theorem Rel.evs {X ids vals s a w} (h : Rel X ids vals s a w) : ∀ {xs : List Operand} {vs : List Value}, evsV s xs = some vs → xs.map a.eval = vs
  | [], vs, hx => by simp [evsV] at hx; subst hx; rfl
  | x :: r, vs, hx => by
    simp only [evsV] at hx
    split at hx
    · rename_i v us e1 e2
      simp at hx; subst hx
      simp [h.evV e1, h.evs e2]
    · simp at hx
theorem does_put {X ids vals s a w} (h : Rel X ids vals s a w) {o : Oper} {d : Nat} (hd : o.dst = some d) (hN : d < X.N) {x : SV} (hx : x.wf) (h1 : ∀ c, o.op ≠ .defer c) (h2 : ∀ c, o.op = .call c → ∃ b, c.callee = .builtin b)
    (hr : (execOp a.eval o).run X.P w = .ok (.value (x.val ids vals)) w) : ∃ ids' a' w', Does X o a w a' w' ∧ Rel X ids' vals (s.put d x) a' w' :=
  ⟨ids, _, w, does_value h1 h2 hr, by rw [hd]; exact h.put hN hx⟩
theorem ex_new {X ids vals s a w} (h : Rel X ids vals s a w) {o : Oper} {d : Nat} (hd : o.dst = some d) (hN : d < X.N) {c : List Sg} (hw : sgWf c) (hf : (s.fresh d && sgFree d c) = true) (T : TypeId) (h1 : ∀ c, o.op ≠ .defer c) (h2 : ∀ c, o.op = .call c → ∃ b, c.callee = .builtin b)
    (hr : (execOp a.eval o).run X.P w = .ok (.value (.pointer (some ⟨w.heap.size, 0, none⟩))) (w.alloc (.cells (sgCells ids vals c).toArray T))) :
    ∃ ids' a' w', Does X o a w a' w' ∧ Rel X ids' vals { s with H := (d, c) :: s.H, σ := (d, .lf (.own d 0)) :: s.σ } a' w' := by
  simp only [Bool.and_eq_true] at hf
  have hA := h.alloc hf.1 hw hf.2 T
  have hp := hA.put hN (x := .lf (.own d 0)) trivial
  refine ⟨upd ids d w.heap.size, _, _, does_value h1 h2 hr, ?_⟩
  rw [hd]
  have e : (SV.lf (.own d 0)).val (upd ids d w.heap.size) vals = .pointer (some ⟨w.heap.size, 0, none⟩) := by simp [SV.val, Lf.val, upd_same]
  rw [e] at hp
  exact hp
theorem own_cells {X ids vals s a w} (h : Rel X ids vals s a w) {n off m : Nat} {c y : List Sg} (hc : look s.H n = some c) (hm : 0 < m) (hg : sgGet off m c = some y) :
    w.rangeAt (ids n) off (sgCells ids vals y) ∧ sgWf y ∧ (sgCells ids vals y).length = m := by
  obtain ⟨w1, _, _, T, e⟩ := h.blk n c hc
  obtain ⟨g1, g2, g3, _⟩ := sgGet_eq (ids := ids) (vals := vals) w1 hg hm
  refine ⟨?_, g2, by rw [sgCells_length g2, g3]⟩
  rw [g1]
  exact rangeAt_block e off m
def ptrOk : Lf → Bool
  | .v (.pointer (some ⟨_, _, none⟩)) => true
  | .v _ | .vec _ => false
  | _ => true
theorem offAdd_ok {l l' : Lf} {o : Nat} (h : offAdd l o = some l') : ptrOk l = true := by
  unfold offAdd at h
  split at h <;> simp_all [ptrOk]
theorem ptrOk_val {ids vals} {l : Lf} (h : ptrOk l = true) : ∃ b off, l.val ids vals = .pointer (some ⟨b, off, none⟩) := by
  cases l with
  | v x =>
    cases x with
    | pointer a =>
      cases a with
      | none => simp [ptrOk] at h
      | some a =>
        obtain ⟨b, off, sp⟩ := a
        cases sp with
        | none => exact ⟨b, off, rfl⟩
        | some _ => simp [ptrOk] at h
    | _ => simp [ptrOk] at h
  | own n off => exact ⟨_, _, rfl⟩
  | oel n off => exact ⟨_, _, rfl⟩
  | vec n => simp [ptrOk] at h
  | vel n sz i j => exact ⟨_, _, rfl⟩
  | ep x sz i j => exact ⟨_, _, rfl⟩
theorem offAdd_at {ids vals} {l l' : Lf} {o b off : Nat} (h : offAdd l o = some l') (e : l.val ids vals = .pointer (some ⟨b, off, none⟩)) : l'.val ids vals = .pointer (some ⟨b, off + o, none⟩) := by
  unfold offAdd at h
  split at h <;> simp at h <;> subst h <;> simp_all [Lf.val, elemPtr] <;> omega
theorem run_fieldAt {P : Program} {w : World} {t : TypeId} {fs : Array Field} (hu : P.underlying t = some (.struct fs)) {f : Nat} {fd : Field} (hf : fs[f]? = some fd) (hz : szOf P fd.type ≠ some 0) (hs : (szOf P fd.type).isNone = false) (b off : Nat) :
    (Instr.fieldAt t (.pointer (some ⟨b, off, none⟩)) f).run P w = .ok (.pointer (some ⟨b, off + fd.offset, none⟩)) w := by
  unfold szOf at hz hs
  cases hq : P.info? fd.type with
  | none => simp [hq] at hs
  | some i =>
    have hi : i.size ≠ 0 := fun hh => hz (by simp [hq, hh])
    simp only [Instr.fieldAt, Sem.run_bind, run_underlying hu, Result.andThen_ok, hf]
    simp [Instr.sureAddr, Sem.run_bind, Sem.run_pure, fieldPlace, sizeOf, typeInfo, program, Sem.run, hq, hi, Addr.add_mid]
end Go.Proofs.Ythniebmammmacaa
namespace Go.Proofs.Ythniebmammmacaa
open Go.RowKit
theorem foldl_set (off : Nat) : ∀ (vs : List Value) (j : Nat) (cur : Array Value), off + j + vs.length ≤ cur.size →
    (vs.zipIdx j).foldl (fun cs (p : Value × Nat) => cs.setIfInBounds (off + p.2) p.1) cur = (cur.toList.take (off + j) ++ vs ++ cur.toList.drop (off + j + vs.length)).toArray
  | [], j, cur, _ => by simp
  | v :: r, j, cur, h => by
    simp only [List.zipIdx_cons, List.foldl_cons]
    rw [foldl_set off r (j + 1) _ (by simp at h ⊢; omega)]
    congr 1
    have e := list_seg_step cur.toList (off + j) v r (by simp at h ⊢; omega)
    simpa [Array.toList_setIfInBounds, Nat.add_assoc] using e
theorem buildSg_fill {X ids vals s a w} (h : Rel X ids vals s a w) {place : Nat → Option (Nat × Nat)} : ∀ {parts : List (Nat × Operand)} {c c' : List Sg}, sgWf c → buildSg place s c parts = some c' →
    sgWf c' ∧ Instr.fill place (sgCells ids vals c).toArray (parts.map fun p => (p.1, a.eval p.2)) = some (sgCells ids vals c').toArray
  | [], c, c', hw, hb => by simp [buildSg] at hb; subst hb; exact ⟨hw, rfl⟩
  | (i, x) :: r, c, c', hw, hb => by
    simp only [buildSg] at hb
    split at hb
    · rename_i off m new e1 e2
      split at hb
      · rename_i hm
        split at hb
        · rename_i c1 e3
          cases hx : evO s x with
          | none => simp [hx] at e2
          | some y =>
            obtain ⟨ev, yw⟩ := evO_eq h hx
            simp only [hx, Option.bind_some] at e2
            obtain ⟨n1, n2⟩ := sgOfSV_eq h.onev e2 yw
            obtain ⟨g1, g2, g3, g4⟩ := sgSet_eq (ids := ids) (vals := vals) n1 hm.1 hm.2 hw e3
            obtain ⟨f1, f2⟩ := buildSg_fill h g2 hb
            refine ⟨f1, ?_⟩
            have hsz : (y.val ids vals).cells.size = m := by
              have := congrArg List.length n2
              rw [sgCells_length n1, hm.1] at this
              simpa using this.symm
            have hlen := sgCells_length (ids := ids) (vals := vals) hw
            simp only [List.map_cons, Instr.fill, e1, ev]
            rw [if_neg (by simp [hsz, hlen]; omega)]
            rw [← f2]
            congr 1
            have hf := foldl_set off (y.val ids vals).cells.toList 0 (sgCells ids vals c).toArray (by simp [hsz, hlen]; omega)
            simp only [Nat.add_zero] at hf
            rw [g1, n2]
            rw [← Array.foldl_toList, Array.toList_zipIdx]
            simp only [Array.length_toList, hsz] at hf
            simpa using hf
        · simp at hb
      · simp at hb
    · simp at hb
theorem zeroSg_eq {P : Program} {t : TypeId} {c : List Sg} (h : zeroSg P t = some c) : ∃ i z, P.info? t = some i ∧ i.zero = some z ∧ (∀ ids vals, sgCells ids vals c = z.cells.toList) ∧ sgWf c ∧ ∀ n, sgFree n c = true := by
  unfold zeroSg at h
  split at h
  · rename_i z hz
    cases hi : P.info? t with
    | none => simp [hi] at hz
    | some i =>
      simp [hi] at hz
      exact ⟨i, z, rfl, hz, fun ids vals => (sgOf_eq (ids := ids) (vals := vals) h).1, (sgOf_eq (ids := fun n => n) (vals := fun _ => undef) h).2.1, (sgOf_eq (ids := fun n => n) (vals := fun _ => undef) h).2.2⟩
  · simp at h
theorem exBuiltin_run {X ids vals s a w} (h : Rel X ids vals s a w) {b : Builtin} {args : List Operand} {v : Value} (he : exBuiltin s b (args.map (evO s)) = some v) {ts : Array TypeId} {de : TypeDesc} (ht : (ts[0]?).bind X.P.underlying = some de)
    (hlen : b = .len → ∃ e, de = .slice e) (ty : TypeId) (cs : Array Bool) : (builtin b ts ty cs (args.map a.eval).toArray).run X.P w = .ok (.value v) w := by
  unfold exBuiltin at he
  split at he
  · rename_i x y e
    match args, e with
    | [p, q], e =>
      simp at e
      obtain ⟨rfl, rfl⟩ := e
      split at he
      · rename_i k m k' n e1 e2
        simp at he; subst he
        simp [builtin, Builtin.max_, Builtin.max2, h.evV e1, h.evV e2, Sem.run_bind, Sem.run_pure, mx]
      · simp at he
  · rename_i x y e
    match args, e with
    | [p, q], e =>
      simp at e
      obtain ⟨rfl, rfl⟩ := e
      split at he
      · rename_i k m k' n e1 e2
        simp at he; subst he
        simp [builtin, Builtin.min_, Builtin.min2, h.evV e1, h.evV e2, Sem.run_bind, Sem.run_pure, mn]
      · simp at he
  · rename_i n e
    obtain ⟨p, rfl⟩ : ∃ p, args = [p] := by
      cases args with
      | nil => simp at e
      | cons p r => cases r with
        | nil => exact ⟨p, rfl⟩
        | cons q r => simp at e
    · simp at e
      split at he
      · rename_i u hu
        simp at he; subst he
        obtain ⟨q, rfl⟩ := hlen rfl
        have hp := h.ev e
        obtain ⟨hl, hv⟩ := h.vec n u hu
        have hsl : ∃ A c, vals n = .slice A u.len c := by
          rcases hv with ⟨e1, e2⟩ | ⟨g, cap, cur, e1, _⟩
          · exact ⟨none, 0, by rw [e1, e2]⟩
          · exact ⟨_, _, e1⟩
        obtain ⟨A, c, hsl⟩ := hsl
        cases ht0 : ts[0]? with
        | none => simp [ht0] at ht
        | some t0 =>
          simp [ht0] at ht
          simp [builtin, Builtin.len_, ht0, hp, SV.val, Lf.val, hsl, Sem.run_bind, run_underlying ht, Sem.run_pure, goInt]
      · simp at he
  · rename_i A n c e
    obtain ⟨p, rfl⟩ : ∃ p, args = [p] := by
      cases args with
      | nil => simp at e
      | cons p r => cases r with
        | nil => exact ⟨p, rfl⟩
        | cons q r => simp at e
    · simp at e
      simp at he; subst he
      obtain ⟨q, rfl⟩ := hlen rfl
      have hp := h.ev e
      cases ht0 : ts[0]? with
      | none => simp [ht0] at ht
      | some t0 =>
        simp [ht0] at ht
        simp [builtin, Builtin.len_, ht0, hp, SV.val, Lf.val, Sem.run_bind, run_underlying ht, Sem.run_pure, goInt]
  · simp at he
end Go.Proofs.Ythniebmammmacaa
namespace Go.Proofs.Ythniebmammmacaa
open Go.RowKit
def qop : Op → Bool
  | .store .. | .box .. | .alloc .. => false
  | _ => true
theorem mkq {X : Cx} {ids : Nat → Nat} {vals : Nat → Value} {s : St} {a : Act} {w : World} {o : Oper} {d : Nat} (hd : o.dst = some d) {x : SV} (hx : x.wf) (hr : (execOp a.eval o).run X.P w = .ok (.value (x.val ids vals)) w) :
    ∃ d' y, o.dst = some d' ∧ s.put d x = s.put d' y ∧ y.wf ∧ (execOp a.eval o).run X.P w = .ok (.value (y.val ids vals)) w := ⟨d, x, hd, rfl, hx, hr⟩
theorem exOp_quiet {X ids vals s a w} (h : Rel X ids vals s a w) {o : Oper} {s' : St} (he : exOp X.P s o.op o.dst o.type = some s') (hq : qop o.op = true) :
    ∃ d x, o.dst = some d ∧ s' = s.put d x ∧ x.wf ∧ (execOp a.eval o).run X.P w = .ok (.value (x.val ids vals)) w := by
  obtain ⟨dst, op, type, pos, after, guard⟩ := o
  simp only at he hq
  cases op with
  | move x =>
    cases dst with
    | none => simp [exOp] at he
    | some d =>
      simp only [exOp] at he
      split at he
      · rename_i y e
        simp at he; subst he
        obtain ⟨ev, yw⟩ := evO_eq h e
        exact mkq (o := ⟨some d, .move x, type, pos, after, guard⟩) rfl yw (by simp [execOp, ev, Sem.run_pure])
      · simp at he
  | assign x =>
    cases dst with
    | none => simp [exOp] at he
    | some d =>
      simp only [exOp] at he
      split at he
      · rename_i y e
        simp at he; subst he
        obtain ⟨ev, yw⟩ := evO_eq h e
        exact mkq (o := ⟨some d, .assign x, type, pos, after, guard⟩) rfl yw (by simp [execOp, ev, Sem.run_pure])
      · simp at he
  | pick c x y =>
    cases dst with
    | none => simp [exOp] at he
    | some d =>
      simp only [exOp] at he
      split at he
      · rename_i e
        cases hx : evO s x with
        | none => simp [hx] at he
        | some z =>
          simp [hx] at he; subst he
          obtain ⟨ev, yw⟩ := evO_eq h hx
          exact mkq (o := ⟨some d, .pick c x y, type, pos, after, guard⟩) rfl yw (by simp [execOp, h.evV e, ev, asBool, Sem.run_bind, Sem.run_pure])
      · rename_i e
        cases hx : evO s y with
        | none => simp [hx] at he
        | some z =>
          simp [hx] at he; subst he
          obtain ⟨ev, yw⟩ := evO_eq h hx
          exact mkq (o := ⟨some d, .pick c x y, type, pos, after, guard⟩) rfl yw (by simp [execOp, h.evV e, ev, asBool, Sem.run_bind, Sem.run_pure])
      · simp at he
  | binOp bo t x y u =>
    cases dst with
    | none => simp [exOp] at he
    | some d =>
      simp only [exOp] at he
      split at he
      · rename_i p q e1 e2
        split at he
        · rename_i v e3
          simp at he; subst he
          refine mkq (o := ⟨some d, .binOp bo t x y u, type, pos, after, guard⟩) rfl (x := .lf (.v v)) trivial ?_
          have hr := exBin_run (P := X.P) (t := t) (x := x) (y := y) w e3
          simp only [execOp, h.evV e1, h.evV e2, Sem.run_bind] at hr ⊢
          rw [hr]; rfl
        · simp at he
      · simp at he
  | unOp uo t x =>
    cases dst with
    | none => simp [exOp] at he
    | some d =>
      simp only [exOp] at he
      split at he
      · rename_i p e1
        split at he
        · rename_i v e3
          simp at he; subst he
          exact mkq (o := ⟨some d, .unOp uo t x, type, pos, after, guard⟩) rfl (x := .lf (.v v)) trivial (by simp [execOp, h.evV e1, exUn_run w e3, Sem.run_bind, Sem.run_pure, SV.val, Lf.val])
        · simp at he
      · simp at he
  | convert src dt x =>
    cases dst with
    | none => simp [exOp] at he
    | some d =>
      simp only [exOp] at he
      split at he
      · rename_i k1 n k2 k e1 e2 e3
        simp at he; subst he
        exact mkq (o := ⟨some d, .convert src dt x, type, pos, after, guard⟩) rfl (x := .lf (.v (.int k (k.wrap n)))) trivial
          (by simp [execOp, h.evV e1, convert, Conv.intToInt, Sem.run_bind, run_underlying e2, run_underlying e3, Sem.run_pure, SV.val, Lf.val])
      · simp at he
  | nilCheck x =>
    cases dst with
    | none => simp [exOp] at he
    | some d =>
      simp only [exOp] at he
      split at he
      · rename_i n o e
        simp at he; subst he
        have ev := h.ev e
        exact mkq (o := ⟨some d, .nilCheck x, type, pos, after, guard⟩) rfl (x := .lf (.own n o)) trivial (by simp [execOp, ev, SV.val, Lf.val, Sem.run_pure])
      · rename_i ad e
        simp at he; subst he
        have ev := h.ev e
        exact mkq (o := ⟨some d, .nilCheck x, type, pos, after, guard⟩) rfl (x := .lf (.v (.pointer (some ad)))) trivial (by simp [execOp, ev, SV.val, Lf.val, Sem.run_pure])
      · simp at he
  | fieldAddr t x f =>
    cases dst with
    | none => simp [exOp] at he
    | some d =>
      simp only [exOp] at he
      split at he
      · rename_i fs l e1 e2
        split at he
        · rename_i fd e3
          split at he
          · simp at he
          · rename_i hz
            split at he
            · simp at he
            · rename_i hs
              split at he
              · rename_i l' e4
                simp at he; subst he
                have ev := h.ev e2
                obtain ⟨b, off, hp⟩ := ptrOk_val (ids := ids) (vals := vals) (offAdd_ok e4)
                have hl' := offAdd_at e4 hp
                refine mkq (o := ⟨some d, .fieldAddr t x f, type, pos, after, guard⟩) rfl (x := .lf l') trivial ?_
                have hr := run_fieldAt (P := X.P) (w := w) e1 e3 hz (by cases hh : (szOf X.P fd.type).isNone with | false => rfl | true => exact absurd hh hs) b off
                simp only [execOp, ev, SV.val, hp, hl', Sem.run_bind, hr, Result.andThen_ok, Sem.run_pure]
              · simp at he
        · simp at he
      · simp at he
  | load t x =>
    cases dst with
    | none => simp [exOp] at he
    | some d =>
      simp only [exOp] at he
      split at he
      · rename_i de m n off e1 e2 e3
        split at he
        · rename_i c e4
          split at he
          · simp at he
          · rename_i hm
            split at he
            · rename_i y e5
              obtain ⟨r1, r2, r3⟩ := own_cells h e4 (by omega) e5
              have ev := h.ev e3
              split at he
              · rename_i hrow
                simp at he; subst he
                refine mkq (o := ⟨some d, .load t x, type, pos, after, guard⟩) rfl (x := .agg y) r2 ?_
                simp only [execOp, ev, SV.val, Lf.val, Sem.run_bind, run_load_own e1 e2 r3 r1 hrow, Result.andThen_ok, Sem.run_pure]
              · rename_i hrow
                split at he
                · rename_i l
                  simp at he; subst he
                  refine mkq (o := ⟨some d, .load t x, type, pos, after, guard⟩) rfl (x := .lf l) trivial ?_
                  have hc0 : w.cell? ⟨ids n, off, none⟩ = some (l.val ids vals) := r1 0 _ (by simp [sgCells, Sg.cells])
                  simp only [execOp, ev, SV.val, Lf.val, Sem.run_bind, run_load_one e1 (by simpa using hrow) hc0, Result.andThen_ok, Sem.run_pure]
                · simp at he
            · simp at he
        · simp at he
      · simp at he
  | build t parts =>
    cases dst with
    | none => simp [exOp] at he
    | some d =>
      simp only [exOp] at he
      split at he
      · rename_i c place e1 e2
        split at he
        · rename_i c' e3
          simp at he; subst he
          obtain ⟨i, z, hi, hz, hc, hw, _⟩ := zeroSg_eq e1
          obtain ⟨f1, f2⟩ := buildSg_fill h hw e3
          refine mkq (o := ⟨some d, .build t parts, type, pos, after, guard⟩) rfl (x := .agg c') f1 ?_
          have hb : X.P.built t (parts.map fun p => (p.1, a.eval p.2)).toList = some (sgCells ids vals c').toArray := by
            rw [← f2, hc ids vals]
            unfold Program.built
            unfold placeOf at e2
            split at e2
            · rename_i fs hu
              simp only [hi, hu, hz]
              cases hp : fs.toList.mapM (fun f => (X.P.info? f.type).map fun i => (f.offset, i.size)) with
              | none => simp [hp] at e2
              | some places =>
                simp [hp] at e2; subst e2
                simp
            · rename_i n e hu
              simp only [hi, hu, hz]
              cases hie : X.P.info? e with
              | none => simp [hie] at e2
              | some ie =>
                simp [hie] at e2; subst e2
                simp
            · simp at e2
          have hr := run_build (P := X.P) w t _ _ hb
          simp only [execOp, Sem.run_bind, SV.val] at hr ⊢
          rw [hr]; rfl
        · simp at he
      · simp at he
  | field t x f =>
    cases dst with
    | none => simp [exOp] at he
    | some d =>
      simp only [exOp] at he
      split at he
      · rename_i fs c e1 e2
        split at he
        · rename_i fd e3
          split at he
          · rename_i de m e4 e5
            split at he
            · simp at he
            · rename_i hm
              split at he
              · rename_i y e6
                obtain ⟨ev, cw⟩ := evO_eq h e2
                obtain ⟨g1, g2, g3, g4⟩ := sgGet_eq (ids := ids) (vals := vals) cw e6 (by omega)
                have hlen := sgCells_length (ids := ids) (vals := vals) cw
                have hfield : ∀ v, (part fd.type (sgCells ids vals c).toArray fd.offset).run X.P w = .ok v w → (Instr.field t (a.eval x) f).run X.P w = .ok v w := by
                  intro v hv
                  simp only [Instr.field, Sem.run_bind, run_underlying e1, Result.andThen_ok, e3, ev, SV.val, asAgg, Sem.run_pure]
                  exact hv
                unfold szOf at e5
                cases hq : X.P.info? fd.type with
                | none => simp [hq] at e5
                | some i =>
                  have hs : i.size = m := by simpa [hq] using e5
                  split at he
                  · rename_i hrow
                    simp at he; subst he
                    refine mkq (o := ⟨some d, .field t x f, type, pos, after, guard⟩) rfl (x := .agg y) g2 ?_
                    have hagg : (isAgg fd.type).run X.P w = .ok true w := by
                      unfold isAgg
                      rw [Sem.run_bind, run_underlying e4 w]
                      cases de <;> first | (simp [TypeDesc.isRow] at hrow; done) | rfl
                    have hp := hfield (.agg (sgCells ids vals y).toArray) (by
                      simp only [part, Sem.run_bind, hagg, Result.andThen_ok, if_true, sizeOf, typeInfo, program, Sem.run, hq]
                      simp [Sem.run_pure, Sem.run, hs, g1, List.extract_eq_take_drop])
                    simp only [execOp, Sem.run_bind, SV.val] at hp ⊢
                    rw [hp]; rfl
                  · rename_i hrow
                    split at he
                    · rename_i l
                      simp at he; subst he
                      refine mkq (o := ⟨some d, .field t x f, type, pos, after, guard⟩) rfl (x := .lf l) trivial ?_
                      have hc0 : (sgCells ids vals c)[fd.offset]? = some (l.val ids vals) := by
                        have h0 : (sgCells ids vals [Sg.one l])[0]? = some (l.val ids vals) := rfl
                        rw [g1, List.getElem?_take_of_lt (by omega), List.getElem?_drop] at h0
                        simpa using h0
                      have hp := hfield (l.val ids vals) (by
                        simp only [part, Sem.run_bind, run_isAgg_not e4 (by simpa using hrow), Result.andThen_ok, Bool.false_eq_true, if_false]
                        simp [hc0, Sem.run_pure])
                      simp only [execOp, Sem.run_bind, SV.val] at hp ⊢
                      rw [hp]; rfl
                    · simp at he
              · simp at he
          · simp at he
        · simp at he
      · simp at he
  | indexAddr t x i =>
    cases dst with
    | none => simp [exOp] at he
    | some d =>
      simp only [exOp] at he
      split at he
      · rename_i n e b off k1 k e1 e2 e3
        split at he
        · rename_i m e4
          split at he
          · rename_i hk
            simp at he; subst he
            have ev := h.ev e2
            refine mkq (o := ⟨some d, .indexAddr t x i, type, pos, after, guard⟩) rfl (x := .lf (.own b (off + k * m))) trivial ?_
            unfold szOf at e4
            cases hq : X.P.info? e with
            | none => simp [hq] at e4
            | some ii =>
              have hs : ii.size = m := by simpa [hq] using e4
              have hlt : ((k : Int) < (n : Int)) := by omega
              simp [execOp, Instr.indexAt, h.evV e3, asIntOf, ev, SV.val, Lf.val, Sem.run_bind, run_underlying e1, Instr.sureAddr, Sem.run_pure, sizeOf, typeInfo, program, Sem.run, hq, hs, hk, Addr.add_mid]
          · simp at he
        · simp at he
      · simp at he
  | extract x i =>
    cases dst with
    | none => simp [exOp] at he
    | some d =>
      simp only [exOp] at he
      split at he
      · rename_i l e1
        obtain ⟨ev, lw⟩ := evO_eq h e1
        split at he
        · rename_i lf c' e2
          simp at he; subst he
          exact mkq (o := ⟨some d, .extract x i, type, pos, after, guard⟩) rfl (x := .lf lf) trivial
            (by simp [execOp, Instr.extract, ev, SV.val, e2, tupVal, Sem.run_bind, Sem.run_pure])
        · rename_i c' e2
          simp at he; subst he
          exact mkq (o := ⟨some d, .extract x i, type, pos, after, guard⟩) rfl (x := .agg c') (lw _ (List.mem_of_getElem? e2))
            (by simp [execOp, Instr.extract, ev, SV.val, e2, tupVal, Sem.run_bind, Sem.run_pure])
        · simp at he
      · simp at he
  | makeFunc fn first cap =>
    cases dst with
    | none => simp [exOp] at he
    | some d =>
      simp only [exOp] at he
      split at he
      · rename_i vs us e1 e2
        simp at he; subst he
        have g1 := h.evs e1
        have g2 := h.evs e2
        refine mkq (o := ⟨some d, .makeFunc fn first cap, type, pos, after, guard⟩) rfl (x := .lf (.v (.func fn vs.toArray us.toArray))) trivial ?_
        have f1 : first.map a.eval = vs.toArray := by rw [← g1]; apply Array.ext'; simp
        have f2 : cap.map a.eval = us.toArray := by rw [← g2]; apply Array.ext'; simp
        simp [execOp, Instr.makeFunc, f1, f2, Sem.run_bind, Sem.run_pure, SV.val, Lf.val]
      · simp at he
  | call c =>
    obtain ⟨callee, args, argTypes⟩ := c
    cases dst with
    | none => cases callee <;> simp [exOp] at he
    | some d =>
      cases callee with
      | builtin b =>
        simp only [exOp] at he
        split at he
        · rename_i v de e1 e2
          have key : (b = .len → ∃ e, de = .slice e) → s' = s.put d (.lf (.v v)) → ∃ d' x, (⟨some d, .call { callee := .builtin b, args := args, argTypes := argTypes }, type, pos, after, guard⟩ : Oper).dst = some d' ∧ s' = s.put d' x ∧ x.wf ∧ (execOp a.eval ⟨some d, .call { callee := .builtin b, args := args, argTypes := argTypes }, type, pos, after, guard⟩).run X.P w = .ok (.value (x.val ids vals)) w := by
            intro hl hs
            subst hs
            refine mkq (o := ⟨some d, .call { callee := .builtin b, args := args, argTypes := argTypes }, type, pos, after, guard⟩) rfl (x := .lf (.v v)) trivial ?_
            have hr := exBuiltin_run h e1 e2 hl type (args.map fun | .const _ => true | _ => false)
            have ha : args.map a.eval = (args.toList.map a.eval).toArray := by apply Array.ext'; simp
            simp only [execOp, resolve, Sem.run_bind, Sem.run_pure, Result.andThen_ok, invoke, ha, SV.val, Lf.val]
            exact hr
          split at he
          · rename_i q
            exact key (fun _ => ⟨_, rfl⟩) (by simpa using he.symm)
          · simp at he
          · rename_i hne
            exact key (fun hb => absurd hb (by intro hb; subst hb; simp_all)) (by simpa using he.symm)
        · simp at he
      | value f => simp [exOp] at he
      | invoke r m => simp [exOp] at he
  | store t p x => simp [qop] at hq
  | box t x => simp [qop] at hq
  | alloc t => simp [qop] at hq
  | _ => cases dst <;> simp [exOp] at he
theorem exOp_plain {P : Program} {s s' : St} {o : Oper} (he : exOp P s o.op o.dst o.type = some s') : (∀ c, o.op ≠ .defer c) ∧ ∀ c, o.op = .call c → ∃ b, c.callee = .builtin b := by
  obtain ⟨dst, op, type, pos, after, guard⟩ := o
  simp only at he ⊢
  cases op with
  | defer c => cases dst <;> simp [exOp] at he
  | call c =>
    refine ⟨fun c hc => (by cases hc), fun c' hc => ?_⟩
    injection hc with hc
    subst hc
    obtain ⟨callee, args, argTypes⟩ := c
    cases callee with
    | builtin b => exact ⟨b, rfl⟩
    | value f => cases dst <;> simp [exOp] at he
    | invoke r m => cases dst <;> simp [exOp] at he
  | _ => exact ⟨fun c hc => (by cases hc), fun c hc => (by cases hc)⟩
theorem exOp_does {X ids vals s a w} (h : Rel X ids vals s a w) {o : Oper} {s' : St} (he : exOp X.P s o.op o.dst o.type = some s') (hN : ∀ d, o.dst = some d → d < X.N) :
    ∃ ids' a' w', Does X o a w a' w' ∧ Rel X ids' vals s' a' w' := by
  obtain ⟨dst, op, type, pos, after, guard⟩ := o
  simp only at he hN
  cases op with
  | store t p x =>
    cases dst with
    | some d => simp [exOp] at he
    | none =>
      simp only [exOp] at he
      split at he
      · rename_i m n off new e1 e2 e3
        split at he
        · rename_i c e4
          split at he
          · rename_i hm
            split at he
            · rename_i c' e5
              simp at he; subst he
              cases hx : evO s x with
              | none => simp [hx] at e3
              | some y =>
                obtain ⟨ev, yw⟩ := evO_eq h hx
                simp only [hx, Option.bind_some] at e3
                obtain ⟨n1, n2⟩ := sgOfSV_eq (ids := ids) h.onev e3 yw
                obtain ⟨w1, w2, w3, T, eT⟩ := h.blk n c e4
                obtain ⟨g1, g2, g3, g4⟩ := sgSet_eq (ids := ids) (vals := vals) n1 hm.1 hm.2 w1 e5
                have hsz : (y.val ids vals).cells.size = m := by
                  have := congrArg List.length n2
                  rw [sgCells_length n1, hm.1] at this
                  simpa using this.symm
                have hone : ∀ u ∈ (y.val ids vals).cells.toList, u.oneCell' = true := by
                  rw [← n2]; exact sgWf_one h.onev n1
                have hst := run_store_own (P := X.P) (w := w) (t := t) (off := off) e1 hsz eT (by rw [sgCells_length w1]; exact g4) hone
                have hp := h.ev e2
                rw [← n2, ← g1] at hst
                refine ⟨ids, _, _, does_skip (o := ⟨none, .store t p x, type, pos, after, guard⟩) (by intro c hc; cases hc) (w' := w.setRow (ids n) (sgCells ids vals c').toArray) ?_, ?_⟩
                · simp only [execOp, hp, ev, SV.val, Lf.val, Sem.run_bind, Sem.run_pure] at hst ⊢
                  rw [hst]; rfl
                · exact h.setBlock e4 g2 (fun T' hT' => setRow_heap w _ _ _ _ _ hT') (by simp) (fun k hk => setRow_other w _ k _ hk) rfl rfl rfl
            · simp at he
          · simp at he
        · simp at he
      · simp at he
  | box t x =>
    cases dst with
    | none => simp [exOp] at he
    | some d =>
      simp only [exOp] at he
      split at he
      · rename_i c e1
        split at he
        · rename_i hf
          simp at he; subst he
          cases hx : evO s x with
          | none => simp [hx] at e1
          | some y =>
            obtain ⟨ev, yw⟩ := evO_eq h hx
            simp only [hx, Option.bind_some] at e1
            obtain ⟨n1, n2⟩ := sgOfSV_eq (ids := ids) h.onev e1 yw
            refine ex_new h (o := ⟨some d, .box t x, type, pos, after, guard⟩) rfl (hN d rfl) n1 hf t (by intro c hc; cases hc) (by intro c hc; cases hc) ?_
            simp [execOp, Instr.box, newVar, newRow, newObj, ev, n2, Sem.run_bind, Sem.run_pure, Sem.run]
        · simp at he
      · simp at he
  | alloc t =>
    cases dst with
    | none => simp [exOp] at he
    | some d =>
      simp only [exOp] at he
      split at he
      · rename_i c e1
        split at he
        · rename_i hf
          simp at he; subst he
          obtain ⟨i, z, hi, hz, hc, hw, _⟩ := zeroSg_eq e1
          refine ex_new h (o := ⟨some d, .alloc t, type, pos, after, guard⟩) rfl (hN d rfl) hw hf t (by intro c hc; cases hc) (by intro c hc; cases hc) ?_
          simp [execOp, Instr.alloc, newVar, newRow, newObj, zeroValue, typeInfo, program, hi, hz, hc, Sem.run_bind, Sem.run_pure, Sem.run]
        · simp at he
      · simp at he
  | _ =>
    obtain ⟨p1, p2⟩ := exOp_plain (o := ⟨dst, _, type, pos, after, guard⟩) he
    obtain ⟨d, x, h1, h2, h3, h4⟩ := exOp_quiet (o := ⟨dst, _, type, pos, after, guard⟩) h he rfl
    subst h2
    exact does_put h h1 (hN d h1) h3 p1 p2 h4
end Go.Proofs.Ythniebmammmacaa
namespace Go.Proofs.Ythniebmammmacaa
open Go.RowKit
def Lf.closed : Lf → Bool
  | .v _ | .ep .. => true
  | _ => false
def sgClosed : List Sg → Bool
  | [] => true
  | .one l :: r => l.closed && sgClosed r
  | .arr .. :: r => sgClosed r
def tupClosed : List (Option Lf × List Sg) → Bool
  | [] => true
  | (some l, _) :: r => l.closed && tupClosed r
  | (none, s) :: r => sgClosed s && tupClosed r
def SV.closed : SV → Bool
  | .lf l => l.closed
  | .agg s => sgClosed s
  | .tup l => tupClosed l
theorem Lf.closed_val {ids ids' vals vals'} {l : Lf} (h : l.closed = true) : l.val ids vals = l.val ids' vals' := by
  cases l <;> simp [Lf.closed] at h <;> rfl
theorem sgClosed_cells {ids ids' vals vals'} : ∀ {c : List Sg}, sgClosed c = true → sgCells ids vals c = sgCells ids' vals' c
  | [], _ => rfl
  | .one l :: r, h => by
    simp only [sgClosed, Bool.and_eq_true] at h
    simp only [sgCells, Sg.cells, Lf.closed_val (ids' := ids') (vals' := vals') h.1, sgClosed_cells (ids' := ids') (vals' := vals') h.2]
  | .arr .. :: r, h => by simp only [sgCells, Sg.cells, sgClosed_cells (ids' := ids') (vals' := vals') (show sgClosed r = true from h)]
theorem tupClosed_val {ids ids' vals vals'} : ∀ {l : List (Option Lf × List Sg)}, tupClosed l = true → l.map (tupVal ids vals) = l.map (tupVal ids' vals')
  | [], _ => rfl
  | (some l, _) :: r, h => by
    simp only [tupClosed, Bool.and_eq_true] at h
    simp only [List.map_cons, tupVal, Lf.closed_val (ids' := ids') (vals' := vals') h.1, tupClosed_val (ids' := ids') (vals' := vals') h.2]
  | (none, s) :: r, h => by
    simp only [tupClosed, Bool.and_eq_true] at h
    simp only [List.map_cons, tupVal, sgClosed_cells (ids' := ids') (vals' := vals') h.1, tupClosed_val (ids' := ids') (vals' := vals') h.2]
theorem SV.closed_val {ids ids' vals vals'} {x : SV} (h : x.closed = true) : x.val ids vals = x.val ids' vals' := by
  cases x with
  | lf l => exact Lf.closed_val h
  | agg s => simp only [SV.val, sgClosed_cells (ids' := ids') (vals' := vals') (show sgClosed s = true from h)]
  | tup l => simp only [SV.val, tupClosed_val (ids' := ids') (vals' := vals') (show tupClosed l = true from h)]
def rval (x : SV) : Value := x.val (fun _ => 0) (fun _ => .slice none 0 0)
def lift (X : Cx) (Q : Exit → St → Prop) : Exit → Act → World → Prop := fun e a w => ∃ s ids vals, Q e s ∧ Rel X ids vals s a w
def T (X : Cx) (c : Code) (s : St) (Q : Exit → St → Prop) : Prop := ∀ ids vals a w, Rel X ids vals s a w → c.wpIn (Fx X.rd) 0 X.P (lift X Q) a w
def TL (X : Cx) (ops : Array Oper) (l : List Oper) (s : St) (Q : Exit → St → Prop) : Prop := ∀ ids vals a w, Rel X ids vals s a w → wpListIn (Fx X.rd) 0 X.P ops (lift X Q) l a w
def TI (X : Cx) (ops : Array Oper) (i : Nat) (s : St) (Q : Exit → St → Prop) : Prop := TL X ops (ops.toList.drop i) s Q
def thenQ (K : St → Prop) (Q : Exit → St → Prop) : Exit → St → Prop
  | .normal, s => K s
  | e, s => Q e s
def bodyOf (f : Func) : Code := f.body.getD .skip
def sub : List Nat → Code → Code
  | [], c => c
  | 0 :: r, .seq a _ => sub r a
  | 1 :: r, .seq _ b => sub r b
  | 0 :: r, .cond _ a _ => sub r a
  | 1 :: r, .cond _ _ b => sub r b
  | 0 :: r, .block _ b => sub r b
  | 0 :: r, .loop b => sub r b
  | 0 :: r, .scope b => sub r b
  | 0 :: r, .rangeFunc _ _ a _ => sub r a
  | 1 :: r, .rangeFunc _ _ _ b => sub r b
  | _, _ => .skip
def regOf : Code → Option (Bool × Nat)
  | .region id _ d => some (d, id)
  | _ => none
def opsOf : Code → Array Oper
  | .region _ ops _ => ops
  | _ => #[]
theorem T_seq {X c c1 c2 s Q} (h : c = .seq c1 c2) (h1 : T X c1 s (thenQ (fun s' => T X c2 s' Q) Q)) : T X c s Q := by
  subst h
  intro ids vals a w hr
  refine wpIn_seq (wpIn_mono (h1 ids vals a w hr) ?_)
  rintro e a' w' ⟨s', ids', vals', hq, hr'⟩
  cases e with
  | normal => exact hq ids' vals' a' w' hr'
  | _ => exact ⟨s', ids', vals', hq, hr'⟩
theorem T_skip {X c s Q} (h : c = .skip) (h1 : Q .normal s) : T X c s Q := by
  subst h
  exact fun ids vals a w hr => wpIn_skip ⟨s, ids, vals, h1, hr⟩
theorem T_exit {X c s Q id} (h : c = .exit id) (h1 : Q (.exit id) s) : T X c s Q := by
  subst h
  exact fun ids vals a w hr => wpIn_exit ⟨s, ids, vals, h1, hr⟩
theorem T_ret {X c s Q} (h : c = .ret) (h1 : Q .ret s) : T X c s Q := by
  subst h
  exact fun ids vals a w hr => wpIn_ret ⟨s, ids, vals, h1, hr⟩
theorem T_label {X c s Q l} (h : c = .label l) (h1 : Q .normal s) : T X c s Q := by
  subst h
  exact fun ids vals a w hr => wpIn_label ⟨s, ids, vals, h1, hr⟩
def blockQ (id : Nat) (Q : Exit → St → Prop) : Exit → St → Prop
  | .exit id', s => if id' = id then Q .normal s else Q (.exit id') s
  | e, s => Q e s
theorem T_block {X c c1 s Q id} (h : c = .block id c1) (h1 : T X c1 s (blockQ id Q)) : T X c s Q := by
  subst h
  intro ids vals a w hr
  refine wpIn_block (wpIn_mono (h1 ids vals a w hr) ?_)
  rintro e a' w' ⟨s', ids', vals', hq, hr'⟩
  cases e with
  | exit id' =>
    simp only [blockQ] at hq
    simp only [Exit.inBlock]
    split
    · rename_i e; rw [if_pos e] at hq; exact ⟨s', ids', vals', hq, hr'⟩
    · rename_i e; rw [if_neg e] at hq; exact ⟨s', ids', vals', hq, hr'⟩
  | _ => exact ⟨s', ids', vals', hq, hr'⟩
theorem T_cond {X c s Q x c1 c2} {b : Bool} (h : c = .cond x c1 c2) (hx : evO s x = some (.lf (.v (.bool b)))) (h1 : b = true → T X c1 s Q) (h2 : b = false → T X c2 s Q) : T X c s Q := by
  subst h
  intro ids vals a w hr
  refine wpIn_cond_split (t := b) (hr.ev hx) (fun hb => h1 hb ids vals a w hr) (fun hb => h2 hb ids vals a w hr)
theorem T_mono {X c s Q Q'} (h : T X c s Q) (hq : ∀ e s, Q e s → Q' e s) : T X c s Q' := fun ids vals a w hr =>
  wpIn_mono (h ids vals a w hr) (fun _ _ _ ⟨s', i, v, q, r⟩ => ⟨s', i, v, hq _ _ q, r⟩)
theorem TI_mono_nil {X ops i s Q} (h : ops.toList.length ≤ i) (h1 : Q .normal s) : TI X ops i s Q := by
  intro ids vals a w hr
  rw [List.drop_eq_nil_of_le h]
  exact ⟨s, ids, vals, h1, hr⟩
theorem TI_end {X ops i s Q} (h : ops.size = i) (h1 : Q .normal s) : TI X ops i s Q := TI_mono_nil (by simp; omega) h1
theorem T_region {X c s Q id} (h : regOf c = some (false, id)) (h1 : TI X (opsOf c) 0 s Q) : T X c s Q := by
  intro ids vals a w hr
  cases c with
  | region id' ops d =>
    simp [regOf] at h
    obtain ⟨rfl, rfl⟩ := h
    exact wpIn_region_list (by simpa [TI, TL, opsOf] using h1 ids vals a w hr)
  | _ => simp [regOf] at h
def wantedS (ops : Array Oper) (s : St) (o : Oper) : Option Bool :=
  match o.guard with
  | none => some true
  | some (j, want) => match ((ops[j]?).bind (·.dst)).bind (look s.σ) with
    | some (.lf (.v (.bool b))) => some (b == want)
    | some (.tup []) => some false
    | _ => none
theorem wantedS_eq {X ids vals s a w} (h : Rel X ids vals s a w) {ops : Array Oper} {o : Oper} {b : Bool} (hw : wantedS ops s o = some b) : Region.wanted o (yielded ops a.tmps) = b := by
  unfold wantedS at hw
  unfold Region.wanted
  split at hw
  · rename_i e; rw [e]; simpa using hw
  · rename_i j want e
    rw [e]
    simp only
    cases hd : (ops[j]?).bind (·.dst) with
    | none => simp [hd] at hw
    | some d =>
      simp only [hd, Option.bind_some] at hw
      split at hw
      · rename_i b' hl
        have ht := (h.tmp d _ hl).1
        simp only [yielded, hd, Option.bind_some, ht, SV.val, Lf.val]
        simp at hw; subst hw
        cases b' <;> cases want <;> rfl
      · rename_i hl
        have ht := (h.tmp d _ hl).1
        simp only [yielded, hd, Option.bind_some, ht, SV.val]
        simpa using hw
      · simp at hw
def exStep (P : Program) (N : Nat) (ops : Array Oper) (s : St) (o : Oper) : Option St :=
  match (match o.dst with | some d => Nat.blt d N | none => true), wantedS ops s o with
  | true, some true => exOp P s o.op o.dst o.type
  | true, some false => match o.dst with
    | some d => some (s.put d (.tup []))
    | none => some s
  | _, _ => none
theorem TL_step {X ops o l s s' Q} (h : exStep X.P X.N ops s o = some s') (h1 : TL X ops l s' Q) : TL X ops (o :: l) s Q := by
  intro ids vals a w hr
  unfold exStep at h
  have hN : (match o.dst with | some d => Nat.blt d X.N | none => true) = true → ∀ d, o.dst = some d → d < X.N := by
    intro hb d hd
    rw [hd] at hb
    exact Eq.mp Nat.blt_eq hb
  split at h
  · rename_i e1 e2
    obtain ⟨ids', a', w', hd, hr'⟩ := exOp_does hr h (hN e1)
    have hw := wantedS_eq hr e2
    simp only [wpListIn]
    rw [if_pos hw]
    exact hd _ _ (h1 _ _ _ _ hr')
  · rename_i e1 e2
    have hw := wantedS_eq hr e2
    simp only [wpListIn]
    rw [if_neg (by rw [hw]; simp)]
    refine ⟨fun _ _ => trivial, ?_⟩
    split at h
    · rename_i d hd
      simp at h; subst h
      rw [hd]
      exact h1 _ _ _ _ (hr.put (hN e1 d hd) (x := .tup []) (by intro y hy; cases hy))
    · rename_i hd
      simp at h; subst h
      rw [hd]
      exact h1 _ _ _ _ hr
  · simp at h
def exs (P : Program) (N : Nat) (ops : Array Oper) : St → List Oper → Option St
  | s, [] => some s
  | s, o :: r => match exStep P N ops s o with
    | some s' => exs P N ops s' r
    | none => none
theorem TL_exs {X ops l2 Q} : ∀ {l1 s s'}, exs X.P X.N ops s l1 = some s' → TL X ops l2 s' Q → TL X ops (l1 ++ l2) s Q
  | [], s, s', h, h1 => by simp [exs] at h; subst h; exact h1
  | o :: r, s, s', h, h1 => by
    simp only [exs] at h
    split at h
    · rename_i s1 e
      exact TL_step e (TL_exs h h1)
    · simp at h
theorem TI_seg {X ops s Q} {s' : St} {i j : Nat} (h : exs X.P X.N ops s ((ops.toList.drop i).take (j - i)) = some s') (hij : i ≤ j) (h1 : TI X ops j s' Q) : TI X ops i s Q := by
  have e : ops.toList.drop i = (ops.toList.drop i).take (j - i) ++ ops.toList.drop j := by
    have h := List.take_append_drop (j - i) (ops.toList.drop i)
    rw [List.drop_drop, show i + (j - i) = j from by omega] at h
    exact h.symm
  unfold TI
  rw [e]
  exact TL_exs h h1
def keepσ (l : List (Nat × SV)) : List Nat → Option (List (Nat × SV))
  | [] => some []
  | t :: r => match look l t, keepσ l r with
    | some x, some y => some ((t, x) :: y)
    | _, _ => none
def keepH (l : List (Nat × List Sg)) : List Nat → Option (List (Nat × List Sg))
  | [] => some []
  | t :: r => match look l t, keepH l r with
    | some x, some y => some ((t, x) :: y)
    | _, _ => none
def keepV (l : List (Nat × Vc)) : List Nat → Option (List (Nat × Vc))
  | [] => some []
  | t :: r => match look l t, keepV l r with
    | some x, some y => some ((t, x) :: y)
    | _, _ => none
theorem keepσ_look {l : List (Nat × SV)} : ∀ {ts k t x}, keepσ l ts = some k → look k t = some x → look l t = some x
  | [], k, t, x, h, hx => by simp [keepσ] at h; subst h; simp [look] at hx
  | u :: r, k, t, x, h, hx => by
    simp only [keepσ] at h
    split at h
    · rename_i y z e1 e2
      simp at h; subst h
      rw [look_cons] at hx
      split at hx
      · rename_i e; subst e; simp at hx; subst hx; exact e1
      · exact keepσ_look e2 hx
    · simp at h
theorem keepH_look {l : List (Nat × List Sg)} : ∀ {ts k t x}, keepH l ts = some k → look k t = some x → look l t = some x
  | [], k, t, x, h, hx => by simp [keepH] at h; subst h; simp [look] at hx
  | u :: r, k, t, x, h, hx => by
    simp only [keepH] at h
    split at h
    · rename_i y z e1 e2
      simp at h; subst h
      rw [look_cons] at hx
      split at hx
      · rename_i e; subst e; simp at hx; subst hx; exact e1
      · exact keepH_look e2 hx
    · simp at h
theorem keepV_look {l : List (Nat × Vc)} : ∀ {ts k t x}, keepV l ts = some k → look k t = some x → look l t = some x
  | [], k, t, x, h, hx => by simp [keepV] at h; subst h; simp [look] at hx
  | u :: r, k, t, x, h, hx => by
    simp only [keepV] at h
    split at h
    · rename_i y z e1 e2
      simp at h; subst h
      rw [look_cons] at hx
      split at hx
      · rename_i e; subst e; simp at hx; subst hx; exact e1
      · exact keepV_look e2 hx
    · simp at h
def St.keep (s : St) (ts hs vs : List Nat) : Option St :=
  match keepσ s.σ ts, keepH s.H hs, keepV s.V vs with
  | some a, some b, some c => some { σ := a, H := b, V := c, M := s.M, ds := s.ds, os := s.os, ats := s.ats }
  | _, _, _ => none
def Sub (s' s : St) : Prop := ∀ X ids vals a w, Rel X ids vals s a w → ∃ ids' vals', Rel X ids' vals' s' a w
theorem keep_sub {s s' : St} {ts hs vs : List Nat} (h : s.keep ts hs vs = some s') : Sub s' s := by
  intro X ids vals a w hr
  unfold St.keep at h
  split at h
  · rename_i p q r e1 e2 e3
    simp at h; subst h
    exact ⟨ids, vals, hr.forget (Mem.le_refl _) hr.grow.1 rfl (fun _ _ hx => keepσ_look e1 hx) (fun _ _ hx => keepH_look e2 hx) (fun _ _ hx => keepV_look e3 hx)⟩
  · simp at h
theorem T_sub {X c s s' Q} (h : Sub s' s) (h1 : T X c s' Q) : T X c s Q := fun ids vals a w hr => let ⟨i, v, hr'⟩ := h X ids vals a w hr; h1 i v a w hr'
theorem TI_sub {X ops i s s' Q} (h : Sub s' s) (h1 : TI X ops i s' Q) : TI X ops i s Q := fun ids vals a w hr => let ⟨i, v, hr'⟩ := h X ids vals a w hr; h1 i v a w hr'
theorem wpIn_loop_fuel {F : Fence} {n : Nat} {P : Program} {c : Code} {Q : Exit → Act → World → Prop} {a : Act} {w : World} (I : Nat → Act → World → Prop) {k : Nat} (h0 : I k a w)
    (round : ∀ k a w, I k a w → c.wpIn F n P (Exit.then (fun a' w' => ∃ k', k' < k ∧ I k' a' w') Q) a w) : (Code.loop c).wpIn F n P Q a w := by
  classical
  have least : ∀ a w, (∃ k, I k a w) → ∃ m, I m a w ∧ ∀ j, I j a w → m ≤ j := by
    intro a w ⟨k, hk⟩
    induction k using Nat.strongRecOn with
    | _ k ih =>
      by_cases hj : ∃ j, j < k ∧ I j a w
      · obtain ⟨j, hlt, hj⟩ := hj; exact ih j hlt hj
      · exact ⟨k, hk, fun j hj' => Nat.le_of_not_lt fun hlt => hj ⟨j, hlt, hj'⟩⟩
  refine wpIn_loop (fun a w => ∃ k, I k a w) (fun a w => if h : ∃ k, I k a w then Classical.choose (least a w h) else 0) ⟨k, h0⟩ ?_
  intro a w h
  have hc := Classical.choose_spec (least a w h)
  refine wpIn_mono (round _ a w hc.1) ?_
  intro e a' w' hq
  cases e with
  | normal =>
    obtain ⟨k', hlt, hk'⟩ := hq
    refine ⟨⟨k', hk'⟩, ?_⟩
    have hc' := Classical.choose_spec (least a' w' ⟨k', hk'⟩)
    rw [dif_pos h, dif_pos ⟨k', hk'⟩]
    exact Nat.lt_of_le_of_lt (hc'.2 k' hk') hlt
  | _ => exact hq
theorem T_loop {X c c1 s Q} (h : c = .loop c1) (I : Nat → St → Prop) {k : Nat} (h0 : I k s)
    (round : ∀ k s, I k s → T X c1 s (thenQ (fun s' => ∃ k', k' < k ∧ I k' s') Q)) : T X c s Q := by
  subst h
  intro ids vals a w hr
  refine wpIn_loop_fuel (fun k a w => ∃ s ids vals, I k s ∧ Rel X ids vals s a w) (k := k) ⟨s, ids, vals, h0, hr⟩ ?_
  rintro k a w ⟨s, ids, vals, hi, hr⟩
  refine wpIn_mono (round k s hi ids vals a w hr) ?_
  rintro e a' w' ⟨s', ids', vals', hq, hr'⟩
  cases e with
  | normal =>
    obtain ⟨k', hlt, hk'⟩ := hq
    exact ⟨k', hlt, s', ids', vals', hk', hr'⟩
  | _ => exact ⟨s', ids', vals', hq, hr'⟩
def fnPost (w : World) (M : Mem) (R : SV → Mem → Prop) : Ending → World → Prop := fun e w' => ∃ x M', e = .returned (rval x) ∧ x.closed = true ∧ x.wf ∧ Below w.heap.size w w' ∧ Mem.le M M' ∧ Mem.le M' (memOf w') ∧
    (∀ b, M b = none → M' b ≠ none → w.heap.size ≤ b) ∧ R x M'
def Fn (P : Program) (f : Nat) (args : List Value) (M : Mem) (R : SV → Mem → Prop) : Prop :=
  ∀ w, Mem.le M (memOf w) → CallsIn Fence.wide 0 P f args.toArray w (fnPost w M R)
theorem Fn.mono {P f args M R R'} (h : Fn P f args M R) (hr : ∀ x M', Mem.le M M' → R x M' → R' x M') : Fn P f args M R' := fun w hw =>
  ⟨(h w hw).1, fun cs hroom => let ⟨e, w', fr, ⟨x, M', h1, h2, h3, h4, h5, h6, h7, h8⟩, rest⟩ := (h w hw).2 cs hroom; ⟨e, w', fr, ⟨x, M', h1, h2, h3, h4, h5, h6, h7, hr x M' h5 h8⟩, rest⟩⟩
def resOne (P : Program) (s : St) : ResultVar → Option SV
  | .tmp t => look s.σ t
  | .cell a t => match P.underlying t, szOf P t, look s.σ a with
    | some de, some m, some (.lf (.own n off)) => match look s.H n with
      | some c => if m = 0 then none else match sgGet off m c with
        | some y => if de.isRow then some (.agg y) else match y with
          | [.one l] => some (.lf l)
          | _ => none
        | none => none
      | none => none
    | _, _, _ => none
def tupOf : SV → Option (Option Lf × List Sg)
  | .lf l => some (some l, [])
  | .agg c => some (none, c)
  | .tup _ => none
def resS (P : Program) (s : St) : List ResultVar → Option SV
  | [] => some (.tup [])
  | [r] => resOne P s r
  | [r1, r2] => match (resOne P s r1).bind tupOf, (resOne P s r2).bind tupOf with
    | some x, some y => some (.tup [x, y])
    | _, _ => none
  | [r1, r2, r3] => match (resOne P s r1).bind tupOf, (resOne P s r2).bind tupOf, (resOne P s r3).bind tupOf with
    | some x, some y, some z => some (.tup [x, y, z])
    | _, _, _ => none
  | _ => none
def fnQ (P : Program) (rs : List ResultVar) (R : SV → Mem → Prop) : Exit → St → Prop
  | .normal, s | .ret, s => ∃ x, resS P s rs = some x ∧ x.closed = true ∧ R x s.M
  | _, _ => False
def resV (tmps : Array Value) : ResultVar → Sem Value
  | .tmp t => pure (tmps.getD t undef)
  | .cell ad t => do loadVar t (← asAddr (tmps.getD ad undef))
theorem results_eq (fn : Func) (tmps : Array Value) : results fn tmps = (do let vs ← fn.results.mapM (resV tmps); pure (if h : vs.size = 1 then vs[0] else .tuple vs)) := rfl
theorem resOne_run {X ids vals s a w} (h : Rel X ids vals s a w) {r : ResultVar} {x : SV} (hx : resOne X.P s r = some x) : x.wf ∧ (resV a.tmps r).run X.P w = .ok (x.val ids vals) w := by
  cases r with
  | tmp t =>
    obtain ⟨e, wf⟩ := h.tmp t x hx
    exact ⟨wf, by simp [resV, Array.getD_eq_getD_getElem?, e, Sem.run_pure]⟩
  | cell ad t =>
    simp only [resOne] at hx
    split at hx
    · rename_i de m n off e1 e2 e3
      split at hx
      · rename_i c e4
        split at hx
        · simp at hx
        · rename_i hm
          split at hx
          · rename_i y e5
            obtain ⟨r1, r2, r3⟩ := own_cells h e4 (by omega) e5
            have ht := (h.tmp ad _ e3).1
            have hp : a.tmps.getD ad undef = .pointer (some ⟨ids n, off, none⟩) := by simp [Array.getD_eq_getD_getElem?, ht, SV.val, Lf.val]
            have hload : ∀ v, (Instr.loadAt t (.pointer (some ⟨ids n, off, none⟩))).run X.P w = .ok v w → (resV a.tmps (.cell ad t)).run X.P w = .ok v w := by
              intro v hv
              unfold resV
              simp only
              rw [hp]
              simpa [Instr.loadAt, Instr.sureAddr, asAddr, Sem.run_bind, Sem.run_pure] using hv
            split at hx
            · rename_i hrow
              simp at hx; subst hx
              exact ⟨r2, hload _ (run_load_own e1 e2 r3 r1 hrow)⟩
            · rename_i hrow
              split at hx
              · rename_i l
                simp at hx; subst hx
                exact ⟨trivial, hload _ (run_load_one e1 (by simpa using hrow) (r1 0 (l.val ids vals) rfl))⟩
              · simp at hx
          · simp at hx
      · simp at hx
    · simp at hx
theorem tupOf_val {ids vals} {x : SV} {y : Option Lf × List Sg} (h : tupOf x = some y) : tupVal ids vals y = x.val ids vals := by
  cases x <;> simp [tupOf] at h <;> subst h <;> rfl
theorem tupOf_wf {x : SV} {y : Option Lf × List Sg} (h : tupOf x = some y) (hw : x.wf) : tupWf y := by
  cases x <;> simp [tupOf] at h <;> subst h
  · trivial
  · exact hw
theorem resS_run {X ids vals s a w} (h : Rel X ids vals s a w) {fn : Func} {x : SV} (hx : resS X.P s fn.results.toList = some x) : x.wf ∧ (results fn a.tmps).run X.P w = .ok (x.val ids vals) w := by
  obtain ⟨l, hl⟩ : ∃ l, fn.results = List.toArray l := ⟨fn.results.toList, by simp⟩
  rw [hl] at hx
  simp only [List.toList_toArray] at hx
  unfold resS at hx
  split at hx
  · simp at hx; subst hx
    refine ⟨(by intro y hy; cases hy), ?_⟩
    simp [results_eq, hl, Sem.run_pure, SV.val]
  · rename_i r
    obtain ⟨w1, w2⟩ := resOne_run h hx
    refine ⟨w1, ?_⟩
    simp [results_eq, hl, Sem.run_bind, Sem.run_pure, w2]
  · rename_i r1 r2
    split at hx
    · rename_i y1 y2 e1 e2
      simp at hx; subst hx
      cases h1 : resOne X.P s r1 with
      | none => simp [h1] at e1
      | some x1 =>
        cases h2 : resOne X.P s r2 with
        | none => simp [h2] at e2
        | some x2 =>
          simp only [h1, Option.bind_some] at e1
          simp only [h2, Option.bind_some] at e2
          obtain ⟨w1, q1⟩ := resOne_run h h1
          obtain ⟨w2, q2⟩ := resOne_run h h2
          refine ⟨by
            intro y hy
            simp at hy
            rcases hy with rfl | rfl
            · exact tupOf_wf e1 w1
            · exact tupOf_wf e2 w2, ?_⟩
          show _ = Result.ok (Value.tuple ([y1, y2].map (tupVal ids vals)).toArray) w
          simp only [List.map_cons, List.map_nil, tupOf_val e1, tupOf_val e2]
          generalize x1.val ids vals = z1 at *
          generalize x2.val ids vals = z2 at *
          simp [results_eq, hl, Sem.run_bind, Sem.run_pure, q1, q2]
    · simp at hx
  · rename_i r1 r2 r3
    split at hx
    · rename_i y1 y2 y3 e1 e2 e3
      simp at hx; subst hx
      cases h1 : resOne X.P s r1 with
      | none => simp [h1] at e1
      | some x1 =>
        cases h2 : resOne X.P s r2 with
        | none => simp [h2] at e2
        | some x2 =>
          cases h3 : resOne X.P s r3 with
          | none => simp [h3] at e3
          | some x3 =>
            simp only [h1, Option.bind_some] at e1
            simp only [h2, Option.bind_some] at e2
            simp only [h3, Option.bind_some] at e3
            obtain ⟨w1, q1⟩ := resOne_run h h1
            obtain ⟨w2, q2⟩ := resOne_run h h2
            obtain ⟨w3, q3⟩ := resOne_run h h3
            refine ⟨by
              intro y hy
              simp at hy
              rcases hy with rfl | rfl | rfl
              · exact tupOf_wf e1 w1
              · exact tupOf_wf e2 w2
              · exact tupOf_wf e3 w3, ?_⟩
            show _ = Result.ok (Value.tuple ([y1, y2, y3].map (tupVal ids vals)).toArray) w
            simp only [List.map_cons, List.map_nil, tupOf_val e1, tupOf_val e2, tupOf_val e3]
            generalize x1.val ids vals = z1 at *
            generalize x2.val ids vals = z2 at *
            generalize x3.val ids vals = z3 at *
            simp [results_eq, hl, Sem.run_bind, Sem.run_pure, q1, q2, q3]
    · simp at hx
  · simp at hx
end Go.Proofs.Ythniebmammmacaa
namespace Go.Proofs.Ythniebmammmacaa
open Go.RowKit
theorem Rel.other {X : Cx} {ids vals s a w w'} (h : Rel X ids vals s a w) {row : Option Nat} (hg : w.grownBy w' row) (hr : ∀ r, row = some r → X.B ≤ r ∧ r ∉ s.ds ∧ ∃ o : Obj, w.heap[r]? = some o ∧ o.isCells = false) (hro : ∀ r, row = some r → ∀ p ∈ s.os, p.1 ≠ r := by intro r e p hp; cases hp) : Rel X ids vals s a w' := by
  have keep : ∀ (b : Nat) (o : Obj), w.heap[b]? = some o → o.isCells = true → w'.heap[b]? = some o := by
    intro b o hb ho
    rw [hg.block b (Array.getElem?_eq_some_iff.1 hb).1 (fun e => by
      obtain ⟨_, _, o', h1, h2⟩ := hr b e.symm
      rw [h1] at hb; injection hb with hb; subst hb; rw [h2] at ho; cases ho)]
    exact hb
  exact {
    size := h.size
    defers := h.defers
    marks := fun D hD => ⟨(h.marks D hD).1, by
      have hd := (h.marks D hD).2
      rw [hg.block D (Array.getElem?_eq_some_iff.1 hd).1 (fun e => (hr D e.symm).2.1 hD)]; exact hd⟩
    att := h.att
    others := fun p hp => by
      obtain ⟨t0, t1, t2⟩ := h.others p hp
      refine ⟨t0, ?_, t2⟩
      rw [hg.block p.1 (Array.getElem?_eq_some_iff.1 t1).1 (fun e => hro p.1 e.symm p hp rfl)]
      exact t1
    onev := h.onev
    tmp := h.tmp
    blk := fun n c hc => by
      obtain ⟨w1, w2, w3, T, e⟩ := h.blk n c hc
      exact ⟨w1, w2, w3, T, keep _ _ e rfl⟩
    inj := h.inj
    vec := fun n v hv => (h.vec n v hv).kept hg (by
      cases hb : (vals n).ownBlock with
      | none => exact .inl rfl
      | some g =>
        refine .inr (fun e => ?_)
        obtain ⟨_, _, o', h1, h2⟩ := hr g e.symm
        rcases (h.vec n v hv).2 with ⟨e1, _⟩ | ⟨g', cap, cur, e1, _, e2, _⟩
        · rw [e1] at hb; simp [Value.ownBlock] at hb
        · rw [e1] at hb; simp [Value.ownBlock] at hb; subst hb
          rw [e2] at h1; injection h1 with h1; subst h1; cases h2)
    apart := h.apart
    mem := fun b c hb => by
      obtain ⟨T, fr, e⟩ := memOf_some.1 (h.mem b c hb)
      exact memOf_some.2 ⟨T, fr, keep _ _ e rfl⟩
    grow := h.grow
    below := h.below.trans ⟨hg.os, hg.tape, hg.output, hg.size, fun k hk => hg.block k (Nat.lt_of_lt_of_le hk h.base) (fun e => by have := (hr k e.symm).1; omega)⟩
    base := Nat.le_trans h.base hg.size }
theorem leaves_marks {X : Cx} {fn : Func} {R : SV → Mem → Prop} {RW : Ending → World → Prop} (hro : X.rd = none) :
    ∀ {ds : List Nat} {ids vals s a w}, s.ds = ds → ds.Nodup → Rel X ids vals s a w → (∃ x, resS X.P s fn.results.toList = some x ∧ x.closed = true ∧ R x s.M) →
    (∀ x w', x.closed = true → x.wf → Below X.B X.w0 w' → Mem.le s.M (memOf w') → R x s.M → RW (.returned (rval x)) w') →
    LeavesInM (Fx X.rd) 0 X.P fn a.tmps RW (ds.map fun D => { target := .collected D, args := #[] }) .returning w
  | [], ids, vals, s, a, w, hs, _, hr, ⟨x, h1, h2, h3⟩, hRW => by
    obtain ⟨wf, hrun⟩ := resS_run hr h1
    refine ⟨x.val ids vals, hrun, ?_⟩
    rw [show x.val ids vals = rval x from SV.closed_val h2]
    exact hRW x w h2 wf hr.below hr.mem h3
  | D :: ds, ids, vals, s, a, w, hs, hnd, hr, hx, hRW => by
    obtain ⟨x, h1, h2, h3⟩ := hx
    have hD := hr.marks D (by rw [hs]; simp)
    refine ⟨by simp, .inl ⟨D, _, rfl, run_takeDeferred hD.2, ?_⟩⟩
    have hr0 : Rel X ids vals { s with ds := ds, os := [] } { a with defers := ds.map fun D => { target := .collected D, args := #[] } } w := {
      size := hr.size
      defers := rfl
      marks := fun E hE => hr.marks E (by rw [hs]; exact List.mem_cons_of_mem _ hE)
      others := fun p hp => by cases hp
      att := hr.att
      onev := hr.onev
      tmp := hr.tmp
      blk := hr.blk
      inj := hr.inj
      vec := hr.vec
      apart := hr.apart
      mem := hr.mem
      grow := hr.grow
      below := hr.below
      base := hr.base }
    have hr1 := hr0.other (grownBy_putObj' w D (.deferred none)) (fun r e => by
      cases e
      exact ⟨hD.1, (List.nodup_cons.1 hnd).1, _, hD.2, rfl⟩)
    have hres : resS X.P { s with ds := ds, os := [] } fn.results.toList = some x := by
      rw [← h1]
      have h1' : ∀ r, resOne X.P { s with ds := ds, os := [] } r = resOne X.P s r := fun r => by cases r <;> rfl
      unfold resS
      split <;> simp only [h1']
    exact leaves_marks (a := { a with defers := ds.map fun D => { target := .collected D, args := #[] } }) hro (ds := ds) rfl (List.nodup_cons.1 hnd).2 hr1 ⟨x, hres, h2, h3⟩ hRW
def params : Nat → List SV → List (Nat × SV)
  | _, [] => []
  | i, x :: r => (i, x) :: params (i + 1) r
theorem params_look : ∀ {i t : Nat} {l : List SV} {x : SV}, look (params i l) t = some x → i ≤ t ∧ l[t - i]? = some x
  | i, t, [], x, h => by simp [params, look] at h
  | i, t, y :: r, x, h => by
    simp only [params] at h
    rw [look_cons] at h
    split at h
    · rename_i e; subst e; simp at h; subst h; exact ⟨Nat.le_refl _, by simp⟩
    · rename_i e
      obtain ⟨h1, h2⟩ := params_look h
      refine ⟨by omega, ?_⟩
      rw [show t - i = (t - (i + 1)) + 1 from by omega]
      simpa using h2
def fnCx (P : Program) (fn : Func) (w : World) (M : Mem) : Cx := { P := P, rd := none, B := w.heap.size, N := fn.ntmps, w0 := w, M0 := M }
theorem Fn_of {P : Program} {f : Nat} {fn : Func} {c : Code} (args : List SV) {M : Mem} {R : SV → Mem → Prop} (hf : P.funcs[f]? = some fn) (hb : fn.body = some c)
    (hn : args.length ≤ fn.ntmps) (hc : ∀ x ∈ args, x.closed = true ∧ x.wf)
    (h : ∀ w, T (fnCx P fn w M) c { σ := params 0 args, H := [], V := [], M := M, ds := [] } (fun e s => fnQ P fn.results.toList R e s ∧ s.ds.Nodup)) : Fn P f (args.map rval) M R := by
  intro w hM
  refine callsIn_of_wp_marks hf hb trivial ?_ rfl
  have hr : Rel (fnCx P fn w M) (fun _ => 0) (fun _ => .slice none 0 0) { σ := params 0 args, H := [], V := [], M := M, ds := [] }
      { tmps := (args.map rval).toArray ++ Array.replicate (fn.ntmps - (args.map rval).toArray.size) undef, defers := [] } w := {
    size := by simp [fnCx]; omega
    defers := rfl
    marks := fun D hD => by cases hD
    others := fun p hp => by cases hp
    att := fun p hp => by cases hp
    onev := fun _ => rfl
    tmp := fun t x hx => by
      obtain ⟨_, h2⟩ := params_look hx
      simp only [Nat.sub_zero] at h2
      have hlt : t < args.length := (List.getElem?_eq_some_iff.1 h2).1
      refine ⟨?_, (hc x (List.mem_of_getElem? h2)).2⟩
      rw [Array.getElem?_append_left (by simpa using hlt)]
      simp [h2, rval]
    blk := fun n c hc => by simp [look] at hc
    inj := fun n m c d hc => by simp [look] at hc
    vec := fun n v hv => by simp [look] at hv
    apart := fun n v g hv => by simp [look] at hv
    mem := hM
    grow := ⟨Mem.le_refl _, fun b h1 h2 => absurd h1 h2⟩
    below := Below.refl _ _
    base := Nat.le_refl _ }
  refine wpIn_mono (h w _ _ _ _ hr) ?_
  rintro e a' w' ⟨s', ids', vals', ⟨hq, hnd⟩, hr'⟩
  have fin : (∃ x, resS P s' fn.results.toList = some x ∧ x.closed = true ∧ R x s'.M) → LeavesInM Fence.wide 0 P fn a'.tmps (fnPost w M R) a'.defers .returning w' := by
    intro hx
    rw [hr'.defers]
    refine leaves_marks (X := fnCx P fn w M) rfl rfl hnd hr' hx ?_
    intro x w2 x1 x2 x3 x4 x5
    exact ⟨x, s'.M, rfl, x1, x2, x3, hr'.grow.1, x4, hr'.grow.2, x5⟩
  cases e with
  | normal => exact fin hq
  | ret => exact fin hq
  | _ => exact hq.elim
def callAt (ops : Array Oper) (i : Nat) : Option (Option Nat × Operand × List Operand) :=
  match ops[i]? with
  | some o => match o.op with
    | .call { callee := .value f, args, .. } => some (o.dst, f, args.toList)
    | _ => none
  | none => none
def wantedAt (ops : Array Oper) (s : St) (i : Nat) : Option Bool := (ops[i]?).bind (wantedS ops s)
def argsS (s : St) : List Operand → Option (List SV)
  | [] => some []
  | x :: r => match evO s x, argsS s r with
    | some y, some l => if y.closed then some (y :: l) else none
    | _, _ => none
theorem argsS_eq {X ids vals s a w} (h : Rel X ids vals s a w) : ∀ {l : List Operand} {vs : List SV}, argsS s l = some vs → l.map a.eval = vs.map rval
  | [], vs, hx => by simp [argsS] at hx; subst hx; rfl
  | x :: r, vs, hx => by
    simp only [argsS] at hx
    split at hx
    · rename_i y l e1 e2
      split at hx
      · rename_i hc
        simp at hx; subst hx
        simp only [List.map_cons, argsS_eq h e2, h.ev e1]
        rw [show y.val ids vals = rval y from SV.closed_val hc]
      · simp at hx
    · simp at hx
def entersOk (P : Program) (f : Nat) : Bool := match P.funcs[f]? with
  | some fn => !(fn.name == "runtime.NumGoroutine") && fn.body.isSome
  | none => false
theorem enters_run {P : Program} {f : Nat} (h : entersOk P f = true) (args : Array Value) (w : World) : (callFunc f args).run P w = .ok (.enter f args) w := by
  unfold entersOk at h
  split at h
  · rename_i fn e
    simp only [Bool.and_eq_true, Bool.not_eq_true'] at h
    unfold callFunc
    simp only [Sem.run_bind, program, Sem.run, Result.andThen_ok, e, h.1]
    have hb : fn.body.isNone = false := by cases hh : fn.body <;> simp_all
    simp [hb, Sem.run_pure]
  · simp at h
theorem Rel.called {X ids vals s a w} (h : Rel X ids vals s a w) {w' : World} {M' : Mem} (hb : Below w.heap.size w w') (h1 : Mem.le s.M M') (h2 : Mem.le M' (memOf w')) (h3 : ∀ b, s.M b = none → M' b ≠ none → w.heap.size ≤ b) :
    Rel X ids vals { s with M := M' } a w' := by
  have h' := h.later hb
  exact {
    size := h'.size
    defers := h'.defers
    marks := h'.marks
    others := h'.others
    att := h'.att
    onev := h'.onev
    tmp := h'.tmp
    blk := fun n c hc => by
      obtain ⟨u1, u2, u3, u4⟩ := h'.blk n c hc
      refine ⟨u1, u2, ?_, u4⟩
      cases hm : M' (ids n) with
      | none => exact hm
      | some cc => exact absurd (h3 _ u3 (by rw [hm]; simp)) (Nat.not_le_of_lt (h.lt_blk hc))
    inj := h'.inj
    vec := h'.vec
    apart := fun n v g hv hg => by
      obtain ⟨a1, a2, a3⟩ := h'.apart n v g hv hg
      refine ⟨?_, a2, a3⟩
      cases hm : M' g with
      | none => exact hm
      | some cc => exact absurd (h3 _ a1 (by rw [hm]; simp)) (Nat.not_le_of_lt ((h.vec n v hv).lt g hg).2)
    mem := h2
    grow := ⟨Mem.le_trans h'.grow.1 h1, fun b hb0 hne => by
      cases hs : s.M b with
      | none => exact Nat.le_trans h.base (h3 b hs hne)
      | some cc => exact h.grow.2 b hb0 (by rw [hs]; simp)⟩
    below := h'.below
    base := h'.base }
theorem drop_cons {ops : Array Oper} {i : Nat} {o : Oper} (h : ops[i]? = some o) : ops.toList.drop i = o :: ops.toList.drop (i + 1) := by
  have hl : i < ops.toList.length := by have := (Array.getElem?_eq_some_iff.1 h).1; simpa using this
  rw [List.drop_eq_getElem_cons hl]
  congr 1
  have := (Array.getElem?_eq_some_iff.1 h).2
  simpa using this
def TE (X : Cx) (ops : Array Oper) (i : Nat) (l : List Oper) (s : St) (Q : Exit → St → Prop) : Prop := ∀ o, ops[i]? = some o → TL X ops (o :: l) s Q
theorem TI_of {X ops i s Q} (hi : Nat.blt i ops.size = true) (h : TE X ops i (ops.toList.drop (i + 1)) s Q) : TI X ops i s Q := by
  have hl : i < ops.size := Eq.mp Nat.blt_eq hi
  have ho : ops[i]? = some ops[i] := Array.getElem?_eq_getElem hl
  unfold TI
  rw [drop_cons ho]
  exact h _ ho
theorem TE_op {X ops i s Q} {l : List Oper} {o : Oper} (ho : ops[i]? = some o) (hw : wantedAt ops s i = some true)
    (h : ∀ ids vals a w, Rel X ids vals s a w → o.wpIn (Fx X.rd) 0 X.P a w (wpListIn (Fx X.rd) 0 X.P ops (lift X Q) l) (lift X Q)) : TE X ops i l s Q := by
  intro o' ho' ids vals a w hr
  rw [ho] at ho'
  injection ho' with ho'
  subst ho'
  simp only [wantedAt, ho, Option.bind_some] at hw
  simp only [wpListIn]
  rw [if_pos (wantedS_eq hr hw)]
  exact h ids vals a w hr
theorem TE_call {X ops i s Q} {lr : List Oper} {d f : Nat} {fo : Operand} {xs : List Operand} {first cap : List Value} {vs : List SV} {args : List Value} {R : SV → Mem → Prop} (hat : callAt ops i = some (some d, fo, xs)) (hw : wantedAt ops s i = some true) (hd : Nat.blt d X.N = true)
    (hf : evO s fo = some (.lf (.v (.func (.func f) first.toArray cap.toArray)))) (hx : argsS s xs = some vs) (he : entersOk X.P f = true) (ha : first ++ vs.map rval ++ cap = args) (hF : Fn X.P f args s.M R)
    (next : ∀ x M', Mem.le X.M0 s.M → Mem.le s.M M' → x.wf → R x M' → TL X ops lr { s with σ := (d, x) :: s.σ, M := M' } Q) : TE X ops i lr s Q := by
  unfold callAt at hat
  split at hat
  · rename_i o ho
    refine TE_op ho hw fun ids vals a w hr => ?_
    obtain ⟨dst, op, type, pos, after, guard⟩ := o
    simp only at hat
    split at hat
    · rename_i g ars tys
      simp at hat
      obtain ⟨rfl, rfl, hxs⟩ := hat
      unfold Oper.wpIn
      refine ⟨fun _ _ => trivial, ?_⟩
      rw [Oper.semAt_plain (Fx X.rd) _ _ (by intro c hc; cases hc)]
      have hev := hr.ev hf
      have hargs := argsS_eq hr hx
      have hargs2 : ars.map a.eval = (vs.map rval).toArray := by
        apply Array.ext'; rw [← hargs, ← hxs]; simp
      have hrun : (execOp a.eval ⟨some d, .call { callee := .value g, args := ars, argTypes := tys }, type, pos, after, guard⟩).run X.P w = .ok (.enter f args.toArray) w := by
        simp only [execOp, resolve, Sem.run_bind, hev, SV.val, Lf.val, Deferred.ofValue, Sem.run_pure, Result.andThen_ok, invoke, hargs2]
        rw [enters_run he]
        congr 2
        rw [← ha]
        simp
      rw [hrun]
      refine ⟨by intro hh; simp [Fx, Fence.wide] at hh, ?_⟩
      have hc := hF w hr.mem
      have hc' : CallsIn (Fx X.rd) (0 - 1) X.P f args.toArray w (fnPost w s.M R) := by
        cases hrd : X.rd with
        | none => exact hc
        | some l => exact CallsIn.inRound l hc
      refine ⟨hc'.1, fun cs hroom => ?_⟩
      obtain ⟨e, w', fr, ⟨x, M', h1, h2, h3, h4, h5, h6, h7, h8⟩, rest⟩ := hc'.2 cs hroom
      refine ⟨e, w', fr, ?_, rest⟩
      subst h1
      have hr1 := (hr.called h4 h5 h6 h7).put (Eq.mp Nat.blt_eq hd) h3
      have := next x M' hr.grow.1 h5 h3 h8 ids vals _ w' hr1
      rw [show rval x = x.val ids vals from (SV.closed_val h2).symm]
      exact this
    · simp at hat
  · simp at hat
end Go.Proofs.Ythniebmammmacaa
namespace Go.Proofs.Ythniebmammmacaa
open Go.RowKit
def bound (o : Oper) : List Nat := (o.after.toList.filter (Region.binds .any)).map (·.on)
def gdst (ops : Array Oper) (o : Oper) : List Nat := match o.guard with
  | some (j, _) => ((ops[j]?).bind (·.dst)).toList
  | none => []
def tmpsOf (ops : Array Oper) (o : Oper) : List Nat := (o.op.operands.toList.filterMap fun | .tmp t => some t | _ => none) ++ gdst ops o
def plainOp : Op → Bool
  | .select .. | .defer .. => false
  | _ => true
def idxOf (e : Nat) : List Nat → Nat → Option Nat
  | [], _ => none
  | x :: r, k => match Nat.beq x e with | true => some k | false => idxOf e r (k + 1)
def inB (x : Nat) : List Nat → Bool
  | [] => false
  | y :: r => match Nat.beq y x with | true => true | false => inB x r
theorem inB_iff {x : Nat} : ∀ {l : List Nat}, inB x l = true ↔ x ∈ l
  | [] => by simp [inB]
  | y :: r => by
    simp only [inB, List.mem_cons]
    cases hb : Nat.beq y x with
    | true => simp [Nat.eq_of_beq_eq_true hb]
    | false =>
      have := beq_ne.1 hb
      simp [inB_iff (l := r), this, Ne.symm this]
def drawOk (N : Nat) (ops : Array Oper) (eff lo : List Nat) : Bool :=
  (List.range ops.size).all fun i => match ops[i]? with
    | none => false
    | some o =>
      plainOp o.op && (bound o).all (fun j => Nat.blt j i) &&
      (tmpsOf ops o).all (fun t => (List.range ops.size).all fun j => match (ops[j]?).bind (·.dst) with
        | some d => !(Nat.beq d t) || inB j eff || inB j (bound o)
        | none => true) &&
      (inB i eff || (match o.dst with
        | some d => Nat.blt d N && (List.range ops.size).all (fun j => Nat.beq i j || (match (ops[j]?).bind (·.dst) with | some d' => !(Nat.beq d d') | none => true))
        | none => false)) &&
      (inB i eff || (match lo.getD i 0 with
        | 0 => true
        | k + 1 => (bound o).any fun j => match idxOf j eff 0 with
          | some q => Nat.ble (k + 1) (q + 1)
          | none => Nat.ble (k + 1) (lo.getD j 0)))
def chainOk (ops : Array Oper) : List Nat → Bool
  | [] => true
  | [e] => Nat.blt e ops.size
  | e :: e' :: r => Nat.blt e ops.size && (match ops[e']? with | some o => inB e (bound o) | none => false) && chainOk ops (e' :: r)
def QF (X : Cx) (ops : Array Oper) (s : St) (o : Oper) : Prop := ∀ ids vals a w, Rel X ids vals s a w → ∃ d x, o.dst = some d ∧ look s.σ d = some x ∧
  ((Region.wanted o (yielded ops a.tmps) = true ∧ o.wpIn (Fx X.rd) 0 X.P a w (fun a' w' => a' = a.put o.dst (x.val ids vals) ∧ Below w.heap.size w w') (fun _ _ _ => False)) ∨
   (Region.wanted o (yielded ops a.tmps) = false ∧ x.val ids vals = undef))
def boundAt (ops : Array Oper) (i : Nat) : List Nat := match ops[i]? with | some o => bound o | none => []
def clo (ops : Array Oper) : Nat → List Nat → List Nat
  | 0, S => S
  | i + 1, S => clo ops i (match inB i S with | true => (boundAt ops i).filter (fun j => !(inB j S)) ++ S | false => S)
theorem clo_all {ops : Array Oper} {φ : Nat → Prop} (hφ : ∀ i, φ i → ∀ j ∈ boundAt ops i, φ j) : ∀ {n : Nat} {S : List Nat}, (∀ x ∈ S, φ x) → ∀ x ∈ clo ops n S, φ x
  | 0, S, h, x, hx => h x hx
  | n + 1, S, h, x, hx => by
    simp only [clo] at hx
    refine clo_all hφ (n := n) ?_ x hx
    split
    · rename_i hi
      intro y hy
      rcases List.mem_append.1 hy with hy | hy
      · exact hφ n (h n (inB_iff.1 hi)) y (List.mem_filter.1 hy).1
      · exact h y hy
    · exact h
def due (ops : Array Oper) (eff lo : List Nat) (p i : Nat) : Bool :=
  !(inB i eff) && Nat.ble (lo.getD i 0) p && !((eff.take p).any fun e => inB i (clo ops e (boundAt ops e)))
def newAt (ops : Array Oper) (eff lo : List Nat) (p : Nat) : List Nat :=
  (List.range ops.size).filterMap fun i => if !(inB i eff) && Nat.beq (lo.getD i 0) p then (ops[i]?).bind (·.dst) else none
def Stage (X : Cx) (ops : Array Oper) (eff lo : List Nat) (Q : Exit → St → Prop) : List Nat → Nat → St → Prop
  | [], p, s => (∀ i o, ops[i]? = some o → due ops eff lo p i = true → QF X ops s o) ∧ Q .normal s
  | e :: es, p, s => (∀ i o, ops[i]? = some o → due ops eff lo p i = true → QF X ops s o) ∧
      (∀ o, ops[e]? = some o → TL X ops [o] s fun ex s' => ex = .normal ∧ ∃ new : List (Nat × SV), new.map (·.1) = newAt ops eff lo (p + 1) ∧ (∀ x ∈ new, x.2.wf) ∧ Stage X ops eff lo Q es (p + 1) { s' with σ := new ++ s'.σ })
theorem Rel.puts {X ids vals w} : ∀ {new : List (Nat × SV)} {s a}, Rel X ids vals s a w → (∀ x ∈ new, x.1 < X.N ∧ x.2.wf) →
    ∃ a', Rel X ids vals { s with σ := new ++ s.σ } a' w ∧ a'.defers = a.defers ∧ ∀ t, t ∉ new.map (·.1) → a'.tmps[t]? = a.tmps[t]?
  | [], s, a, h, _ => ⟨a, h, rfl, fun _ _ => rfl⟩
  | (d, x) :: r, s, a, h, hn => by
    obtain ⟨a', h1, h2, h3⟩ := Rel.puts (new := r) h (fun y hy => hn y (List.mem_cons_of_mem _ hy))
    obtain ⟨n1, n2⟩ := hn (d, x) (by simp)
    refine ⟨_, h1.put n1 n2, h2, fun t ht => ?_⟩
    simp only [List.map_cons, List.mem_cons, not_or] at ht
    simp only [Act.put, Array.getElem?_setIfInBounds]
    rw [if_neg (Ne.symm ht.1)]
    exact h3 t ht.2
def Act.and' (a : Act) (ds : List Deferred) (dst : Option Tmp) (v : Value) : Act := ({ a with defers := ds ++ a.defers } : Act).put dst v
theorem wpIn_shadow {F : Fence} {n : Nat} {P : Program} {o : Oper} {a b : Act} {w : World} {N' : Act → World → Prop} {Q : Exit → Act → World → Prop} (hd : ∀ c, o.op ≠ .defer c) (he : execOp a.eval o = execOp b.eval o) (hab : ∀ w, o.about P w a.eval = o.about P w b.eval)
    {Qb : Exit → Act → World → Prop} (hq : ∀ e a w, e ≠ .normal → ¬ Qb e a w) (h : o.wpIn F n P b w N' Qb) : o.wpIn F n P a w (fun a' w' => ∃ ds v, N' (Act.and' b ds o.dst v) w' ∧ a' = Act.and' a ds o.dst v) Q := by
  unfold Oper.wpIn at h ⊢
  rw [Oper.semAt_plain F _ _ hd] at h ⊢
  rw [he, hab]
  refine ⟨h.1, ?_⟩
  replace h := h.2
  generalize (execOp b.eval o).run P w = r at *
  cases r with
  | ok x w' =>
    cases x <;> simp only [Oper.uponIn] at h ⊢
    case value v => exact ⟨[], v, h, rfl⟩
    case skip => exact ⟨[], undef, h, rfl⟩
    case defer d => exact ⟨[d], undef, h, rfl⟩
    case enter f args =>
      refine ⟨h.1, h.2.mono fun e w'' he => ?_⟩
      cases e with
      | returned v => exact ⟨[], v, he, rfl⟩
      | panicked c => exact absurd he (hq _ _ _ (by simp))
      | outgrown => obtain ⟨_, _, hf⟩ := he; exact absurd hf (hq _ _ _ (by simp))
    case row r args => exact ⟨h.1, h.2.mono fun v w'' he => ⟨[], v, he, rfl⟩⟩
    case round l f tmps ars body =>
      refine ⟨h.1, h.2.mono fun e w'' he => ?_⟩
      cases e with
      | returned v => exact ⟨[], v, he, rfl⟩
      | panicked c => exact absurd he (hq _ _ _ (by simp))
      | outgrown => obtain ⟨_, _, hf⟩ := he; exact absurd hf (hq _ _ _ (by simp))
  | halt x w' =>
    cases x <;> simp only [Oper.uponIn] at h ⊢
    exact absurd h (hq _ _ _ (by simp))
def unl (m : Nat) (listed : Array Bool) : List Nat := (List.range m).filter fun i => !(listed.getD i true)
theorem unl_set {m : Nat} {listed : Array Bool} {i : Nat} (hi : i < m) (hs : listed.size = m) (hl : listed.getD i true = false) : (unl m (listed.setIfInBounds i true)).length < (unl m listed).length := by
  have hsub : ∀ x, x ∈ unl m (listed.setIfInBounds i true) → x ∈ unl m listed ∧ x ≠ i := by
    intro x hx
    simp only [unl, List.mem_filter, List.mem_range, Array.getD_eq_getD_getElem?, Array.getElem?_setIfInBounds] at hx ⊢
    by_cases e : i = x
    · subst e; simp [hs, hi] at hx
    · rw [if_neg e] at hx; exact ⟨hx, Ne.symm e⟩
  have hmem : i ∈ unl m listed := by simp only [unl, List.mem_filter, List.mem_range]; exact ⟨hi, by simpa using hl⟩
  have h2 : (unl m (listed.setIfInBounds i true)) = (unl m listed).filter (fun x => x != i) := by
    simp only [unl, List.filter_filter]
    apply List.filter_congr
    intro x hx
    simp only [Array.getD_eq_getD_getElem?, Array.getElem?_setIfInBounds]
    by_cases e : i = x
    · subst e; simp [hs, hi]
    · rw [if_neg e]; simp [bne_iff_ne, Ne.symm e]
  rw [h2]
  have h3 := List.length_filter_lt_length_iff_exists (p := fun x => x != i) (l := unl m listed)
  exact h3.2 ⟨i, hmem, by simp⟩
structure Inv (X : Cx) (ops : Array Oper) (eff lo : List Nat) (Q : Exit → St → Prop) (listed : Array Bool) (a : Act) (w : World) (p : Nat) (es : List Nat) (s : St) (b : Act) (ids : Nat → Nat) (vals : Nat → Value) : Prop where
  size : listed.size = ops.size
  split : eff = eff.take p ++ es
  plen : p ≤ eff.length
  rel : Rel X ids vals s b w
  stage : Stage X ops eff lo Q es p s
  dfr : a.defers = b.defers
  sz : a.tmps.size = b.tmps.size
  agree : ∀ t, (∀ i, listed.getD i true = false → inB i eff = false → (ops[i]?).bind (·.dst) ≠ some t) → a.tmps[t]? = b.tmps[t]?
  done : ∀ i, i < ops.size → listed.getD i true = true → ∀ o, ops[i]? = some o → ∀ j ∈ bound o, listed.getD j false = true
  eff1 : ∀ e ∈ eff.take p, listed.getD e false = true
  eff2 : ∀ e ∈ es, listed.getD e true = false
  low : ∀ i, i < ops.size → inB i eff = false → listed.getD i false = true → lo.getD i 0 ≤ p
section
variable {X : Cx} {ops : Array Oper} {eff lo : List Nat} {Q : Exit → St → Prop}
theorem drawOk_at (h : drawOk X.N ops eff lo = true) {i : Nat} {o : Oper} (ho : ops[i]? = some o) :
    plainOp o.op = true ∧ (∀ j ∈ bound o, j < i) ∧ (∀ t ∈ tmpsOf ops o, ∀ j d, (ops[j]?).bind (·.dst) = some d → d = t → inB j eff = false → j ∈ bound o) ∧
    (inB i eff = false → ∃ d, o.dst = some d ∧ d < X.N ∧ ∀ j, j ≠ i → (ops[j]?).bind (·.dst) ≠ some d) ∧
    (inB i eff = false → lo.getD i 0 = 0 ∨ ∃ j ∈ bound o, (∃ q, idxOf j eff 0 = some q ∧ lo.getD i 0 ≤ q + 1) ∨ (idxOf j eff 0 = none ∧ lo.getD i 0 ≤ lo.getD j 0)) := by
  have hi : i < ops.size := (Array.getElem?_eq_some_iff.1 ho).1
  unfold drawOk at h
  rw [List.all_eq_true] at h
  have h := h i (List.mem_range.2 hi)
  rw [ho] at h
  simp only [Bool.and_eq_true] at h
  obtain ⟨⟨⟨⟨h1, h2⟩, h3⟩, h4⟩, h5⟩ := h
  refine ⟨h1, fun j hj => ?_, fun t ht j d hd e hne => ?_, fun hne => ?_, fun hne => ?_⟩
  · rw [List.all_eq_true] at h2
    exact Eq.mp Nat.blt_eq (h2 j hj)
  · rw [List.all_eq_true] at h3
    have h3 := h3 t ht
    rw [List.all_eq_true] at h3
    have hj : j < ops.size := by
      cases hh : ops[j]? with
      | none => rw [hh] at hd; simp at hd
      | some _ => exact (Array.getElem?_eq_some_iff.1 hh).1
    have h3 := h3 j (List.mem_range.2 hj)
    rw [hd] at h3
    subst e
    simp only [Nat.beq_refl, hne, Bool.not_true, Bool.false_or] at h3
    exact inB_iff.1 h3
  · rw [hne] at h4
    simp only [Bool.false_or] at h4
    cases hd : o.dst with
    | none => rw [hd] at h4; simp at h4
    | some d =>
      rw [hd] at h4
      simp only [Bool.and_eq_true] at h4
      refine ⟨d, rfl, Eq.mp Nat.blt_eq h4.1, fun j hji hj => ?_⟩
      have h4 := h4.2
      rw [List.all_eq_true] at h4
      have hjs : j < ops.size := by
        cases hh : ops[j]? with
        | none => rw [hh] at hj; simp at hj
        | some _ => exact (Array.getElem?_eq_some_iff.1 hh).1
      have h4 := h4 j (List.mem_range.2 hjs)
      rw [hj] at h4
      simp only [Nat.beq_refl, Bool.not_true, Bool.or_false] at h4
      exact hji (Nat.eq_of_beq_eq_true h4).symm
  · rw [hne] at h5
    simp only [Bool.false_or] at h5
    split at h5
    · rename_i e; exact .inl e
    · rename_i k e
      rw [List.any_eq_true] at h5
      obtain ⟨j, hj, h5⟩ := h5
      refine .inr ⟨j, hj, ?_⟩
      rw [e]
      split at h5
      · rename_i q eq; exact .inl ⟨q, eq, Nat.le_of_ble_eq_true h5⟩
      · rename_i eq; exact .inr ⟨eq, Nat.le_of_ble_eq_true h5⟩
theorem idxOf_some {e : Nat} : ∀ {l : List Nat} {k q : Nat}, idxOf e l k = some q → k ≤ q ∧ l[q - k]? = some e
  | [], k, q, h => by simp [idxOf] at h
  | x :: r, k, q, h => by
    simp only [idxOf] at h
    cases hb : Nat.beq x e with
    | true => rw [hb] at h; simp at h; subst h; exact ⟨Nat.le_refl _, by simp [Nat.eq_of_beq_eq_true hb]⟩
    | false =>
      rw [hb] at h
      obtain ⟨h1, h2⟩ := idxOf_some h
      refine ⟨by omega, ?_⟩
      rw [show q - k = (q - (k + 1)) + 1 from by omega]
      simpa using h2
theorem idxOf_none {e : Nat} : ∀ {l : List Nat} {k : Nat}, idxOf e l k = none → inB e l = false
  | [], _, _ => rfl
  | x :: r, k, h => by
    simp only [idxOf] at h
    simp only [inB]
    cases hb : Nat.beq x e with
    | true => rw [hb] at h; simp at h
    | false => rw [hb] at h; exact idxOf_none h
theorem chain_lt : ∀ {l : List Nat}, chainOk ops l = true → ∀ e ∈ l, e < ops.size
  | [], _, e, h => by cases h
  | [x], hc, e, h => by simp at h; subst h; exact Eq.mp Nat.blt_eq hc
  | x :: y :: r, hc, e, h => by
    simp only [chainOk, Bool.and_eq_true] at hc
    rw [List.mem_cons] at h
    rcases h with rfl | h
    · exact Eq.mp Nat.blt_eq hc.1.1
    · exact chain_lt hc.2 e h
theorem chain_append : ∀ {a b : List Nat}, chainOk ops (a ++ b) = true → chainOk ops b = true
  | [], b, h => h
  | [x], [], h => rfl
  | [x], y :: r, h => by
    simp only [List.cons_append, List.nil_append, chainOk, Bool.and_eq_true] at h
    exact h.2
  | x :: y :: r, b, h => by
    simp only [List.cons_append, chainOk, Bool.and_eq_true] at h
    exact chain_append (a := y :: r) h.2
theorem chain_pred : ∀ {l : List Nat} {e i : Nat}, chainOk ops (e :: l) = true → i ∈ l → ∃ j ∈ e :: l, ∃ o, ops[i]? = some o ∧ j ∈ bound o
  | [], e, i, _, h => by cases h
  | x :: r, e, i, hc, h => by
    simp only [chainOk, Bool.and_eq_true] at hc
    rw [List.mem_cons] at h
    rcases h with rfl | h
    · cases ho : ops[i]? with
      | none => rw [ho] at hc; simp at hc
      | some o => rw [ho] at hc; exact ⟨e, by simp, o, rfl, inB_iff.1 hc.1.2⟩
    · obtain ⟨j, hj, o, h1, h2⟩ := chain_pred hc.2 h
      exact ⟨j, List.mem_cons_of_mem _ hj, o, h1, h2⟩
theorem Inv.all {listed a w p es s b ids vals} (hok : drawOk X.N ops eff lo = true) (h : Inv X ops eff lo Q listed a w p es s b ids vals) (hr : Region.ready .any ops listed = []) : ∀ i, i < ops.size → listed.getD i true = true := by
  intro i
  induction i using Nat.strongRecOn with
  | _ i ih =>
    intro hi
    cases hl : listed.getD i true with
    | true => rfl
    | false =>
      have hmem : i ∈ Region.ready .any ops listed := by
        refine mem_ready.2 ⟨hl, ops[i], by simp [hi], fun e he hb => ?_⟩
        have hj : e.on ∈ bound ops[i] := List.mem_map.2 ⟨e, List.mem_filter.2 ⟨by simpa using he, hb⟩, rfl⟩
        have hlt := (drawOk_at hok (show ops[i]? = some ops[i] by simp [hi])).2.1 _ hj
        have := ih e.on hlt (by omega)
        have hs := h.size
        simp only [Array.getD_eq_getD_getElem?] at this ⊢
        rw [Array.getElem?_eq_getElem (by omega)] at this ⊢
        simpa using this
      rw [hr] at hmem; cases hmem
theorem Inv.end_ {listed a w p es s b ids vals} (hch : chainOk ops eff = true) (h : Inv X ops eff lo Q listed a w p es s b ids vals) (hall : ∀ i, i < ops.size → listed.getD i true = true) : lift X Q .normal a w := by
  have he : es = [] := by
    cases hes : es with
    | nil => rfl
    | cons e r =>
      have h1 := h.eff2 e (by rw [hes]; simp)
      have h2 : e ∈ eff := by rw [h.split, hes]; simp
      rw [hall e (chain_lt hch e h2)] at h1; cases h1
  have hst := h.stage
  rw [he] at hst
  have hab : a = b := by
    obtain ⟨ta, da⟩ := a
    obtain ⟨tb, db⟩ := b
    have h1 : ta = tb := by
      apply Array.ext_getElem?
      intro t
      refine h.agree t (fun i hi _ => ?_)
      cases ho : ops[i]? with
      | none => simp
      | some o => rw [hall i (Array.getElem?_eq_some_iff.1 ho).1] at hi; cases hi
    have h2 := h.dfr
    simp only at h1 h2
    rw [h1, h2]
  rw [hab]
  exact ⟨s, ids, vals, hst.2, h.rel⟩
end
end Go.Proofs.Ythniebmammmacaa
namespace Go.Proofs.Ythniebmammmacaa
open Go.RowKit
theorem newAt_mem {ops : Array Oper} {eff lo : List Nat} {p t : Nat} (h : t ∈ newAt ops eff lo p) : ∃ i, inB i eff = false ∧ lo.getD i 0 = p ∧ (ops[i]?).bind (·.dst) = some t := by
  unfold newAt at h
  rw [List.mem_filterMap] at h
  obtain ⟨i, _, h⟩ := h
  split at h
  · rename_i hc
    simp only [Bool.and_eq_true, Bool.not_eq_true'] at hc
    exact ⟨i, hc.1, Nat.eq_of_beq_eq_true hc.2, h⟩
  · cases h
theorem getD_set {l : Array Bool} {i j : Nat} {b : Bool} : (l.setIfInBounds i true).getD j b = if i = j ∧ i < l.size then true else l.getD j b := by
  simp only [Array.getD_eq_getD_getElem?, Array.getElem?_setIfInBounds]
  by_cases e : i = j
  · subst e
    by_cases hs : i < l.size
    · simp [hs]
    · simp [hs]
  · simp [e]
theorem getD_default {l : Array Bool} {j : Nat} (h : j < l.size) (b c : Bool) : l.getD j b = l.getD j c := by
  simp [Array.getD_eq_getD_getElem?, Array.getElem?_eq_getElem h]
section
variable {X : Cx} {ops : Array Oper} {eff lo : List Nat} {Q : Exit → St → Prop}
theorem act_and_defers (a : Act) (ds : List Deferred) (dst : Option Tmp) (v : Value) : (Act.and' a ds dst v).defers = ds ++ a.defers := by
  unfold Act.and'; cases dst <;> rfl
theorem act_and_size (a : Act) (ds : List Deferred) (dst : Option Tmp) (v : Value) : (Act.and' a ds dst v).tmps.size = a.tmps.size := by
  unfold Act.and'; cases dst <;> simp [Act.put]
theorem act_and_tmps (a : Act) (ds : List Deferred) (dst : Option Tmp) (v : Value) (t : Nat) : (Act.and' a ds dst v).tmps[t]? = if dst = some t then (if t < a.tmps.size then some v else none) else a.tmps[t]? := by
  unfold Act.and'
  cases dst with
  | none => simp [Act.put]
  | some d =>
    simp only [Act.put, Array.getElem?_setIfInBounds, Option.some.injEq]
    by_cases e : d = t
    · subst e; simp
    · simp [e]
theorem wpAny_draw (hok : drawOk X.N ops eff lo = true) (hch : chainOk ops eff = true) (hnd : eff.Nodup) : ∀ (fuel : Nat) (listed : Array Bool) (a : Act) (w : World) (p : Nat) (es : List Nat) (s : St) (b : Act) (ids : Nat → Nat) (vals : Nat → Value),
    Inv X ops eff lo Q listed a w p es s b ids vals → (unl ops.size listed).length ≤ fuel → wpAnyIn (Fx X.rd) 0 X.P .any ops (lift X Q) fuel listed a w := by
  intro fuel
  induction fuel with
  | zero =>
    intro listed a w p es s b ids vals h hf
    have hall : ∀ i, i < ops.size → listed.getD i true = true := by
      intro i hi
      cases hl : listed.getD i true with
      | true => rfl
      | false =>
        have : i ∈ unl ops.size listed := by simp only [unl, List.mem_filter, List.mem_range]; exact ⟨hi, by simpa using hl⟩
        rw [List.eq_nil_of_length_eq_zero (by omega : (unl ops.size listed).length = 0)] at this; cases this
    refine ⟨?_, h.end_ hch hall⟩
    cases hr : Region.ready .any ops listed with
    | nil => rfl
    | cons i r =>
      have hm : i ∈ Region.ready .any ops listed := by rw [hr]; simp
      obtain ⟨hl, o, ho, _⟩ := mem_ready.1 hm
      rw [hall i (Array.getElem?_eq_some_iff.1 ho).1] at hl; cases hl
  | succ fuel ih =>
    intro listed a w p es s b ids vals h hf
    refine ⟨fun hr => h.end_ hch (h.all hok hr), fun i hm => ?_⟩
    obtain ⟨hl, o, ho, hdeps⟩ := mem_ready.1 hm
    have hi : i < ops.size := (Array.getElem?_eq_some_iff.1 ho).1
    have hsz := h.size
    have hsz' : (listed.setIfInBounds i true).size = ops.size := by simp [hsz]
    have hfuel : (unl ops.size (listed.setIfInBounds i true)).length ≤ fuel := by
      have := unl_set hi hsz hl; omega
    obtain ⟨d1, d2, d3, d4, d5⟩ := drawOk_at hok ho
    have hb : ∀ j ∈ bound o, listed.getD j false = true := by
      intro j hj
      obtain ⟨e, he, rfl⟩ := List.mem_map.1 hj
      obtain ⟨he1, he2⟩ := List.mem_filter.1 he
      exact hdeps e (by simpa using he1) he2
    have hb' : ∀ j ∈ bound o, listed.getD j true = true := fun j hj => by
      have hj2 := d2 j hj
      rw [getD_default (by omega) true false]; exact hb j hj
    -- the operands stand alike
    have hagree : ∀ t ∈ tmpsOf ops o, a.tmps[t]? = b.tmps[t]? := by
      intro t ht
      refine h.agree t (fun j hj hq hd => ?_)
      have := hb' j (d3 t ht j t hd rfl hq)
      rw [this] at hj; cases hj
    have heval : ∀ x ∈ o.op.operands, a.eval x = b.eval x := by
      intro x hx
      cases x with
      | tmp t =>
        have := hagree t (List.mem_append_left _ (List.mem_filterMap.2 ⟨.tmp t, by simpa using hx, rfl⟩))
        simp only [Act.eval, Array.getD_eq_getD_getElem?, this]
      | _ => rfl
    have hsel : ∀ cs bl, o.op ≠ .select cs bl := fun cs bl hh => by rw [hh] at d1; simp [plainOp] at d1
    have hdef : ∀ c, o.op ≠ .defer c := fun c hh => by rw [hh] at d1; simp [plainOp] at d1
    have hexec : execOp a.eval o = execOp b.eval o := execOp_congr o hsel heval
    have habout : ∀ w, o.about X.P w a.eval = o.about X.P w b.eval := fun w => about_congr o w heval
    have hwant : Region.wanted o (yielded ops a.tmps) = Region.wanted o (yielded ops b.tmps) := by
      unfold Region.wanted
      cases hg : o.guard with
      | none => rfl
      | some g =>
        obtain ⟨j, want⟩ := g
        simp only
        congr 1
        unfold yielded
        cases hd : (ops[j]?).bind (·.dst) with
        | none => rfl
        | some t =>
          have := hagree t (List.mem_append_right _ (by simp [gdst, hg, hd]))
          simp only [Option.bind_some, this]
    have hdone : ∀ i', i' < ops.size → (listed.setIfInBounds i true).getD i' true = true → ∀ o', ops[i']? = some o' → ∀ j ∈ bound o', (listed.setIfInBounds i true).getD j false = true := by
      intro i' hi' hl' o' ho' j hj
      rw [getD_set] at hl' ⊢
      by_cases e : i = i'
      · subst e
        rw [ho] at ho'; injection ho' with ho'; subst ho'
        split
        · rfl
        · exact hb j hj
      · rw [if_neg (by simp [e])] at hl'
        split
        · rfl
        · exact h.done i' hi' hl' o' ho' j hj
    unfold wpOpIn
    rw [ho]
    simp only
    by_cases hq : inB i eff = false
    · -- an operation that does not write
      obtain ⟨d, hd, hdN, huniq⟩ := d4 hq
      have hstQ : ∀ i o, ops[i]? = some o → due ops eff lo p i = true → QF X ops s o := by
        have := h.stage
        cases es with
        | nil => exact this.1
        | cons e es' => exact this.1
      have hlow : lo.getD i 0 ≤ p := by
        rcases d5 hq with h0 | ⟨j, hj, ⟨q, h1, h2⟩ | ⟨h1, h2⟩⟩
        · omega
        · obtain ⟨_, hjq⟩ := idxOf_some h1
          simp only [Nat.sub_zero] at hjq
          have hqp : q < p := by
            refine Classical.byContradiction fun hge => ?_
            have hes : j ∈ es := by
              have h3 := h.split
              have hpl := h.plen
              rw [h3, List.getElem?_append_right (by simp; omega)] at hjq
              exact List.mem_of_getElem? hjq
            have h4 := h.eff2 j hes
            rw [hb' j hj] at h4; cases h4
          omega
        · have hjn := idxOf_none h1
          have hj2 := d2 j hj
          have := h.low j (by omega) hjn (hb j hj)
          omega
      have hdue : due ops eff lo p i = true := by
        unfold due
        simp only [Bool.and_eq_true, hq, Bool.not_false, true_and, Bool.not_eq_true']
        refine ⟨Eq.mpr Nat.ble_eq hlow, ?_⟩
        cases hany : (eff.take p).any fun e => inB i (clo ops e (boundAt ops e)) with
        | false => rfl
        | true =>
          rw [List.any_eq_true] at hany
          obtain ⟨e, he, h1⟩ := hany
          have hall : ∀ x ∈ clo ops e (boundAt ops e), x < ops.size ∧ listed.getD x false = true := by
            have step : ∀ x, (x < ops.size ∧ listed.getD x false = true) → ∀ y ∈ boundAt ops x, y < ops.size ∧ listed.getD y false = true := by
              rintro x ⟨hx1, hx2⟩ y hy
              unfold boundAt at hy
              cases hox : ops[x]? with
              | none => rw [hox] at hy; cases hy
              | some ox =>
                rw [hox] at hy
                have hlt := (drawOk_at hok hox).2.1 y hy
                exact ⟨by omega, h.done x hx1 (by rw [getD_default (by omega) true false]; exact hx2) ox hox y hy⟩
            have he1 : listed.getD e false = true := h.eff1 e he
            refine clo_all step (fun x hx => ?_)
            have hes : e < ops.size := by
              unfold boundAt at hx
              cases hoe : ops[e]? with
              | none => rw [hoe] at hx; cases hx
              | some _ => exact (Array.getElem?_eq_some_iff.1 hoe).1
            exact step e ⟨hes, he1⟩ x hx
          have h2 := (hall i (inB_iff.1 h1)).2
          rw [getD_default (by omega) false true, hl] at h2; cases h2
      obtain ⟨d', x, e1, e2, hcase⟩ := hstQ i o ho hdue ids vals b w h.rel
      rw [hd] at e1; injection e1 with e1; subst e1
      have hbd := (h.rel.tmp d x e2).1
      -- whichever way, the invariant stands behind it
      have hinv : ∀ w', Below w.heap.size w w' → Inv X ops eff lo Q (listed.setIfInBounds i true) (a.put o.dst (x.val ids vals)) w' p es s b ids vals := by
        intro w' hbel
        exact {
          size := hsz'
          split := h.split
          plen := h.plen
          rel := h.rel.later hbel
          stage := h.stage
          dfr := by rw [hd]; exact h.dfr
          sz := by rw [hd]; simp [Act.put, h.sz]
          agree := fun t ht => by
            rw [hd]
            simp only [Act.put, Array.getElem?_setIfInBounds]
            by_cases e : d = t
            · subst e
              have hlt : d < a.tmps.size := by rw [h.sz, h.rel.size]; exact hdN
              simp [hlt, hbd]
            · rw [if_neg e]
              refine h.agree t (fun j hj hq' hdj => ?_)
              by_cases eij : i = j
              · subst eij
                rw [ho] at hdj
                simp only [Option.bind_some, hd] at hdj
                injection hdj with hdj; exact e hdj
              · exact ht j (by rw [getD_set, if_neg (by simp [eij])]; exact hj) hq' hdj
          done := hdone
          eff1 := fun e he => by
            rw [getD_set]; split
            · rfl
            · exact h.eff1 e he
          eff2 := fun e he => by
            have hne : i ≠ e := by
              intro hh; subst hh
              have : i ∈ eff := by rw [h.split]; exact List.mem_append_right _ he
              rw [inB_iff.2 this] at hq; cases hq
            rw [getD_set, if_neg (by simp [hne])]; exact h.eff2 e he
          low := fun j hj hqj hlj => by
            rw [getD_set] at hlj
            by_cases eij : i = j
            · subst eij; exact hlow
            · rw [if_neg (by simp [eij])] at hlj; exact h.low j hj hqj hlj }
      rcases hcase with ⟨hw, hwp⟩ | ⟨hw, hu⟩
      · rw [if_pos (by rw [hwant]; exact hw)]
        refine Oper.wpIn_mono ?_ (wpIn_shadow hdef hexec habout (fun _ _ _ _ hf => hf) hwp)
        rintro a' w' ⟨ds, v, ⟨hbv, hbel⟩, rfl⟩
        have hds : ds = [] := by
          have := congrArg (fun z : Act => z.defers.length) hbv
          simp only [act_and_defers, List.length_append] at this
          rw [hd] at this
          simp only [Act.put] at this
          exact List.eq_nil_of_length_eq_zero (by omega)
        subst hds
        have hv : v = x.val ids vals := by
          have := congrArg (fun z : Act => z.tmps[d]?) hbv
          have hlt : d < b.tmps.size := by rw [h.rel.size]; exact hdN
          simp only [act_and_tmps, hd, if_true, hlt, Act.put, Array.getElem?_setIfInBounds] at this
          simpa using this
        subst hv
        exact ih _ _ _ _ _ _ _ _ _ (hinv w' hbel) hfuel
      · rw [if_neg (by rw [hwant, hw]; simp)]
        refine ⟨fun _ _ => trivial, ?_⟩
        rw [← hu]
        exact ih _ _ _ _ _ _ _ _ _ (hinv w (Below.refl _ _)) hfuel
    · -- the next one that writes
      have hq : inB i eff = true := by simpa using hq
      have hie : i ∈ es := by
        have := inB_iff.1 hq
        rw [h.split, List.mem_append] at this
        rcases this with h1 | h1
        · have h2 := h.eff1 i h1
          rw [getD_default (by omega) false true, hl] at h2; cases h2
        · exact h1
      cases es with
      | nil => cases hie
      | cons e es' =>
        have he : i = e := by
          rw [List.mem_cons] at hie
          rcases hie with rfl | hie
          · rfl
          · have hc2 : chainOk ops (e :: es') = true := chain_append (a := eff.take p) (by rw [← h.split]; exact hch)
            obtain ⟨j, hj, o', ho', hjb⟩ := chain_pred hc2 hie
            rw [ho] at ho'; injection ho' with ho'; subst ho'
            have h1 := hb' j hjb
            rw [h.eff2 j hj] at h1; cases h1
        subst he
        obtain ⟨_, hTL⟩ := h.stage
        have hTL := hTL o ho ids vals b w h.rel
        have hplt : p < eff.length := by
          have := congrArg List.length h.split
          simp at this; omega
        have htake : eff.take (p + 1) = eff.take p ++ [i] := by
          have h1 : eff[p]? = some i := by
            rw [h.split, List.getElem?_append_right (by simp; omega)]
            simp [Nat.min_eq_left h.plen]
          rw [List.take_add_one, h1]; rfl
        have hnotin : i ∉ es' ∧ i ∉ eff.take p := by
          have := hnd
          rw [h.split, List.nodup_append] at this
          obtain ⟨_, h2, h3⟩ := this
          exact ⟨(List.nodup_cons.1 h2).1, fun hh => h3 i hh i (by simp) rfl⟩
        have hgo : ∀ (ds : List Deferred) (v : Value) (w' : World), lift X (fun ex s' => ex = .normal ∧ ∃ new : List (Nat × SV), new.map (·.1) = newAt ops eff lo (p + 1) ∧ (∀ x ∈ new, x.2.wf) ∧ Stage X ops eff lo Q es' (p + 1) { s' with σ := new ++ s'.σ }) .normal (Act.and' b ds o.dst v) w' →
            wpAnyIn (Fx X.rd) 0 X.P .any ops (lift X Q) fuel (listed.setIfInBounds i true) (Act.and' a ds o.dst v) w' := by
          rintro ds v w' ⟨s', ids', vals', ⟨_, new, n1, n2, hst⟩, hr'⟩
          obtain ⟨b', r1, r2, r3⟩ := Rel.puts (new := new) hr' (fun x hx => by
            refine ⟨?_, n2 x hx⟩
            have : x.1 ∈ newAt ops eff lo (p + 1) := by rw [← n1]; exact List.mem_map.2 ⟨x, hx, rfl⟩
            obtain ⟨j, j1, j2, j3⟩ := newAt_mem this
            cases hoj : ops[j]? with
            | none => rw [hoj] at j3; simp at j3
            | some oj =>
              obtain ⟨dj, k1, k2, _⟩ := (drawOk_at hok hoj).2.2.2.1 j1
              rw [hoj] at j3
              simp only [Option.bind_some, k1] at j3
              injection j3 with j3; subst j3; exact k2)
          refine ih _ _ _ (p + 1) es' { s' with σ := new ++ s'.σ } b' ids' vals' ?_ hfuel
          exact {
            size := hsz'
            split := by rw [htake, List.append_assoc]; exact h.split
            plen := hplt
            rel := r1
            stage := hst
            dfr := by rw [r2, act_and_defers, act_and_defers, h.dfr]
            sz := by rw [act_and_size, h.sz, r1.size, h.rel.size]
            agree := fun t ht => by
              have hnew : t ∉ new.map (·.1) := by
                rw [n1]; intro hh
                obtain ⟨j, j1, j2, j3⟩ := newAt_mem hh
                have hjs : j < ops.size := by
                  cases hoj : ops[j]? with
                  | none => rw [hoj] at j3; simp at j3
                  | some _ => exact (Array.getElem?_eq_some_iff.1 hoj).1
                have hji : i ≠ j := fun hh => by subst hh; rw [hq] at j1; cases j1
                have hlj : listed.getD j true = false := by
                  cases hc : listed.getD j true with
                  | false => rfl
                  | true =>
                    have := h.low j hjs j1 (by rw [getD_default (by omega) false true]; exact hc)
                    omega
                exact ht j (by rw [getD_set, if_neg (by simp [hji])]; exact hlj) j1 j3
              rw [r3 t hnew, act_and_tmps, act_and_tmps, h.sz]
              split
              · rfl
              · refine h.agree t (fun j hj hq' hdj => ?_)
                have hji : i ≠ j := fun hh => by subst hh; rw [hq] at hq'; cases hq'
                exact ht j (by rw [getD_set, if_neg (by simp [hji])]; exact hj) hq' hdj
            done := hdone
            eff1 := fun e he => by
              rw [getD_set]
              rw [htake, List.mem_append] at he
              rcases he with he | he
              · split
                · rfl
                · exact h.eff1 e he
              · simp at he; subst he
                rw [if_pos ⟨rfl, by omega⟩]
            eff2 := fun e he => by
              have hne : i ≠ e := fun hh => by subst hh; exact hnotin.1 he
              rw [getD_set, if_neg (by simp [hne])]; exact h.eff2 e (List.mem_cons_of_mem _ he)
            low := fun j hj hqj hlj => by
              rw [getD_set] at hlj
              by_cases eij : i = j
              · subst eij; rw [hq] at hqj; cases hqj
              · rw [if_neg (by simp [eij])] at hlj
                have := h.low j hj hqj hlj; omega }
        have hone : wpListIn (Fx X.rd) 0 X.P ops (lift X (fun ex s' => ex = .normal ∧ ∃ new : List (Nat × SV), new.map (·.1) = newAt ops eff lo (p + 1) ∧ (∀ x ∈ new, x.2.wf) ∧ Stage X ops eff lo Q es' (p + 1) { s' with σ := new ++ s'.σ })) [o] b w := hTL
        simp only [wpListIn] at hone
        by_cases hw : Region.wanted o (yielded ops b.tmps) = true
        · rw [if_pos hw] at hone
          rw [if_pos (by rw [hwant]; exact hw)]
          refine Oper.wpIn_mono ?_ (wpIn_shadow hdef hexec habout (fun e' a' w' hne hf => ?_) hone)
          · rintro a' w' ⟨ds, v, hN, rfl⟩
            exact hgo ds v w' hN
          · obtain ⟨s', _, _, ⟨h1, _⟩, _⟩ := hf
            exact hne h1
        · rw [if_neg hw] at hone
          rw [if_neg (by rw [hwant]; exact hw)]
          refine ⟨fun _ _ => trivial, ?_⟩
          have := hgo [] undef w hone.2
          simpa [Act.and'] using this
theorem T_draw {c : Code} {s : St} {id : Nat} (eff lo : List Nat) (h : regOf c = some (true, id)) (hmix : X.P.follows .mixedOrders = true) (hok : drawOk X.N (opsOf c) eff lo = true) (hch : (chainOk (opsOf c) eff && decide eff.Nodup) = true)
    (new : List (Nat × SV)) (hnew : new.map (·.1) = newAt (opsOf c) eff lo 0) (hwf : ∀ x ∈ new, x.2.wf) (hst : Stage X (opsOf c) eff lo Q eff 0 { s with σ := new ++ s.σ }) : T X c s Q := by
  intro ids vals a w hr
  simp only [Bool.and_eq_true, decide_eq_true_eq] at hch
  cases c with
  | region id' ops d =>
    simp [regOf] at h
    obtain ⟨rfl, rfl⟩ := h
    simp only [opsOf] at *
    refine wpIn_region_any hmix ?_
    have hr' : Rel X ids vals s a { w with drawn := w.drawn + 1 } := hr.later ⟨rfl, rfl, rfl, Nat.le_refl _, fun _ _ => rfl⟩
    obtain ⟨b, r1, r2, r3⟩ := Rel.puts (new := new) hr' (fun x hx => by
      refine ⟨?_, hwf x hx⟩
      have : x.1 ∈ newAt ops eff lo 0 := by rw [← hnew]; exact List.mem_map.2 ⟨x, hx, rfl⟩
      obtain ⟨j, j1, j2, j3⟩ := newAt_mem this
      cases hoj : ops[j]? with
      | none => rw [hoj] at j3; simp at j3
      | some oj =>
        obtain ⟨dj, k1, k2, _⟩ := (drawOk_at hok hoj).2.2.2.1 j1
        rw [hoj] at j3
        simp only [Option.bind_some, k1] at j3
        injection j3 with j3; subst j3; exact k2)
    have hun : ∀ j, (Array.replicate ops.size false).getD j false = false := fun j => by
      simp only [Array.getD_eq_getD_getElem?, Array.getElem?_replicate]
      split <;> rfl
    refine wpAny_draw hok hch.1 hch.2 _ _ _ _ 0 eff { s with σ := new ++ s.σ } b ids vals ?_ ?_
    · exact {
        size := by simp
        split := by simp
        plen := Nat.zero_le _
        rel := r1
        stage := hst
        dfr := r2.symm
        sz := by rw [hr.size, r1.size]
        agree := fun t ht => by
          refine (r3 t ?_).symm
          rw [hnew]; intro hh
          obtain ⟨j, j1, j2, j3⟩ := newAt_mem hh
          refine ht j ?_ j1 j3
          have hjs : j < ops.size := by
            cases hoj : ops[j]? with
            | none => rw [hoj] at j3; simp at j3
            | some _ => exact (Array.getElem?_eq_some_iff.1 hoj).1
          rw [getD_default (by simpa using hjs) true false]; exact hun j
        done := fun i hi hl => by
          rw [getD_default (by simpa using hi) true false, hun i] at hl; cases hl
        eff1 := fun e he => by simp at he
        eff2 := fun e he => by
          rw [getD_default (by simpa using chain_lt hch.1 e he) true false]; exact hun e
        low := fun i _ _ hl => by rw [hun i] at hl; cases hl }
    · have := List.length_filter_le (fun i => !((Array.replicate ops.size false).getD i true)) (List.range ops.size)
      simp only [List.length_range] at this
      exact this
  | _ => simp [regOf] at h
end
end Go.Proofs.Ythniebmammmacaa
namespace Go.Proofs.Ythniebmammmacaa
open Go.RowKit
def OpV (X : Cx) (s : St) (o : Oper) (x : SV) : Prop := ∀ ids vals a w, Rel X ids vals s a w →
  o.wpIn (Fx X.rd) 0 X.P a w (fun a' w' => a' = a.put o.dst (x.val ids vals) ∧ Below w.heap.size w w') (fun _ _ _ => False)
theorem OpV_value {X s o x} (hd : ∀ c, o.op ≠ .defer c) (h : ∀ ids vals a w, Rel X ids vals s a w → (execOp a.eval o).run X.P w = .ok (.value (x.val ids vals)) w) : OpV X s o x := fun ids vals a w hr => by
  unfold Oper.wpIn
  refine ⟨fun _ _ => trivial, ?_⟩
  rw [Oper.semAt_plain (Fx X.rd) _ _ hd, h ids vals a w hr]
  exact ⟨rfl, Below.refl _ _⟩
theorem uponIn_weaken {F : Fence} {n : Nat} {P : Program} {o : Oper} {a : Act} {N N' : Act → World → Prop} {Q Q' : Exit → Act → World → Prop} (hn : ∀ a w, N a w → N' a w) (hq : ∀ e a w, ¬ Q e a w) {r : Result Next} (h : o.uponIn F n P a N Q r) : o.uponIn F n P a N' Q' r := by
  cases r with
  | ok x w' =>
    cases x <;> simp only [Oper.uponIn] at h ⊢ <;> first
      | exact hn _ _ h
      | exact ⟨h.1, h.2.mono fun e w'' he => by cases e <;> first | exact hn _ _ he | exact absurd he (hq _ _ _) | exact absurd he.choose_spec.choose_spec (hq _ _ _)⟩
      | exact ⟨h.1, h.2.mono fun _ _ he => hn _ _ he⟩
  | halt x w' => cases x <;> simp only [Oper.uponIn] at h ⊢; exact absurd h (hq _ _ _)
theorem TE_opv {X ops i s Q} {lr : List Oper} {o : Oper} {d : Nat} {x : SV} (ho : ops[i]? = some o) (hd : o.dst = some d) (hw : wantedAt ops s i = some true) (hN : Nat.blt d X.N = true) (hx : x.wf) (h : OpV X s o x)
    (next : TL X ops lr (s.put d x) Q) : TE X ops i lr s Q := by
  refine TE_op ho hw fun ids vals a w hr => ?_
  have h1 := h ids vals a w hr
  unfold Oper.wpIn at h1 ⊢
  refine ⟨fun _ _ => trivial, uponIn_weaken ?_ (fun _ _ _ hf => hf) h1.2⟩
  rintro a' w' ⟨rfl, hb⟩
  rw [hd]
  exact next ids vals _ w' ((hr.later hb).put (Eq.mp Nat.blt_eq hN) hx)
theorem QF_opv {X ops s} {o : Oper} {d : Nat} {x : SV} (hd : o.dst = some d) (hl : look s.σ d = some x) (hw : wantedS ops s o = some true) (h : OpV X s o x) : QF X ops s o := fun ids vals a w hr =>
  ⟨d, x, hd, hl, .inl ⟨wantedS_eq hr hw, h ids vals a w hr⟩⟩
def exHead (P : Program) (N : Nat) (ops : Array Oper) (s : St) (i : Nat) : Option (Nat × SV) :=
  match ops[i]? with
  | some o => match qop o.op, exStep P N ops s o with
    | true, some s' => match s'.σ with
      | y :: _ => some y
      | [] => none
    | _, _ => none
  | none => none
def lookHead (ops : Array Oper) (s : St) (i : Nat) : Option (Nat × SV) :=
  match (ops[i]?).bind (·.dst) with
  | some d => (look s.σ d).map fun x => (d, x)
  | none => none
theorem QF_pure {X ops s} {i : Nat} {o : Oper} {y : Nat × SV} (ho : ops[i]? = some o) (h1 : exHead X.P X.N ops s i = some y) (h2 : lookHead ops s i = some y) : QF X ops s o := by
  intro ids vals a w hr
  unfold exHead at h1
  unfold lookHead at h2
  rw [ho] at h1 h2
  simp only [Option.bind_some] at h1 h2
  cases hd : o.dst with
  | none => rw [hd] at h2; simp at h2
  | some d =>
    rw [hd] at h2
    cases hl : look s.σ d with
    | none => simp [hl] at h2
    | some x =>
      simp [hl] at h2
      subst h2
      split at h1
      · rename_i s' hq e1
        unfold exStep at e1
        split at e1
        · rename_i b1 b2
          have hw := wantedS_eq hr b2
          obtain ⟨p1, p2⟩ := exOp_plain e1
          obtain ⟨d', x', g1, g2, g3, g4⟩ := exOp_quiet hr e1 hq
          subst g2
          simp only [St.put] at h1
          injection h1 with h1
          injection h1 with h1a h1b
          subst h1a h1b
          exact ⟨d', x', rfl, hl, .inl ⟨hw, does_value (X := X) p1 p2 g4 _ _ ⟨by rw [hd], Below.refl _ _⟩⟩⟩
        · rename_i b1 b2
          have hw := wantedS_eq hr b2
          rw [hd] at e1
          simp only [Option.some.injEq] at e1
          subst e1
          simp only [St.put] at h1
          injection h1 with h1
          injection h1 with h1a h1b
          subst h1b
          exact ⟨d, _, rfl, hl, .inr ⟨hw, rfl⟩⟩
        · simp at e1
      · simp at h1
def dueL (ops : Array Oper) (eff lo : List Nat) (p : Nat) : List Nat := (List.range ops.size).filter (due ops eff lo p)
theorem stage_all {X ops s eff lo p} (pure spec : List Nat) (h1 : (dueL ops eff lo p).all (fun i => inB i pure || inB i spec) = true) (h2 : pure.map (exHead X.P X.N ops s) = pure.map (lookHead ops s)) (h3 : pure.all (fun i => (lookHead ops s i).isSome) = true)
    (h4 : ∀ i ∈ spec, ∀ o, ops[i]? = some o → QF X ops s o) : ∀ i o, ops[i]? = some o → due ops eff lo p i = true → QF X ops s o := by
  intro i o ho hd
  have hm : i ∈ dueL ops eff lo p := List.mem_filter.2 ⟨List.mem_range.2 (Array.getElem?_eq_some_iff.1 ho).1, hd⟩
  rw [List.all_eq_true] at h1
  have := h1 i hm
  simp only [Bool.or_eq_true] at this
  rcases this with hp | hs
  · have hp := inB_iff.1 hp
    rw [List.all_eq_true] at h3
    obtain ⟨y, hy⟩ := Option.isSome_iff_exists.1 (h3 i hp)
    have : exHead X.P X.N ops s i = lookHead ops s i := List.map_inj_left.1 h2 i hp
    exact QF_pure ho (this.trans hy) hy
  · exact h4 i (inB_iff.1 hs) o ho
def SlC (M : Mem) (A : Option Addr) (cs : List Value) : Prop := cs = [] ∨ ∃ b o, A = some ⟨b, o, none⟩ ∧ ∀ j v, cs[j]? = some v → memCell M b (o + j) = some v
theorem SlC.le {M M' : Mem} {A cs} (h : SlC M A cs) (hM : Mem.le M M') : SlC M' A cs := by
  rcases h with h | ⟨b, o, e, h⟩
  · exact .inl h
  · exact .inr ⟨b, o, e, fun j v hv => memCell_le hM (h j v hv)⟩
def SlI (M : Mem) (A : Option Addr) (c : Nat) (k : IntKind) (L : List Int) : Prop := SlC M A (ints k L) ∧ L.length ≤ c
def rowsC (k : IntKind) (R : List (List Int)) : List Value := (R.map (ints k)).flatten
def SlR (M : Mem) (A : Option Addr) (c : Nat) (k : IntKind) (m : Nat) (R : List (List Int)) : Prop := (∀ r ∈ R, r.length = m) ∧ SlC M A (rowsC k R) ∧ R.length ≤ c
theorem SlI.le {M M' : Mem} {A c k L} (h : SlI M A c k L) (hM : Mem.le M M') : SlI M' A c k L := ⟨SlC.le h.1 hM, h.2⟩
theorem SlR.le {M M' : Mem} {A c k m R} (h : SlR M A c k m R) (hM : Mem.le M M') : SlR M' A c k m R := ⟨h.1, h.2.1.le hM, h.2.2⟩
theorem OpV_idx {X s o} {t e : TypeId} {x y : Operand} {A : Option Addr} {n c sz : Nat} {k' : IntKind} {z : Int} {cs : List Value} (hop : o.op = .indexAddr t x y) (ht : X.P.underlying t = some (.slice e)) (hsz : szOf X.P e = some sz)
    (hx : evO s x = some (.lf (.v (.slice A n c)))) (hy : asV (evO s y) = some (.int k' z)) (hz0 : 0 ≤ z) (hz : z < n) (hS : SlC s.M A cs) (hne : cs ≠ []) : OpV X s o (.lf (.ep (.slice A n c) sz z.toNat 0)) := by
  obtain ⟨b, off, rfl, _⟩ := hS.resolve_left hne
  refine OpV_value (by rw [hop]; intro c hc; cases hc) fun ids vals a w hr => ?_
  have e1 := hr.ev hx
  unfold szOf at hsz
  cases hq : X.P.info? e with
  | none => simp [hq] at hsz
  | some i =>
    have hs : i.size = sz := by simpa [hq] using hsz
    unfold execOp
    simp only [hop, e1, hr.evV hy, SV.val, Lf.val]
    have hr1 : (Instr.indexAt t (.slice (some ⟨b, off, none⟩) n c) (.int k' z)).run X.P w = .ok (.pointer (some ⟨b, off + z.toNat * sz, none⟩)) w := by
      simp [Instr.indexAt, asIntOf, Sem.run_bind, run_underlying ht, Sem.run_pure, hz0, hz, sizeOf, typeInfo, program, Sem.run, hq, hs, Addr.add_mid]
    rw [Sem.run_bind, hr1]
    simp [Result.andThen, Sem.run_pure, elemPtr, baseOf]
theorem rowsC_cells (k : IntKind) {m : Nat} : ∀ {R : List (List Int)}, (∀ r ∈ R, r.length = m) → ∀ i j q, i < R.length → j + q ≤ m → ((rowsC k R).drop (i * m + j)).take q = ints k (((R.getD i []).drop j).take q)
  | [], _, i, j, q, hi, _ => by simp at hi
  | r :: R, h, 0, j, q, _, hq => by
    have hr := h r (by simp)
    simp only [rowsC, List.map_cons, List.flatten_cons, Nat.zero_mul, Nat.zero_add, List.getD_cons_zero]
    rw [List.drop_append_of_le_length (by rw [ints_length]; omega), List.take_append_of_le_length (by simp [ints]; omega)]
    simp [ints, List.map_take, List.map_drop]
  | r :: R, h, i + 1, j, q, hi, hq => by
    have hr := h r (by simp)
    have ih := rowsC_cells k (R := R) (fun x hx => h x (List.mem_cons_of_mem _ hx)) i j q (by simpa using hi) hq
    simp only [rowsC, List.map_cons, List.flatten_cons, List.getD_cons_succ] at ih ⊢
    rw [← ih, List.drop_append, List.drop_eq_nil_of_le («as» := ints k r) (by rw [ints_length, hr, Nat.succ_mul]; omega), List.nil_append, ints_length, hr]
    rw [show (i + 1) * m + j - m = i * m + j by rw [Nat.succ_mul]; omega]
theorem rowsC_ne {k : IntKind} {m : Nat} {R : List (List Int)} (h : ∀ r ∈ R, r.length = m) (hm : 0 < m) (hR : 0 < R.length) : rowsC k R ≠ [] := by
  cases R with
  | nil => simp at hR
  | cons r R =>
    have hr := h r (by simp)
    intro hh
    have := congrArg List.length hh
    simp [rowsC, ints, hr] at this
    omega
theorem OpV_idxI {X s o} {t e : TypeId} {x y : Operand} {A : Option Addr} {c : Nat} {k k' : IntKind} {z : Int} {L : List Int} (hop : o.op = .indexAddr t x y) (ht : X.P.underlying t = some (.slice e)) (hsz : szOf X.P e = some 1)
    (hx : evO s x = some (.lf (.v (.slice A L.length c)))) (hy : asV (evO s y) = some (.int k' z)) (hz : 0 ≤ z ∧ z < L.length) (hS : SlI s.M A c k L) : OpV X s o (.lf (.ep (.slice A L.length c) 1 z.toNat 0)) :=
  OpV_idx hop ht hsz hx hy hz.1 hz.2 hS.1 (by intro hh; have := congrArg List.length hh; rw [ints_length, List.length_nil] at this; omega)
theorem OpV_idxR {X s o} {t e : TypeId} {x y : Operand} {A : Option Addr} {c m : Nat} {k k' : IntKind} {z : Int} {R : List (List Int)} (hop : o.op = .indexAddr t x y) (ht : X.P.underlying t = some (.slice e)) (hsz : szOf X.P e = some m) (hm : Nat.blt 0 m = true)
    (hx : evO s x = some (.lf (.v (.slice A R.length c)))) (hy : asV (evO s y) = some (.int k' z)) (hz : 0 ≤ z ∧ z < R.length) (hS : SlR s.M A c k m R) : OpV X s o (.lf (.ep (.slice A R.length c) m z.toNat 0)) :=
  OpV_idx hop ht hsz hx hy hz.1 hz.2 hS.2.1 (rowsC_ne hS.1 (Eq.mp Nat.blt_eq hm) (by omega))
theorem OpV_ldI {X s o} {t : TypeId} {d : TypeDesc} {x : Operand} {A : Option Addr} {n c i : Nat} {k : IntKind} {L : List Int} (hop : o.op = .load t x) (ht : X.P.underlying t = some d) (hrow : d.isRow = false) (hsz : szOf X.P t = some 1)
    (hx : evO s x = some (.lf (.ep (.slice A n c) 1 i 0))) (hS : SlI s.M A c k L) (hi : i < L.length) : OpV X s o (.lf (.v (.int k (L.getD i 0)))) := by
  have hne : ints k L ≠ [] := by intro hh; have := congrArg List.length hh; rw [ints_length, List.length_nil] at this; omega
  obtain ⟨b, off, rfl, hc⟩ := hS.1.resolve_left hne
  refine OpV_value (by rw [hop]; intro c hc; cases hc) fun ids vals a w hr => ?_
  have e1 := hr.ev hx
  have hcell : w.cell? ⟨b, off + i, none⟩ = some (.int k (L.getD i 0)) := memCell_cell hr.mem (hc i _ (by simp [ints, List.getD_eq_getElem?_getD, List.getElem?_eq_getElem hi]))
  have hr1 := run_load_one (P := X.P) (w := w) ht hrow hcell
  unfold execOp
  simp only [hop, e1, SV.val, Lf.val, elemPtr, baseOf, Nat.mul_one, Nat.add_zero]
  rw [Sem.run_bind, hr1]
  rfl
theorem OpV_ldR1 {X s o} {t : TypeId} {d : TypeDesc} {x : Operand} {A : Option Addr} {n c m i j : Nat} {k : IntKind} {R : List (List Int)} (hop : o.op = .load t x) (ht : X.P.underlying t = some d) (hrow : d.isRow = false)
    (hx : evO s x = some (.lf (.ep (.slice A n c) m i j))) (hS : SlR s.M A c k m R) (hi : i < R.length) (hj : j < m) : OpV X s o (.lf (.v (.int k ((R.getD i []).getD j 0)))) := by
  obtain ⟨b, off, rfl, hc⟩ := hS.2.1.resolve_left (rowsC_ne hS.1 (by omega) (by omega))
  refine OpV_value (by rw [hop]; intro c hc; cases hc) fun ids vals a w hr => ?_
  have e1 := hr.ev hx
  have hlen : (R.getD i []).length = m := by rw [List.getD_eq_getElem?_getD, List.getElem?_eq_getElem hi]; exact hS.1 _ (List.getElem_mem hi)
  have hv : (rowsC k R)[i * m + j]? = some (.int k ((R.getD i []).getD j 0)) := by
    have h1 := rowsC_cells k hS.1 i j 1 hi (by omega)
    have h2 := congrArg (fun l : List Value => l[0]?) h1
    rw [List.getElem?_take_of_lt (by omega), List.getElem?_drop, Nat.add_zero] at h2
    rw [h2]
    generalize R.getD i [] = r at hlen
    simp [ints, List.getD_eq_getElem?_getD, List.getElem?_eq_getElem (show j < r.length by omega)]
  have hcell : w.cell? ⟨b, off + i * m + j, none⟩ = some (.int k ((R.getD i []).getD j 0)) := memCell_cell hr.mem (by rw [Nat.add_assoc]; exact hc _ _ hv)
  have hr1 := run_load_one (P := X.P) (w := w) ht hrow hcell
  unfold execOp
  simp only [hop, e1, SV.val, Lf.val, elemPtr, baseOf]
  rw [Sem.run_bind, hr1]
  rfl
theorem OpV_ldR {X s o} {t : TypeId} {d : TypeDesc} {x : Operand} {A : Option Addr} {n c m i j q : Nat} {k : IntKind} {R : List (List Int)} (hop : o.op = .load t x) (ht : X.P.underlying t = some d) (hrow : d.isRow = true) (hsz : szOf X.P t = some q)
    (hx : evO s x = some (.lf (.ep (.slice A n c) m i j))) (hS : SlR s.M A c k m R) (hi : i < R.length) (hm : 0 < m) (hj : j + q ≤ m) : OpV X s o (.agg [.arr k q (((R.getD i []).drop j).take q)]) := by
  obtain ⟨b, off, rfl, hc⟩ := hS.2.1.resolve_left (rowsC_ne hS.1 hm (by omega))
  refine OpV_value (by rw [hop]; intro c hc; cases hc) fun ids vals a w hr => ?_
  have e1 := hr.ev hx
  have hlen : (R.getD i []).length = m := by rw [List.getD_eq_getElem?_getD, List.getElem?_eq_getElem hi]; exact hS.1 _ (List.getElem_mem hi)
  have hrng : w.rangeAt b (off + i * m + j) (ints k (((R.getD i []).drop j).take q)) := by
    intro q' v hv
    rw [← rowsC_cells k hS.1 i j q hi hj, List.getElem?_take] at hv
    split at hv
    · rw [List.getElem?_drop] at hv
      have := memCell_cell hr.mem (hc _ _ hv)
      rw [show off + i * m + j + q' = off + (i * m + j + q') from by omega]
      exact this
    · simp at hv
  have hr1 := run_load_own (P := X.P) (w := w) ht hsz (by rw [ints_length, List.length_take, List.length_drop, hlen]; omega) hrng hrow
  unfold execOp
  simp only [hop, e1, SV.val, Lf.val, elemPtr, baseOf]
  rw [Sem.run_bind, hr1]
  simp [Result.andThen, Sem.run_pure, sgCells, Sg.cells]
theorem OpV_ldRow {X s o} {t : TypeId} {d : TypeDesc} {x : Operand} {A : Option Addr} {n c m i : Nat} {k : IntKind} {R : List (List Int)} (hop : o.op = .load t x) (ht : X.P.underlying t = some d) (hrow : d.isRow = true) (hsz : szOf X.P t = some m)
    (hx : evO s x = some (.lf (.ep (.slice A n c) m i 0))) (hS : SlR s.M A c k m R) (hi : i < R.length) (hm : 0 < m) : OpV X s o (.agg [.arr k m (R.getD i [])]) := by
  have h := OpV_ldR hop ht hrow hsz hx hS hi hm (by omega)
  have hlen : (R.getD i []).length = m := by rw [List.getD_eq_getElem?_getD, List.getElem?_eq_getElem hi]; exact hS.1 _ (List.getElem_mem hi)
  rw [List.drop_zero, List.take_of_length_le (by omega)] at h
  exact h
theorem OpV_idxO {X s o} {t e : TypeId} {x y : Operand} {b off n sz : Nat} {k' : IntKind} {z : Int} (hop : o.op = .indexAddr t x y) (ht : X.P.underlying t = some (.array n e)) (hsz : szOf X.P e = some sz)
    (hx : evO s x = some (.lf (.own b off))) (hy : asV (evO s y) = some (.int k' z)) (hz0 : 0 ≤ z) (hz : z < n) : OpV X s o (.lf (.oel b (off + z.toNat * sz))) := by
  refine OpV_value (by rw [hop]; intro c hc; cases hc) fun ids vals a w hr => ?_
  have e1 := hr.ev hx
  unfold szOf at hsz
  cases hq : X.P.info? e with
  | none => simp [hq] at hsz
  | some i =>
    have hs : i.size = sz := by simpa [hq] using hsz
    have hr1 : (Instr.indexAt t (.pointer (some ⟨ids b, off, none⟩)) (.int k' z)).run X.P w = .ok (.pointer (some ⟨ids b, off + z.toNat * sz, none⟩)) w := by
      simp [Instr.indexAt, asIntOf, Sem.run_bind, run_underlying ht, Instr.sureAddr, Sem.run_pure, hz0, hz, sizeOf, typeInfo, program, Sem.run, hq, hs, Addr.add_mid]
    unfold execOp
    simp only [hop, e1, hr.evV hy, SV.val, Lf.val]
    rw [Sem.run_bind, hr1]
    rfl
def segAt (base : Nat) : List Sg → Option (IntKind × Nat × List Int)
  | [] => none
  | s :: r => match base with
    | 0 => match s with
      | .arr k n L => some (k, n, L)
      | .one _ => none
    | b + 1 => if s.size ≤ b + 1 then segAt (b + 1 - s.size) r else none
theorem segAt_eq {ids vals} : ∀ {l : List Sg} {base : Nat} {k n L}, sgWf l → segAt base l = some (k, n, L) → L.length = n ∧ ∀ q v, q < n → (ints k L)[q]? = some v → (sgCells ids vals l)[base + q]? = some v
  | [], _, _, _, _, _, h => by simp [segAt] at h
  | s :: r, 0, k, n, L, hw, h => by
    simp only [segAt] at h
    cases s with
    | one l => simp at h
    | arr k' n' L' =>
      simp at h
      obtain ⟨rfl, rfl, rfl⟩ := h
      refine ⟨hw.1, fun q v hq hv => ?_⟩
      simp only [sgCells, Sg.cells, Nat.zero_add]
      rw [List.getElem?_append_left (by rw [ints_length, hw.1]; exact hq)]
      exact hv
  | s :: r, b + 1, k, n, L, hw, h => by
    simp only [segAt] at h
    split at h
    · rename_i hle
      obtain ⟨e1, e2⟩ := segAt_eq (ids := ids) (vals := vals) hw.2 h
      refine ⟨e1, fun q v hq hv => ?_⟩
      have := e2 q v hq hv
      simp only [sgCells]
      rw [List.getElem?_append_right (by rw [Sg.cells_length hw.1]; omega), Sg.cells_length hw.1, show b + 1 + q - s.size = b + 1 - s.size + q from by omega]
      exact this
    · simp at h
theorem OpV_ldO1 {X s o} {t : TypeId} {d : TypeDesc} {x : Operand} {b off base q n : Nat} {k : IntKind} {L : List Int} {c : List Sg} (hop : o.op = .load t x) (ht : X.P.underlying t = some d) (hrow : d.isRow = false)
    (hx : evO s x = some (.lf (.oel b off))) (hc : look s.H b = some c) (hg : segAt base c = some (k, n, L)) (ho : off = base + q) (hq : q < n) : OpV X s o (.lf (.v (.int k (L.getD q 0)))) := by
  refine OpV_value (by rw [hop]; intro c hc; cases hc) fun ids vals a w hr => ?_
  have e1 := hr.ev hx
  obtain ⟨w1, _, _, T, eT⟩ := hr.blk b c hc
  obtain ⟨g1, g2⟩ := segAt_eq (ids := ids) (vals := vals) w1 hg
  have hcell : w.cell? ⟨ids b, off, none⟩ = some (.int k (L.getD q 0)) := by
    have := g2 q (.int k (L.getD q 0)) hq (by simp [ints, List.getD_eq_getElem?_getD, List.getElem?_eq_getElem (show q < L.length by omega)])
    simp [World.cell?, eT, ho, this]
  have hr1 := run_load_one (P := X.P) (w := w) ht hrow hcell
  unfold execOp
  simp only [hop, e1, SV.val, Lf.val]
  rw [Sem.run_bind, hr1]
  rfl
theorem OpV_call {X s o} {f : Nat} {fo : Operand} {xs : Array Operand} {tys : Array TypeId} {first cap : List Value} {vs : List SV} {args : List Value} {x : SV} (hop : o.op = .call { callee := .value fo, args := xs, argTypes := tys })
    (hf : evO s fo = some (.lf (.v (.func (.func f) first.toArray cap.toArray)))) (hx : argsS s xs.toList = some vs) (he : entersOk X.P f = true) (ha : first ++ vs.map rval ++ cap = args) (hF : Fn X.P f args s.M fun y _ => y = x) : OpV X s o x := by
  intro ids vals a w hr
  unfold Oper.wpIn
  refine ⟨fun _ _ => trivial, ?_⟩
  rw [Oper.semAt_plain (Fx X.rd) _ _ (by rw [hop]; intro c hc; cases hc)]
  have hev := hr.ev hf
  have hargs := argsS_eq hr hx
  have hargs2 : xs.map a.eval = (vs.map rval).toArray := by
    apply Array.ext'; rw [← hargs]; simp
  have hrun : (execOp a.eval o).run X.P w = .ok (.enter f args.toArray) w := by
    unfold execOp
    simp only [hop, resolve, Sem.run_bind, hev, SV.val, Lf.val, Deferred.ofValue, Sem.run_pure, Result.andThen_ok, invoke, hargs2]
    rw [enters_run he]
    congr 2
    rw [← ha]
    simp
  rw [hrun]
  refine ⟨by intro hh; simp [Fx, Fence.wide] at hh, ?_⟩
  have hc := hF w hr.mem
  have hc' : CallsIn (Fx X.rd) (0 - 1) X.P f args.toArray w (fnPost w s.M fun y _ => y = x) := by
    cases hrd : X.rd with
    | none => exact hc
    | some l => exact CallsIn.inRound l hc
  refine ⟨hc'.1, fun cs hroom => ?_⟩
  obtain ⟨e, w', fr, ⟨y, M', h1, h2, h3, h4, h5, h6, h7, h8⟩, rest⟩ := hc'.2 cs hroom
  refine ⟨e, w', fr, ?_, rest⟩
  subst h1 h8
  exact ⟨by rw [show rval y = y.val ids vals from (SV.closed_val h2).symm], h4⟩
end Go.Proofs.Ythniebmammmacaa
namespace Go.Proofs.Ythniebmammmacaa
open Go.RowKit
def dropV (n : Nat) : List (Nat × Vc) → List (Nat × Vc)
  | [] => []
  | (m, v) :: r => match Nat.beq m n with | true => dropV n r | false => (m, v) :: dropV n r
theorem look_dropV {n t : Nat} {u : Vc} : ∀ {l : List (Nat × Vc)}, look (dropV n l) t = some u → look l t = some u ∧ t ≠ n
  | [], h => by simp [dropV, look] at h
  | (m, v) :: r, h => by
    simp only [dropV] at h
    cases hb : Nat.beq m n with
    | true =>
      rw [hb] at h
      simp only at h
      obtain ⟨h1, h2⟩ := look_dropV h
      refine ⟨?_, h2⟩
      rw [look_cons, if_neg (by rw [Nat.eq_of_beq_eq_true hb]; exact fun e => h2 e.symm)]
      exact h1
    | false =>
      rw [hb] at h
      simp only at h
      rw [look_cons] at h ⊢
      split at h
      · rename_i e; subst e; exact ⟨by simpa using h, beq_ne.1 hb⟩
      · rename_i e
        rw [if_neg e]
        exact look_dropV h
def dropO (n : Option Nat) (l : List (Nat × Vc)) : List (Nat × Vc) := match n with | some n => dropV n l | none => l
theorem look_dropO {n : Option Nat} {t : Nat} {u : Vc} {l : List (Nat × Vc)} (h : look (dropO n l) t = some u) : look l t = some u ∧ some t ≠ n := by
  cases n with
  | none => exact ⟨h, by simp⟩
  | some n => obtain ⟨h1, h2⟩ := look_dropV h; exact ⟨h1, by simpa using h2⟩
theorem ownsRow_oneCell {w : World} {base : Nat} {e : TypeId} {sz : Nat} {v : Value} {n : Nat} {xs : List Value} (h : w.ownsRow base e sz v n xs) : v.oneCell' = true := by
  rcases h.2 with ⟨rfl, _⟩ | ⟨g, cap, cur, rfl, _⟩ <;> rfl
theorem Rel.own_ne {X ids vals s a w} (h : Rel X ids vals s a w) {n : Nat} {v : Vc} (hv : look s.V n = some v) {g : Nat} (hg : (vals n).ownBlock = some g) : ∃ cur e, w.heap[g]? = some (.cells cur e (0, 0)) := by
  rcases (h.vec n v hv).2 with ⟨e, _⟩ | ⟨g', cap, cur, e, _, h2, _⟩
  · rw [e] at hg; simp [Value.ownBlock] at hg
  · rw [e] at hg; simp [Value.ownBlock] at hg; subst hg; exact ⟨_, _, h2⟩
theorem Rel.vecNew {X ids vals s a w w'} (h : Rel X ids vals s a w) {d : Nat} (hd : s.fresh d = true) {row : Option Nat} {drop : Option Nat} (hrow : row = none ∨ ∃ n v, drop = some n ∧ look s.V n = some v ∧ row = (vals n).ownBlock)
    {v' : Value} {vc : Vc} (hg : w.grownBy w' row) (hown : w'.ownsRow X.B vc.e vc.sz v' vc.len vc.cs) (hat : ∀ g, v'.ownBlock = some g → row = some g ∨ w.heap.size ≤ g) : Rel X ids (upd vals d v') { s with V := (d, vc) :: dropO drop s.V } a w' := by
  simp only [St.fresh, Bool.and_eq_true] at hd
  obtain ⟨⟨f1, f2⟩, f3, f4⟩ := hd
  have hi : ∀ m, m ≠ d → ids m = ids m := fun _ _ => rfl
  have hv : ∀ m, m ≠ d → upd vals d v' m = vals m := fun m hm => upd_other hm
  -- nothing else lies in the row that may have been written
  have keep : ∀ b, (∀ g, row = some g → b ≠ g) → ∀ o, w.heap[b]? = some o → w'.heap[b]? = some o := fun b hb o ho => by
    rw [hg.block b (Array.getElem?_eq_some_iff.1 ho).1 (fun e => hb b e.symm rfl)]; exact ho
  have rowOf : ∀ g, row = some g → ∃ n v, drop = some n ∧ look s.V n = some v ∧ (vals n).ownBlock = some g := fun g hgr => by
    rcases hrow with e | ⟨n, v, e1, e2, e3⟩
    · rw [e] at hgr; cases hgr
    · exact ⟨n, v, e1, e2, by rw [← e3]; exact hgr⟩
  have rowB : ∀ g, row = some g → X.B ≤ g := fun g hgr => by
    obtain ⟨n, v, _, e2, e3⟩ := rowOf g hgr
    exact ((h.vec n v e2).lt g e3).1
  exact {
    size := h.size
    defers := h.defers
    att := h.att
    others := fun p hp => by
      obtain ⟨t0, t1, t2⟩ := h.others p hp
      refine ⟨t0, keep p.1 (fun g hgr e => ?_) _ t1, t2⟩
      obtain ⟨n, v, _, e2, e3⟩ := rowOf g hgr
      obtain ⟨cur, ee, hh⟩ := h.own_ne e2 e3
      rw [e, hh] at t1; injection t1 with t1; rw [← t1] at t2; cases t2
    marks := fun D hD => ⟨(h.marks D hD).1, keep D (fun g hgr e => by
      obtain ⟨n, v, _, e2, e3⟩ := rowOf g hgr
      obtain ⟨cur, ee, hh⟩ := h.own_ne e2 e3
      have := (h.marks D hD).2
      rw [e, hh] at this; simp at this) _ (h.marks D hD).2⟩
    onev := fun n => by
      by_cases e : n = d
      · subst e; rw [upd_same]; exact ownsRow_oneCell hown
      · rw [upd_other e]; exact h.onev n
    tmp := fun t x hx => by rw [SV.free_val hi hv (frees_look f1 hx)]; exact h.tmp t x hx
    blk := fun n c hc => by
      obtain ⟨w1, w2, w3, T, e⟩ := h.blk n c hc
      refine ⟨w1, w2, w3, T, ?_⟩
      rw [sgFree_cells hi hv (freeH_look f2 hc).1]
      refine keep _ (fun g hgr e' => ?_) _ e
      obtain ⟨n', v, _, e2, e3⟩ := rowOf g hgr
      exact (h.apart n' v g e2 e3).2.1 n c hc e'
    inj := h.inj
    vec := fun n v hv2 => by
      rw [look_cons] at hv2
      split at hv2
      · rename_i e; subst e; simp at hv2; subst hv2
        rw [upd_same]; exact hown
      · rename_i hne
        obtain ⟨h1, h2⟩ := look_dropO hv2
        rw [upd_other (fun e => hne e.symm)]
        refine (h.vec n v h1).kept hg ?_
        cases hb : (vals n).ownBlock with
        | none => exact .inl rfl
        | some g =>
          refine .inr fun e => ?_
          obtain ⟨n', v', e1, e2, e3⟩ := rowOf g e.symm
          exact (h.apart n v g h1 hb).2.2 n' v' e2 (fun e => by subst e; exact h2 e1.symm) e3
    apart := fun n v g hv2 hb => by
      rw [look_cons] at hv2
      split at hv2
      · rename_i e; subst e; simp at hv2; subst hv2
        rw [upd_same] at hb
        rcases hat g hb with hr | hr
        · obtain ⟨n', v', e1, e2, e3⟩ := rowOf g hr
          obtain ⟨a1, a2, a3⟩ := h.apart n' v' g e2 e3
          refine ⟨a1, a2, fun m u hm hne => ?_⟩
          rw [look_cons] at hm
          split at hm
          · rename_i e; exact absurd e.symm hne
          · obtain ⟨h1, h2⟩ := look_dropO hm
            rw [upd_other hne]
            exact a3 m u h1 (fun e => by subst e; exact h2 e1.symm)
        · refine ⟨?_, fun m c hc e => absurd (h.lt_blk hc) (by omega), fun m u hm hne => ?_⟩
          · cases hm : s.M g with
            | none => rfl
            | some c' => exact absurd (h.mem_lt hm) (by omega)
          · rw [look_cons] at hm
            split at hm
            · rename_i e; exact absurd e.symm hne
            · obtain ⟨h1, h2⟩ := look_dropO hm
              rw [upd_other hne]
              intro e
              have := ((h.vec m u h1).lt g e).2
              omega
      · rename_i hne
        obtain ⟨h1, h2⟩ := look_dropO hv2
        rw [upd_other (fun e => hne e.symm)] at hb
        obtain ⟨a1, a2, a3⟩ := h.apart n v g h1 hb
        refine ⟨a1, a2, fun m u hm hmn => ?_⟩
        rw [look_cons] at hm
        split at hm
        · rename_i e; subst e; simp at hm; subst hm
          rw [upd_same]
          intro e
          rcases hat g e with hr | hr
          · obtain ⟨n', v', e1, e2, e3⟩ := rowOf g hr
            exact a3 n' v' e2 (fun e => by subst e; exact h2 e1.symm) e3
          · have := ((h.vec n v h1).lt g hb).2
            omega
        · rename_i hmd
          obtain ⟨h3, _⟩ := look_dropO hm
          rw [upd_other (fun e => hmd e.symm)]
          exact a3 m u h3 hmn
    mem := fun b c hb => by
      obtain ⟨T, fr, e⟩ := memOf_some.1 (h.mem b c hb)
      refine memOf_some.2 ⟨T, fr, keep b (fun g hgr e' => ?_) _ e⟩
      subst e'
      obtain ⟨n', v', e1, e2, e3⟩ := rowOf b hgr
      rw [(h.apart n' v' b e2 e3).1] at hb; cases hb
    grow := h.grow
    below := h.below.trans ⟨hg.os, hg.tape, hg.output, hg.size, fun k hk => hg.block k (Nat.lt_of_lt_of_le hk h.base) (fun e => by have := rowB k e.symm; omega)⟩
    base := Nat.le_trans h.base hg.size }
def rowInfo (P : Program) (t : TypeId) : Option (TypeId × Nat × Nat × List Value) :=
  match P.underlying t with
  | some (.slice e) => match P.info? e with
    | some i => match i.zero with
      | some z => if z.cells.size = i.size ∧ 0 < i.size then some (e, i.size, i.bytes, z.cells.toList) else none
      | none => none
    | none => none
  | _ => none
theorem rowInfo_eq {P : Program} {t e : TypeId} {sz bytes : Nat} {zs : List Value} (h : rowInfo P t = some (e, sz, bytes, zs)) : P.underlying t = some (.slice e) ∧ ∃ i z, P.info? e = some i ∧ i.zero = some z ∧ i.size = sz ∧ i.bytes = bytes ∧ z.cells.size = sz ∧ 0 < sz ∧ z.cells.toList = zs := by
  unfold rowInfo at h
  split at h
  · rename_i e' hu
    split at h
    · rename_i i hi
      split at h
      · rename_i z hz
        split at h
        · rename_i hh
          simp at h
          obtain ⟨rfl, rfl, rfl, rfl⟩ := h
          exact ⟨hu, i, z, hi, hz, rfl, rfl, hh.1, hh.2, rfl⟩
        · simp at h
      · simp at h
    · simp at h
  · simp at h
def SrcAt (X : Cx) (s : St) (x : Operand) (sz m : Nat) (cs : List Value) : Prop := cs.length = m * sz ∧ (∀ u ∈ cs, u.oneCell' = true) ∧ ∀ ids vals a w, Rel X ids vals s a w →
  ∃ A c, a.eval x = .slice A m c ∧ (A = none → m = 0) ∧ ∀ ad, A = some ad → ∀ j u, cs[j]? = some u → w.cell? (ad.add j) = some u
theorem ints_one {k : IntKind} {L : List Int} : ∀ u ∈ ints k L, u.oneCell' = true := by
  intro u hu
  simp only [ints, List.mem_map] at hu
  obtain ⟨x, _, rfl⟩ := hu
  rfl
theorem rowsC_one {k : IntKind} {R : List (List Int)} : ∀ u ∈ rowsC k R, u.oneCell' = true := by
  intro u hu
  simp only [rowsC, List.mem_flatten, List.mem_map] at hu
  obtain ⟨l, ⟨r, _, rfl⟩, hu⟩ := hu
  exact ints_one u hu
theorem rowsC_length {k : IntKind} {m : Nat} : ∀ {R : List (List Int)}, (∀ r ∈ R, r.length = m) → (rowsC k R).length = R.length * m
  | [], _ => by simp [rowsC]
  | r :: R, h => by
    have ih := rowsC_length (k := k) (R := R) (fun x hx => h x (List.mem_cons_of_mem _ hx))
    simp only [rowsC, List.map_cons, List.flatten_cons, List.length_append] at ih ⊢
    rw [ih, ints_length, h r (by simp), List.length_cons, Nat.succ_mul]; omega
theorem SlC.src {X s x sz m cs A c} (hx : evO s x = some (.lf (.v (.slice A m c)))) (hS : SlC s.M A cs) (hl : cs.length = m * sz) (h1 : ∀ u ∈ cs, u.oneCell' = true) (hsz : 0 < sz) : SrcAt X s x sz m cs := by
  refine ⟨hl, h1, fun ids vals a w hr => ⟨A, c, hr.ev hx, ?_, ?_⟩⟩
  · rintro rfl
    rcases hS with rfl | ⟨b, o, e, _⟩
    · have h0 : m * sz = 0 := by simpa using hl.symm
      exact (Nat.mul_eq_zero.1 h0).resolve_right (by omega)
    · cases e
  · rintro ad rfl j u hu
    rcases hS with rfl | ⟨b, o, e, hc⟩
    · simp at hu
    · injection e with e; subst e
      have := memCell_cell hr.mem (hc j u hu)
      rwa [Addr.add_mid]
theorem SlI.src {X s x k L A c} (hx : evO s x = some (.lf (.v (.slice A L.length c)))) (hS : SlI s.M A c k L) : SrcAt X s x 1 L.length (ints k L) := SlC.src hx hS.1 (by rw [ints_length]; omega) ints_one (by omega)
theorem SlR.src {X s x k m R A c} (hx : evO s x = some (.lf (.v (.slice A R.length c)))) (hS : SlR s.M A c k m R) (hm : Nat.blt 0 m = true) : SrcAt X s x m R.length (rowsC k R) := SlC.src hx hS.2.1 (rowsC_length hS.1) rowsC_one (Eq.mp Nat.blt_eq hm)
theorem Rel.vecAt {X ids vals s a w} (h : Rel X ids vals s a w) {n : Nat} {v : Vc} (hv : look s.V n = some v) : v.cs.length = v.len * v.sz ∧ ((vals n = .slice none 0 0 ∧ v.len = 0) ∨ ∃ g c cur, vals n = .slice (some ⟨g, 0, none⟩) v.len c ∧ X.B ≤ g ∧ w.heap[g]? = some (.cells cur v.e (0, 0)) ∧ v.len ≤ c ∧ c ≤ maxLen ∧ cur.size = c * v.sz ∧ cur.toList.take (v.len * v.sz) = v.cs) := h.vec n v hv
theorem vec_src {X s x n v} (hx : evO s x = some (.lf (.vec n))) (hv : look s.V n = some v) (h1 : ∀ u ∈ v.cs, u.oneCell' = true) (hl : v.cs.length = v.len * v.sz) : SrcAt X s x v.sz v.len v.cs := by
  refine ⟨hl, h1, fun ids vals a w hr => ?_⟩
  have e := hr.ev hx
  simp only [SV.val, Lf.val] at e
  obtain ⟨_, h2⟩ := hr.vecAt hv
  rcases h2 with ⟨h2, h3⟩ | ⟨g, c, cur, h2, h3, h4, h5, h6, h7, h8⟩
  · exact ⟨none, 0, by rw [e, h2, h3], fun _ => h3, by simp⟩
  · refine ⟨some ⟨g, 0, none⟩, c, by rw [e, h2], by simp, ?_⟩
    rintro ad ⟨⟩ j u hu
    have hh : cur[j]? = some u := by
      rw [← h8, List.getElem?_take] at hu
      split at hu
      · simpa using hu
      · simp at hu
    rw [Addr.add_mid]
    simp [World.cell?, h4, hh]
theorem run_append_none {P : Program} {w : World} (base : Nat) (t ty e : TypeId) (i : TypeInfo) (size : Nat) (ht : P.underlying t = some (.slice e)) (hi : P.info? e = some i)
    (v : Value) (n : Nat) (xs : List Value) (hown : w.ownsRow base e size v n xs) (c : Nat) :
    (Builtin.append_ #[t, t] ty #[v, .slice none 0 c]).run P w = .ok v w := by
  rcases hown.2 with ⟨rfl, rfl⟩ | ⟨g, cap, cur, rfl, _, _, hnc, _⟩
  · simp [Builtin.append_, run_underlying ht, sizeOf, typeInfo, hi, Builtin.lenOf, Builtin.firstCells]
  · simp [Builtin.append_, run_underlying ht, sizeOf, typeInfo, hi, Builtin.lenOf, Builtin.firstCells, hnc, storeCells]
def appendAt (ops : Array Oper) (i : Nat) : Option (Option Nat × TypeId × Operand × Operand) :=
  match ops[i]? with
  | some o => match o.op with
    | .call { callee := .builtin .append, args := ⟨[p, x]⟩, argTypes := ⟨[t, t']⟩ } => if t = t' then some (o.dst, t, p, x) else none
    | _ => none
  | none => none
theorem TE_append {X ops i s Q} {lr : List Oper} {d n : Nat} {t e : TypeId} {p x : Operand} {sz bytes m len2 : Nat} {zs cs cs2 : List Value} {v : Vc} (hat : appendAt ops i = some (some d, t, p, x)) (hw : wantedAt ops s i = some true) (hd : (Nat.blt d X.N && s.fresh d) = true)
    (ht : rowInfo X.P t = some (e, sz, bytes, zs)) (hp : evO s p = some (.lf (.vec n))) (hv : look s.V n = some v) (hve : v.e = e ∧ v.sz = sz) (hx : SrcAt X s x sz m cs)
    (hb : (v.len + m) * bytes ≤ 140737488355328) (hm : v.len + m ≤ maxLen) (hl : v.len + m = len2) (hc : v.cs ++ cs = cs2)
    (next : TL X ops lr { s with σ := (d, .lf (.vec d)) :: s.σ, V := (d, ⟨e, sz, len2, cs2⟩) :: dropV n s.V } Q) : TE X ops i lr s Q := by
  simp only [Bool.and_eq_true] at hd
  unfold appendAt at hat
  split at hat
  · rename_i o ho
    refine TE_op ho hw fun ids vals a w hr => ?_
    obtain ⟨dst, op, type, pos, after, guard⟩ := o
    simp only at hat
    split at hat
    · rename_i p' x' t' t''
      split at hat
      · rename_i htt
        simp at hat
        obtain ⟨rfl, rfl, rfl, rfl⟩ := hat
        subst htt
        obtain ⟨hu, ii, z, hi, hz, hsz, hby, hzs, hpos, _⟩ := rowInfo_eq ht
        obtain ⟨h1, h2, h3⟩ := hx
        obtain ⟨A, c, ex, hA0, hA⟩ := h3 ids vals a w hr
        have ep := hr.ev hp
        simp only [SV.val, Lf.val] at ep
        have hown := hr.vec n v hv
        obtain ⟨rfl, rfl⟩ := hve
        have main : ∃ v' w', (Builtin.append_ #[t', t'] type #[vals n, .slice A m c]).run X.P w = .ok v' w' ∧ w'.ownsRow X.B v.e v.sz v' (v.len + m) (v.cs ++ cs) ∧ w.grownBy w' (vals n).ownBlock ∧ (v'.ownBlock = (vals n).ownBlock ∨ v'.ownBlock = some w.heap.size) := by
          cases A with
          | none =>
            have hm0 := hA0 rfl
            subst hm0
            have hcs : cs = [] := List.eq_nil_of_length_eq_zero (by simpa using h1)
            subst hcs
            exact ⟨vals n, w, run_append_none X.B t' type v.e ii v.sz hu hi _ _ _ hown c, by simpa using hown, ⟨rfl, rfl, rfl, Nat.le_refl _, fun _ _ _ => rfl⟩, .inl rfl⟩
          | some ad =>
            obtain ⟨v', w', q1, q2, q3, _, q5⟩ := run_append_own_at (P := X.P) w X.B t' type v.e ii z v.sz bytes hu hi hz hsz hby hzs hpos (vals n) v.len v.cs hown ad m c cs h1 (hA ad rfl) h2 hm hb hr.base
            exact ⟨v', w', q1, q2, q3, q5⟩
        obtain ⟨v', w', q1, q2, q3, q5⟩ := main
        unfold Oper.wpIn
        refine ⟨fun _ _ => trivial, ?_⟩
        rw [Oper.semAt_plain (Fx X.rd) _ _ (by intro c hc; cases hc)]
        have hrun : (execOp a.eval ⟨some d, .call { callee := .builtin .append, args := ⟨[p', x']⟩, argTypes := ⟨[t', t']⟩ }, type, pos, after, guard⟩).run X.P w = .ok (.value v') w' := by
          simp [execOp, resolve, Sem.run_bind, Sem.run_pure, Result.andThen_ok, invoke, builtin, ep, ex, q1]
        rw [hrun]
        subst hl hc
        have hr1 := hr.vecNew hd.2 (row := (vals n).ownBlock) (drop := some n) (.inr ⟨n, v, rfl, hv, rfl⟩) (vc := ⟨v.e, v.sz, v.len + m, v.cs ++ cs⟩) q3 q2 (fun g hg => by
          rcases q5 with q5 | q5
          · exact .inl (by rw [← q5]; exact hg)
          · rw [q5] at hg; injection hg with hg; exact .inr (by omega))
        have hr2 := hr1.put (Eq.mp Nat.blt_eq hd.1) (x := .lf (.vec d)) trivial
        have ev : (SV.lf (.vec d)).val ids (upd vals d v') = v' := by simp [SV.val, Lf.val, upd_same]
        rw [ev] at hr2
        exact next ids _ _ w' hr2
      · simp at hat
    · simp at hat
  · simp at hat
theorem getElem?_rep (l : List Value) : ∀ (n j : Nat), ((List.replicate n l).flatten)[j]? = if j < n * l.length then l[j % l.length]? else none
  | 0, j => by simp
  | n + 1, j => by
    have e : (n + 1) * l.length = n * l.length + l.length := Nat.succ_mul _ _
    rw [List.replicate_succ, List.flatten_cons, List.getElem?_append]
    split
    · rename_i h
      rw [if_pos (by omega), Nat.mod_eq_of_lt h]
    · rename_i h
      have e2 : j % l.length = (j - l.length) % l.length := Nat.mod_eq_sub_mod (by omega)
      rw [getElem?_rep l n (j - l.length), e2]
      by_cases h2 : j < (n + 1) * l.length
      · rw [if_pos h2, if_pos (by omega)]
      · rw [if_neg h2, if_neg (by omega)]
theorem madeCells_rep (z : Array Value) (hz : 0 < z.size) (n : Nat) : (madeCells z (n * z.size)).toList = (List.replicate n z.toList).flatten := by
  apply List.ext_getElem?
  intro j
  rw [getElem?_rep]
  simp only [Array.length_toList]
  unfold madeCells
  by_cases h : j < n * z.size
  · rw [if_pos h]
    have hm : j % z.size < z.size := Nat.mod_lt _ hz
    simp [h, hm, getElem!_pos]
  · rw [if_neg h]
    simp [h]
def litCs (P : Program) (s : St) (t : TypeId) (len : Nat) (parts : List (Nat × Operand)) : Option (TypeId × Nat × List Value) :=
  match rowInfo P t with
  | some (e, sz, _, zs) => match zeroSg P e with
    | some c => if len * sz > 16777216 then none else match buildSg (fun i => some (i * sz, sz)) s (List.replicate len c).flatten parts with
      | some c' => if sgClosed c' = true then some (e, sz, sgCells (fun _ => 0) (fun _ => .slice none 0 0) c') else none
      | none => none
    | none => none
  | none => none
theorem sgCells_rep {ids vals} (c : List Sg) : ∀ n, sgCells ids vals (List.replicate n c).flatten = (List.replicate n (sgCells ids vals c)).flatten
  | 0 => rfl
  | n + 1 => by rw [List.replicate_succ, List.flatten_cons, sgCells_append, sgCells_rep c n, List.replicate_succ, List.flatten_cons]
theorem sgWf_rep {c : List Sg} (h : sgWf c) : ∀ n, sgWf (List.replicate n c).flatten
  | 0 => trivial
  | n + 1 => by rw [List.replicate_succ, List.flatten_cons]; exact sgWf_append.2 ⟨h, sgWf_rep h n⟩
theorem sgSize_rep (c : List Sg) : ∀ n, sgSize (List.replicate n c).flatten = n * sgSize c
  | 0 => by simp [sgSize]
  | n + 1 => by rw [List.replicate_succ, List.flatten_cons, sgSize_append, sgSize_rep c n, Nat.succ_mul]; omega
theorem buildSg_size {place s} : ∀ {parts : List (Nat × Operand)} {c c' : List Sg} {ids vals} {X : Cx} {a w}, Rel X ids vals s a w → sgWf c → buildSg place s c parts = some c' → sgSize c' = sgSize c
  | [], c, c', ids, vals, X, a, w, hr, hw, h => by simp [buildSg] at h; subst h; rfl
  | (i, x) :: r, c, c', ids, vals, X, a, w, hr, hw, h => by
    simp only [buildSg] at h
    split at h
    · rename_i off m new e1 e2
      split at h
      · rename_i hm
        split at h
        · rename_i c1 e3
          cases hx : evO s x with
          | none => simp [hx] at e2
          | some y =>
            obtain ⟨ev, yw⟩ := evO_eq hr hx
            simp only [hx, Option.bind_some] at e2
            obtain ⟨n1, n2⟩ := sgOfSV_eq (ids := ids) hr.onev e2 yw
            obtain ⟨g1, g2, g3, g4⟩ := sgSet_eq (ids := ids) (vals := vals) n1 hm.1 hm.2 hw e3
            rw [buildSg_size hr g2 h, g3]
        · simp at h
      · simp at h
    · simp at h
def litAt (ops : Array Oper) (i : Nat) : Option (Option Nat × TypeId × Nat × List (Nat × Operand)) :=
  match ops[i]? with
  | some o => match o.op with
    | .buildSlice t len parts => some (o.dst, t, len, parts.toList)
    | _ => none
  | none => none
theorem TE_lit {X ops i s Q} {lr : List Oper} {d : Nat} {t e : TypeId} {len sz : Nat} {parts : List (Nat × Operand)} {cs cs2 : List Value} (hat : litAt ops i = some (some d, t, len, parts)) (hw : wantedAt ops s i = some true) (hd : (Nat.blt d X.N && s.fresh d && Nat.ble len 1000) = true)
    (hc : litCs X.P s t len parts = some (e, sz, cs)) (h2 : cs = cs2)
    (next : TL X ops lr { s with σ := (d, .lf (.vec d)) :: s.σ, V := (d, ⟨e, sz, len, cs2⟩) :: s.V } Q) : TE X ops i lr s Q := by
  subst h2
  simp only [Bool.and_eq_true] at hd
  unfold litAt at hat
  split at hat
  · rename_i o ho
    refine TE_op ho hw fun ids vals a w hr => ?_
    obtain ⟨dst, op, type, pos, after, guard⟩ := o
    simp only at hat
    split at hat
    · rename_i t' len' parts'
      simp at hat
      obtain ⟨rfl, rfl, rfl, hps⟩ := hat
      unfold litCs at hc
      split at hc
      · rename_i e' sz' bytes zs e1
        split at hc
        · rename_i c0 e2
          split at hc
          · simp at hc
          · rename_i hbig
            split at hc
            · rename_i c' e3
              split at hc
              · rename_i hcl
                simp at hc
                obtain ⟨rfl, rfl, rfl⟩ := hc
                obtain ⟨hu, ii, z, hi, hz, hsz, hby, hzs, hpos, hzl⟩ := rowInfo_eq e1
                obtain ⟨i2, z2, k1, k2, k3, k4, _⟩ := zeroSg_eq e2
                rw [hi] at k1; injection k1 with k1; subst k1
                rw [hz] at k2; injection k2 with k2; subst k2
                have hwf0 := sgWf_rep k4 len'
                obtain ⟨f1, f2⟩ := buildSg_fill hr hwf0 e3
                have hsize : sgSize c' = len' * sz' := by
                  have hs0 : sgSize c0 = sz' := by
                    have := congrArg List.length (k3 ids vals)
                    rw [sgCells_length k4] at this
                    rw [this]; simpa using hzs
                  rw [buildSg_size hr hwf0 e3, sgSize_rep, hs0]
                have hlen : (sgCells ids vals c').length = len' * sz' := by rw [sgCells_length f1, hsize]
                have hcells : sgCells ids vals c' = sgCells (fun _ => 0) (fun _ => .slice none 0 0) c' := sgClosed_cells hcl
                have hrunlit : (Instr.buildSlice t' len' (parts'.map fun (i, x) => (i, a.eval x))).run X.P w = .ok (.slice (some ⟨w.heap.size, 0, none⟩) len' len') (w.alloc (.cells (sgCells ids vals c').toArray e')) := by
                  by_cases h0 : len' = 0
                  · subst h0
                    have hnil : parts' = #[] ∨ parts' ≠ #[] := Classical.em _
                    have hc'0 : sgCells ids vals c' = [] := List.eq_nil_of_length_eq_zero (by simpa using hlen)
                    have hf : Instr.fill (fun i => some (i * sz', sz')) #[] (parts'.map fun (i, x) => (i, a.eval x)).toList = some #[] := by
                      have h3 := f2
                      simp only [List.replicate_zero, List.flatten_nil, sgCells, hc'0] at h3
                      rw [← hps] at h3
                      simpa [Array.toList_map] using h3
                    have hf2 : Instr.fill (fun i => some (i * ii.size, ii.size)) #[] (List.map (fun x => (x.1, a.eval x.2)) parts'.toList) = some #[] := by
                      rw [hsz]; simpa [Array.toList_map] using hf
                    simp [Instr.buildSlice, run_underlying hu, sizeOf, typeInfo, zeroValue, hi, hz, Array.range_zero', hf2, newRow, hc'0]
                  · have hf : Instr.fill (fun i => some (i * ii.size, ii.size)) ((Array.range (len' * ii.size)).map (z.cells[· % z.cells.size]!)) (parts'.map fun (i, x) => (i, a.eval x)).toList = some (sgCells ids vals c').toArray := by
                      rw [← f2, hsz]
                      congr 1
                      · apply Array.ext'
                        have hm := madeCells_rep z.cells (by omega) len'
                        rw [hzs] at hm
                        unfold madeCells at hm
                        rw [hm]
                        simp [sgCells_rep, k3]
                      · rw [← hps]; simp [Array.toList_map]
                    refine run_buildSlice w t' e' len' _ _ ii z hu hi hz (by rw [hsz]; simpa using hbig) ?_ hf
                    rw [hsz]
                    exact Nat.ne_of_gt (Nat.mul_pos (by omega) hpos)
                unfold Oper.wpIn
                refine ⟨fun _ _ => trivial, ?_⟩
                rw [Oper.semAt_plain (Fx X.rd) _ _ (by intro c hc; cases hc)]
                have hrun : (execOp a.eval ⟨some d, .buildSlice t' len' parts', type, pos, after, guard⟩).run X.P w = .ok (.value (.slice (some ⟨w.heap.size, 0, none⟩) len' len')) (w.alloc (.cells (sgCells ids vals c').toArray e')) := by
                  unfold execOp
                  simp only
                  rw [Sem.run_bind, hrunlit]
                  rfl
                rw [hrun]
                have hml : len' ≤ maxLen := by have := Nat.le_of_ble_eq_true hd.2; simp only [maxLen]; omega
                have hown := World.ownsRow_lit (e := e') (size := sz') (base := X.B) w (sgCells ids vals c').toArray len' hr.base hml (by simpa using hlen)
                have hr1 := hr.vecNew hd.1.2 (row := none) (drop := none) (.inl rfl) (vc := ⟨e', sz', len', sgCells (fun _ => 0) (fun _ => .slice none 0 0) c'⟩) (World.grownBy_alloc w _ none) (by rw [← hcells]; exact hown) (fun g hg => by
                  simp [Value.ownBlock] at hg; exact .inr (by omega))
                have hr2 := hr1.put (Eq.mp Nat.blt_eq hd.1.1) (x := .lf (.vec d)) trivial
                have ev : (SV.lf (.vec d)).val ids (upd vals d (.slice (some ⟨w.heap.size, 0, none⟩) len' len')) = (.slice (some ⟨w.heap.size, 0, none⟩) len' len') := by simp [SV.val, Lf.val, upd_same]
                rw [ev] at hr2
                exact next ids _ _ _ hr2
              · simp at hc
            · simp at hc
        · simp at hc
      · simp at hc
    · simp at hat
  · simp at hat
def makeAt (ops : Array Oper) (i : Nat) : Option (Option Nat × TypeId × Operand × Operand) :=
  match ops[i]? with
  | some o => match o.op with
    | .makeSlice t l c => some (o.dst, t, l, c)
    | _ => none
  | none => none
theorem TE_make {X ops i s Q} {lr : List Oper} {d : Nat} {t e : TypeId} {l c : Operand} {sz bytes : Nat} {zs cs : List Value} {k k' : IntKind} {z : Int} {n len2 : Nat} (hat : makeAt ops i = some (some d, t, l, c)) (hw : wantedAt ops s i = some true) (hd : (Nat.blt d X.N && s.fresh d) = true)
    (ht : rowInfo X.P t = some (e, sz, bytes, zs)) (hl : asV (evO s l) = some (.int k z)) (hc : asV (evO s c) = some (.int k' z)) (hz : z = (n : Int)) (hb : bytes * n ≤ 281474976710656) (hm : n ≤ maxLen) (hcs : (List.replicate n zs).flatten = cs) (hl2 : n = len2)
    (next : TL X ops lr { s with σ := (d, .lf (.vec d)) :: s.σ, V := (d, ⟨e, sz, len2, cs⟩) :: s.V } Q) : TE X ops i lr s Q := by
  subst hl2
  simp only [Bool.and_eq_true] at hd
  unfold makeAt at hat
  split at hat
  · rename_i o ho
    refine TE_op ho hw fun ids vals a w hr => ?_
    obtain ⟨dst, op, type, pos, after, guard⟩ := o
    simp only at hat
    split at hat
    · rename_i t' l' c'
      simp at hat
      obtain ⟨rfl, rfl, rfl, rfl⟩ := hat
      obtain ⟨hu, ii, z0, hi, hz0, hsz, hby, hzs, hpos, hzl⟩ := rowInfo_eq ht
      obtain ⟨w', q1, q2, q3⟩ := run_make_full (P := X.P) w X.B t' e ii z0 sz hu hi hz0 hsz k k' n (by rw [hby]; exact hb) hm hr.base
      subst hz
      unfold Oper.wpIn
      refine ⟨fun _ _ => trivial, ?_⟩
      rw [Oper.semAt_plain (Fx X.rd) _ _ (by intro c hc; cases hc)]
      have hrun : (execOp a.eval ⟨some d, .makeSlice t' l' c', type, pos, after, guard⟩).run X.P w = .ok (.value (.slice (some ⟨w.heap.size, 0, none⟩) n n)) w' := by
        unfold execOp
        simp only [hr.evV hl, hr.evV hc]
        rw [Sem.run_bind, q1]
        rfl
      rw [hrun]
      have e1 : (madeCells z0.cells (n * sz)).toList = cs := by
        rw [← hzs, madeCells_rep z0.cells (by omega) n, hzl, hcs]
      rw [e1] at q2
      have hr1 := hr.vecNew hd.2 (row := none) (drop := none) (.inl rfl) (vc := ⟨e, sz, n, cs⟩) q3 q2 (fun g hg => by
        simp [Value.ownBlock] at hg; exact .inr (by omega))
      have hr2 := hr1.put (Eq.mp Nat.blt_eq hd.1) (x := .lf (.vec d)) trivial
      have ev : (SV.lf (.vec d)).val ids (upd vals d (.slice (some ⟨w.heap.size, 0, none⟩) n n)) = (.slice (some ⟨w.heap.size, 0, none⟩) n n) := by simp [SV.val, Lf.val, upd_same]
      rw [ev] at hr2
      exact next ids _ _ _ hr2
    · simp at hat
  · simp at hat
theorem rep_ints (k : IntKind) (n : Nat) : (List.replicate n [Value.int k 0]).flatten = ints k (List.replicate n 0) := by
  induction n with
  | zero => rfl
  | succ n ih => rw [List.replicate_succ, List.flatten_cons, ih]; rfl
end Go.Proofs.Ythniebmammmacaa
namespace Go.Proofs.Ythniebmammmacaa
open Go.RowKit
theorem Rel.vecCell {X ids vals s a w} (h : Rel X ids vals s a w) {n : Nat} {v : Vc} (hv : look s.V n = some v) {j : Nat} {u : Value} (hu : v.cs[j]? = some u) : w.cell? ⟨(baseOf (vals n)).block, (baseOf (vals n)).off + j, none⟩ = some u := by
  obtain ⟨h1, h2⟩ := h.vecAt hv
  rcases h2 with ⟨h2, h3⟩ | ⟨g, c, cur, h2, h3, h4, h5, h6, h7, h8⟩
  · rw [h3, Nat.zero_mul] at h1
    have := List.eq_nil_of_length_eq_zero h1
    rw [this] at hu; simp at hu
  · have hh : cur[j]? = some u := by
      rw [← h8, List.getElem?_take] at hu
      split at hu
      · simpa using hu
      · simp at hu
    simp [h2, baseOf, World.cell?, h4, hh]
theorem OpV_idxV {X s o} {t e : TypeId} {x y : Operand} {n sz : Nat} {k' : IntKind} {z : Int} {v : Vc} (hop : o.op = .indexAddr t x y) (ht : X.P.underlying t = some (.slice e)) (hsz : szOf X.P e = some sz)
    (hx : evO s x = some (.lf (.vec n))) (hv : look s.V n = some v) (hy : asV (evO s y) = some (.int k' z)) (hz : 0 ≤ z ∧ z < v.len) : OpV X s o (.lf (.vel n sz z.toNat 0)) := by
  refine OpV_value (by rw [hop]; intro c hc; cases hc) fun ids vals a w hr => ?_
  have e1 := hr.ev hx
  unfold szOf at hsz
  cases hq : X.P.info? e with
  | none => simp [hq] at hsz
  | some i =>
    have hs : i.size = sz := by simpa [hq] using hsz
    obtain ⟨_, h2⟩ := hr.vecAt hv
    rcases h2 with ⟨_, h3⟩ | ⟨g, c, cur, h2, _⟩
    · rw [h3] at hz; omega
    · have hr1 : (Instr.indexAt t (.slice (some ⟨g, 0, none⟩) v.len c) (.int k' z)).run X.P w = .ok (.pointer (some ⟨g, 0 + z.toNat * sz, none⟩)) w := by
        simp [Instr.indexAt, asIntOf, Sem.run_bind, run_underlying ht, Sem.run_pure, hz.1, hz.2, sizeOf, typeInfo, program, Sem.run, hq, hs, Addr.add_mid]
      unfold execOp
      simp only [hop, e1, hr.evV hy, SV.val, Lf.val, h2]
      rw [Sem.run_bind, hr1]
      simp [Result.andThen, Sem.run_pure, elemPtr, baseOf]
theorem OpV_ldV {X s o} {t : TypeId} {d : TypeDesc} {x : Operand} {n sz i j : Nat} {v : Vc} {u : Value} (hop : o.op = .load t x) (ht : X.P.underlying t = some d) (hrow : d.isRow = false)
    (hx : evO s x = some (.lf (.vel n sz i j))) (hv : look s.V n = some v) (hu : v.cs[i * sz + j]? = some u) : OpV X s o (.lf (.v u)) := by
  refine OpV_value (by rw [hop]; intro c hc; cases hc) fun ids vals a w hr => ?_
  have e1 := hr.ev hx
  have hcell := hr.vecCell hv hu
  rw [← Nat.add_assoc] at hcell
  have hr1 := run_load_one (P := X.P) (w := w) ht hrow hcell
  unfold execOp
  simp only [hop, e1, SV.val, Lf.val, elemPtr]
  rw [Sem.run_bind, hr1]
  rfl
theorem rowsC_get {k : IntKind} {m : Nat} {R : List (List Int)} (h : ∀ r ∈ R, r.length = m) {i j : Nat} (hi : i < R.length) (hj : j < m) : (rowsC k R)[i * m + j]? = some (.int k ((R.getD i []).getD j 0)) := by
  have hlen : (R.getD i []).length = m := by rw [List.getD_eq_getElem?_getD, List.getElem?_eq_getElem hi]; exact h _ (List.getElem_mem hi)
  have h1 := rowsC_cells k h i j 1 hi (by omega)
  have h2 := congrArg (fun l : List Value => l[0]?) h1
  rw [List.getElem?_take_of_lt (by omega), List.getElem?_drop, Nat.add_zero] at h2
  rw [h2]
  generalize R.getD i [] = r at hlen
  simp [ints, List.getD_eq_getElem?_getD, List.getElem?_eq_getElem (show j < r.length by omega)]
theorem ints_get {k : IntKind} {L : List Int} {i : Nat} (hi : i < L.length) : (ints k L)[i]? = some (.int k (L.getD i 0)) := by simp [ints, List.getD_eq_getElem?_getD, List.getElem?_eq_getElem hi]
theorem OpV_ldVI {X s o} {t : TypeId} {d : TypeDesc} {x : Operand} {n i : Nat} {v : Vc} {k : IntKind} {L : List Int} (hop : o.op = .load t x) (ht : X.P.underlying t = some d) (hrow : d.isRow = false)
    (hx : evO s x = some (.lf (.vel n 1 i 0))) (hv : look s.V n = some v) (hc : v.cs = ints k L) (hi : i < L.length) : OpV X s o (.lf (.v (.int k (L.getD i 0)))) :=
  OpV_ldV hop ht hrow hx hv (by rw [hc, Nat.mul_one, Nat.add_zero]; exact ints_get hi)
def storeAt? (ops : Array Oper) (i : Nat) : Option (TypeId × Operand × Operand) :=
  match ops[i]? with
  | some o => match o.op, o.dst with
    | .store t p x, none => some (t, p, x)
    | _, _ => none
  | none => none
theorem storeAt?_eq {ops i t p x} (h : storeAt? ops i = some (t, p, x)) : ∃ o, ops[i]? = some o ∧ o.op = .store t p x ∧ o.dst = none := by
  unfold storeAt? at h
  split at h
  · rename_i o ho
    split at h
    · rename_i t' p' x' e1 e2
      simp at h
      obtain ⟨rfl, rfl, rfl⟩ := h
      exact ⟨o, ho, e1, e2⟩
    · simp at h
  · simp at h
theorem rel_putnone {X ids vals s a w} (h : Rel X ids vals s a w) (v : Value) : Rel X ids vals s (a.put none v) w := h
theorem Rel.setVec {X ids vals s a w} (h : Rel X ids vals s a w) {n : Nat} {v : Vc} (hv : look s.V n = some v) {g : Nat} {cur cur' : Array Value} (hg : (vals n).ownBlock = some g) {w' : World} {cs' : List Value}
    (hgr : w.grownBy w' (some g)) (hown : w'.ownsRow X.B v.e v.sz (vals n) v.len cs') : Rel X ids vals { s with V := (n, { v with cs := cs' }) :: s.V } a w' := by
  have rowB : X.B ≤ g := ((h.vec n v hv).lt g hg).1
  have keep : ∀ b, b ≠ g → ∀ o, w.heap[b]? = some o → w'.heap[b]? = some o := fun b hb o ho => by
    rw [hgr.block b (Array.getElem?_eq_some_iff.1 ho).1 (fun e => hb (by injection e))]; exact ho
  exact {
    size := h.size
    defers := h.defers
    att := h.att
    others := fun p hp => by
      obtain ⟨t0, t1, t2⟩ := h.others p hp
      refine ⟨t0, keep p.1 (fun e => ?_) _ t1, t2⟩
      obtain ⟨cur, ee, hh⟩ := h.own_ne hv hg
      rw [e, hh] at t1; injection t1 with t1; rw [← t1] at t2; cases t2
    marks := fun D hD => ⟨(h.marks D hD).1, keep D (fun e => by
      obtain ⟨cur, ee, hh⟩ := h.own_ne hv hg
      have := (h.marks D hD).2
      rw [e, hh] at this; simp at this) _ (h.marks D hD).2⟩
    onev := h.onev
    tmp := h.tmp
    blk := fun m c hc => by
      obtain ⟨w1, w2, w3, T, e⟩ := h.blk m c hc
      exact ⟨w1, w2, w3, T, keep _ (fun e' => (h.apart n v g hv hg).2.1 m c hc e') _ e⟩
    inj := h.inj
    vec := fun m u hu => by
      rw [look_cons] at hu
      split at hu
      · rename_i e; subst e; simp at hu; subst hu; exact hown
      · rename_i hne
        refine (h.vec m u hu).kept hgr ?_
        cases hb : (vals m).ownBlock with
        | none => exact .inl rfl
        | some g' =>
          refine .inr (fun e => ?_)
          injection e with e
          subst e
          exact (h.apart n v g' hv hg).2.2 m u hu (fun e => hne e.symm) hb
    apart := fun m u g' hu hb => by
      have : ∃ u', look s.V m = some u' := by
        rw [look_cons] at hu
        split at hu
        · rename_i e; subst e; exact ⟨v, hv⟩
        · exact ⟨u, hu⟩
      obtain ⟨u', hu'⟩ := this
      obtain ⟨a1, a2, a3⟩ := h.apart m u' g' hu' hb
      refine ⟨a1, a2, fun q x hq hne => ?_⟩
      rw [look_cons] at hq
      split at hq
      · rename_i e; subst e; exact a3 _ v hv hne
      · exact a3 q x hq hne
    mem := fun b c hb => by
      obtain ⟨T, fr, e⟩ := memOf_some.1 (h.mem b c hb)
      refine memOf_some.2 ⟨T, fr, keep b (fun e' => ?_) _ e⟩
      subst e'
      rw [(h.apart n v b hv hg).1] at hb; cases hb
    grow := h.grow
    below := h.below.trans ⟨hgr.os, hgr.tape, hgr.output, hgr.size, fun k hk => hgr.block k (Nat.lt_of_lt_of_le hk h.base) (fun e => by injection e with e; omega)⟩
    base := Nat.le_trans h.base hgr.size }
theorem TE_stV {X ops i s Q} {lr : List Oper} {t : TypeId} {p x : Operand} {n sz j q m len2 : Nat} {v : Vc} {y : SV} {c : List Sg} {cs2 : List Value} (hat : storeAt? ops i = some (t, p, x)) (hw : wantedAt ops s i = some true) (hsz : szOf X.P t = some m)
    (hp : evO s p = some (.lf (.vel n sz j q))) (hv : look s.V n = some v) (hle : j * sz + q + m ≤ v.len * v.sz) (hx : evO s x = some y) (hy : sgOfSV y = some c) (hcl : sgClosed c = true)
    (hc : v.cs.take (j * sz + q) ++ sgCells (fun _ => 0) (fun _ => .slice none 0 0) c ++ v.cs.drop (j * sz + q + m) = cs2) (hm : sgSize c = m ∧ 0 < m) (hl2 : v.len = len2)
    (next : TL X ops lr { s with V := (n, ⟨v.e, v.sz, len2, cs2⟩) :: s.V } Q) : TE X ops i lr s Q := by
  subst hl2
  obtain ⟨o, ho, hop, hdst⟩ := storeAt?_eq hat
  refine TE_op ho hw fun ids vals a w hr => ?_
  obtain ⟨ev, yw⟩ := evO_eq hr hx
  obtain ⟨n1, n2⟩ := sgOfSV_eq (ids := ids) hr.onev hy yw
  rw [sgClosed_cells (ids' := fun _ => 0) (vals' := fun _ => .slice none 0 0) hcl] at n2
  have ep := hr.ev hp
  obtain ⟨hl, h2⟩ := hr.vecAt hv
  rcases h2 with ⟨_, h3⟩ | ⟨g, cc, cur, h2, h3, h4, h5, h6, h7, h8⟩
  · rw [h3, Nat.zero_mul] at hle; omega
  · simp only [SV.val, Lf.val, h2, elemPtr, baseOf, Nat.zero_add] at ep
    have hcs : (y.val ids vals).cells.size = m := by
      have h := congrArg List.length n2
      rw [sgCells_length n1, hm.1] at h
      simpa using h.symm
    have hvl : v.len * v.sz ≤ cur.size := by rw [h7]; exact Nat.mul_le_mul_right _ h5
    have hst := run_store_own (P := X.P) (w := w) (b := g) (off := j * sz + q) (t := t) (T := v.e) (m := m) (v := y.val ids vals) (cur := cur.toList) hsz hcs (by simpa using h4) (by simp; omega)
      (fun u hu => by rw [← n2] at hu; exact sgWf_one (ids := fun _ => 0) (vals := fun _ => .slice none 0 0) (fun _ => rfl) n1 u hu)
    unfold Oper.wpIn
    refine ⟨fun _ _ => trivial, ?_⟩
    rw [Oper.semAt_plain (Fx X.rd) _ _ (by rw [hop]; intro c hc; cases hc)]
    have hrun : (execOp a.eval o).run X.P w = .ok .skip (w.setRow g (cur.toList.take (j * sz + q) ++ (y.val ids vals).cells.toList ++ cur.toList.drop (j * sz + q + m)).toArray) := by
      unfold execOp
      simp only [hop, ep, ev]
      rw [Sem.run_bind, hst]
      rfl
    rw [hrun]
    have hrel := hr.setVec (cur := cur) (cur' := cur) hv (g := g) (by rw [h2]; rfl) (w' := w.setRow g (cur.toList.take (j * sz + q) ++ (y.val ids vals).cells.toList ++ cur.toList.drop (j * sz + q + m)).toArray) (cs' := cs2)
      ⟨rfl, rfl, rfl, by simp [World.setRow], fun k _ hne => setRow_other w g k _ (fun e => hne (by rw [e]))⟩ ⟨by
        rw [← hc]
        have hsl : (sgCells (fun _ => 0) (fun _ => Value.slice none 0 0) c).length = m := by rw [sgCells_length n1, hm.1]
        simp only [List.length_append, List.length_take, List.length_drop, hsl, hl]; omega, .inr ⟨g, cc, _, h2, h3, setRow_heap w g cur _ v.e (0, 0) h4, h5, h6, by
          simp only [List.size_toArray, List.length_append, List.length_take, List.length_drop, Array.length_toList, hcs]; omega, by
          rw [← hc, ← h8, n2]
          simp only []
          have e1 : (List.take (v.len * v.sz) cur.toList).take (j * sz + q) = cur.toList.take (j * sz + q) := by rw [List.take_take, Nat.min_eq_left (by omega)]
          have hlen1 : (cur.toList.take (j * sz + q) ++ (y.val ids vals).cells.toList).length = j * sz + q + m := by
            simp only [List.length_append, List.length_take, Array.length_toList, hcs]; omega
          rw [e1, List.take_append, hlen1, List.take_of_length_le (l := cur.toList.take (j * sz + q) ++ (y.val ids vals).cells.toList) (by rw [hlen1]; omega)]
          congr 1
          rw [List.drop_take]⟩⟩
    exact next ids vals _ _ (by rw [hdst]; exact rel_putnone hrel _)
theorem set_ints {k : IntKind} {L : List Int} {i : Nat} {x : Int} (hi : i < L.length) : (ints k L).take i ++ [.int k x] ++ (ints k L).drop (i + 1) = ints k (L.set i x) := by
  rw [List.set_eq_take_append_cons_drop, if_pos hi]
  simp [ints, List.map_take, List.map_drop]
theorem OpV_ldP {X s o} {t : TypeId} {d : TypeDesc} {x : Operand} {b off : Nat} {v : Value} (hop : o.op = .load t x) (ht : X.P.underlying t = some d) (hrow : d.isRow = false)
    (hx : evO s x = some (.lf (.v (.pointer (some ⟨b, off, none⟩))))) (hv : memCell s.M b off = some v) : OpV X s o (.lf (.v v)) := by
  refine OpV_value (by rw [hop]; intro c hc; cases hc) fun ids vals a w hr => ?_
  have hr1 := run_load_one (P := X.P) (w := w) ht hrow (memCell_cell hr.mem hv)
  unfold execOp
  simp only [hop, hr.ev hx, SV.val, Lf.val]
  rw [Sem.run_bind, hr1]
  rfl
theorem OpV_ldPR {X s o} {t : TypeId} {d : TypeDesc} {x : Operand} {b off m : Nat} {c : List Sg} (hop : o.op = .load t x) (ht : X.P.underlying t = some d) (hrow : d.isRow = true) (hsz : szOf X.P t = some m)
    (hx : evO s x = some (.lf (.v (.pointer (some ⟨b, off, none⟩))))) (hcl : sgClosed c = true) (hm : (sgCells (fun _ => 0) (fun _ => .slice none 0 0) c).length = m) (hv : ∀ j u, (sgCells (fun _ => 0) (fun _ => .slice none 0 0) c)[j]? = some u → memCell s.M b (off + j) = some u) : OpV X s o (.agg c) := by
  refine OpV_value (by rw [hop]; intro c hc; cases hc) fun ids vals a w hr => ?_
  have hr1 := run_load_own (P := X.P) (w := w) ht hsz hm (fun j u hu => memCell_cell hr.mem (hv j u hu)) hrow
  unfold execOp
  simp only [hop, hr.ev hx, SV.val, Lf.val]
  rw [Sem.run_bind, hr1, sgClosed_cells (ids := ids) (vals := vals) (ids' := fun _ => 0) (vals' := fun _ => .slice none 0 0) hcl]
  rfl
def cutA (A : Option Addr) (c l sz : Nat) : Option Addr := if c = l then A else A.map (·.add (l * sz))
theorem SlC.drop {M A cs} {c l sz : Nat} (h : SlC M A cs) (hl : cs.drop (l * sz) ≠ [] → l < c) : SlC M (cutA A c l sz) (cs.drop (l * sz)) := by
  by_cases hn : cs.drop (l * sz) = []
  · exact .inl hn
  · rcases h with rfl | ⟨b, o, rfl, h⟩
    · simp at hn
    · have := hl hn
      refine .inr ⟨b, o + l * sz, ?_, fun j v hv => ?_⟩
      · unfold cutA
        rw [if_neg (by omega)]
        simp [Addr.add_mid]
      · rw [List.getElem?_drop] at hv
        rw [Nat.add_assoc]
        exact h _ _ hv
theorem SlC.take {M A cs} (h : SlC M A cs) (m : Nat) : SlC M A (cs.take m) := by
  rcases h with rfl | ⟨b, o, rfl, h⟩
  · exact .inl (by simp)
  · refine .inr ⟨b, o, rfl, fun j v hv => ?_⟩
    rw [List.getElem?_take] at hv
    split at hv
    · exact h j v hv
    · simp at hv
theorem SlI.cut {M A c k L} (h : SlI M A c k L) {l q : Nat} (hl : l ≤ q) (hq : q ≤ L.length) : SlI M (cutA A c l 1) (c - l) k ((L.drop l).take (q - l)) := by
  have e : ints k ((L.drop l).take (q - l)) = ((ints k L).drop (l * 1)).take (q - l) := by simp [ints, List.map_take, List.map_drop]
  refine ⟨?_, by have := h.2; simp; omega⟩
  rw [e]
  exact (h.1.drop (fun hne => by
    have : ¬ (ints k L).length ≤ l * 1 := fun hh => hne (List.drop_eq_nil_of_le hh)
    rw [ints_length] at this
    have := h.2; omega)).take _
theorem rowsC_drop {k : IntKind} {m : Nat} : ∀ {R : List (List Int)} {l : Nat}, (∀ r ∈ R, r.length = m) → rowsC k (R.drop l) = (rowsC k R).drop (l * m)
  | [], l, _ => by simp [rowsC]
  | r :: R, 0, _ => by simp
  | r :: R, l + 1, h => by
    have ih := rowsC_drop (k := k) (R := R) (l := l) (fun x hx => h x (List.mem_cons_of_mem _ hx))
    simp only [List.drop_succ_cons, ih]
    simp only [rowsC, List.map_cons, List.flatten_cons]
    rw [Nat.succ_mul, List.drop_append, List.drop_eq_nil_of_le («as» := ints k r) (by rw [ints_length, h r (by simp)]; omega), List.nil_append, ints_length, h r (by simp), show l * m + m - m = l * m from by omega]
theorem rowsC_take {k : IntKind} {m : Nat} : ∀ {R : List (List Int)} {l : Nat}, (∀ r ∈ R, r.length = m) → rowsC k (R.take l) = (rowsC k R).take (l * m)
  | [], l, _ => by simp [rowsC]
  | r :: R, 0, _ => by simp [rowsC]
  | r :: R, l + 1, h => by
    have ih := rowsC_take (k := k) (R := R) (l := l) (fun x hx => h x (List.mem_cons_of_mem _ hx))
    simp only [List.take_succ_cons]
    simp only [rowsC, List.map_cons, List.flatten_cons] at ih ⊢
    rw [ih, Nat.succ_mul, List.take_append, List.take_of_length_le (l := ints k r) (by rw [ints_length, h r (by simp)]; omega), ints_length, h r (by simp), show l * m + m - m = l * m from by omega]
theorem SlR.cut {M A c k m R} (h : SlR M A c k m R) (hm : Nat.blt 0 m = true) {l q : Nat} (hl : l ≤ q) (hq : q ≤ R.length) : SlR M (cutA A c l m) (c - l) k m ((R.drop l).take (q - l)) := by
  have hd : ∀ r ∈ R.drop l, r.length = m := fun r hr => h.1 r (List.mem_of_mem_drop hr)
  refine ⟨fun r hr => hd r (List.mem_of_mem_take hr), ?_, by have := h.2.2; simp; omega⟩
  rw [rowsC_take hd, rowsC_drop h.1]
  exact (h.2.1.drop (fun hne => by
    have h1 : ¬ (rowsC k R).length ≤ l * m := fun hh => hne (List.drop_eq_nil_of_le hh)
    rw [rowsC_length h.1] at h1
    have h2 : ¬ R.length ≤ l := fun hh => h1 (Nat.mul_le_mul_right _ hh)
    have := h.2.2; omega)).take _
def bndOf (s : St) (dflt : Nat) : Option Operand → Option Nat
  | none => some dflt
  | some y => match asV (evO s y) with
    | some (.int _ z) => some z.toNat
    | _ => none
def bndOk (s : St) : Option Operand → Prop
  | none => True
  | some y => ∃ k z, asV (evO s y) = some (.int k z) ∧ 0 ≤ z
theorem bnd_run {X ids vals s a w} (h : Rel X ids vals s a w) {y : Option Operand} {dflt l : Nat} (h1 : bndOf s dflt y = some l) (h2 : bndOk s y) : (y = none ∧ l = dflt) ∨ ∃ y' k z, y = some y' ∧ a.eval y' = .int k z ∧ 0 ≤ z ∧ z.toNat = l := by
  cases y with
  | none => simp [bndOf] at h1; exact .inl ⟨rfl, h1.symm⟩
  | some y' =>
    obtain ⟨k, z, e, hz⟩ := h2
    simp [bndOf, e] at h1
    exact .inr ⟨y', k, z, rfl, h.evV e, hz, h1⟩
theorem OpV_sl {X s o} {t e : TypeId} {x : Operand} {lo hi : Option Operand} {A : Option Addr} {n c sz l q : Nat} (hop : o.op = .slice t x lo hi none) (ht : X.P.underlying t = some (.slice e)) (hsz : szOf X.P e = some sz)
    (hx : evO s x = some (.lf (.v (.slice A n c)))) (hl : bndOf s 0 lo = some l) (hl2 : bndOk s lo) (hq : bndOf s n hi = some q) (hq2 : bndOk s hi) (h1 : l ≤ q) (h2 : q ≤ n) (h3 : n ≤ c) : OpV X s o (.lf (.v (.slice (cutA A c l sz) (q - l) (c - l)))) := by
  refine OpV_value (by rw [hop]; intro c hc; cases hc) fun ids vals a w hr => ?_
  have e1 := hr.ev hx
  unfold szOf at hsz
  cases hqq : X.P.info? e with
  | none => simp [hqq] at hsz
  | some i =>
    have hs : i.size = sz := by simpa [hqq] using hsz
    have hb : ∀ (k : IntKind) (z : Int) (y : Nat) (code : BoundsCode), 0 ≤ z → z.toNat ≤ y → (Instr.sliceBound (.int k z) y code).run X.P w = .ok z.toNat w := by
      intro k z y code h0 hy
      have h0y : 0 ≤ z ∧ z ≤ (y : Int) := ⟨h0, by omega⟩
      simp [Instr.sliceBound, asIntOf, Sem.run_bind, Sem.run_pure, h0y]
    have hbs : (Instr.sliceBounds true n c (lo.map a.eval) (hi.map a.eval) none).run X.P w = .ok (l, q, c) w := by
      rcases bnd_run hr hl hl2 with ⟨rfl, rfl⟩ | ⟨y1, k1, z1, rfl, ey1, p1, rfl⟩ <;> rcases bnd_run hr hq hq2 with ⟨rfl, rfl⟩ | ⟨y2, k2, z2, rfl, ey2, p2, rfl⟩
      · simp [Instr.sliceBounds, Sem.run_bind, Sem.run_pure]
      · simp [Instr.sliceBounds, Sem.run_bind, Sem.run_pure, ey2, hb k2 z2 c _ p2 (by omega)]
      · simp [Instr.sliceBounds, Sem.run_bind, Sem.run_pure, ey1, hb k1 z1 q _ p1 h1]
      · simp [Instr.sliceBounds, Sem.run_bind, Sem.run_pure, ey1, ey2, hb k2 z2 c _ p2 (by omega), hb k1 z1 z2.toNat _ p1 h1]
    have hrs : (Instr.sliceAt t (.slice A n c) (lo.map a.eval) (hi.map a.eval) none).run X.P w = .ok (.slice (cutA A c l sz) (q - l) (c - l)) w := by
      unfold Instr.sliceAt
      simp only [Sem.run_bind, run_underlying ht, Result.andThen_ok]
      unfold Instr.slice
      simp only [Sem.run_bind, run_underlying ht, Result.andThen_ok, hbs]
      simp [sizeOf, typeInfo, program, Sem.run_bind, Sem.run, hqq, hs, Sem.run_pure, cutA]
    unfold execOp
    simp only [hop, e1, SV.val, Lf.val, Option.map_none]
    rw [Sem.run_bind, hrs]
    rfl
theorem OpV_slA {X s o} {t e : TypeId} {x : Operand} {b off n : Nat} (hop : o.op = .slice t x none none none) (ht : X.P.underlying t = some (.array n e)) (hsz : (szOf X.P e).isSome = true) (hn : Nat.blt 0 n = true)
    (hx : evO s x = some (.lf (.v (.pointer (some ⟨b, off, none⟩))))) : OpV X s o (.lf (.v (.slice (some ⟨b, off, none⟩) n n))) := by
  refine OpV_value (by rw [hop]; intro c hc; cases hc) fun ids vals a w hr => ?_
  have e1 := hr.ev hx
  have hn' : n ≠ 0 := by have := Eq.mp Nat.blt_eq hn; omega
  unfold szOf at hsz
  cases hqq : X.P.info? e with
  | none => simp [hqq] at hsz
  | some i =>
    have hrs : (Instr.sliceAt t (.pointer (some ⟨b, off, none⟩)) none none none).run X.P w = .ok (.slice (some ⟨b, off, none⟩) n n) w := by
      simp [Instr.sliceAt, Sem.run_bind, run_underlying ht, Instr.sureAddr, Sem.run_pure, Instr.sliceBounds, sizeOf, typeInfo, program, Sem.run, hqq, hn', Addr.add_mid]
    unfold execOp
    simp only [hop, e1, SV.val, Lf.val, Option.map_none]
    rw [Sem.run_bind, hrs]
    rfl
end Go.Proofs.Ythniebmammmacaa
namespace Go.Proofs.Ythniebmammmacaa
open Go.RowKit
def Lf.pubH (n b : Nat) : Lf → Lf
  | .own m o => match Nat.beq m n with | true => .v (.pointer (some ⟨b, o, none⟩)) | false => .own m o
  | .oel m o => match Nat.beq m n with | true => .v (.pointer (some ⟨b, o, none⟩)) | false => .oel m o
  | l => l
def Lf.pubV (n : Nat) (A : Option Addr) (len c : Nat) : Lf → Lf
  | .vec m => match Nat.beq m n with | true => .v (.slice A len c) | false => .vec m
  | .vel m sz i j => match Nat.beq m n with | true => .ep (.slice A len c) sz i j | false => .vel m sz i j
  | l => l
def sgMap (f : Lf → Lf) : List Sg → List Sg
  | [] => []
  | .one l :: r => .one (f l) :: sgMap f r
  | .arr k n L :: r => .arr k n L :: sgMap f r
def tupMap (f : Lf → Lf) : List (Option Lf × List Sg) → List (Option Lf × List Sg)
  | [] => []
  | (some l, s) :: r => (some (f l), s) :: tupMap f r
  | (none, s) :: r => (none, sgMap f s) :: tupMap f r
def SV.map (f : Lf → Lf) : SV → SV
  | .lf l => .lf (f l)
  | .agg s => .agg (sgMap f s)
  | .tup l => .tup (tupMap f l)
def mapσ (f : Lf → Lf) : List (Nat × SV) → List (Nat × SV)
  | [] => []
  | (t, x) :: r => (t, x.map f) :: mapσ f r
def mapH (f : Lf → Lf) : List (Nat × List Sg) → List (Nat × List Sg)
  | [] => []
  | (t, x) :: r => (t, sgMap f x) :: mapH f r
def dropH (n : Nat) : List (Nat × List Sg) → List (Nat × List Sg)
  | [] => []
  | (m, v) :: r => match Nat.beq m n with | true => dropH n r | false => (m, v) :: dropH n r
theorem look_dropH {n t : Nat} {u : List Sg} : ∀ {l : List (Nat × List Sg)}, look (dropH n l) t = some u → look l t = some u ∧ t ≠ n
  | [], h => by simp [dropH, look] at h
  | (m, v) :: r, h => by
    simp only [dropH] at h
    cases hb : Nat.beq m n with
    | true =>
      rw [hb] at h
      simp only at h
      obtain ⟨h1, h2⟩ := look_dropH h
      refine ⟨?_, h2⟩
      rw [look_cons, if_neg (by rw [Nat.eq_of_beq_eq_true hb]; exact fun e => h2 e.symm)]
      exact h1
    | false =>
      rw [hb] at h
      simp only at h
      rw [look_cons] at h ⊢
      split at h
      · rename_i e; subst e; exact ⟨by simpa using h, beq_ne.1 hb⟩
      · rename_i e
        rw [if_neg e]
        exact look_dropH h
theorem look_mapσ {f : Lf → Lf} {t : Nat} {x : SV} : ∀ {l : List (Nat × SV)}, look (mapσ f l) t = some x → ∃ y, look l t = some y ∧ x = y.map f
  | [], h => by simp [mapσ, look] at h
  | (m, v) :: r, h => by
    simp only [mapσ] at h
    rw [look_cons] at h ⊢
    split at h
    · rename_i e; rw [if_pos e]; simp at h; exact ⟨v, rfl, h.symm⟩
    · rename_i e; rw [if_neg e]; exact look_mapσ h
theorem look_mapH {f : Lf → Lf} {t : Nat} {x : List Sg} : ∀ {l : List (Nat × List Sg)}, look (mapH f l) t = some x → ∃ y, look l t = some y ∧ x = sgMap f y
  | [], h => by simp [mapH, look] at h
  | (m, v) :: r, h => by
    simp only [mapH] at h
    rw [look_cons] at h ⊢
    split at h
    · rename_i e; rw [if_pos e]; simp at h; exact ⟨v, rfl, h.symm⟩
    · rename_i e; rw [if_neg e]; exact look_mapH h
theorem sgMap_cells {f : Lf → Lf} {ids ids' : Nat → Nat} {vals vals' : Nat → Value} (hv : ∀ l : Lf, (f l).val ids' vals' = l.val ids vals) : ∀ c : List Sg, sgCells ids' vals' (sgMap f c) = sgCells ids vals c
  | [] => rfl
  | .one l :: r => by simp only [sgMap, sgCells, Sg.cells, hv, sgMap_cells hv r]
  | .arr k n L :: r => by simp only [sgMap, sgCells, Sg.cells, sgMap_cells hv r]
theorem tupMap_val {f : Lf → Lf} {ids ids' : Nat → Nat} {vals vals' : Nat → Value} (hv : ∀ l : Lf, (f l).val ids' vals' = l.val ids vals) : ∀ l : List (Option Lf × List Sg), (tupMap f l).map (tupVal ids' vals') = l.map (tupVal ids vals)
  | [] => rfl
  | (some l, s) :: r => by simp only [tupMap, List.map_cons, tupVal, hv, tupMap_val hv r]
  | (none, s) :: r => by simp only [tupMap, List.map_cons, tupVal, sgMap_cells hv, tupMap_val hv r]
theorem SV.map_val {f : Lf → Lf} {ids ids' : Nat → Nat} {vals vals' : Nat → Value} (hv : ∀ l : Lf, (f l).val ids' vals' = l.val ids vals) (x : SV) : (x.map f).val ids' vals' = x.val ids vals := by
  cases x with
  | lf l => exact hv l
  | agg s => simp only [SV.map, SV.val, sgMap_cells hv]
  | tup l => simp only [SV.map, SV.val, tupMap_val hv]
theorem sgMap_wf {f : Lf → Lf} (hs : ∀ l : Lf, l.storable = true → (f l).storable = true) : ∀ {c : List Sg}, sgWf c → sgWf (sgMap f c)
  | [], _ => trivial
  | .one l :: r, h => ⟨hs l h.1, sgMap_wf hs h.2⟩
  | .arr k n L :: r, h => ⟨h.1, sgMap_wf hs h.2⟩
theorem tupMap_wf {f : Lf → Lf} (hs : ∀ l : Lf, l.storable = true → (f l).storable = true) : ∀ {l : List (Option Lf × List Sg)}, (∀ x ∈ l, tupWf x) → ∀ x ∈ tupMap f l, tupWf x
  | [], _, x, hx => by simp [tupMap] at hx
  | (some l, s) :: r, h, x, hx => by
    simp only [tupMap, List.mem_cons] at hx
    rcases hx with rfl | hx
    · trivial
    · exact tupMap_wf hs (fun y hy => h y (List.mem_cons_of_mem _ hy)) x hx
  | (none, s) :: r, h, x, hx => by
    simp only [tupMap, List.mem_cons] at hx
    rcases hx with rfl | hx
    · exact sgMap_wf hs (h _ (List.mem_cons_self ..))
    · exact tupMap_wf hs (fun y hy => h y (List.mem_cons_of_mem _ hy)) x hx
theorem SV.map_wf {f : Lf → Lf} (hs : ∀ l : Lf, l.storable = true → (f l).storable = true) {x : SV} (h : x.wf) : (x.map f).wf := by
  cases x with
  | lf l => trivial
  | agg s => exact sgMap_wf hs h
  | tup l => exact tupMap_wf hs h
theorem pubH_val {n b : Nat} {ids vals} (h : ids n = b) (l : Lf) : (l.pubH n b).val ids vals = l.val ids vals := by
  cases l <;> try rfl
  all_goals
    simp only [Lf.pubH]
    split
    · rename_i e; rw [Nat.eq_of_beq_eq_true e]; simp [Lf.val, h]
    · rfl
theorem pubH_storable {n b : Nat} (l : Lf) (h : l.storable = true) : (l.pubH n b).storable = true := by
  cases l <;> try exact h
  all_goals
    simp only [Lf.pubH]
    split
    · rfl
    · exact h
theorem pubV_val {n : Nat} {A len c} {ids vals} (h : vals n = .slice A len c) (l : Lf) : (l.pubV n A len c).val ids vals = l.val ids vals := by
  cases l <;> try rfl
  all_goals
    simp only [Lf.pubV]
    split
    · rename_i e; rw [Nat.eq_of_beq_eq_true e]; simp [Lf.val, h]
    · rfl
theorem pubV_storable {n : Nat} {A len c} (l : Lf) (h : l.storable = true) : (l.pubV n A len c).storable = true := by
  cases l with
  | vec m =>
    simp only [Lf.pubV]
    split
    · rfl
    · exact h
  | vel m sz i j => simp [Lf.storable] at h
  | _ => exact h
def addM (M : Mem) (b : Nat) (c : Array Value) : Mem := fun x => if x = b then some c else M x
theorem addM_le {M : Mem} {b : Nat} {c : Array Value} (h : M b = none) : Mem.le M (addM M b c) := fun x y hx => by
  unfold addM
  split
  · rename_i e; subst e; rw [h] at hx; cases hx
  · exact hx
theorem addM_ne {M : Mem} {b x : Nat} {c : Array Value} (h : x ≠ b) : addM M b c x = M x := by simp [addM, h]
theorem addM_some {M : Mem} {b x : Nat} {c d : Array Value} (h : addM M b c x = some d) : (x = b ∧ c = d) ∨ M x = some d := by
  unfold addM at h
  split at h
  · rename_i e; exact .inl ⟨e, by simpa using h⟩
  · exact .inr h
theorem addM_nne {M : Mem} {b x : Nat} {c : Array Value} (h : addM M b c x ≠ none) : x = b ∨ M x ≠ none := by
  unfold addM at h
  split at h
  · rename_i e; exact .inl e
  · exact .inr h
theorem addM_at (M : Mem) (b : Nat) (c : Array Value) : addM M b c b = some c := by simp [addM]
theorem memCell_add {M : Mem} {b : Nat} {c : Array Value} {j : Nat} {v : Value} (h : c[j]? = some v) : memCell (addM M b c) b j = some v := by simp [memCell, addM_at, h]
theorem Rel.pubH {X ids vals s a w} (h : Rel X ids vals s a w) {n : Nat} {c : List Sg} (hc : look s.H n = some c) (hcl : sgClosed c = true) :
    Rel X ids vals { σ := mapσ (Lf.pubH n (ids n)) s.σ, H := mapH (Lf.pubH n (ids n)) (dropH n s.H), V := s.V, M := addM s.M (ids n) (sgCells (fun _ => 0) (fun _ => .slice none 0 0) c).toArray, ds := s.ds, os := s.os, ats := s.ats } a w := by
  obtain ⟨w1, w2, w3, T, e⟩ := h.blk n c hc
  have hv := pubH_val (vals := vals) (n := n) (ids := ids) rfl
  have hs := pubH_storable (n := n) (b := ids n)
  exact {
    size := h.size
    defers := h.defers
    marks := h.marks
    others := h.others
    att := h.att
    onev := h.onev
    tmp := fun t x hx => by
      obtain ⟨y, hy, rfl⟩ := look_mapσ hx
      obtain ⟨e1, e2⟩ := h.tmp t y hy
      exact ⟨by rw [SV.map_val hv]; exact e1, SV.map_wf hs e2⟩
    blk := fun m d hd => by
      obtain ⟨y, hy, rfl⟩ := look_mapH hd
      obtain ⟨h1, h2⟩ := look_dropH hy
      obtain ⟨u1, u2, u3, T', u4⟩ := h.blk m y h1
      refine ⟨sgMap_wf hs u1, u2, ?_, T', by rw [sgMap_cells hv]; exact u4⟩
      exact (addM_ne (fun e => h2 (h.inj m n y c h1 hc e))).trans u3
    inj := fun m k x y hx hy e => by
      obtain ⟨x', hx', _⟩ := look_mapH hx
      obtain ⟨y', hy', _⟩ := look_mapH hy
      exact h.inj m k x' y' (look_dropH hx').1 (look_dropH hy').1 e
    vec := h.vec
    apart := fun m v g hv2 hg => by
      obtain ⟨a1, a2, a3⟩ := h.apart m v g hv2 hg
      refine ⟨?_, fun k d hd => ?_, a3⟩
      · exact (addM_ne (fun e => a2 n c hc e.symm)).trans a1
      · obtain ⟨y, hy, _⟩ := look_mapH hd
        exact a2 k y (look_dropH hy).1
    mem := fun b cc hb => by
      rcases addM_some hb with ⟨rfl, rfl⟩ | hb
      · exact memOf_some.2 ⟨T, (0, 0), by rw [sgClosed_cells (ids' := ids) (vals' := vals) hcl]; exact e⟩
      · exact h.mem b cc hb
    grow := ⟨Mem.le_trans h.grow.1 (addM_le w3), fun b hb hne => by
      rcases addM_nne hne with rfl | hne
      · exact w2
      · exact h.grow.2 b hb hne⟩
    below := h.below
    base := h.base }
theorem Rel.pubV {X ids vals s a w} (h : Rel X ids vals s a w) {n : Nat} {v : Vc} (hn : look s.V n = some v) : ∃ A c M', vals n = .slice A v.len c ∧ Mem.le s.M M' ∧ SlC M' A v.cs ∧ v.len ≤ c ∧ v.cs.length = v.len * v.sz ∧ ((∀ b, s.M b = none → M' b ≠ none → X.B ≤ b) ∧ ∀ g o p, A = some ⟨g, o, p⟩ → s.M g = none) ∧
    Rel X ids vals { σ := mapσ (Lf.pubV n A v.len c) s.σ, H := mapH (Lf.pubV n A v.len c) s.H, V := dropV n s.V, M := M', ds := s.ds, os := s.os, ats := s.ats } a w := by
  obtain ⟨hl, h2⟩ := h.vecAt hn
  have main : ∀ A c M', vals n = .slice A v.len c → Mem.le s.M M' → Mem.le M' (memOf w) → (∀ b, s.M b = none → M' b ≠ none → ∃ g, A = some ⟨g, 0, none⟩ ∧ b = g) →
      Rel X ids vals { σ := mapσ (Lf.pubV n A v.len c) s.σ, H := mapH (Lf.pubV n A v.len c) s.H, V := dropV n s.V, M := M', ds := s.ds, os := s.os, ats := s.ats } a w := by
    intro A c M' e hM hM2 hM3
    have hv := pubV_val (ids := ids) (vals := vals) (n := n) e
    have hs := pubV_storable (n := n) (A := A) (len := v.len) (c := c)
    have hgn : ∀ g, A = some ⟨g, 0, none⟩ → (vals n).ownBlock = some g := fun g hg => by rw [e, hg]; rfl
    exact {
      size := h.size
      defers := h.defers
      marks := h.marks
      others := h.others
      att := h.att
      onev := h.onev
      tmp := fun t x hx => by
        obtain ⟨y, hy, rfl⟩ := look_mapσ hx
        obtain ⟨e1, e2⟩ := h.tmp t y hy
        exact ⟨by rw [SV.map_val hv]; exact e1, SV.map_wf hs e2⟩
      blk := fun m d hd => by
        obtain ⟨y, hy, rfl⟩ := look_mapH hd
        obtain ⟨u1, u2, u3, T', u4⟩ := h.blk m y hy
        refine ⟨sgMap_wf hs u1, u2, ?_, T', by rw [sgMap_cells hv]; exact u4⟩
        cases hm : M' (ids m) with
        | none => exact hm
        | some cc =>
          obtain ⟨g, e1, e2⟩ := hM3 (ids m) u3 (by rw [hm]; simp)
          exact absurd e2 ((h.apart n v g hn (hgn g e1)).2.1 m y hy)
      inj := fun m k x y hx hy e => by
        obtain ⟨x', hx', _⟩ := look_mapH hx
        obtain ⟨y', hy', _⟩ := look_mapH hy
        exact h.inj m k x' y' hx' hy' e
      vec := fun m u hu => h.vec m u (look_dropV hu).1
      apart := fun m u g hu hg => by
        obtain ⟨h3, h4⟩ := look_dropV hu
        obtain ⟨a1, a2, a3⟩ := h.apart m u g h3 hg
        refine ⟨?_, fun k d hd => ?_, fun k x hk hne => a3 k x (look_dropV hk).1 hne⟩
        · cases hm : M' g with
          | none => exact hm
          | some cc =>
            obtain ⟨g', e1, e2⟩ := hM3 g a1 (by rw [hm]; simp)
            subst e2
            exact absurd (hgn g e1) (a3 n v hn (fun e => h4 e.symm))
        · obtain ⟨y, hy, _⟩ := look_mapH hd
          exact a2 k y hy
      mem := hM2
      grow := ⟨Mem.le_trans h.grow.1 hM, fun b hb hne => by
        cases hsb : s.M b with
        | none =>
          obtain ⟨g, e1, e2⟩ := hM3 b hsb hne
          subst e2
          exact ((h.vec n v hn).lt b (hgn b e1)).1
        | some cc => exact h.grow.2 b hb (by rw [hsb]; simp)⟩
      below := h.below
      base := h.base }
  rcases h2 with ⟨e, h3⟩ | ⟨g, c, cur, e, h3, h4, h5, h6, h7, h8⟩
  · have hcs : v.cs = [] := List.eq_nil_of_length_eq_zero (by rw [hl, h3, Nat.zero_mul])
    exact ⟨none, 0, s.M, by rw [e, h3], Mem.le_refl _, .inl hcs, by omega, hl, ⟨fun b hb hne => absurd hb hne, fun g o p e => by cases e⟩, main none 0 s.M (by rw [e, h3]) (Mem.le_refl _) h.mem (fun b hb hne => absurd hb hne)⟩
  · have hg0 : s.M g = none := (h.apart n v g hn (by rw [e]; rfl)).1
    refine ⟨some ⟨g, 0, none⟩, c, addM s.M g cur, e, addM_le hg0, .inr ⟨g, 0, rfl, fun j u hu => ?_⟩, h5, hl, ⟨fun b hb hne => ?_, fun g' o p e' => by cases e'; exact hg0⟩, main _ c _ e (addM_le hg0) ?_ ?_⟩
    · rw [Nat.zero_add]
      refine memCell_add ?_
      rw [← h8, List.getElem?_take] at hu
      split at hu
      · simpa using hu
      · simp at hu
    · rcases addM_nne hne with rfl | hne
      · exact h3
      · exact absurd hb hne
    · intro b cc hb
      rcases addM_some hb with ⟨rfl, rfl⟩ | hb
      · exact memOf_some.2 ⟨v.e, (0, 0), h4⟩
      · exact h.mem b cc hb
    · intro b hb hne
      rcases addM_nne hne with rfl | hne
      · exact ⟨_, rfl, rfl⟩
      · exact absurd hb hne
def Turn (X : Cx) (s : St) (F : St → Prop) : Prop := ∀ ids vals a w, Rel X ids vals s a w → ∃ s' ids' vals', F s' ∧ Rel X ids' vals' s' a w
theorem T_turn {X c s F Q} (h : Turn X s F) (h1 : ∀ s', F s' → T X c s' Q) : T X c s Q := fun ids vals a w hr => by
  obtain ⟨s', ids', vals', hf, hr'⟩ := h ids vals a w hr
  exact h1 s' hf ids' vals' a w hr'
theorem TL_turn {X ops l s F Q} (h : Turn X s F) (h1 : ∀ s', F s' → TL X ops l s' Q) : TL X ops l s Q := fun ids vals a w hr => by
  obtain ⟨s', ids', vals', hf, hr'⟩ := h ids vals a w hr
  exact h1 s' hf ids' vals' a w hr'
theorem TI_turn {X ops i s F Q} (h : Turn X s F) (h1 : ∀ s', F s' → TI X ops i s' Q) : TI X ops i s Q := TL_turn h h1
def pubHF (X : Cx) (s : St) (n : Nat) (c : List Sg) : St → Prop := fun s' => ∃ b M', s' = { σ := mapσ (Lf.pubH n b) s.σ, H := mapH (Lf.pubH n b) (dropH n s.H), V := s.V, M := M', ds := s.ds, os := s.os, ats := s.ats } ∧ s.M b = none ∧ M' = addM s.M b (sgCells (fun _ => 0) (fun _ => .slice none 0 0) c).toArray ∧ X.B ≤ b ∧ Mem.le s.M M'
theorem turn_pubH {X s} (n : Nat) {c : List Sg} (hc : look s.H n = some c) (hcl : sgClosed c = true) : Turn X s (pubHF X s n c) := fun ids vals a w hr =>
  ⟨_, ids, vals, ⟨ids n, _, rfl, (hr.blk n c hc).2.2.1, rfl, (hr.blk n c hc).2.1, addM_le (hr.blk n c hc).2.2.1⟩, hr.pubH hc hcl⟩
def pubVF (X : Cx) (s : St) (n : Nat) (v : Vc) : St → Prop := fun s' => ∃ A c M', s' = { σ := mapσ (Lf.pubV n A v.len c) s.σ, H := mapH (Lf.pubV n A v.len c) s.H, V := dropV n s.V, M := M', ds := s.ds, os := s.os, ats := s.ats } ∧ SlC M' A v.cs ∧ v.len ≤ c ∧ v.cs.length = v.len * v.sz ∧ ((∀ b, s.M b = none → M' b ≠ none → X.B ≤ b) ∧ ∀ g o p, A = some ⟨g, o, p⟩ → s.M g = none) ∧ Mem.le s.M M'
theorem turn_pubV {X s} (n : Nat) {v : Vc} (hn : look s.V n = some v) : Turn X s (pubVF X s n v) := fun ids vals a w hr => by
  obtain ⟨A, c, M', h1, h2, h3, h4, h5, h6, h7⟩ := hr.pubV hn
  exact ⟨_, ids, vals, ⟨A, c, M', rfl, h3, h4, h5, h6, h2⟩, h7⟩
def Lf.unV (n : Nat) : Lf → Lf
  | .vec m => match Nat.beq m n with | true => .v (.slice none 0 0) | false => .vec m
  | .vel m sz i j => match Nat.beq m n with | true => .ep (.slice none 0 0) sz i j | false => .vel m sz i j
  | l => l
theorem unV_val {n : Nat} {ids vals} (l : Lf) : (l.unV n).val ids vals = l.val ids (upd vals n (.slice none 0 0)) := by
  cases l with
  | vec m =>
    simp only [Lf.unV]
    split
    · rename_i e; rw [Nat.eq_of_beq_eq_true e]; simp [Lf.val, upd_same]
    · rename_i e; simp [Lf.val, upd_other (beq_ne.1 e)]
  | vel m sz i j =>
    simp only [Lf.unV]
    split
    · rename_i e; rw [Nat.eq_of_beq_eq_true e]; simp [Lf.val, upd_same]
    · rename_i e; simp [Lf.val, upd_other (beq_ne.1 e)]
  | _ => rfl
theorem unV_wf {n : Nat} : ∀ {c : List Sg}, sgWf (sgMap (Lf.unV n) c) → sgWf c
  | [], _ => trivial
  | .one l :: r, h => ⟨by
    have h1 := h.1
    cases l with
    | vec m => rfl
    | vel m sz i j =>
      exfalso
      simp only [Sg.wf, Lf.unV] at h1
      split at h1 <;> simp [Lf.storable] at h1
    | _ => exact h1, unV_wf h.2⟩
  | .arr k n L :: r, h => ⟨h.1, unV_wf h.2⟩
theorem unV_twf {n : Nat} : ∀ {l : List (Option Lf × List Sg)}, (∀ x ∈ tupMap (Lf.unV n) l, tupWf x) → ∀ x ∈ l, tupWf x
  | [], _, x, hx => by simp at hx
  | (some l, s) :: r, h, x, hx => by
    simp only [List.mem_cons] at hx
    rcases hx with rfl | hx
    · trivial
    · exact unV_twf (fun y hy => h y (by simp only [tupMap]; exact List.mem_cons_of_mem _ hy)) x hx
  | (none, s) :: r, h, x, hx => by
    simp only [List.mem_cons] at hx
    rcases hx with rfl | hx
    · exact unV_wf (h (none, sgMap (Lf.unV n) s) (by simp only [tupMap]; exact List.mem_cons_self ..))
    · exact unV_twf (fun y hy => h y (by simp only [tupMap]; exact List.mem_cons_of_mem _ hy)) x hx
theorem turn_nil {X s} (n : Nat) (e : TypeId) (sz : Nat) (σ' : List (Nat × SV)) (H' : List (Nat × List Sg)) (hf : s.fresh n = true) (h1 : mapσ (Lf.unV n) σ' = s.σ) (h2 : mapH (Lf.unV n) H' = s.H) :
    Turn X s (fun s' => s' = { σ := σ', H := H', V := (n, ⟨e, sz, 0, []⟩) :: s.V, M := s.M, ds := s.ds, os := s.os, ats := s.ats }) := fun ids vals a w h => by
  refine ⟨_, ids, upd vals n (.slice none 0 0), rfl, ?_⟩
  simp only [St.fresh, Bool.and_eq_true] at hf
  obtain ⟨⟨f1, f2⟩, f3, f4⟩ := hf
  have lσ : ∀ {σ' : List (Nat × SV)} {t x}, look σ' t = some x → look (mapσ (Lf.unV n) σ') t = some (x.map (Lf.unV n)) := by
    intro σ'
    induction σ' with
    | nil => intro t x h; simp [look] at h
    | cons p r ih =>
      intro t x h
      obtain ⟨m, v⟩ := p
      simp only [mapσ]
      rw [look_cons] at h ⊢
      split at h
      · rename_i e; rw [if_pos e]; simp at h; subst h; rfl
      · rename_i e; rw [if_neg e]; exact ih h
  have lH : ∀ {H' : List (Nat × List Sg)} {t x}, look H' t = some x → look (mapH (Lf.unV n) H') t = some (sgMap (Lf.unV n) x) := by
    intro H'
    induction H' with
    | nil => intro t x h; simp [look] at h
    | cons p r ih =>
      intro t x h
      obtain ⟨m, v⟩ := p
      simp only [mapH]
      rw [look_cons] at h ⊢
      split at h
      · rename_i e; rw [if_pos e]; simp at h; subst h; rfl
      · rename_i e; rw [if_neg e]; exact ih h
  have hv : ∀ l : Lf, (l.unV n).val ids vals = l.val ids (upd vals n (.slice none 0 0)) := unV_val
  exact {
    size := h.size
    defers := h.defers
    marks := h.marks
    others := h.others
    att := h.att
    onev := fun m => by
      by_cases e : m = n
      · subst e; rw [upd_same]; rfl
      · rw [upd_other e]; exact h.onev m
    tmp := fun t x hx => by
      have hx' := lσ hx
      rw [h1] at hx'
      obtain ⟨e1, e2⟩ := h.tmp t _ hx'
      refine ⟨by rw [← SV.map_val hv x]; exact e1, ?_⟩
      cases x with
      | lf l => trivial
      | agg c => exact unV_wf e2
      | tup l => exact unV_twf e2
    blk := fun m c hc => by
      have hc' := lH hc
      rw [h2] at hc'
      obtain ⟨u1, u2, u3, T', u4⟩ := h.blk m _ hc'
      exact ⟨unV_wf u1, u2, u3, T', by rw [← sgMap_cells hv c]; exact u4⟩
    inj := fun m k x y hx hy e => by
      have hx' := lH hx
      have hy' := lH hy
      rw [h2] at hx' hy'
      exact h.inj m k _ _ hx' hy' e
    vec := fun m u hu => by
      rw [look_cons] at hu
      split at hu
      · rename_i e; subst e; simp at hu; subst hu; rw [upd_same]; exact World.ownsRow_nil _ _ _ _
      · rename_i e; rw [upd_other (fun e' => e e'.symm)]; exact h.vec m u hu
    apart := fun m u g hu hg => by
      rw [look_cons] at hu
      split at hu
      · rename_i e; subst e; rw [upd_same] at hg; simp [Value.ownBlock] at hg
      · rename_i e
        rw [upd_other (fun e' => e e'.symm)] at hg
        obtain ⟨a1, a2, a3⟩ := h.apart m u g hu hg
        refine ⟨a1, fun k d hd => ?_, fun k x hk hne => ?_⟩
        · have hd' := lH hd
          rw [h2] at hd'
          exact a2 k _ hd'
        · rw [look_cons] at hk
          split at hk
          · rename_i e'; subst e'; rw [upd_same]; simp [Value.ownBlock]
          · rename_i e'; rw [upd_other (fun e'' => e' e''.symm)]; exact a3 k x hk hne
    mem := h.mem
    grow := h.grow
    below := h.below
    base := h.base }
theorem T_cut {X c c1 c2 s Q} (mid : St → Prop) (h : c = .seq c1 c2) (h1 : T X c1 s (thenQ mid Q)) (h2 : ∀ s', mid s' → T X c2 s' Q) : T X c s Q :=
  T_seq h (T_mono h1 (fun e s' hq => by cases e <;> first | exact h2 s' hq | exact hq))
theorem T_bcut {X c c1 s Q id} (mid : St → Prop) (h : c = .block id c1) (h1 : T X c1 s (blockQ id (thenQ mid Q))) (h2 : ∀ s', mid s' → Q .normal s') : T X c s Q :=
  T_block h (T_mono h1 (fun e s' hq => by
    cases e with
    | normal => exact h2 s' hq
    | exit i =>
      simp only [blockQ] at hq ⊢
      split
      · rename_i e; rw [if_pos e] at hq; exact h2 s' hq
      · rename_i e; rw [if_neg e] at hq; exact hq
    | _ => exact hq))
def gd {α : Type} (c : Prop) [Decidable c] (x : Option α) : Option α := if c then x else none
theorem gd_some {α : Type} {c : Prop} [Decidable c] {x : Option α} {r : α} (h : gd c x = some r) : c ∧ x = some r := by
  unfold gd at h
  split at h
  · rename_i hc; exact ⟨hc, h⟩
  · cases h
def jn {α β : Type} (F : β) (G : β → Option α) : Option α := G F
theorem jn_some {α β : Type} {F : β} {G : β → Option α} {r : α} (h : jn F G = some r) : ∃ j, j = F ∧ G j = some r := ⟨F, rfl, h⟩
def lt' {α β : Type} (x : β) (F : β → Option α) : Option α := F x
theorem lt_some {α β : Type} {e : β} {F : β → Option α} {r : α} (h : lt' e F = some r) : ∃ x, x = e ∧ F x = some r := ⟨e, rfl, h⟩
def sp {α : Type} (b : Bool) (x y : Option α) : Option α := match b with | true => x | false => y
theorem sp_t {α : Type} {x y : Option α} {r : α} (h : sp true x y = some r) : x = some r := h
theorem sp_f {α : Type} {x y : Option α} {r : α} (h : sp false x y = some r) : y = some r := h
def cl {α β : Type} (o : Option β) (F : β → Option α) : Option α := o.bind F
theorem cl_some {α β : Type} {o : Option β} {F : β → Option α} {r : α} (h : cl o F = some r) : ∃ v, o = some v ∧ F v = some r := Option.bind_eq_some_iff.1 h
def wr (k : IntKind) (x : Int) : Int := k.wrap x
end Go.Proofs.Ythniebmammmacaa
namespace Go.Proofs.Ythniebmammmacaa
open Go.RowKit
def OpAt (X : Cx) (s : St) (ops : Array Oper) (i d : Nat) (x : SV) : Prop := ∃ o, ops[i]? = some o ∧ o.dst = some d ∧ OpV X s o x
theorem TI_at {X ops i s Q d x} (h : OpAt X s ops i d x) (hc : (match wantedAt ops s i with | some b => b && Nat.blt d X.N | none => false) = true) (hx : x.wf) (next : TI X ops (i + 1) (s.put d x) Q) : TI X ops i s Q := by
  obtain ⟨o, ho, hd, hv⟩ := h
  cases hw : wantedAt ops s i with
  | none => rw [hw] at hc; cases hc
  | some b =>
    rw [hw] at hc
    simp only [Bool.and_eq_true] at hc
    rw [hc.1] at hw
    refine TI_of ?_ (TE_opv ho hd hw hc.2 hx hv next)
    rw [Nat.blt_eq]
    exact (Array.getElem?_eq_some_iff.1 ho).1
theorem QF_at {X ops i s d x} (h : OpAt X s ops i d x) (hc : (match wantedAt ops s i with | some b => b | none => false) = true) (hl : look s.σ d = some x) : ∀ o, ops[i]? = some o → QF X ops s o := by
  obtain ⟨o, ho, hd, hv⟩ := h
  intro o' ho'
  rw [ho] at ho'; injection ho' with ho'; subst ho'
  cases hw : wantedAt ops s i with
  | none => rw [hw] at hc; cases hc
  | some b =>
    rw [hw] at hc
    simp only at hc
    subst hc
    refine QF_opv hd hl ?_ hv
    simpa [wantedAt, ho] using hw
def idxC (P : Program) (s : St) (ops : Array Oper) (i : Nat) : Option (Nat × Lf × Nat × Nat × Int) :=
  match ops[i]? with
  | some o => match o.op, o.dst with
    | .indexAddr t x y, some d => match P.underlying t, evO s x, asV (evO s y) with
      | some (.slice e), some (.lf l), some (.int _ z) => match szOf P e with
        | some sz => some (d, l, sz, 0, z)
        | none => none
      | some (.array n e), some (.lf l), some (.int _ z) => match szOf P e with
        | some sz => some (d, l, sz, n + 1, z)
        | none => none
      | _, _, _ => none
    | _, _ => none
  | none => none
theorem idxC_eq {P s ops i d l sz n z} (h : idxC P s ops i = some (d, l, sz, n, z)) : ∃ o t x y e k, ops[i]? = some o ∧ o.dst = some d ∧ o.op = .indexAddr t x y ∧ (match n with | 0 => P.underlying t = some (.slice e) | n + 1 => P.underlying t = some (.array n e)) ∧ szOf P e = some sz ∧ evO s x = some (.lf l) ∧ asV (evO s y) = some (.int k z) := by
  unfold idxC at h
  split at h
  · rename_i o ho
    split at h
    · rename_i t x y d' e1 e2
      split at h
      · rename_i e l' k' z' u1 u2 u3
        split at h
        · rename_i sz' u4
          simp at h
          obtain ⟨rfl, rfl, rfl, rfl, rfl⟩ := h
          exact ⟨o, t, x, y, e, _, ho, e2, e1, u1, u4, u2, u3⟩
        · simp at h
      · rename_i n' e l' k' z' u1 u2 u3
        split at h
        · rename_i sz' u4
          simp at h
          obtain ⟨rfl, rfl, rfl, rfl, rfl⟩ := h
          exact ⟨o, t, x, y, e, _, ho, e2, e1, u1, u4, u2, u3⟩
        · simp at h
      · simp at h
    · simp at h
  · simp at h
theorem At_idxI {X s ops i d z A c k L} (h : idxC X.P s ops i = some (d, .v (.slice A (List.length L) c), 1, 0, z)) (hz : 0 ≤ z ∧ z < (L.length : Int)) (hS : SlI s.M A c k L) : OpAt X s ops i d (.lf (.ep (.slice A L.length c) 1 z.toNat 0)) := by
  obtain ⟨o, t, x, y, e, k', h1, h2, h3, h4, h5, h6, h7⟩ := idxC_eq h
  exact ⟨o, h1, h2, OpV_idxI h3 h4 h5 h6 h7 hz hS⟩
theorem At_idxR {X s ops i d z A c k m R} (h : idxC X.P s ops i = some (d, .v (.slice A (List.length R) c), m + 1, 0, z)) (hz : 0 ≤ z ∧ z < (R.length : Int)) (hS : SlR s.M A c k (m + 1) R) : OpAt X s ops i d (.lf (.ep (.slice A R.length c) (m + 1) z.toNat 0)) := by
  obtain ⟨o, t, x, y, e, k', h1, h2, h3, h4, h5, h6, h7⟩ := idxC_eq h
  exact ⟨o, h1, h2, OpV_idxR h3 h4 h5 (by rw [Nat.blt_eq]; omega) h6 h7 hz hS⟩
theorem At_idxV {X s ops i d z n sz} {v : Vc} (h : idxC X.P s ops i = some (d, .vec n, sz, 0, z)) (hv : look s.V n = some v) (hz : 0 ≤ z ∧ z < (v.len : Int)) : OpAt X s ops i d (.lf (.vel n sz z.toNat 0)) := by
  obtain ⟨o, t, x, y, e, k', h1, h2, h3, h4, h5, h6, h7⟩ := idxC_eq h
  exact ⟨o, h1, h2, OpV_idxV h3 h4 h5 h6 hv h7 hz⟩
theorem At_idxO {X s ops i d z b off sz} {n : Nat} (h : idxC X.P s ops i = some (d, .own b off, sz, n + 1, z)) (hz : 0 ≤ z ∧ z < (n : Int)) : OpAt X s ops i d (.lf (.oel b (off + z.toNat * sz))) := by
  obtain ⟨o, t, x, y, e, k', h1, h2, h3, h4, h5, h6, h7⟩ := idxC_eq h
  exact ⟨o, h1, h2, OpV_idxO h3 h4 h5 h6 h7 hz.1 hz.2⟩
def ldC (P : Program) (s : St) (ops : Array Oper) (i : Nat) : Option (Nat × Bool × Nat × Lf) :=
  match ops[i]? with
  | some o => match o.op, o.dst with
    | .load t x, some d => match P.underlying t, szOf P t, evO s x with
      | some de, some m, some (.lf l) => some (d, de.isRow, m, l)
      | _, _, _ => none
    | _, _ => none
  | none => none
theorem ldC_eq {P s ops i d b m l} (h : ldC P s ops i = some (d, b, m, l)) : ∃ o t x de, ops[i]? = some o ∧ o.dst = some d ∧ o.op = .load t x ∧ P.underlying t = some de ∧ de.isRow = b ∧ szOf P t = some m ∧ evO s x = some (.lf l) := by
  unfold ldC at h
  split at h
  · rename_i o ho
    split at h
    · rename_i t x d' e1 e2
      split at h
      · rename_i de m' l' u1 u2 u3
        simp at h
        obtain ⟨rfl, rfl, rfl, rfl⟩ := h
        exact ⟨o, t, x, de, ho, e2, e1, u1, rfl, u2, u3⟩
      · simp at h
    · simp at h
  · simp at h
theorem At_ldI {X s ops i d A c q k L} (h : ldC X.P s ops i = some (d, false, 1, .ep (.slice A (List.length L) c) 1 q 0)) (hi : q < L.length) (hS : SlI s.M A c k L) : OpAt X s ops i d (.lf (.v (.int k (L.getD q 0)))) := by
  obtain ⟨o, t, x, de, h1, h2, h3, h4, h5, h6, h7⟩ := ldC_eq h
  exact ⟨o, h1, h2, OpV_ldI h3 h4 h5 h6 h7 hS hi⟩
theorem At_ldR1 {X s ops i d A c q j k m R} (h : ldC X.P s ops i = some (d, false, 1, .ep (.slice A (List.length R) c) m q j)) (hj : Nat.blt j m = true) (hi : q < R.length) (hS : SlR s.M A c k m R) : OpAt X s ops i d (.lf (.v (.int k ((R.getD q []).getD j 0)))) := by
  obtain ⟨o, t, x, de, h1, h2, h3, h4, h5, h6, h7⟩ := ldC_eq h
  exact ⟨o, h1, h2, OpV_ldR1 h3 h4 h5 h7 hS hi (Eq.mp Nat.blt_eq hj)⟩
theorem At_ldR1' {X s ops i d A c q j k m R} (h : ldC X.P s ops i = some (d, false, 1, .ep (.slice A (List.length R) c) m q j)) (hj : j < m) (hi : q < R.length) (hS : SlR s.M A c k m R) : OpAt X s ops i d (.lf (.v (.int k ((R.getD q []).getD j 0)))) := by
  obtain ⟨o, t, x, de, h1, h2, h3, h4, h5, h6, h7⟩ := ldC_eq h
  exact ⟨o, h1, h2, OpV_ldR1 h3 h4 h5 h7 hS hi hj⟩
theorem At_ldRow {X s ops i d A c q k m R} (h : ldC X.P s ops i = some (d, true, m + 1, .ep (.slice A (List.length R) c) (m + 1) q 0)) (hi : q < R.length) (hS : SlR s.M A c k (m + 1) R) : OpAt X s ops i d (.agg [.arr k (m + 1) (R.getD q [])]) := by
  obtain ⟨o, t, x, de, h1, h2, h3, h4, h5, h6, h7⟩ := ldC_eq h
  exact ⟨o, h1, h2, OpV_ldRow h3 h4 h5 h6 h7 hS hi (by omega)⟩
theorem At_ldVI {X s ops i d n q k L} {v : Vc} (h : ldC X.P s ops i = some (d, false, 1, .vel n 1 q 0)) (hv : look s.V n = some v) (hc : v.cs = ints k L) (hi : q < L.length) : OpAt X s ops i d (.lf (.v (.int k (L.getD q 0)))) := by
  obtain ⟨o, t, x, de, h1, h2, h3, h4, h5, h6, h7⟩ := ldC_eq h
  exact ⟨o, h1, h2, OpV_ldVI h3 h4 h5 h7 hv hc hi⟩
theorem At_ldO1 {X s ops i d b off base q n k L} (h : ldC X.P s ops i = some (d, false, 1, .oel b off)) (hc : (look s.H b).bind (segAt base) = some (k, n, L)) (ho : off = base + q) (hq : q < n) : OpAt X s ops i d (.lf (.v (.int k (L.getD q 0)))) := by
  obtain ⟨o, t, x, de, h1, h2, h3, h4, h5, h6, h7⟩ := ldC_eq h
  cases hl : look s.H b with
  | none => rw [hl] at hc; cases hc
  | some c => rw [hl] at hc; exact ⟨o, h1, h2, OpV_ldO1 h3 h4 h5 h7 hl hc ho hq⟩
theorem At_ldP {X s ops i d b off v} {m : Nat} (h : ldC X.P s ops i = some (d, false, m, .v (.pointer (some ⟨b, off, none⟩)))) (hv : memCell s.M b off = some v) : OpAt X s ops i d (.lf (.v v)) := by
  obtain ⟨o, t, x, de, h1, h2, h3, h4, h5, h6, h7⟩ := ldC_eq h
  exact ⟨o, h1, h2, OpV_ldP h3 h4 h5 h7 hv⟩
theorem At_ldPR {X s ops i d b off m} {c : List Sg} (h : ldC X.P s ops i = some (d, true, m, .v (.pointer (some ⟨b, off, none⟩)))) (hcl : sgClosed c = true) (hm : (sgCells (fun _ => 0) (fun _ => .slice none 0 0) c).length = m) (hv : ∀ j u, (sgCells (fun _ => 0) (fun _ => .slice none 0 0) c)[j]? = some u → memCell s.M b (off + j) = some u) : OpAt X s ops i d (.agg c) := by
  obtain ⟨o, t, x, de, h1, h2, h3, h4, h5, h6, h7⟩ := ldC_eq h
  exact ⟨o, h1, h2, OpV_ldPR h3 h4 h5 h6 h7 hcl hm hv⟩
def callC (P : Program) (s : St) (ops : Array Oper) (i : Nat) : Option (Nat × Nat × List Value) :=
  match ops[i]? with
  | some o => match o.op, o.dst with
    | .call { callee := .value fo, args, .. }, some d => match evO s fo, argsS s args.toList with
      | some (.lf (.v (.func (.func f) first cap))), some vs => if entersOk P f then some (d, f, first.toList ++ vs.map rval ++ cap.toList) else none
      | _, _ => none
    | _, _ => none
  | none => none
theorem callC_eq {P s ops i d f args} (h : callC P s ops i = some (d, f, args)) : ∃ o fo ars tys first cap vs, ops[i]? = some o ∧ o.dst = some d ∧ o.op = .call { callee := .value fo, args := ars, argTypes := tys } ∧
    evO s fo = some (.lf (.v (.func (.func f) (List.toArray first) (List.toArray cap)))) ∧ argsS s ars.toList = some vs ∧ entersOk P f = true ∧ first ++ vs.map rval ++ cap = args := by
  unfold callC at h
  split at h
  · rename_i o ho
    split at h
    · rename_i fo ars tys d' e1 e2
      split at h
      · rename_i f' first cap vs u1 u2
        split at h
        · rename_i he
          simp at h
          obtain ⟨rfl, rfl, rfl⟩ := h
          exact ⟨o, fo, ars, tys, first.toList, cap.toList, vs, ho, e2, e1, by simpa using u1, u2, he, by simp⟩
        · simp at h
      · simp at h
    · simp at h
  · simp at h
theorem At_call {X s ops i d f args x} (h : callC X.P s ops i = some (d, f, args)) (hF : Fn X.P f args s.M fun y _ => y = x) : OpAt X s ops i d x := by
  obtain ⟨o, fo, ars, tys, first, cap, vs, h1, h2, h3, h4, h5, h6, h7⟩ := callC_eq h
  exact ⟨o, h1, h2, OpV_call h3 h4 h5 h6 h7 hF⟩
theorem callAt_of {ops : Array Oper} {i : Nat} {o : Oper} {d : Nat} {fo : Operand} {ars : Array Operand} {tys : Array TypeId} (h1 : ops[i]? = some o) (h2 : o.dst = some d) (h3 : o.op = .call { callee := .value fo, args := ars, argTypes := tys }) : callAt ops i = some (some d, fo, ars.toList) := by
  obtain ⟨dst, op, type, pos, after, guard⟩ := o
  simp only at h2 h3
  subst h2 h3
  simp [callAt, h1]
theorem TE_callR {X ops i s Q} {lr : List Oper} {d f : Nat} {args : List Value} {R : SV → Mem → Prop} (h : callC X.P s ops i = some (d, f, args)) (hc : (match wantedAt ops s i with | some b => b && Nat.blt d X.N | none => false) = true) (hF : Fn X.P f args s.M R)
    (next : ∀ x M', Mem.le X.M0 s.M → Mem.le s.M M' → x.wf → R x M' → TL X ops lr { s with σ := (d, x) :: s.σ, M := M' } Q) : TE X ops i lr s Q := by
  obtain ⟨o, fo, ars, tys, first, cap, vs, h1, h2, h3, h4, h5, h6, h7⟩ := callC_eq h
  cases hw : wantedAt ops s i with
  | none => rw [hw] at hc; cases hc
  | some b =>
    rw [hw] at hc
    simp only [Bool.and_eq_true] at hc
    rw [hc.1] at hw
    exact TE_call (callAt_of h1 h2 h3) hw hc.2 h4 h5 h6 h7 hF next
end Go.Proofs.Ythniebmammmacaa
namespace Go.Proofs.Ythniebmammmacaa
open Go.RowKit
theorem TI_segK {X ops s Q} {s' : St} {i j : Nat} (ts hs vs : List Nat) (h : (exs X.P X.N ops s ((ops.toList.drop i).take (j - i))).bind (fun z => z.keep ts hs vs) = some s') (hij : Nat.ble i j = true) (h1 : TI X ops j s' Q) : TI X ops i s Q := by
  cases he : exs X.P X.N ops s ((ops.toList.drop i).take (j - i)) with
  | none => rw [he] at h; cases h
  | some z =>
    rw [he] at h
    exact TI_seg he (Nat.le_of_ble_eq_true hij) (TI_sub (keep_sub h) h1)
theorem T_keep {X c s Q} {s' : St} (ts hs vs : List Nat) (h : s.keep ts hs vs = some s') (h1 : T X c s' Q) : T X c s Q := T_sub (keep_sub h) h1
theorem thenQ_n {K : St → Prop} {Q s} (h : K s) : thenQ K Q .normal s := h
theorem thenQ_x {K : St → Prop} {Q s id} (h : Q (.exit id) s) : thenQ K Q (.exit id) s := h
theorem thenQ_r {K : St → Prop} {Q s} (h : Q .ret s) : thenQ K Q .ret s := h
theorem blockQ_n {id Q s} (h : Q .normal s) : blockQ id Q .normal s := h
theorem blockQ_r {id Q s} (h : Q .ret s) : blockQ id Q .ret s := h
theorem blockQ_x {id Q s} (h : Q .normal s) : blockQ id Q (.exit id) s := by simp only [blockQ, if_true]; exact h
def endQ (P : Program) (rs : List ResultVar) (R : SV → Mem → Prop) : Exit → St → Prop := fun e s => fnQ P rs R e s ∧ s.ds.Nodup
theorem fin_ret {P rs R s} (x : SV) (h1 : resS P s rs = some x) (h2 : x.closed = true) (h4 : s.ds = []) (h3 : R x s.M) : endQ P rs R .ret s := ⟨⟨x, h1, h2, h3⟩, by rw [h4]; exact List.nodup_nil⟩
theorem T_condT {X c s Q x c1 c2} (h : c = .cond x c1 c2) (hx : evO s x = some (.lf (.v (.bool true)))) (h1 : T X c1 s Q) : T X c s Q := T_cond h hx (fun _ => h1) (fun h => by cases h)
theorem T_condF {X c s Q x c1 c2} (h : c = .cond x c1 c2) (hx : evO s x = some (.lf (.v (.bool false)))) (h1 : T X c2 s Q) : T X c s Q := T_cond h hx (fun h => by cases h) (fun _ => h1)
def wfs : List (Nat × SV) → Prop
  | [] => True
  | (_, x) :: r => x.wf ∧ wfs r
theorem wfs_mem : ∀ {l : List (Nat × SV)}, wfs l → ∀ x ∈ l, x.2.wf
  | [], _, x, hx => by cases hx
  | (_, y) :: r, h, x, hx => by
    simp only [List.mem_cons] at hx
    rcases hx with rfl | hx
    · exact h.1
    · exact wfs_mem h.2 x hx
def specs (X : Cx) (ops : Array Oper) (s : St) : List Nat → Prop
  | [] => True
  | i :: r => (∀ o, ops[i]? = some o → QF X ops s o) ∧ specs X ops s r
theorem specs_mem {X ops s} : ∀ {l : List Nat}, specs X ops s l → ∀ i ∈ l, ∀ o, ops[i]? = some o → QF X ops s o
  | [], _, i, hi => by cases hi
  | j :: r, h, i, hi => by
    simp only [List.mem_cons] at hi
    rcases hi with rfl | hi
    · exact h.1
    · exact specs_mem h.2 i hi
theorem stage_all' {X ops s eff lo p} (pure spec : List Nat) (h1 : (dueL ops eff lo p).all (fun i => inB i pure || inB i spec) = true) (h2 : pure.map (exHead X.P X.N ops s) = pure.map (lookHead ops s)) (h3 : pure.all (fun i => (lookHead ops s i).isSome) = true)
    (h4 : specs X ops s spec) : ∀ i o, ops[i]? = some o → due ops eff lo p i = true → QF X ops s o := stage_all pure spec h1 h2 h3 (specs_mem h4)
def stageQ (X : Cx) (ops : Array Oper) (eff lo : List Nat) (Q : Exit → St → Prop) (es : List Nat) (p : Nat) : Exit → St → Prop := fun ex s' => ex = .normal ∧ ∃ new : List (Nat × SV), new.map (·.1) = newAt ops eff lo (p + 1) ∧ (∀ x ∈ new, x.2.wf) ∧ Stage X ops eff lo Q es (p + 1) { s' with σ := new ++ s'.σ }
theorem stageQ_of {X ops eff lo Q es p s} (new : List (Nat × SV)) (h1 : new.map (·.1) = newAt ops eff lo (p + 1)) (h2 : wfs new) (h3 : Stage X ops eff lo Q es (p + 1) { s with σ := new ++ s.σ }) : stageQ X ops eff lo Q es p .normal s := ⟨rfl, new, h1, wfs_mem h2, h3⟩
theorem Stage_nil {X ops eff lo Q p s} (h1 : ∀ i o, ops[i]? = some o → due ops eff lo p i = true → QF X ops s o) (h2 : Q .normal s) : Stage X ops eff lo Q [] p s := ⟨h1, h2⟩
theorem Stage_te {X ops eff lo Q e es p s} (h1 : ∀ i o, ops[i]? = some o → due ops eff lo p i = true → QF X ops s o) (h2 : TE X ops e [] s (stageQ X ops eff lo Q es p)) : Stage X ops eff lo Q (e :: es) p s := ⟨h1, h2⟩
theorem TL_nil {X ops s Q} (h : Q .normal s) : TL X ops [] s Q := fun ids vals a w hr => ⟨s, ids, vals, h, hr⟩
theorem TE_ex {X ops e s Q} {lr : List Oper} {s' : St} (hs : (ops[e]?).bind (exStep X.P X.N ops s) = some s') (h : TL X ops lr s' Q) : TE X ops e lr s Q := by
  intro o ho
  rw [ho] at hs
  exact TL_step hs h
theorem Stage_ex {X ops eff lo Q e es p s} (h1 : ∀ i o, ops[i]? = some o → due ops eff lo p i = true → QF X ops s o) (s' : St) (hs : (ops[e]?).bind (exStep X.P X.N ops s) = some s') (new : List (Nat × SV)) (hn : new.map (·.1) = newAt ops eff lo (p + 1)) (hw : wfs new)
    (h : Stage X ops eff lo Q es (p + 1) { s' with σ := new ++ s'.σ }) : Stage X ops eff lo Q (e :: es) p s := Stage_te h1 (TE_ex hs (TL_nil (stageQ_of new hn hw h)))
theorem wfs_lf : ∀ l : List (Nat × SV), (l.all fun p => match p.2 with | .lf _ => true | _ => false) = true → wfs l
  | [], _ => trivial
  | (n, x) :: l, h => by
    simp only [List.all_cons, Bool.and_eq_true] at h
    cases x with
    | lf y => exact ⟨trivial, wfs_lf l h.2⟩
    | agg y => cases h.1
    | tup y => cases h.1
theorem T_draw' {X c s Q} {id : Nat} (eff lo : List Nat) (h : regOf c = some (true, id)) (hmix : X.P.follows .mixedOrders = true) (hok : drawOk X.N (opsOf c) eff lo = true) (hch : (chainOk (opsOf c) eff && decide eff.Nodup) = true)
    (new : List (Nat × SV)) (hnew : new.map (·.1) = newAt (opsOf c) eff lo 0) (hwf : wfs new) (hst : Stage X (opsOf c) eff lo Q eff 0 { s with σ := new ++ s.σ }) : T X c s Q := T_draw eff lo h hmix hok hch new hnew (wfs_mem hwf) hst
def binC (s : St) (ops : Array Oper) (i : Nat) : Option (Nat × BinOp × Value × Value) :=
  match ops[i]? with
  | some o => match o.op, o.dst with
    | .binOp b _ x y _, some d => match asV (evO s x), asV (evO s y) with
      | some u, some v => some (d, b, u, v)
      | _, _ => none
    | _, _ => none
  | none => none
theorem At_bin {X s ops i d b u v w'} (h : binC s ops i = some (d, b, u, v)) (he : exBin b u v = some w') : OpAt X s ops i d (.lf (.v w')) := by
  unfold binC at h
  split at h
  · rename_i o ho
    split at h
    · rename_i b' t x y t' d' e1 e2
      split at h
      · rename_i u' v' e3 e4
        simp at h
        obtain ⟨rfl, rfl, rfl, rfl⟩ := h
        refine ⟨o, ho, e2, OpV_value (by rw [e1]; intro c hc; cases hc) fun ids vals a w hr => ?_⟩
        have hrun := exBin_run (P := X.P) (t := t) (x := x) (y := y) w he
        unfold execOp
        simp only [e1, hr.evV e3, hr.evV e4]
        rw [Sem.run_bind] at hrun
        simp only [Sem.run_bind] at hrun ⊢
        revert hrun
        cases (eqGuard b' t x y u' v').run X.P w with
        | ok z w1 =>
          simp only [Result.andThen_ok]
          intro hrun
          rw [hrun]
          rfl
        | _ => intro hrun; cases hrun
      · simp at h
    · simp at h
  · simp at h
theorem SlR_row {M A c k m R} {q : Nat} (h : SlR M A c k m R) (hq : q < R.length) : (R.getD q []).length = m := by
  rw [List.getD_eq_getElem?_getD, List.getElem?_eq_getElem hq]; exact h.1 _ (List.getElem_mem hq)
theorem rows_row {m : Nat} {R : List (List Int)} {q : Nat} (h : ∀ r ∈ R, r.length = m) (hq : q < R.length) : (R.getD q []).length = m := by
  rw [List.getD_eq_getElem?_getD, List.getElem?_eq_getElem hq]; exact h _ (List.getElem_mem hq)
theorem toNat_lt {z : Int} {n : Nat} (h : 0 ≤ z ∧ z < (n : Int)) : z.toNat < n := by omega
theorem len_dt {L : List Int} {n j m : Nat} (h : L.length = n) (hj : j + m ≤ n) : ((L.drop j).take m).length = m := by simp; omega
theorem rows_set {m : Nat} {R : List (List Int)} {r : List Int} {i : Nat} (h : ∀ r ∈ R, r.length = m) (hr : r.length = m) : ∀ x ∈ R.set i r, x.length = m := by
  intro x hx
  rcases List.mem_or_eq_of_mem_set hx with hx | rfl
  · exact h x hx
  · exact hr
theorem nilI (M : Mem) (c : Nat) (k : IntKind) : SlI M none c k [] := ⟨.inl rfl, Nat.zero_le _⟩
theorem nilR (M : Mem) (c : Nat) (k : IntKind) (m : Nat) : SlR M none c k m [] := ⟨(by intro r hr; cases hr), .inl rfl, Nat.zero_le _⟩
theorem vle {j n m : Nat} (h : j < n) : j * m + 0 + m ≤ n * m := by
  have := Nat.mul_le_mul_right m (Nat.succ_le_of_lt h)
  rw [Nat.succ_mul] at this; omega
theorem set1_ints {k : IntKind} {L : List Int} {i : Nat} {x : Int} (hi : i < L.length) : (ints k L).take (i * 1 + 0) ++ sgCells (fun _ => 0) (fun _ => .slice none 0 0) [.one (.v (.int k x))] ++ (ints k L).drop (i * 1 + 0 + 1) = ints k (L.set i x) := by
  rw [Nat.mul_one, Nat.add_zero]; exact set_ints hi
theorem ints_append (k : IntKind) (L L' : List Int) : ints k L ++ ints k L' = ints k (L ++ L') := by simp [ints]
theorem rowsC_append (k : IntKind) (R R' : List (List Int)) : rowsC k R ++ rowsC k R' = rowsC k (R ++ R') := by simp [rowsC]
theorem ints_len1 (k : IntKind) (L : List Int) : (ints k L).length = L.length * 1 := by rw [ints_length, Nat.mul_one]
theorem rows_app {m : Nat} {R R' : List (List Int)} (h : ∀ r ∈ R, r.length = m) (h' : ∀ r ∈ R', r.length = m) : ∀ x ∈ R ++ R', x.length = m := fun x hx => (List.mem_append.1 hx).elim (h x) (h' x)
theorem rows_nil {m : Nat} : ∀ x ∈ ([] : List (List Int)), x.length = m := fun x hx => by cases hx
theorem rows_cons {m : Nat} {r : List Int} {R : List (List Int)} (hr : r.length = m) (h : ∀ r ∈ R, r.length = m) : ∀ x ∈ r :: R, x.length = m := fun x hx => (List.mem_cons.1 hx).elim (fun e => e ▸ hr) (h x)
theorem Sub.trans {a b c : St} (h1 : Sub a b) (h2 : Sub b c) : Sub a c := fun X ids vals ac w hr => let ⟨i, v, hr'⟩ := h2 X ids vals ac w hr; h1 X i v ac w hr'
def closeds : List SV → Bool
  | [] => true
  | x :: r => x.closed && closeds r
def wfa : List SV → Prop
  | [] => True
  | x :: r => x.wf ∧ wfa r
theorem args_ok : ∀ {l : List SV}, closeds l = true → wfa l → ∀ x ∈ l, x.closed = true ∧ x.wf
  | [], _, _, x, hx => by cases hx
  | y :: r, h1, h2, x, hx => by
    simp only [closeds, Bool.and_eq_true] at h1
    simp only [List.mem_cons] at hx
    rcases hx with rfl | hx
    · exact ⟨h1.1, h2.1⟩
    · exact args_ok h1.2 h2.2 x hx
def indexC (P : Program) (s : St) (ops : Array Oper) (i : Nat) : Option (Nat × SV × Nat × Int) :=
  match ops[i]? with
  | some o => match o.op, o.dst with
    | .index t x y, some d => match P.underlying t, evO s x, asV (evO s y) with
      | some (.array n e), some v, some (.int _ z) => if szOf P e = some 1 then match P.underlying e with
        | some de => if de.isRow then none else some (d, v, n, z)
        | none => none
        else none
      | _, _, _ => none
    | _, _ => none
  | none => none
end Go.Proofs.Ythniebmammmacaa
