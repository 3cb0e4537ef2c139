/- Lemmas and walks for the law RoadCauses (part 2). No condition: every theorem names its own hypotheses. -/
import Derived.Test.YthniebmammmacaaK1
import Derived.ProofKit
import Derived.OpenShut
import Derived.DeepKeys
import Derived.MapKept
set_option linter.unusedVariables false
set_option linter.unusedSimpArgs false
set_option maxHeartbeats 4000000
namespace Go.Proofs.Ythniebmammmacaa
open Go.RowKit
theorem OpV_idxE {X s o} {t e : TypeId} {x y : Operand} {A : Value} {n sz es i j : Nat} {k' : IntKind} {z : Int} (hop : o.op = .indexAddr t x y) (ht : X.P.underlying t = some (.array n e)) (hsz : szOf X.P e = some es)
    (hx : evO s x = some (.lf (.ep A sz i j))) (hy : asV (evO s y) = some (.int k' z)) (hz : 0 ≤ z ∧ z < (n : Int)) : OpV X s o (.lf (.ep A sz i (j + z.toNat * es))) := by
  refine OpV_value (by rw [hop]; intro c hc; cases hc) fun ids vals a w hr => ?_
  have e1 := hr.ev hx
  unfold szOf at hsz
  cases hq : X.P.info? e with
  | none => simp [hq] at hsz
  | some ii =>
    have hs : ii.size = es := by simpa [hq] using hsz
    unfold execOp
    simp only [hop, e1, hr.evV hy, SV.val, Lf.val, elemPtr]
    have hr1 : (Instr.indexAt t (.pointer (some ⟨(baseOf A).block, (baseOf A).off + i * sz + j, none⟩)) (.int k' z)).run X.P w = .ok (.pointer (some ⟨(baseOf A).block, (baseOf A).off + i * sz + j + z.toNat * es, none⟩)) w := by
      simp [Instr.indexAt, asIntOf, Sem.run_bind, run_underlying ht, Instr.sureAddr, Sem.run_pure, hz.1, hz.2, sizeOf, typeInfo, program, Sem.run, hq, hs, Addr.add_mid]
    rw [Sem.run_bind, hr1]
    simp [Result.andThen, Sem.run_pure, Nat.add_assoc]
theorem OpV_idxW {X s o} {t e : TypeId} {x y : Operand} {m n sz es i j : Nat} {k' : IntKind} {z : Int} (hop : o.op = .indexAddr t x y) (ht : X.P.underlying t = some (.array n e)) (hsz : szOf X.P e = some es)
    (hx : evO s x = some (.lf (.vel m sz i j))) (hy : asV (evO s y) = some (.int k' z)) (hz : 0 ≤ z ∧ z < (n : Int)) : OpV X s o (.lf (.vel m sz i (j + z.toNat * es))) := by
  refine OpV_value (by rw [hop]; intro c hc; cases hc) fun ids vals a w hr => ?_
  have e1 := hr.ev hx
  unfold szOf at hsz
  cases hq : X.P.info? e with
  | none => simp [hq] at hsz
  | some ii =>
    have hs : ii.size = es := by simpa [hq] using hsz
    unfold execOp
    simp only [hop, e1, hr.evV hy, SV.val, Lf.val, elemPtr]
    have hr1 : (Instr.indexAt t (.pointer (some ⟨(baseOf (vals m)).block, (baseOf (vals m)).off + i * sz + j, none⟩)) (.int k' z)).run X.P w = .ok (.pointer (some ⟨(baseOf (vals m)).block, (baseOf (vals m)).off + i * sz + j + z.toNat * es, none⟩)) w := by
      simp [Instr.indexAt, asIntOf, Sem.run_bind, run_underlying ht, Instr.sureAddr, Sem.run_pure, hz.1, hz.2, sizeOf, typeInfo, program, Sem.run, hq, hs, Addr.add_mid]
    rw [Sem.run_bind, hr1]
    simp [Result.andThen, Sem.run_pure, Nat.add_assoc]
theorem At_idxE {X s ops i d z A sz es q j} {n : Nat} (h : idxC X.P s ops i = some (d, .ep A sz q j, es, n + 1, z)) (hz : 0 ≤ z ∧ z < (n : Int)) : OpAt X s ops i d (.lf (.ep A sz q (j + z.toNat * es))) := by
  obtain ⟨o, t, x, y, e, k', h1, h2, h3, h4, h5, h6, h7⟩ := idxC_eq h
  exact ⟨o, h1, h2, OpV_idxE h3 h4 h5 h6 h7 hz⟩
theorem At_idxW {X s ops i d z m sz es q j} {n : Nat} (h : idxC X.P s ops i = some (d, .vel m sz q j, es, n + 1, z)) (hz : 0 ≤ z ∧ z < (n : Int)) : OpAt X s ops i d (.lf (.vel m sz q (j + z.toNat * es))) := by
  obtain ⟨o, t, x, y, e, k', h1, h2, h3, h4, h5, h6, h7⟩ := idxC_eq h
  exact ⟨o, h1, h2, OpV_idxW h3 h4 h5 h6 h7 hz⟩
def hiOf (n : Nat) (b : Option Int) : Nat := match b with | none => n | some z => z.toNat
def loOf (a : Option Int) : Nat := hiOf 0 a
def slC (P : Program) (s : St) (ops : Array Oper) (i : Nat) : Option (Nat × Lf × Nat × Option Int × Option Int) :=
  match ops[i]? with
  | some o => match o.op, o.dst with
    | .slice t x lo hi none, some d => match P.underlying t, evO s x with
      | some (.slice e), some (.lf l) => match szOf P e, (match lo with | none => some none | some y => match asV (evO s y) with | some (.int _ z) => some (some z) | _ => none), (match hi with | none => some none | some y => match asV (evO s y) with | some (.int _ z) => some (some z) | _ => none) with
        | some sz, some a, some b => some (d, l, sz, a, b)
        | _, _, _ => none
      | _, _ => none
    | _, _ => none
  | none => none
theorem slC_eq {P s ops i d l sz a b} (h : slC P s ops i = some (d, l, sz, a, b)) : ∃ o t x lo hi e, ops[i]? = some o ∧ o.dst = some d ∧ o.op = .slice t x lo hi none ∧ P.underlying t = some (.slice e) ∧ szOf P e = some sz ∧ evO s x = some (.lf l) ∧
    (∀ dflt, bndOf s dflt lo = some (hiOf dflt a)) ∧ ((∀ z, a = some z → 0 ≤ z) → bndOk s lo) ∧ (∀ dflt, bndOf s dflt hi = some (hiOf dflt b)) ∧ ((∀ z, b = some z → 0 ≤ z) → bndOk s hi) := by
  unfold slC at h
  split at h
  · rename_i o ho
    split at h
    · rename_i t x lo hi d' e1 e2
      split at h
      · rename_i e l' u1 u2
        split at h
        · rename_i sz' a' b' v1 v2 v3
          simp at h
          obtain ⟨rfl, rfl, rfl, rfl, rfl⟩ := h
          have bd : ∀ (y : Option Operand) (c : Option Int), (match y with | none => some none | some y => match asV (evO s y) with | some (.int _ z) => some (some z) | _ => none) = some c →
              (∀ dflt, bndOf s dflt y = some (hiOf dflt c)) ∧ ((∀ z, c = some z → 0 ≤ z) → bndOk s y) := by
            intro y c hc
            cases y with
            | none => simp at hc; subst hc; exact ⟨fun _ => rfl, fun _ => trivial⟩
            | some y =>
              simp only at hc
              split at hc
              · rename_i k z e
                simp at hc; subst hc
                exact ⟨fun _ => by simp [bndOf, e, hiOf], fun hz => ⟨k, z, e, hz z rfl⟩⟩
              · simp at hc
          obtain ⟨p1, p2⟩ := bd lo a' v2
          obtain ⟨p3, p4⟩ := bd hi b' v3
          exact ⟨o, t, x, lo, hi, e, ho, e2, e1, u1, v1, u2, p1, p2, p3, p4⟩
        · simp at h
      · simp at h
    · simp at h
  · simp at h
theorem At_sl {X s ops i d A c sz a b} {n : Nat} (h : slC X.P s ops i = some (d, .v (.slice A n c), sz, a, b)) (ha : ∀ z, a = some z → 0 ≤ z) (hb : ∀ z, b = some z → 0 ≤ z) (h1 : loOf a ≤ hiOf n b) (h2 : hiOf n b ≤ n) (h3 : n ≤ c) :
    OpAt X s ops i d (.lf (.v (.slice (cutA A c (loOf a) sz) (hiOf n b - loOf a) (c - loOf a)))) := by
  obtain ⟨o, t, x, lo, hi, e, g1, g2, g3, g4, g5, g6, g7, g8, g9, g10⟩ := slC_eq h
  exact ⟨o, g1, g2, OpV_sl g3 g4 g5 g6 (g7 0) (g8 ha) (g9 n) (g10 hb) h1 h2 h3⟩
def part {α : Type} (L : List α) (a b : Nat) : List α := (L.drop a).take (b - a)
theorem part_length {α : Type} {L : List α} {a b : Nat} (h1 : a ≤ b) (h2 : b ≤ L.length) : (part L a b).length = b - a := by simp [part]; omega
theorem At_slR {X s ops i d A c k m R a b} {P : List (List Int)} (h : slC X.P s ops i = some (d, .v (.slice A (List.length R) c), m, a, b)) (hS : SlR s.M A c k m R) (ha : ∀ z, a = some z → 0 ≤ z) (hb : ∀ z, b = some z → 0 ≤ z) (h1 : loOf a ≤ hiOf R.length b) (h2 : hiOf R.length b ≤ R.length)
    (hP : P = part R (loOf a) (hiOf R.length b)) : OpAt X s ops i d (.lf (.v (.slice (cutA A c (loOf a) m) P.length (c - loOf a)))) := by
  have hl : P.length = hiOf R.length b - loOf a := by rw [hP, part_length h1 h2]
  rw [hl]
  exact At_sl h ha hb h1 h2 hS.2.2
theorem SlI.part {M A c k L} (h : SlI M A c k L) {l q : Nat} {P : List Int} (hP : P = part L l q) (hl : l ≤ q) (hq : q ≤ L.length) : SlI M (cutA A c l 1) (c - l) k P := by subst hP; exact h.cut hl hq
theorem SlR.part {M A c k m R} (h : SlR M A c k (m + 1) R) {l q : Nat} {P : List (List Int)} (hP : P = part R l q) (hl : l ≤ q) (hq : q ≤ R.length) : SlR M (cutA A c l (m + 1)) (c - l) k (m + 1) P := by subst hP; exact h.cut (by rw [Nat.blt_eq]; omega) hl hq
def rowSet (R : List (List Int)) (i q : Nat) (Z : List Int) : List (List Int) := R.set i ((R.getD i []).take q ++ Z ++ (R.getD i []).drop (q + Z.length))
theorem set_part {k : IntKind} {m : Nat} : ∀ {R : List (List Int)} {i q : Nat} {Z : List Int}, (∀ r ∈ R, r.length = m) → i < R.length → q + Z.length ≤ m →
    (rowsC k R).take (i * m + q) ++ ints k Z ++ (rowsC k R).drop (i * m + q + Z.length) = rowsC k (rowSet R i q Z)
  | [], i, q, Z, _, hi, _ => by simp at hi
  | r :: R, 0, q, Z, h, _, hq => by
    have hr := h r (by simp)
    simp only [rowSet, rowsC, List.map_cons, List.flatten_cons, Nat.zero_mul, Nat.zero_add, List.set_cons_zero, List.getD_cons_zero]
    rw [List.take_append_of_le_length (by rw [ints_length]; omega), List.drop_append_of_le_length (by rw [ints_length]; omega)]
    simp [ints, List.map_take, List.map_drop, List.append_assoc]
  | r :: R, i + 1, q, Z, h, hi, hq => by
    have hr := h r (by simp)
    have ih := set_part (k := k) (R := R) (i := i) (q := q) (Z := Z) (fun x hx => h x (List.mem_cons_of_mem _ hx)) (by simpa using hi) hq
    simp only [rowSet, rowsC, List.map_cons, List.flatten_cons, List.set_cons_succ, List.getD_cons_succ] at ih ⊢
    rw [← ih, Nat.succ_mul, List.take_append, List.drop_append, ints_length, hr, List.take_of_length_le (l := ints k r) (by rw [ints_length]; omega), List.drop_eq_nil_of_le («as» := ints k r) (by rw [ints_length]; omega),
      show i * m + m + q - m = i * m + q from by omega, show i * m + m + q + Z.length - m = i * m + q + Z.length from by omega]
    simp [List.append_assoc]
theorem rowSet_length (R : List (List Int)) (i q : Nat) (Z : List Int) : (rowSet R i q Z).length = R.length := by simp [rowSet]
theorem rowSet_rows {m : Nat} {R : List (List Int)} {i q : Nat} {Z : List Int} (h : ∀ r ∈ R, r.length = m) (hi : i < R.length) (hq : q + Z.length ≤ m) : ∀ r ∈ rowSet R i q Z, r.length = m := by
  have hr := rows_row h hi
  exact rows_set h (by simp only [List.length_append, List.length_take, List.length_drop]; omega)
theorem setp_arr {k : IntKind} {m n : Nat} {R : List (List Int)} {i q : Nat} {Z : List Int} (h : ∀ r ∈ R, r.length = m) (hi : i < R.length) (hZ : Z.length = n) (hq : q + n ≤ m) :
    (rowsC k R).take (i * m + q) ++ sgCells (fun _ => 0) (fun _ => .slice none 0 0) [.arr k n Z] ++ (rowsC k R).drop (i * m + q + n) = rowsC k (rowSet R i q Z) := by
  subst hZ
  have e : sgCells (fun _ => 0) (fun _ => Value.slice none 0 0) [.arr k Z.length Z] = ints k Z := by simp [sgCells, Sg.cells]
  rw [e]; exact set_part h hi hq
theorem setp_one {k : IntKind} {m : Nat} {R : List (List Int)} {i q : Nat} {x : Int} (h : ∀ r ∈ R, r.length = m) (hi : i < R.length) (hq : q + 1 ≤ m) :
    (rowsC k R).take (i * m + q) ++ sgCells (fun _ => 0) (fun _ => .slice none 0 0) [.one (.v (.int k x))] ++ (rowsC k R).drop (i * m + q + 1) = rowsC k (rowSet R i q [x]) := set_part (Z := [x]) h hi hq
theorem vle2 {j n m q p : Nat} (h : j < n) (hq : q + p ≤ m) : j * m + q + p ≤ n * m := by
  have := Nat.mul_le_mul_right m (Nat.succ_le_of_lt h)
  rw [Nat.succ_mul] at this; omega
theorem vecI_src {X s x n e k L} (hx : evO s x = some (.lf (.vec n))) (hv : look s.V n = some ⟨e, 1, List.length L, ints k L⟩) : SrcAt X s x 1 L.length (ints k L) := vec_src hx hv ints_one (ints_len1 k L)
theorem vecR_src {X s x n e k m R} (hx : evO s x = some (.lf (.vec n))) (hv : look s.V n = some ⟨e, m, List.length R, rowsC k R⟩) (hR : ∀ r ∈ R, r.length = m) : SrcAt X s x m R.length (rowsC k R) := vec_src hx hv rowsC_one (rowsC_length hR)
theorem ints_app_eq {k : IntKind} {L L' W : List Int} (h : W = L ++ L') : ints k L ++ ints k L' = ints k W := by rw [h, ints_append]
theorem rowsC_app_eq {k : IntKind} {L L' W : List (List Int)} (h : W = L ++ L') : rowsC k L ++ rowsC k L' = rowsC k W := by rw [h, rowsC_append]
theorem len_app_eq {α : Type} {L L' W : List α} (h : W = L ++ L') : L.length + L'.length = W.length := by rw [h, List.length_append]
theorem bound_len {n b : Nat} (hb : Nat.blt 0 b = true) (h : n * b ≤ 140737488355328) : n ≤ maxLen := by
  have := Nat.le_mul_of_pos_right n (Eq.mp Nat.blt_eq hb)
  simp only [maxLen]; omega
theorem bound_len2 {n b : Nat} (hb : Nat.blt 0 b = true) (h : b * n ≤ 281474976710656) : n ≤ maxLen := by
  have := Nat.le_mul_of_pos_left n (Eq.mp Nat.blt_eq hb)
  simp only [maxLen]; omega
theorem some_nn {a : Int} (h : 0 ≤ a) : ∀ z, some a = some z → 0 ≤ z := fun z hz => by injection hz with hz; rw [← hz]; exact h
theorem none_nn : ∀ z, (none : Option Int) = some z → 0 ≤ z := fun z hz => by cases hz
def okAt (X : Cx) (s : St) (ops : Array Oper) (i d : Nat) : Bool := (match wantedAt ops s i with | some b => b | none => false) && Nat.blt d X.N && s.fresh d
theorem okAt_eq {X s ops i d} (h : okAt X s ops i d = true) : wantedAt ops s i = some true ∧ (Nat.blt d X.N && s.fresh d) = true := by
  unfold okAt at h
  simp only [Bool.and_eq_true] at h
  refine ⟨?_, by simp only [Bool.and_eq_true]; exact ⟨h.1.2, h.2⟩⟩
  cases hw : wantedAt ops s i with
  | none => rw [hw] at h; exact absurd h.1.1 (by simp)
  | some b => rw [hw] at h; have hb : b = true := h.1.1; rw [hb]
def litC (P : Program) (s : St) (ops : Array Oper) (i : Nat) : Option (Nat × TypeId × Nat × Nat × List Value) :=
  match litAt ops i with
  | some (some d, t, len, parts) => match litCs P s t len parts with
    | some (e, sz, cs) => some (d, e, sz, len, cs)
    | none => none
  | _ => none
theorem TE_litC {X ops i s Q} {lr : List Oper} {d e sz len} {cs : List Value} (h : litC X.P s ops i = some (d, e, sz, len, cs)) (ho : okAt X s ops i d = true) (hl : Nat.ble len 1000 = true)
    (next : TL X ops lr { s with σ := (d, .lf (.vec d)) :: s.σ, V := (d, ⟨e, sz, len, cs⟩) :: s.V } Q) : TE X ops i lr s Q := by
  obtain ⟨h1, h2⟩ := okAt_eq ho
  unfold litC at h
  split at h
  · rename_i d' t' len' parts' e1
    split at h
    · rename_i e' sz' cs' e2
      simp at h
      obtain ⟨rfl, rfl, rfl, rfl, rfl⟩ := h
      exact TE_lit e1 h1 (by rw [h2, hl]; rfl) e2 rfl next
    · simp at h
  · simp at h
def appC (P : Program) (s : St) (ops : Array Oper) (i : Nat) (x' : Operand) : Option (Nat × TypeId × Nat × Nat × Nat × Operand) :=
  match appendAt ops i with
  | some (some d, t, p, x) => match rowInfo P t, evO s p with
    | some (e, sz, bytes, _), some (.lf (.vec n)) => some (d, e, sz, bytes, n, x)
    | _, _ => none
  | _ => none
theorem TE_appC {X ops i s Q} {lr : List Oper} {d e sz bytes n m len len2} {x : Operand} {cs0 cs cs2 : List Value} (h : appC X.P s ops i x = some (d, e, sz, bytes, n, x)) (ho : okAt X s ops i d = true) (hv : look s.V n = some ⟨e, sz, len, cs0⟩) (hx : SrcAt X s x sz m cs)
    (hb : (len + m) * bytes ≤ 140737488355328) (hby : Nat.blt 0 bytes = true) (hl : len + m = len2) (hc : cs0 ++ cs = cs2)
    (next : TL X ops lr { s with σ := (d, .lf (.vec d)) :: s.σ, V := (d, ⟨e, sz, len2, cs2⟩) :: dropV n s.V } Q) : TE X ops i lr s Q := by
  obtain ⟨h1, h2⟩ := okAt_eq ho
  unfold appC at h
  split at h
  · rename_i d' t' p' x' e1
    split at h
    · rename_i e' sz' b' zs' n' e2 e3
      simp at h
      obtain ⟨rfl, rfl, rfl, rfl, rfl, rfl⟩ := h
      exact TE_append e1 h1 h2 e2 e3 hv ⟨rfl, rfl⟩ hx hb (bound_len hby hb) hl hc next
    · simp at h
  · simp at h
def makeC (P : Program) (s : St) (ops : Array Oper) (i : Nat) : Option (Nat × TypeId × Nat × Nat × List Value × Int × Int) :=
  match makeAt ops i with
  | some (some d, t, l, c) => match rowInfo P t, asV (evO s l), asV (evO s c) with
    | some (e, sz, bytes, zs), some (.int _ z), some (.int _ z') => some (d, e, sz, bytes, zs, z, z')
    | _, _, _ => none
  | _ => none
theorem TE_makeC {X ops i s Q} {lr : List Oper} {d e sz bytes len2} {zs cs : List Value} {z : Int} (h : makeC X.P s ops i = some (d, e, sz, bytes, zs, z, z)) (ho : okAt X s ops i d = true) (hz : 0 ≤ z) (hb : bytes * z.toNat ≤ 281474976710656) (hby : Nat.blt 0 bytes = true)
    (hcs : (List.replicate z.toNat zs).flatten = cs) (hl2 : z.toNat = len2)
    (next : TL X ops lr { s with σ := (d, .lf (.vec d)) :: s.σ, V := (d, ⟨e, sz, len2, cs⟩) :: s.V } Q) : TE X ops i lr s Q := by
  obtain ⟨h1, h2⟩ := okAt_eq ho
  unfold makeC at h
  split at h
  · rename_i d' t' l' c' e1
    split at h
    · rename_i e' sz' b' zs' k1 z1 k2 z2 e2 e3 e4
      simp at h
      obtain ⟨rfl, rfl, rfl, rfl, rfl, rfl, rfl⟩ := h
      exact TE_make e1 h1 h2 e2 e3 e4 (Int.toNat_of_nonneg hz).symm hb (bound_len2 hby hb) hcs hl2 next
    · simp at h
  · simp at h
def stC (P : Program) (s : St) (ops : Array Oper) (i : Nat) : Option (Nat × Nat × Nat × Nat × Nat × List Sg) :=
  match storeAt? ops i with
  | some (t, p, x) => match szOf P t, evO s p, (evO s x).bind sgOfSV with
    | some m, some (.lf (.vel n sz j q)), some c => some (m, n, sz, j, q, c)
    | _, _, _ => none
  | none => none
theorem TE_stC {X ops i s Q} {lr : List Oper} {m n sz j q e len len2} {c : List Sg} {cs0 cs2 : List Value} (h : stC X.P s ops i = some (m, n, sz, j, q, c)) (hw : (match wantedAt ops s i with | some b => b | none => false) = true) (hv : look s.V n = some ⟨e, sz, len, cs0⟩)
    (hle : j * sz + q + m ≤ len * sz) (hcl : (sgClosed c && Nat.beq (sgSize c) m && Nat.blt 0 m) = true) (hc : cs0.take (j * sz + q) ++ sgCells (fun _ => 0) (fun _ => .slice none 0 0) c ++ cs0.drop (j * sz + q + m) = cs2) (hl2 : len = len2)
    (next : TL X ops lr { s with V := (n, ⟨e, sz, len2, cs2⟩) :: s.V } Q) : TE X ops i lr s Q := by
  simp only [Bool.and_eq_true] at hcl
  have hw' : wantedAt ops s i = some true := by
    cases hw2 : wantedAt ops s i with
    | none => rw [hw2] at hw; cases hw
    | some b => rw [hw2] at hw; have hb : b = true := hw; rw [hb]
  unfold stC at h
  split at h
  · rename_i t' p' x' e1
    split at h
    · rename_i m' n' sz' j' q' c' e2 e3 e4
      simp at h
      obtain ⟨rfl, rfl, rfl, rfl, rfl, rfl⟩ := h
      cases hx : evO s x' with
      | none => rw [hx] at e4; cases e4
      | some y =>
        rw [hx] at e4
        exact TE_stV e1 hw' e2 e3 hv hle hx e4 hcl.1.1 hc ⟨Nat.eq_of_beq_eq_true hcl.1.2, Eq.mp Nat.blt_eq hcl.2⟩ hl2 next
    · simp at h
  · simp at h
def Lf.ren (m n : Nat) : Lf → Lf
  | .vec k => match Nat.beq k m with | true => .vec n | false => .vec k
  | .vel k sz i j => match Nat.beq k m with | true => .vel n sz i j | false => .vel k sz i j
  | l => l
def renV (m n : Nat) : List (Nat × Vc) → List (Nat × Vc)
  | [] => []
  | (k, v) :: r => match Nat.beq k m with | true => (n, v) :: renV m n r | false => (k, v) :: renV m n r
theorem look_renV {m n t : Nat} {u : Vc} : ∀ {l : List (Nat × Vc)}, freeV n l = true → look (renV m n l) t = some u → (t = n ∧ look l m = some u) ∨ (t ≠ n ∧ t ≠ m ∧ look l t = some u)
  | [], _, h => by simp [renV, look] at h
  | (k, v) :: r, hf, h => by
    simp only [freeV, Bool.and_eq_true, Bool.not_eq_true'] at hf
    have hk := beq_ne.1 hf.1
    simp only [renV] at h
    cases hb : Nat.beq k m with
    | true =>
      rw [hb] at h
      simp only at h
      have e := Nat.eq_of_beq_eq_true hb
      subst e
      rw [look_cons] at h
      split at h
      · rename_i e; subst e; exact .inl ⟨rfl, by rw [look_cons_eq]; exact h⟩
      · rename_i e
        rcases look_renV hf.2 h with ⟨e1, _⟩ | ⟨e1, e2, e3⟩
        · exact absurd e1.symm e
        · exact .inr ⟨e1, e2, by rw [look_cons, if_neg (fun e => e2 e.symm)]; exact e3⟩
    | false =>
      rw [hb] at h
      simp only at h
      have hkm := beq_ne.1 hb
      rw [look_cons] at h
      split at h
      · rename_i e; subst e; exact .inr ⟨hk, hkm, by rw [look_cons_eq]; exact h⟩
      · rename_i e
        rcases look_renV hf.2 h with ⟨e1, e2⟩ | ⟨e1, e2, e3⟩
        · exact .inl ⟨e1, by rw [look_cons, if_neg hkm]; exact e2⟩
        · exact .inr ⟨e1, e2, by rw [look_cons, if_neg e]; exact e3⟩
theorem ren_val {m n : Nat} {ids vals} {l : Lf} (h : l.free n = true) : (l.ren m n).val ids (upd vals n (vals m)) = l.val ids vals := by
  cases l with
  | vec k =>
    simp only [Lf.free, Bool.not_eq_true'] at h
    have hk := beq_ne.1 h
    simp only [Lf.ren]
    split
    · rename_i e; rw [Nat.eq_of_beq_eq_true e]; simp [Lf.val, upd_same]
    · simp [Lf.val, upd_other hk]
  | vel k sz i j =>
    simp only [Lf.free, Bool.not_eq_true'] at h
    have hk := beq_ne.1 h
    simp only [Lf.ren]
    split
    · rename_i e; rw [Nat.eq_of_beq_eq_true e]; simp [Lf.val, upd_same]
    · simp [Lf.val, upd_other hk]
  | _ => rfl
theorem ren_storable {m n : Nat} (l : Lf) (h : l.storable = true) : (l.ren m n).storable = true := by
  cases l with
  | vec k => simp only [Lf.ren]; split <;> rfl
  | vel k sz i j => simp [Lf.storable] at h
  | _ => exact h
theorem ren_cells {m n : Nat} {ids vals} : ∀ {c : List Sg}, sgFree n c = true → sgCells ids (upd vals n (vals m)) (sgMap (Lf.ren m n) c) = sgCells ids vals c
  | [], _ => rfl
  | .one l :: r, h => by
    simp only [sgFree, Bool.and_eq_true] at h
    simp only [sgMap, sgCells, Sg.cells, ren_val h.1, ren_cells h.2]
  | .arr k q L :: r, h => by
    simp only [sgFree] at h
    simp only [sgMap, sgCells, Sg.cells, ren_cells h]
theorem ren_tup {m n : Nat} {ids vals} : ∀ {l : List (Option Lf × List Sg)}, tupFree n l = true → (tupMap (Lf.ren m n) l).map (tupVal ids (upd vals n (vals m))) = l.map (tupVal ids vals)
  | [], _ => rfl
  | (some l, s) :: r, h => by
    simp only [tupFree, Bool.and_eq_true] at h
    simp only [tupMap, List.map_cons, tupVal, ren_val h.1, ren_tup h.2]
  | (none, s) :: r, h => by
    simp only [tupFree, Bool.and_eq_true] at h
    simp only [tupMap, List.map_cons, tupVal, ren_cells h.1, ren_tup h.2]
theorem ren_sv {m n : Nat} {ids vals} {x : SV} (h : x.free n = true) : (x.map (Lf.ren m n)).val ids (upd vals n (vals m)) = x.val ids vals := by
  cases x with
  | lf l => exact ren_val h
  | agg s => simp only [SV.map, SV.val, ren_cells (show sgFree n s = true from h)]
  | tup l => simp only [SV.map, SV.val, ren_tup (show tupFree n l = true from h)]
def St.ren (m n : Nat) (s : St) : St := { σ := mapσ (Lf.ren m n) s.σ, H := mapH (Lf.ren m n) s.H, V := renV m n s.V, M := s.M, ds := s.ds, os := s.os, ats := s.ats }
theorem ren_sub {s s' : St} (m n : Nat) (hf : s.fresh n = true) (h : s.ren m n = s') : Sub s' s := by
  subst h
  intro X ids vals a w hr
  refine ⟨ids, upd vals n (vals m), ?_⟩
  simp only [St.fresh, Bool.and_eq_true] at hf
  obtain ⟨⟨f1, f2⟩, f3, f4⟩ := hf
  have hs := ren_storable (m := m) (n := n)
  have nm : ∀ {t u}, look s.V t = some u → t ≠ n := fun h => freeV_look f3 h
  have vv : ∀ {t u}, look (renV m n s.V) t = some u → ∃ t', look s.V t' = some u ∧ upd vals n (vals m) t = vals t' ∧ ((t = n ∧ t' = m) ∨ (t' = t ∧ t ≠ n ∧ t ≠ m)) := by
    intro t u hu
    rcases look_renV f3 hu with ⟨e1, e2⟩ | ⟨e1, e2, e3⟩
    · exact ⟨m, e2, by rw [e1, upd_same], .inl ⟨e1, rfl⟩⟩
    · exact ⟨t, e3, by rw [upd_other e1], .inr ⟨rfl, e1, e2⟩⟩
  exact {
    size := hr.size
    defers := hr.defers
    marks := hr.marks
    others := hr.others
    att := hr.att
    onev := fun t => by
      by_cases e : t = n
      · subst e; rw [upd_same]; exact hr.onev m
      · rw [upd_other e]; exact hr.onev t
    tmp := fun t x hx => by
      obtain ⟨y, hy, rfl⟩ := look_mapσ hx
      obtain ⟨e1, e2⟩ := hr.tmp t y hy
      exact ⟨by rw [ren_sv (frees_look f1 hy)]; exact e1, SV.map_wf hs e2⟩
    blk := fun t c hc => by
      obtain ⟨y, hy, rfl⟩ := look_mapH hc
      obtain ⟨u1, u2, u3, T', u4⟩ := hr.blk t y hy
      exact ⟨sgMap_wf hs u1, u2, u3, T', by rw [ren_cells (freeH_look f2 hy).1]; exact u4⟩
    inj := fun t k x y hx hy e => by
      obtain ⟨x', hx', _⟩ := look_mapH hx
      obtain ⟨y', hy', _⟩ := look_mapH hy
      exact hr.inj t k x' y' hx' hy' e
    vec := fun t v hv => by
      obtain ⟨t', h1, h2, _⟩ := vv hv
      rw [h2]; exact hr.vec t' v h1
    apart := fun t v g hv hg => by
      obtain ⟨t', h1, h2, h3⟩ := vv hv
      rw [h2] at hg
      obtain ⟨a1, a2, a3⟩ := hr.apart t' v g h1 hg
      refine ⟨a1, fun k d hd => ?_, fun k u hu hne => ?_⟩
      · obtain ⟨y, hy, _⟩ := look_mapH hd
        exact a2 k y hy
      · obtain ⟨k', h4, h5, h6⟩ := vv hu
        rw [h5]
        refine a3 k' u h4 (fun e => hne ?_)
        rcases h3 with ⟨e1, e2⟩ | ⟨e1, e2, e3⟩ <;> rcases h6 with ⟨e4, e5⟩ | ⟨e4, e5, e6⟩
        · rw [e1, e4]
        · rw [e4, e2] at e; exact absurd e e6
        · rw [e1, e5] at e; exact absurd e.symm e3
        · rw [← e4, ← e1, e]
    mem := hr.mem
    grow := hr.grow
    below := hr.below
    base := hr.base }
theorem rep_ints' {k : IntKind} {n : Nat} {W : List Int} (h : W = List.replicate n 0) : (List.replicate n [Value.int k 0]).flatten = ints k W := by rw [h]; exact rep_ints k n
end Go.Proofs.Ythniebmammmacaa
namespace Go.Proofs.Ythniebmammmacaa
open Go.RowKit
structure R0 (N : Nat) (M : Mem) (σ : List (Nat × SV)) (a : Act) (w : World) : Prop where
  size : a.tmps.size = N
  defers : a.defers = []
  tmp : ∀ t x, look σ t = some x → a.tmps[t]? = some (rval x) ∧ x.wf
  mem : Mem.le M (memOf w)
def cx0 (P : Program) (N : Nat) (w : World) (M : Mem) : Cx := { P := P, rd := none, B := w.heap.size, N := N, w0 := w, M0 := M }
def st0 (σ : List (Nat × SV)) (M : Mem) : St := { σ := σ, H := [], V := [], M := M, ds := [] }
theorem R0.rel {N M σ a w} (P : Program) (h : R0 N M σ a w) : Rel (cx0 P N w M) (fun _ => 0) (fun _ => .slice none 0 0) (st0 σ M) a w where
  size := h.size
  defers := by rw [h.defers]; rfl
  marks := fun D hD => by cases hD
  others := fun p hp => by cases hp
  att := fun p hp => by cases hp
  onev := fun _ => rfl
  tmp := h.tmp
  blk := fun n c hc => by simp [st0, look] at hc
  inj := fun n m c d hc => by simp [st0, look] at hc
  vec := fun n v hv => by simp [st0, look] at hv
  apart := fun n v g hv => by simp [st0, look] at hv
  mem := h.mem
  grow := ⟨Mem.le_refl _, fun b h1 h2 => absurd h1 h2⟩
  below := Below.refl _ _
  base := Nat.le_refl _
def Gr (J : World → Prop) : Prop := ∀ A B, J A → Below A.heap.size A B → J B
theorem R0.put {N M σ a w w'} (h : R0 N M σ a w) (hb : Below w.heap.size w w') {d : Nat} (hd : d < N) {x : SV} (hx : x.wf) : R0 N M ((d, x) :: σ) (a.put (some d) (rval x)) w' where
  size := by simp [Act.put, h.size]
  defers := h.defers
  tmp := fun t y hy => by
    rw [look_cons] at hy
    have hs := h.size
    simp only [Act.put, Array.getElem?_setIfInBounds]
    split at hy
    · rename_i e; subst e; simp at hy; subst hy
      simp [hs, hd, hx]
    · rename_i e
      rw [if_neg e]
      exact h.tmp t y hy
  mem := Mem.le_trans h.mem (memOf_below hb)
abbrev WQ := Exit → List (Nat × SV) → World → Prop
def wpost (N : Nat) (M : Mem) (Q : WQ) : Exit → Act → World → Prop := fun e a w => ∃ σ, Q e σ w ∧ R0 N M σ a w
def TW (P : Program) (N : Nat) (M : Mem) (c : Code) (σ : List (Nat × SV)) (pre : World → Prop) (Q : WQ) : Prop := ∀ a w, R0 N M σ a w → pre w → c.wpIn Fence.wide 0 P (wpost N M Q) a w
def TWI (P : Program) (N : Nat) (M : Mem) (ops : Array Oper) (i : Nat) (σ : List (Nat × SV)) (pre : World → Prop) (Q : WQ) : Prop := ∀ a w, R0 N M σ a w → pre w → wpListIn Fence.wide 0 P ops (wpost N M Q) (ops.toList.drop i) a w
def thenW (K : List (Nat × SV) → World → Prop) (Q : WQ) : WQ
  | .normal, σ, w => K σ w
  | e, σ, w => Q e σ w
section
variable {P : Program} {N : Nat} {M : Mem} {c c1 c2 : Code} {σ : List (Nat × SV)} {pre : World → Prop} {Q : WQ} {ops : Array Oper} {i : Nat}
theorem TW_seq (mid : List (Nat × SV) → World → Prop) (h : c = .seq c1 c2) (h1 : TW P N M c1 σ pre (thenW mid Q)) (h2 : ∀ σ', TW P N M c2 σ' (mid σ') Q) : TW P N M c σ pre Q := by
  subst h
  intro a w hr hp
  refine wpIn_seq (wpIn_mono (h1 a w hr hp) ?_)
  rintro e a' w' ⟨σ', hq, hr'⟩
  cases e with
  | normal => exact h2 σ' a' w' hr' hq
  | _ => exact ⟨σ', hq, hr'⟩
theorem TW_skip (h : c = .skip) (h1 : ∀ w, pre w → Q .normal σ w) : TW P N M c σ pre Q := by
  subst h
  exact fun a w hr hp => wpIn_skip ⟨σ, h1 w hp, hr⟩
theorem TW_exit {id : Nat} (h : c = .exit id) (h1 : ∀ w, pre w → Q (.exit id) σ w) : TW P N M c σ pre Q := by
  subst h
  exact fun a w hr hp => wpIn_exit ⟨σ, h1 w hp, hr⟩
theorem TW_ret (h : c = .ret) (h1 : ∀ w, pre w → Q .ret σ w) : TW P N M c σ pre Q := by
  subst h
  exact fun a w hr hp => wpIn_ret ⟨σ, h1 w hp, hr⟩
def blockW (id : Nat) (Q : WQ) : WQ
  | .exit id', σ, w => if id' = id then Q .normal σ w else Q (.exit id') σ w
  | e, σ, w => Q e σ w
theorem TW_block {id : Nat} (h : c = .block id c1) (h1 : TW P N M c1 σ pre (blockW id Q)) : TW P N M c σ pre Q := by
  subst h
  intro a w hr hp
  refine wpIn_block (wpIn_mono (h1 a w hr hp) ?_)
  rintro e a' w' ⟨σ', hq, hr'⟩
  cases e with
  | exit id' =>
    simp only [blockW] at hq
    simp only [Exit.inBlock]
    split
    · rename_i e; rw [if_pos e] at hq; exact ⟨σ', hq, hr'⟩
    · rename_i e; rw [if_neg e] at hq; exact ⟨σ', hq, hr'⟩
  | _ => exact ⟨σ', hq, hr'⟩
theorem TW_cond {x : Operand} {b : Bool} (h : c = .cond x c1 c2) (hx : evO (st0 σ M) x = some (.lf (.v (.bool b)))) (h1 : b = true → TW P N M c1 σ pre Q) (h2 : b = false → TW P N M c2 σ pre Q) : TW P N M c σ pre Q := by
  subst h
  intro a w hr hp
  exact wpIn_cond_split (t := b) ((hr.rel P).ev hx) (fun hb => h1 hb a w hr hp) (fun hb => h2 hb a w hr hp)
theorem TW_loop (h : c = .loop c1) (I : Nat → List (Nat × SV) → World → Prop) {k : Nat} (h0 : ∀ w, pre w → I k σ w)
    (round : ∀ k σ, TW P N M c1 σ (I k σ) (thenW (fun σ' w' => ∃ k', k' < k ∧ I k' σ' w') Q)) : TW P N M c σ pre Q := by
  subst h
  intro a w hr hp
  refine wpIn_loop_fuel (fun k a w => ∃ σ, I k σ w ∧ R0 N M σ a w) (k := k) ⟨σ, h0 w hp, hr⟩ ?_
  rintro k a w ⟨σ, hi, hr⟩
  refine wpIn_mono (round k σ a w hr hi) ?_
  rintro e a' w' ⟨σ', hq, hr'⟩
  cases e with
  | normal =>
    obtain ⟨k', hlt, hk'⟩ := hq
    exact ⟨k', hlt, σ', hk', hr'⟩
  | _ => exact ⟨σ', hq, hr'⟩
theorem TW_pre {pre' : World → Prop} (hp : ∀ w, pre w → pre' w) (h : TW P N M c σ pre' Q) : TW P N M c σ pre Q := fun a w hr h1 => h a w hr (hp w h1)
theorem TW_region {id : Nat} (h : regOf c = some (false, id)) (h1 : TWI P N M (opsOf c) 0 σ pre Q) : TW P N M c σ pre Q := by
  intro a w hr hp
  cases c with
  | region id' ops d =>
    simp [regOf] at h
    obtain ⟨rfl, rfl⟩ := h
    exact wpIn_region_list (by simpa [TWI, opsOf] using h1 a w hr hp)
  | _ => simp [regOf] at h
theorem TWI_end (h : Nat.beq ops.size i = true) (h1 : ∀ w, pre w → Q .normal σ w) : TWI P N M ops i σ pre Q := by
  intro a w hr hp
  rw [List.drop_eq_nil_of_le (by simp; exact Nat.le_of_eq (Nat.eq_of_beq_eq_true h))]
  exact ⟨σ, h1 w hp, hr⟩
theorem R0.less {σ' : List (Nat × SV)} {a w} (h : R0 N M σ a w) (hs : ∀ t x, look σ' t = some x → look σ t = some x) : R0 N M σ' a w := ⟨h.size, h.defers, fun t x hx => h.tmp t x (hs t x hx), h.mem⟩
theorem TW_keep {σ' : List (Nat × SV)} (ts : List Nat) (hk : keepσ σ ts = some σ') (h : TW P N M c σ' pre Q) : TW P N M c σ pre Q := fun a w hr hp => h a w (hr.less fun _ _ hx => keepσ_look hk hx) hp
theorem TWI_keep {σ' : List (Nat × SV)} (ts : List Nat) (hk : keepσ σ ts = some σ') (h : TWI P N M ops i σ' pre Q) : TWI P N M ops i σ pre Q := fun a w hr hp => h a w (hr.less fun _ _ hx => keepσ_look hk hx) hp
theorem TWI_at {d : Nat} {x : SV} (h : ∀ w, OpAt (cx0 P N w M) (st0 σ M) ops i d x) (hg : Gr pre) (hc : (match wantedAt ops (st0 σ M) i with | some b => b && Nat.blt d N | none => false) = true) (hx : x.wf) (next : TWI P N M ops (i + 1) ((d, x) :: σ) pre Q) : TWI P N M ops i σ pre Q := by
  intro a w hr hp
  obtain ⟨o, ho, hd, hv⟩ := h w
  rw [drop_cons ho]
  cases hw : wantedAt ops (st0 σ M) i with
  | none => rw [hw] at hc; cases hc
  | some b =>
    rw [hw] at hc
    simp only [Bool.and_eq_true] at hc
    rw [hc.1] at hw
    simp only [wantedAt, ho, Option.bind_some] at hw
    simp only [wpListIn]
    rw [if_pos (wantedS_eq (hr.rel P) hw)]
    have h1 := hv _ _ a w (hr.rel P)
    unfold Oper.wpIn at h1 ⊢
    refine ⟨fun _ _ => trivial, uponIn_weaken ?_ (fun _ _ _ hf => hf) h1.2⟩
    rintro a' w' ⟨rfl, hb⟩
    rw [hd]
    exact next _ w' (hr.put hb (Eq.mp Nat.blt_eq hc.2) hx) (hg _ _ hp hb)
theorem TWI_pure {y : Nat × SV} (h : exHead P N ops (st0 σ M) i = some y) (next : TWI P N M ops (i + 1) (y :: σ) pre Q) : TWI P N M ops i σ pre Q := by
  intro a w hr hp
  unfold exHead at h
  cases ho : ops[i]? with
  | none => rw [ho] at h; cases h
  | some o =>
    rw [ho] at h
    simp only at h
    have hrel := hr.rel P
    split at h
    · rename_i s' hq e1
      rw [drop_cons ho]
      simp only [wpListIn]
      unfold exStep at e1
      split at e1
      · rename_i b1 b2
        have hw := wantedS_eq hrel b2
        rw [if_pos hw]
        obtain ⟨p1, p2⟩ := exOp_plain e1
        obtain ⟨d', x', g1, g2, g3, g4⟩ := exOp_quiet hrel e1 hq
        subst g2
        simp only [St.put, st0] at h
        injection h with h
        subst h
        refine does_value (X := cx0 P N w M) p1 p2 g4 _ _ ?_
        rw [g1] at b1 ⊢
        exact next _ w (hr.put (Below.refl _ _) (Eq.mp Nat.blt_eq b1) g3) hp
      · rename_i b1 b2
        have hw := wantedS_eq hrel b2
        rw [if_neg (by rw [hw]; simp)]
        refine ⟨fun _ _ => trivial, ?_⟩
        split at e1
        · rename_i d hd
          simp at e1; subst e1
          simp only [St.put, st0] at h
          injection h with h
          subst h
          rw [hd] at b1 ⊢
          exact next _ w (hr.put (Below.refl _ _) (Eq.mp Nat.blt_eq b1) (x := .tup []) (by intro y hy; cases hy)) hp
        · rename_i hd
          simp at e1; subst e1
          simp only [st0] at h
          rw [hd]
          cases hσ : σ with
          | nil => rw [hσ] at h; cases h
          | cons z r =>
            rw [hσ] at h
            simp at h; subst h
            have hr2 : R0 N M (z :: σ) a w := hr.less (fun t x hx => by
              rw [hσ] at hx ⊢
              obtain ⟨z1, z2⟩ := z
              rw [look_cons] at hx
              rw [look_cons]
              split at hx
              · rename_i e; rw [if_pos e]; exact hx
              · rename_i e; rw [look_cons, if_neg e] at hx; rw [if_neg e]; exact hx)
            exact next a w hr2 hp
      · simp at e1
    · simp at h
end
end Go.Proofs.Ythniebmammmacaa
namespace Go.Proofs.Ythniebmammmacaa
open Go.RowKit
section
variable {P : Program} {N : Nat} {M : Mem} {c c1 c2 : Code} {σ : List (Nat × SV)} {pre : World → Prop} {Q : WQ} {ops : Array Oper} {i : Nat}
end
def IterL (P : Program) (gf : Nat) (lb : List Value) (M : Mem) (ks : List Int) : Prop :=
  ∀ (l : Nat) (J : List Int → World → Prop) (Jx : World → Prop) (W : World), Mem.le M (memOf W) → (∀ pre, Gr (J pre)) → Gr Jx →
    (∀ pre x W1, (∃ r, (pre ++ [x]) ++ r = ks) → J pre W1 → Mem.le M (memOf W1) → YieldAt Fence.wide 0 P l #[.int .i64 x] W1 fun e W' => (e = .returned (.bool true) ∧ J (pre ++ [x]) W' ∧ Mem.le M (memOf W')) ∨ (e = .returned (.bool false) ∧ Jx W' ∧ Mem.le M (memOf W'))) →
    J [] W → CallsIn Fence.wide 0 P gf (#[.func (.yield l) #[] #[]] ++ lb.toArray) W fun e W' => (∃ v, e = .returned v) ∧ (J ks W' ∨ Jx W')
theorem IterL.le {P gf lb M M' ks} (h : IterL P gf lb M ks) (hM : Mem.le M M') : IterL P gf lb M' ks := fun l J Jx W hW hJ hJx hy h0 =>
  (h l (fun pre W => J pre W ∧ Mem.le M' (memOf W)) Jx W (Mem.le_trans hM hW) (fun pre A B ha hb => ⟨hJ pre A B ha.1 hb, Mem.le_trans ha.2 (memOf_below hb)⟩) hJx (fun pre x W1 hr hj _ => by
    obtain ⟨fn, tmps, assign, body, y1, y2⟩ := hy pre x W1 hr hj.1 hj.2
    refine ⟨fn, tmps, assign, body, y1, y2.mono ?_⟩
    rintro e W' (⟨q1, q2, q3⟩ | ⟨q1, q2, q3⟩)
    · exact .inl ⟨q1, ⟨q2, q3⟩, Mem.le_trans hM q3⟩
    · exact .inr ⟨q1, q2, Mem.le_trans hM q3⟩) ⟨h0, hW⟩).mono (fun e W' hq => ⟨hq.1, hq.2.elim (fun q => .inl q.1) .inr⟩)
def Lf.tied (names : List Nat) : Lf → Bool
  | .v _ | .ep .. => true
  | .own n _ | .oel n _ => names.any (Nat.beq n)
  | _ => false
def SV.tied (names : List Nat) : SV → Bool
  | .lf l => l.tied names
  | _ => false
def tieds (names : List Nat) : List (Nat × SV) → Bool
  | [] => true
  | (_, x) :: r => x.tied names && tieds names r
theorem tied_val {names : List Nat} {ids ids' vals vals'} (hn : ∀ n ∈ names, ids' n = ids n) {x : SV} (h : x.tied names = true) : x.val ids' vals' = x.val ids vals := by
  cases x with
  | lf l =>
    cases l with
    | v y => rfl
    | ep A sz i j => rfl
    | own n o =>
      simp only [SV.tied, Lf.tied, List.any_eq_true] at h
      obtain ⟨m, hm, e⟩ := h
      have e := Nat.eq_of_beq_eq_true e
      subst e
      simp [SV.val, Lf.val, hn _ hm]
    | oel n o =>
      simp only [SV.tied, Lf.tied, List.any_eq_true] at h
      obtain ⟨m, hm, e⟩ := h
      have e := Nat.eq_of_beq_eq_true e
      subst e
      simp [SV.val, Lf.val, hn _ hm]
    | _ => simp [SV.tied, Lf.tied] at h
  | _ => simp [SV.tied] at h
theorem tieds_look {names : List Nat} : ∀ {l : List (Nat × SV)} {t x}, tieds names l = true → look l t = some x → x.tied names = true
  | [], t, x, _, h => by simp [look] at h
  | (k, y) :: r, t, x, hl, h => by
    simp only [tieds, Bool.and_eq_true] at hl
    rw [look_cons] at h
    split at h
    · simp at h; subst h; exact hl.1
    · exact tieds_look hl.2 h
theorem Rel.frame {X X' : Cx} {ids vals s a w} (h : Rel X ids vals s a w) (hX : X'.B = X.B ∧ X'.N = X.N ∧ X'.w0 = X.w0 ∧ X'.M0 = X.M0) {b : Act} {σ' : List (Nat × SV)} {ds : List Nat} {os : List (Nat × Obj)} {ats : List (Nat × Nat)} (h1 : b.tmps.size = X.N) (h2 : b.defers = ds.map fun D => { target := .collected D, args := #[] })
    (h3 : ∀ t x, look σ' t = some x → b.tmps[t]? = some (x.val ids vals) ∧ x.wf) (h4 : ∀ D ∈ ds, X.B ≤ D ∧ w.heap[D]? = some (.deferred (some []))) (h5 : ∀ p ∈ os, X.B ≤ p.1 ∧ w.heap[p.1]? = some p.2 ∧ p.2.isCells = false) (h6 : ∀ p ∈ ats, ids p.1 = p.2) :
    Rel X' ids vals { σ := σ', H := s.H, V := s.V, M := s.M, ds := ds, os := os, ats := ats } b w := by
  obtain ⟨x1, x2, x3, x4⟩ := hX
  exact {
    size := by rw [x2]; exact h1
    defers := h2
    marks := by rw [x1]; exact h4
    others := by rw [x1]; exact h5
    att := h6
    onev := h.onev
    tmp := h3
    blk := by rw [x1]; exact h.blk
    inj := h.inj
    vec := by rw [x1]; exact h.vec
    apart := h.apart
    mem := h.mem
    grow := by rw [x1, x4]; exact h.grow
    below := by rw [x1, x3]; exact h.below
    base := by rw [x1]; exact h.base }
def tiesOf (names : List Nat) (bs : Nat → Nat) : List (Nat × Nat) := names.map fun n => (n, bs n)
theorem calls_TW {P : Program} {f : Nat} {fn : Func} {c : Code} (args : List SV) {M : Mem} {W : World} {Post : World → Prop} (hf : P.funcs[f]? = some fn) (hb : fn.body = some c) (hn : args.length ≤ fn.ntmps) (hres : fn.results = #[]) (hw : ∀ x ∈ args, x.wf) (hM : Mem.le M (memOf W))
    (h : TW P fn.ntmps M c (params 0 args) (fun w => w = W) (fun e _ w => (e = .normal ∨ e = .ret) ∧ Post w)) : CallsIn Fence.wide 0 P f (args.map rval).toArray W fun e w' => (∃ v, e = .returned v) ∧ Post w' := by
  refine callsIn_of_wp_marks hf hb trivial ?_ rfl
  have hr : R0 fn.ntmps M (params 0 args) { tmps := (args.map rval).toArray ++ Array.replicate (fn.ntmps - (args.map rval).toArray.size) undef, defers := [] } W := {
    size := by simp; omega
    defers := rfl
    tmp := fun t x hx => by
      obtain ⟨_, h2⟩ := params_look hx
      simp only [Nat.sub_zero] at h2
      have hlt : t < args.length := (List.getElem?_eq_some_iff.1 h2).1
      refine ⟨?_, hw x (List.mem_of_getElem? h2)⟩
      rw [Array.getElem?_append_left (by simpa using hlt)]
      simp [h2]
    mem := hM }
  refine wpIn_mono (h _ W hr rfl) ?_
  rintro e a' w' ⟨σ', ⟨he, hp⟩, hr'⟩
  have fin : LeavesInM Fence.wide 0 P fn a'.tmps (fun e w' => (∃ v, e = .returned v) ∧ Post w') a'.defers .returning w' := by
    rw [hr'.defers]
    refine ⟨.tuple #[], ?_, ⟨_, rfl⟩, hp⟩
    simp [results_eq, hres, Sem.run_pure]
  rcases he with rfl | rfl
  · exact fin
  · exact fin
theorem fin_retD {P rs R s} (x : SV) (D : Nat) (h1 : resS P s rs = some x) (h2 : x.closed = true) (h4 : s.ds = [D]) (h3 : R x s.M) : endQ P rs R .ret s := ⟨⟨x, h1, h2, h3⟩, by rw [h4]; simp⟩
end Go.Proofs.Ythniebmammmacaa
namespace Go.Proofs.Ythniebmammmacaa
open Go.RowKit
def remM (M : Mem) (b : Nat) : Mem := fun x => if x = b then none else M x
theorem remM_ne {M : Mem} {b x : Nat} (h : x ≠ b) : remM M b x = M x := by simp [remM, h]
theorem remM_at (M : Mem) (b : Nat) : remM M b b = none := by simp [remM]
theorem remM_le {M M1 : Mem} {b : Nat} {c : Array Value} (h : M b = none) (h1 : Mem.le (addM M b c) M1) : Mem.le M (remM M1 b) := fun x y hx => by
  have hne : x ≠ b := fun e => by subst e; rw [h] at hx; cases hx
  rw [remM_ne hne]
  exact h1 x y (by rw [addM_ne hne]; exact hx)
def lentS (s : St) (n b : Nat) (c : List Sg) : St := { σ := mapσ (Lf.pubH n b) s.σ, H := mapH (Lf.pubH n b) (dropH n s.H), V := s.V, M := addM s.M b (sgCells (fun _ => 0) (fun _ => .slice none 0 0) c).toArray, ds := s.ds, os := s.os, ats := s.ats }
theorem TE_lendP {X ops i s Q} {lr : List Oper} {d f : Nat} (n : Nat) {c : List Sg} (φ : Nat → Prop) {args : Nat → List Value} {R : Nat → SV → Mem → Prop} (hφ : ∀ ids vals a w, Rel X ids vals s a w → φ (ids n)) (hc : look s.H n = some c) (hcl : sgClosed c = true) (h : ∀ b, φ b → callC X.P (lentS s n b c) ops i = some (d, f, args b))
    (hw : (match wantedAt ops s i with | some b => b && Nat.blt d X.N | none => false) = true)
    (hF : ∀ b, φ b → s.M b = none → X.B ≤ b → Fn X.P f (args b) (addM s.M b (sgCells (fun _ => 0) (fun _ => .slice none 0 0) c).toArray) (R b))
    (next : ∀ b x M1, φ b → s.M b = none → Mem.le (addM s.M b (sgCells (fun _ => 0) (fun _ => .slice none 0 0) c).toArray) M1 → x.wf → R b x M1 → TL X ops lr { s with σ := (d, x) :: s.σ, M := remM M1 b } Q) : TE X ops i lr s Q := by
  intro o' ho' ids vals a w hr
  have hp := hφ ids vals a w hr
  obtain ⟨o, fo, ars, tys, first, cap, vs, h1, h2, h3, h4, h5, h6, h7⟩ := callC_eq (h (ids n) hp)
  rw [h1] at ho'
  injection ho' with ho'
  subst ho'
  cases hwd : wantedAt ops s i with
  | none => rw [hwd] at hw; cases hw
  | some bb =>
    rw [hwd] at hw
    simp only [Bool.and_eq_true] at hw
    rw [hw.1] at hwd
    simp only [wantedAt, h1, Option.bind_some] at hwd
    simp only [wpListIn]
    rw [if_pos (wantedS_eq hr hwd)]
    have hM0 := (hr.blk n c hc).2.2.1
    have hrL : Rel X ids vals (lentS s n (ids n) c) a w := hr.pubH hc hcl
    unfold Oper.wpIn
    refine ⟨fun _ _ => trivial, ?_⟩
    rw [Oper.semAt_plain (Fx X.rd) _ _ (by rw [h3]; intro c hc; cases hc)]
    have hev := hrL.ev h4
    have hargs := argsS_eq hrL h5
    have hargs2 : ars.map a.eval = (vs.map rval).toArray := by
      apply Array.ext'; rw [← hargs]; simp
    have hrun : (execOp a.eval o).run X.P w = .ok (.enter f (args (ids n)).toArray) w := by
      unfold execOp
      simp only [h3, resolve, Sem.run_bind, hev, SV.val, Lf.val, Deferred.ofValue, Sem.run_pure, Result.andThen_ok, invoke, hargs2]
      rw [enters_run h6]
      congr 2
      rw [← h7]
      simp
    rw [hrun]
    refine ⟨by intro hh; simp [Fx, Fence.wide] at hh, ?_⟩
    have hcall := hF (ids n) hp hM0 (hr.blk n c hc).2.1 w hrL.mem
    have hc' : CallsIn (Fx X.rd) (0 - 1) X.P f (args (ids n)).toArray w (fnPost w (addM s.M (ids n) (sgCells (fun _ => 0) (fun _ => .slice none 0 0) c).toArray) (R (ids n))) := by
      cases hrd : X.rd with
      | none => exact hcall
      | some l => exact CallsIn.inRound l hcall
    refine ⟨hc'.1, fun cs hroom => ?_⟩
    obtain ⟨e, w', fr, ⟨x, M1, p1, p2, p3, p4, p5, p6, p7, p8⟩, rest⟩ := hc'.2 cs hroom
    refine ⟨e, w', fr, ?_, rest⟩
    subst p1
    have hr1 := (hr.called (M' := remM M1 (ids n)) p4 (remM_le hM0 p5) (fun b cc hb => by
      by_cases e : b = ids n
      · subst e; rw [remM_at] at hb; cases hb
      · rw [remM_ne e] at hb; exact p6 b cc hb) (fun b hb hne => by
      by_cases e : b = ids n
      · subst e; rw [remM_at] at hne; exact absurd rfl hne
      · rw [remM_ne e] at hne; exact p7 b (by rw [addM_ne e]; exact hb) hne)).put (Eq.mp Nat.blt_eq hw.2) p3
    have := next (ids n) x M1 hp hM0 p5 p3 p8 ids vals _ w' hr1
    rw [show rval x = x.val ids vals from (SV.closed_val p2).symm, h2]
    exact this
theorem Rel.tie {X : Cx} {ids vals s a w} (h : Rel X ids vals s a w) (n : Nat) : Rel X ids vals { s with ats := (n, ids n) :: s.ats } a w where
  size := h.size
  defers := h.defers
  marks := h.marks
  others := h.others
  att := fun p hp => by
    rcases List.mem_cons.1 hp with rfl | hp
    · rfl
    · exact h.att p hp
  onev := h.onev
  tmp := h.tmp
  blk := h.blk
  inj := h.inj
  vec := h.vec
  apart := h.apart
  mem := h.mem
  grow := h.grow
  below := h.below
  base := h.base
theorem turn_tie {X s} (n : Nat) {c : List Sg} (hc : look s.H n = some c) : Turn X s (fun s' => ∃ b, s' = { s with ats := (n, b) :: s.ats } ∧ s.M b = none ∧ X.B ≤ b) := fun ids vals a w hr =>
  ⟨_, ids, vals, ⟨ids n, rfl, (hr.blk n c hc).2.2.1, (hr.blk n c hc).2.1⟩, hr.tie n⟩
theorem look_mem {α : Type} : ∀ {l : List (Nat × α)} {n : Nat} {x : α}, look l n = some x → (n, x) ∈ l
  | [], _, _, h => by simp [look] at h
  | (m, y) :: r, n, x, h => by
    rw [look_cons] at h
    split at h
    · rename_i e; subst e; injection h with h; subst h; exact List.mem_cons_self ..
    · exact List.mem_cons_of_mem _ (look_mem h)
theorem turn_at {X s} (t : Nat) {n b off : Nat} (hl : look s.σ t = some (.lf (.own n off))) (hb : look s.ats n = some b) : Turn X s (fun s' => s' = { s with σ := (t, .lf (.v (.pointer (some ⟨b, off, none⟩)))) :: s.σ }) := fun ids vals a w hr => by
  have e := hr.att _ (look_mem hb)
  refine ⟨_, ids, vals, rfl, ?_⟩
  exact {
    size := hr.size
    defers := hr.defers
    marks := hr.marks
    others := hr.others
    att := hr.att
    onev := hr.onev
    tmp := fun u x hx => by
      rw [look_cons] at hx
      split at hx
      · rename_i hu
        subst hu
        injection hx with hx
        subst hx
        have := (hr.tmp _ _ hl).1
        simp only [SV.val, Lf.val] at this ⊢
        rw [this]
        simp only at e
        rw [e]
        exact ⟨rfl, trivial⟩
      · exact hr.tmp u x hx
    blk := hr.blk
    inj := hr.inj
    vec := hr.vec
    apart := hr.apart
    mem := hr.mem
    grow := hr.grow
    below := hr.below
    base := hr.base }
theorem TE_lendT {X ops i s Q} {lr : List Oper} {d f : Nat} (n b : Nat) {c : List Sg} {args : List Value} {R : SV → Mem → Prop} (hb : look s.ats n = some b) (hc : look s.H n = some c) (hcl : sgClosed c = true) (h : callC X.P (lentS s n b c) ops i = some (d, f, args))
    (hw : (match wantedAt ops s i with | some b => b && Nat.blt d X.N | none => false) = true)
    (hF : s.M b = none → Fn X.P f args (addM s.M b (sgCells (fun _ => 0) (fun _ => .slice none 0 0) c).toArray) R)
    (next : ∀ x M1 M2, s.M b = none → Mem.le (addM s.M b (sgCells (fun _ => 0) (fun _ => .slice none 0 0) c).toArray) M1 → M2 = remM M1 b → Mem.le s.M M2 → R x M1 → x.wf → TL X ops lr { s with σ := (d, x) :: s.σ, M := M2 } Q) : TE X ops i lr s Q := by
  refine TE_lendP (f := f) n (fun b' => b' = b) (fun ids vals a w hr => hr.att _ (look_mem hb)) hc hcl (args := fun _ => args) (R := fun _ => R) ?_ hw ?_ ?_
  · rintro _ rfl; exact h
  · rintro _ rfl h1 _; exact hF h1
  · rintro _ x M1 rfl h1 h2 h3 h4; exact next x M1 _ h1 h2 rfl (remM_le h1 h2) h4 h3
theorem ne_lent {M : Mem} {b g : Nat} {cs : Array Value} (h : addM M b cs g = none) : g ≠ b := fun e => by subst e; rw [addM_at] at h; cases h
theorem memCell_rem {M M1 M2 : Mem} {b c o : Nat} {v : Value} {cs : Array Value} (hM : M2 = remM M1 b) (h : memCell M1 c o = some v) (hn : addM M b cs c = none) : memCell M2 c o = some v := by
  subst hM
  unfold memCell at *
  rw [remM_ne (ne_lent hn)]; exact h
theorem SlC.rem {M M1 M2 : Mem} {b : Nat} {cs : Array Value} {A : Option Addr} {l : List Value} (hM : M2 = remM M1 b) (h : SlC M1 A l) (hn : ∀ g o p, A = some ⟨g, o, p⟩ → addM M b cs g = none) : SlC M2 A l := by
  rcases h with h | ⟨g, o, e, h⟩
  · exact .inl h
  · exact .inr ⟨g, o, e, fun j v hj => memCell_rem hM (h j v hj) (hn g o none e)⟩
theorem SlR.rem {M M1 M2 : Mem} {b : Nat} {cs : Array Value} {A : Option Addr} {c m : Nat} {k : IntKind} {R : List (List Int)} (hM : M2 = remM M1 b) (h : SlR M1 A c k m R) (hn : ∀ g o p, A = some ⟨g, o, p⟩ → addM M b cs g = none) : SlR M2 A c k m R := ⟨h.1, h.2.1.rem hM hn, h.2.2⟩
theorem SlI.rem {M M1 M2 : Mem} {b : Nat} {cs : Array Value} {A : Option Addr} {c : Nat} {k : IntKind} {L : List Int} (hM : M2 = remM M1 b) (h : SlI M1 A c k L) (hn : ∀ g o p, A = some ⟨g, o, p⟩ → addM M b cs g = none) : SlI M2 A c k L := ⟨h.1.rem hM hn, h.2⟩
def slAC (P : Program) (s : St) (ops : Array Oper) (i : Nat) : Option (Nat × Nat × Nat × Nat) :=
  match ops[i]? with
  | some o => match o.op, o.dst with
    | .slice t x none none none, some d => match P.underlying t, evO s x with
      | some (.array n e), some (.lf (.v (.pointer (some ⟨b, off, none⟩)))) => if ((szOf P e).isSome && Nat.blt 0 n) = true then some (d, b, off, n) else none
      | _, _ => none
    | _, _ => none
  | none => none
theorem At_slA {X s ops i d b off n} {α : Type} {L : List α} (h : slAC X.P s ops i = some (d, b, off, n)) (hL : L.length = n) : OpAt X s ops i d (.lf (.v (.slice (some ⟨b, off, none⟩) (List.length L) n))) := by
  unfold slAC at h
  split at h
  · rename_i o ho
    split at h
    · rename_i t x d' e1 e2
      split at h
      · rename_i n' e b' off' u1 u2
        split at h
        · rename_i hh
          simp at h
          obtain ⟨rfl, rfl, rfl, rfl⟩ := h
          simp only [Bool.and_eq_true] at hh
          rw [hL]
          exact ⟨o, ho, e2, OpV_slA e1 u1 hh.1 hh.2 u2⟩
        · simp at h
      · simp at h
    · simp at h
  · simp at h
theorem SlC_block {M : Mem} {b off n : Nat} {cs l : List Value} (hM : M b = some cs.toArray) (h : (cs.drop off).take n = l) : SlC M (some ⟨b, off, none⟩) l := by
  refine .inr ⟨b, off, rfl, fun j v hj => ?_⟩
  subst h
  rw [List.getElem?_take] at hj
  split at hj
  · rw [List.getElem?_drop] at hj
    simp [memCell, hM, hj]
  · cases hj
theorem SlI_block {M : Mem} {b off n c : Nat} {cs : List Value} {k : IntKind} {L : List Int} (hM : M b = some cs.toArray) (h : (cs.drop off).take n = ints k L) (hl : L.length = n) (hc : Nat.ble n c = true) : SlI M (some ⟨b, off, none⟩) c k L := ⟨SlC_block hM h, by rw [hl]; exact Nat.le_of_ble_eq_true hc⟩
theorem cell_block {M : Mem} {b off : Nat} {cs : List Value} {v : Value} (hM : M b = some cs.toArray) (h : cs[off]? = some v) : memCell M b off = some v := by simp [memCell, hM, h]
theorem cells_block {M : Mem} {b off m : Nat} {cs l : List Value} (hM : M b = some cs.toArray) (h : (cs.drop off).take m = l) : ∀ j u, l[j]? = some u → memCell M b (off + j) = some u := fun j u hj => by
  subst h
  rw [List.getElem?_take] at hj
  split at hj
  · rw [List.getElem?_drop] at hj; exact cell_block hM hj
  · cases hj
theorem cells_blk {M : Mem} {b off m : Nat} {l y : List Sg} (hM : M b = some (sgCells (fun _ => 0) (fun _ => .slice none 0 0) l).toArray) (hw : sgWf l) (hg : sgGet off m l = some y) (hm : Nat.blt 0 m = true) : ∀ j u, (sgCells (fun _ => 0) (fun _ => .slice none 0 0) y)[j]? = some u → memCell M b (off + j) = some u :=
  cells_block hM (sgGet_eq hw hg (Eq.mp Nat.blt_eq hm)).1.symm
theorem cell_blk {M : Mem} {b off : Nat} {l : List Sg} {v : Value} (hM : M b = some (sgCells (fun _ => 0) (fun _ => .slice none 0 0) l).toArray) (hw : sgWf l) (hg : sgGet off 1 l = some [.one (.v v)]) : memCell M b off = some v :=
  cells_blk hM hw hg rfl 0 v rfl
theorem SlI_blk {M : Mem} {b off n c : Nat} {l : List Sg} {k : IntKind} {L : List Int} (hM : M b = some (sgCells (fun _ => 0) (fun _ => .slice none 0 0) l).toArray) (hw : sgWf l) (hg : sgGet off n l = some [.arr k n L]) (hn : Nat.blt 0 n = true) (hl : L.length = n) (hc : Nat.ble n c = true) : SlI M (some ⟨b, off, none⟩) c k L := by
  refine SlI_block hM ?_ hl hc
  have := (sgGet_eq (ids := fun _ => 0) (vals := fun _ => .slice none 0 0) hw hg (Eq.mp Nat.blt_eq hn)).1
  rw [← this]
  simp [sgCells, Sg.cells]
theorem indexC_eq {P s ops i d v n z} (h : indexC P s ops i = some (d, v, n, z)) : ∃ o t x y e de k', ops[i]? = some o ∧ o.dst = some d ∧ o.op = .index t x y ∧ P.underlying t = some (.array n e) ∧ evO s x = some v ∧ asV (evO s y) = some (.int k' z) ∧ szOf P e = some 1 ∧ P.underlying e = some de ∧ de.isRow = false := by
  unfold indexC at h
  split at h
  · rename_i o ho
    split at h
    · rename_i t x y d' e1 e2
      split at h
      · rename_i n' e v' k' z' u1 u2 u3
        split at h
        · rename_i hs
          split at h
          · rename_i de hde
            split at h
            · simp at h
            · rename_i hrow
              simp at h
              obtain ⟨rfl, rfl, rfl, rfl⟩ := h
              exact ⟨o, t, x, y, e, de, k', ho, e2, e1, u1, u2, u3, hs, hde, by simpa using hrow⟩
          · simp at h
        · simp at h
      · simp at h
    · simp at h
  · simp at h
theorem At_index {X s ops i d z} {n : Nat} {k : IntKind} {L : List Int} (h : indexC X.P s ops i = some (d, .agg [.arr k n L], n, z)) (hL : L.length = n) (hz : 0 ≤ z ∧ z < (n : Int)) : OpAt X s ops i d (.lf (.v (.int k (List.getD L z.toNat 0)))) := by
  obtain ⟨o, t, x, y, e, de, k', h1, h2, h3, h4, h5, h6, h7, h8, h9⟩ := indexC_eq h
  refine ⟨o, h1, h2, OpV_value (by rw [h3]; intro c hc; cases hc) fun ids vals a w hr => ?_⟩
  have e1 := hr.ev h5
  have hlt : z.toNat < L.length := by omega
  have hr1 : (Instr.index t (.agg (sgCells ids vals [.arr k n L]).toArray) (.int k' z)).run X.P w = .ok (.int k (List.getD L z.toNat 0)) w := by
    have hg : (sgCells ids vals [.arr k n L]).toArray[z.toNat]? = some (.int k (L.getD z.toNat 0)) := by
      rw [List.getElem?_toArray]
      have : sgCells ids vals [.arr k n L] = ints k L := by simp [sgCells, Sg.cells]
      rw [this]; exact ints_get hlt
    unfold szOf at h7
    cases hqq : X.P.info? e with
    | none => simp [hqq] at h7
    | some inf =>
      have hsz1 : inf.size = 1 := by simpa [hqq] using h7
      simp [Instr.index, asIntOf, Sem.run_bind, run_underlying h4, Sem.run_pure, hz.1, hz.2, sizeOf, typeInfo, program, Sem.run, hqq, hsz1, Go.part, run_isAgg_not h8 h9]
      rw [show (sgCells ids vals [.arr k n L])[z.toNat]? = some (.int k (L.getD z.toNat 0)) from by rw [← List.getElem?_toArray]; exact hg]
      simp [Sem.run_pure, List.getD_eq_getElem?_getD]
  unfold execOp
  simp only [h3, e1, hr.evV h6, SV.val, Lf.val]
  rw [Sem.run_bind, hr1]
  rfl
def cl2 {α β γ : Type} (o : Option (α × β)) (f : α → β → Option γ) : Option γ := match o with | some (a, b) => f a b | none => none
theorem cl2_some {α β γ : Type} {o : Option (α × β)} {f : α → β → Option γ} {r : γ} (h : cl2 o f = some r) : ∃ a b, o = some (a, b) ∧ f a b = some r := by
  cases o with
  | none => cases h
  | some x => exact ⟨x.1, x.2, rfl, h⟩
def cl3 {α β γ δ : Type} (o : Option (α × β × γ)) (f : α → β → γ → Option δ) : Option δ := match o with | some (a, b, c) => f a b c | none => none
theorem cl3_some {α β γ δ : Type} {o : Option (α × β × γ)} {f : α → β → γ → Option δ} {r : δ} (h : cl3 o f = some r) : ∃ a b c, o = some (a, b, c) ∧ f a b c = some r := by
  cases o with
  | none => cases h
  | some x => exact ⟨x.1, x.2.1, x.2.2, rfl, h⟩
end Go.Proofs.Ythniebmammmacaa
namespace Go.Proofs.Ythniebmammmacaa
open Go.ChangeShapes Go.WideShapes Go.ChangeAt Go.RowKit
def homF (P : Program) (k : IntKind) (rec : TypeId → Option Nat) : Nat → List Field → Option Nat
  | off, [] => some off
  | off, f :: r => match rec f.type with
    | some n => if f.offset = off ∧ P.cellsOf f.type = n then homF P k rec (off + n) r else none
    | none => none
def hom (P : Program) (k : IntKind) : Nat → TypeId → Option Nat
  | 0, _ => none
  | d + 1, t => match P.underlying t with
    | some (.int k') => if k' = k then some 1 else none
    | some (.array n e) => match hom P k d e with
      | some m => if P.cellsOf e = m ∧ P.cellsOf t = n * m then some (n * m) else none
      | none => none
    | some (.struct fs) => match homF P k (hom P k d) 0 fs.toList with
      | some m => if P.cellsOf t = m then some m else none
      | none => none
    | _ => none
def Wfi (k : IntKind) (z : Int) : Prop := (Lit.int k z).wf = true
def IntsV (k : IntKind) (cs : List Value) : Prop := ∀ (j : Nat) (v : Value), cs[j]? = some v → ∃ z : Int, v = Value.int k z ∧ Wfi k z
theorem homF_spec {P : Program} {k : IntKind} {rec : TypeId → Option Nat} : ∀ {fs : List Field} {off m : Nat}, homF P k rec off fs = some m → off ≤ m ∧ ∀ j, off ≤ j → j < m → ∃ (i : Nat) (f : Field) (n : Nat), fs[i]? = some f ∧ rec f.type = some n ∧ P.cellsOf f.type = n ∧ f.offset ≤ j ∧ j < f.offset + n
  | [], off, m, h => by simp [homF] at h; subst h; exact ⟨Nat.le_refl _, fun j h1 h2 => by omega⟩
  | f :: r, off, m, h => by
    simp only [homF] at h
    split at h
    · rename_i n hn
      split at h
      · rename_i hc
        obtain ⟨h1, h2⟩ := homF_spec h
        refine ⟨by omega, fun j hj1 hj2 => ?_⟩
        by_cases hj : j < off + n
        · exact ⟨0, f, n, rfl, hn, hc.2, by omega, by omega⟩
        · obtain ⟨i, g, m', e1, e2⟩ := h2 j (by omega) hj2
          exact ⟨i + 1, g, m', by simpa using e1, e2⟩
      · cases h
    · cases h
section
variable {H : Type} {enc : TypeId × Value → H} {P : Program} {w : World} {base : Nat} {spare : Nat → Bool} {held : Bool}
theorem chunk_get {cs : List Value} {off n j : Nat} (h1 : off ≤ j) (h2 : j < off + n) : ((cs.drop off).take n)[j - off]? = cs[j]? := by
  rw [List.getElem?_take, if_pos (by omega), List.getElem?_drop, show off + (j - off) = j from by omega]
theorem hom_open {k : IntKind} : ∀ {d : Nat} {t : TypeId} {n fuel : Nat} {cs : List Value} {x : DataW H × List MemPlace}, hom P k d t = some n → DataW.trod enc P w base spare held fuel t cs = some x → cs.length = n ∧ IntsV k cs
  | 0, t, n, fuel, cs, x, h, _ => by simp [hom] at h
  | d + 1, t, n, fuel, cs, x, h, hx => by
    unfold hom at h
    cases ht : P.underlying t with
    | none => rw [ht] at h; cases h
    | some de =>
      rw [ht] at h
      cases de with
      | int k' =>
        simp only at h
        split at h
        · rename_i e; subst e; injection h with h; subst h
          obtain ⟨z, rfl, _, hz⟩ := DataW.trod_int ht hx
          refine ⟨rfl, fun j v hv => ?_⟩
          cases j with
          | zero => simp at hv; subst hv; exact ⟨z, rfl, hz⟩
          | succ j => simp at hv
        · cases h
      | array nn e =>
        simp only at h
        cases hm : hom P k d e with
        | none => rw [hm] at h; cases h
        | some m =>
          rw [hm] at h
          simp only at h
          split at h
          · rename_i hc
            injection h with h; subst h
            obtain ⟨xs, f', _, _, hl, hxl, hch⟩ := DataW.trod_array ht hx
            rw [hc.1] at hch
            refine ⟨by rw [hl, hc.2], fun j v hv => ?_⟩
            have hj : j < nn * m := by have := (List.getElem?_eq_some_iff.1 hv).1; rw [hl, hc.2] at this; exact this
            have hm0 : 0 < m := by
              rcases Nat.eq_zero_or_pos m with e0 | e0
              · subst e0; simp at hj
              · exact e0
            have hi : j / m < nn := (Nat.div_lt_iff_lt_mul hm0).2 hj
            have h1 := hch (j / m) hi
            rw [List.getElem?_eq_getElem (by omega)] at h1
            obtain ⟨_, h3⟩ := hom_open hm h1
            have hd : j / m * m ≤ j := Nat.div_mul_le_self j m
            have hd2 : j < j / m * m + m := by have := Nat.lt_div_mul_add hm0 (a := j); omega
            exact h3 (j - j / m * m) v (by rw [chunk_get hd hd2]; exact hv)
          · cases h
      | struct fs =>
        simp only at h
        cases hm : homF P k (hom P k d) 0 fs.toList with
        | none => rw [hm] at h; cases h
        | some m =>
          rw [hm] at h
          simp only at h
          split at h
          · rename_i hc
            injection h with h; subst h
            obtain ⟨xs, f', _, _, hl, hxl, hch⟩ := DataW.trod_struct ht hx
            refine ⟨by rw [hl, hc], fun j v hv => ?_⟩
            have hj : j < m := by have := (List.getElem?_eq_some_iff.1 hv).1; omega
            obtain ⟨i, f, n', e1, e2, e3, e4, e5⟩ := (homF_spec hm).2 j (Nat.zero_le _) hj
            have h1 := hch i f (by simpa using e1)
            have hil : i < fs.size := by have := (List.getElem?_eq_some_iff.1 e1).1; simpa using this
            rw [List.getElem?_eq_getElem (by omega)] at h1
            obtain ⟨_, h3⟩ := hom_open e2 h1
            exact h3 (j - f.offset) v (by rw [chunk_get e4 (by omega)]; exact hv)
          · cases h
      | _ => cases h
def intOf : Option Value → Int
  | some (.int _ z) => z
  | _ => 0
theorem IntsV.list {k : IntKind} {cs : List Value} (h : IntsV k cs) : ∃ L : List Int, cs = ints k L ∧ ∀ z ∈ L, Wfi k z := by
  refine ⟨cs.map fun v => intOf (some v), ?_, ?_⟩
  · apply List.ext_getElem?
    intro j
    simp only [ints, List.map_map, List.getElem?_map]
    cases hj : cs[j]? with
    | none => rfl
    | some v => obtain ⟨z, rfl, _⟩ := h j v hj; rfl
  · intro z hz
    obtain ⟨v, hv, rfl⟩ := List.mem_map.1 hz
    obtain ⟨j, hj⟩ := List.getElem?_of_mem hv
    obtain ⟨z, rfl, hw⟩ := h j v hj
    exact hw
theorem open_ints' {k : IntKind} {d n fuel : Nat} {t : TypeId} {cs : List Value} {x : DataW H × List MemPlace} (hh : hom P k d t = some n) (hx : DataW.trod enc P w base spare held fuel t cs = some x) : ∃ L : List Int, cs = ints k L ∧ L.length = n ∧ ∀ z ∈ L, Wfi k z := by
  obtain ⟨h1, h2⟩ := hom_open hh hx
  obtain ⟨L, rfl, h3⟩ := h2.list
  exact ⟨L, rfl, by rw [← h1, ints_length], h3⟩
theorem memCell_of_cell {b o : Nat} {sp : Option Nat} {v : Value} (h : w.cell? ⟨b, o, sp⟩ = some v) : sp = none ∧ memCell (memOf w) b o = some v := by
  unfold World.cell? at h
  split at h
  · rename_i c T fr e
    split at h
    · cases h
    · rename_i hs
      refine ⟨by cases sp with | none => rfl | some _ => simp at hs, ?_⟩
      have : memOf w b = some c := memOf_some.2 ⟨T, fr, e⟩
      simp only [memCell, this, Option.bind_some]
      exact h
  · cases h
theorem cells?_get {a : Addr} {n : Nat} {cs : List Value} (h : w.cells? base a n = some cs) : cs.length = n ∧ ∀ j, j < n → w.cell? (a.add j) = cs[j]? := by
  unfold World.cells? at h
  split at h
  · exact ⟨by simpa using mapM_some_length h, fun j hj => mapM_some_get h j j (by simp [hj])⟩
  · cases h
theorem open_rows {k : IntKind} {d m fuel : Nat} {t e : TypeId} {cs : List Value} {x : DataW H × List MemPlace} (ht : P.underlying t = some (.slice e)) (hh : hom P k d e = some m) (hm : Nat.blt 0 m = true) (hc : P.cellsOf e = m) (hx : DataW.trod enc P w base spare held fuel t cs = some x) :
    ∃ (A : Option Addr) (R : List (List Int)) (c : Nat), cs = [.slice A R.length c] ∧ SlR (memOf w) A c k m R ∧ R.length ≤ maxLen ∧ ∀ r ∈ R, ∀ z ∈ r, Wfi k z := by
  have hm0 : 0 < m := Eq.mp Nat.blt_eq hm
  rcases DataW.trod_slice ht hx with ⟨rfl, _⟩ | ⟨a, len, cap, elems, rest, f', _, rfl, _, _, hle, hcap, hel, hcell, _, _⟩
  · exact ⟨none, [], 0, rfl, ⟨by simp, .inl rfl, Nat.le_refl _⟩, Nat.zero_le _, by simp⟩
  · have hF : ∀ i, i < len → ∀ j, j < m → ∃ z : Int, w.cell? (a.add (i * m + j)) = some (Value.int k z) ∧ Wfi k z := by
      intro i hi j hj
      have h1 := hcell i hi
      rw [List.getElem?_eq_getElem (by omega)] at h1
      obtain ⟨cs, h2, h3⟩ := Option.bind_eq_some_iff.1 h1
      rw [hc] at h2
      obtain ⟨h4, h5⟩ := cells?_get h2
      obtain ⟨h6, h7⟩ := hom_open hh h3
      have h8 := h5 j hj
      rw [List.getElem?_eq_getElem (by omega)] at h8
      obtain ⟨z, h9, h10⟩ := h7 j _ (List.getElem?_eq_getElem (by omega))
      refine ⟨z, ?_, h10⟩
      rw [← h9, ← h8, Addr.add_add]
    let g : Nat → Int := fun q => intOf (w.cell? (a.add q))
    have hlen : ((List.range len).map fun i => (List.range m).map fun j => g (i * m + j)).length = len := by simp
    have hrow : ∀ r ∈ ((List.range len).map fun i => (List.range m).map fun j => g (i * m + j)), r.length = m := by
      intro r hr
      obtain ⟨i, _, rfl⟩ := List.mem_map.1 hr
      simp
    refine ⟨some a, (List.range len).map fun i => (List.range m).map fun j => g (i * m + j), cap, by rw [hlen], ⟨hrow, ?_, by rw [hlen]; exact hle⟩, by rw [hlen]; omega, ?_⟩
    · by_cases h0 : len = 0
      · subst h0; exact .inl rfl
      · obtain ⟨b, o, sp⟩ := a
        have hsp : sp = none := by
          obtain ⟨z, hz, _⟩ := hF 0 (by omega) 0 hm0
          rw [show 0 * m + 0 = 0 from by omega] at hz
          exact (memCell_of_cell (b := b) (o := o) (by simpa [Addr.add] using hz)).1
        subst hsp
        refine .inr ⟨b, o, rfl, fun q v hv => ?_⟩
        have hq : q < len * m := by
          have := (List.getElem?_eq_some_iff.1 hv).1
          rw [rowsC_length hrow, hlen] at this
          exact this
        have hi : q / m < len := (Nat.div_lt_iff_lt_mul hm0).2 hq
        have hj : q % m < m := Nat.mod_lt _ hm0
        have hdm : q / m * m + q % m = q := Nat.div_add_mod' q m
        have h1 := rowsC_get (k := k) hrow (i := q / m) (j := q % m) (by rw [hlen]; exact hi) hj
        rw [hdm] at h1
        rw [h1] at hv
        injection hv with hv
        subst hv
        obtain ⟨z, hz, _⟩ := hF (q / m) hi (q % m) hj
        rw [hdm] at hz
        have : g q = z := by simp only [g, hz, intOf]
        have e : (((List.range len).map fun i => (List.range m).map fun j => g (i * m + j)).getD (q / m) []).getD (q % m) 0 = z := by
          rw [← this]
          simp [List.getD_eq_getElem?_getD, hi, hj, hdm]
        rw [e]
        have hz' : w.cell? ⟨b, o + q, none⟩ = some (.int k z) := by
          rw [← hz]
          unfold Addr.add
          split
          · rename_i e0; subst e0; rfl
          · rfl
        exact (memCell_of_cell hz').2
    · intro r hr z hz
      obtain ⟨i, hi, rfl⟩ := List.mem_map.1 hr
      obtain ⟨j, hj, rfl⟩ := List.mem_map.1 hz
      obtain ⟨z, h1, h2⟩ := hF i (by simpa using hi) j (by simpa using hj)
      simp only [g, h1, intOf]
      exact h2
theorem rowsC_one_ints {k : IntKind} : ∀ {R : List (List Int)}, (∀ r ∈ R, r.length = 1) → rowsC k R = ints k (R.map fun r => r.getD 0 0)
  | [], _ => rfl
  | r :: R, h => by
    obtain ⟨x, rfl⟩ : ∃ x, r = [x] := List.length_eq_one_iff.1 (h r (List.mem_cons_self ..))
    have := rowsC_one_ints (k := k) (R := R) (fun r hr => h r (List.mem_cons_of_mem _ hr))
    simp only [rowsC, List.map_cons, List.flatten_cons] at this ⊢
    rw [this]
    rfl
theorem open_sint {k : IntKind} {d fuel : Nat} {t e : TypeId} {cs : List Value} {x : DataW H × List MemPlace} (ht : P.underlying t = some (.slice e)) (hh : hom P k d e = some 1) (hc : P.cellsOf e = 1) (hx : DataW.trod enc P w base spare held fuel t cs = some x) :
    ∃ (A : Option Addr) (L : List Int) (c : Nat), cs = [.slice A L.length c] ∧ SlI (memOf w) A c k L ∧ L.length ≤ maxLen ∧ ∀ z ∈ L, Wfi k z := by
  obtain ⟨A, R, c, rfl, h1, h2, h3⟩ := open_rows ht hh rfl hc hx
  refine ⟨A, R.map fun r => r.getD 0 0, c, by rw [List.length_map], ⟨?_, by rw [List.length_map]; exact h1.2.2⟩, by rw [List.length_map]; exact h2, ?_⟩
  · rw [← rowsC_one_ints h1.1]; exact h1.2.1
  · intro z hz
    obtain ⟨r, hr, rfl⟩ := List.mem_map.1 hz
    obtain ⟨x, rfl⟩ := List.length_eq_one_iff.1 (h1.1 r hr)
    exact h3 _ hr x (by simp)
theorem open_agg {r : Reach} {b0 : Nat} {t : TypeId} {v : Value} {d : DataW H} {p : List MemPlace} {de : TypeDesc} (ht : P.underlying t = some de) (hrow : de.isRow = true) (hv : Value.okWide P w r b0 t v) (h : DataW.Trod enc P w base spare held t v d p) :
    ∃ cs fuel, v = .agg (List.toArray cs) ∧ DataW.trod enc P w base spare held fuel t cs = some (d, p) := by
  have : ∃ cs, v = .agg cs := by
    simp only [Value.okWide, ht] at hv
    cases de with
    | struct fs => obtain ⟨cs, h1, _⟩ := hv; exact ⟨cs, h1⟩
    | array n e => obtain ⟨cs, h1, _⟩ := hv; exact ⟨cs, h1⟩
    | _ => simp [TypeDesc.isRow] at hrow
  obtain ⟨cs, rfl⟩ := this
  obtain ⟨fuel, hf⟩ := h
  exact ⟨cs.toList, fuel, by simp, by simpa [Value.cells] using hf⟩
theorem open_slice {r : Reach} {b0 : Nat} {t e : TypeId} {v : Value} {d : DataW H} {p : List MemPlace} (ht : P.underlying t = some (.slice e)) (hv : Value.okWide P w r b0 t v) (h : DataW.Trod enc P w base spare held t v d p) :
    ∃ cs fuel, [v] = cs ∧ DataW.trod enc P w base spare held fuel t cs = some (d, p) := by
  obtain ⟨a, len, cap, rfl⟩ := okWide_slice ht hv
  obtain ⟨fuel, hf⟩ := h
  exact ⟨_, fuel, rfl, by simpa [Value.cells] using hf⟩
end
theorem Fn.calls {P : Program} {f : Nat} {args : List Value} {M : Mem} {w : World} {v : Value} (hM : Mem.le M (memOf w)) (h : Fn P f args M fun x _ => rval x = v) : Calls P f args.toArray w fun e w' => e = .returned v ∧ Below w.heap.size w w' := by
  refine (callsIn_wide (n := 0)).1 ((h w hM).mono ?_)
  rintro e w' ⟨x, M', rfl, _, _, hb, _, _, _, rfl⟩
  exact ⟨rfl, hb⟩
end Go.Proofs.Ythniebmammmacaa
namespace Go.Proofs.Ythniebmammmacaa
open Go.RowKit
def eqOk (P : Program) : Nat → TypeId → Bool
  | 0, _ => false
  | d + 1, t => match P.underlying t with
    | some (.int _) => true
    | some (.array _ e) => eqOk P d e && (P.info? e).isSome
    | some (.struct fs) => fs.toList.all (fun f => f.name != "_" && eqOk P d f.type && (P.info? f.type).isSome) && !P.stoodInHeld t
    | _ => false
def rowVal (P : Program) (t : TypeId) (k : IntKind) (L : List Int) : Value := match P.underlying t with
  | some (.struct _) | some (.array _ _) => .agg (ints k L).toArray
  | _ => .int k (L.getD 0 0)
theorem part_hom {P : Program} {k : IntKind} {d : Nat} {t : TypeId} {n off : Nat} {L : List Int} (w : World) (hh : hom P k d t = some n) (hi : (P.info? t).isSome = true) (hc : P.cellsOf t = n) (hl : off + n ≤ L.length) : (Go.part t (ints k L).toArray off).run P w = .ok (rowVal P t k ((L.drop off).take n)) w := by
  obtain ⟨i, hi⟩ := Option.isSome_iff_exists.1 hi
  have hsz : i.size = n := by simpa [Program.cellsOf, hi] using hc
  cases d with
  | zero => simp [hom] at hh
  | succ d =>
    unfold hom at hh
    cases ht : P.underlying t with
    | none => rw [ht] at hh; cases hh
    | some de =>
      rw [ht] at hh
      cases de with
      | int k' =>
        simp only at hh
        split at hh
        · rename_i e; subst e; injection hh with hh; subst hh
          have hg : (ints k' L).toArray[off]? = some (.int k' (L.getD off 0)) := by rw [List.getElem?_toArray, ints_get (by omega)]
          unfold Go.part isAgg
          simp only [Sem.run_bind, run_underlying ht, Result.andThen_ok, Sem.run_pure, Bool.false_eq_true, if_false, hg, rowVal, ht]
          congr 2
          simp [List.getD_eq_getElem?_getD]
        · cases hh
      | array nn e =>
        unfold Go.part isAgg
        simp only [Sem.run_bind, run_underlying ht, Result.andThen_ok, Sem.run_pure, if_true, sizeOf, typeInfo, program, Sem.run, hi, hsz, rowVal, ht]
        congr 2
        simp [ints, List.map_take, List.map_drop]
      | struct fs =>
        unfold Go.part isAgg
        simp only [Sem.run_bind, run_underlying ht, Result.andThen_ok, Sem.run_pure, if_true, sizeOf, typeInfo, program, Sem.run, hi, hsz, rowVal, ht]
        congr 2
        simp [ints, List.map_take, List.map_drop]
      | _ => cases hh
theorem drop_eq_iff {L L' : List Int} {off n : Nat} (h1 : off + n ≤ L.length) (h2 : L.length = L'.length) : L.drop off = L'.drop off ↔ (L.drop off).take n = (L'.drop off).take n ∧ L.drop (off + n) = L'.drop (off + n) := by
  constructor
  · intro h
    refine ⟨by rw [h], ?_⟩
    rw [← List.drop_drop, h, List.drop_drop]
  · rintro ⟨h3, h4⟩
    rw [← List.take_append_drop n (L.drop off), ← List.take_append_drop n (L'.drop off), h3, List.drop_drop, List.drop_drop, h4]
theorem eq_hom {P : Program} {k : IntKind} : ∀ (d : Nat) {t : TypeId} {n D : Nat} {L L' : List Int} (w : World), hom P k d t = some n → eqOk P d t = true → d ≤ D → L.length = n → L'.length = n →
    (Op.equalIn D t (rowVal P t k L) (rowVal P t k L')).run P w = .ok (decide (L = L')) w
  | 0, t, n, D, L, L', w, h, _, _, _, _ => by simp [hom] at h
  | d + 1, t, n, D, L, L', w, h, ho, hD, h1, h2 => by
    obtain ⟨D, rfl⟩ : ∃ D', D = D' + 1 := ⟨D - 1, by omega⟩
    unfold hom at h
    unfold eqOk at ho
    cases ht : P.underlying t with
    | none => rw [ht] at h; cases h
    | some de =>
      rw [ht] at h ho
      cases de with
      | int k' =>
        simp only at h
        split at h
        · rename_i e; subst e; injection h with h; subst h
          obtain ⟨a, rfl⟩ := List.length_eq_one_iff.1 h1
          obtain ⟨b, rfl⟩ := List.length_eq_one_iff.1 h2
          simp only [rowVal, ht]
          rw [run_equalIn_int w D t k' k' _ _ ht]
          congr 1
          simp [List.getD_eq_getElem?_getD]
          by_cases e : a = b <;> simp [e]
        · cases h
      | array nn e =>
        simp only at h ho
        simp only [Bool.and_eq_true] at ho
        cases hm : hom P k d e with
        | none => rw [hm] at h; cases h
        | some m =>
          rw [hm] at h
          simp only at h
          split at h
          · rename_i hc
            injection h with h; subst h
            obtain ⟨i, hi⟩ := Option.isSome_iff_exists.1 ho.2
            simp only [rowVal, ht]
            rw [run_equalIn_array w D _ _ ht hi, hc.1]
            have main : ∀ (q p : Nat), p + q = nn → (Op.eqItems D e m (ints k L).toArray (ints k L').toArray (List.range' p q)).run P w = .ok (decide (L.drop (p * m) = L'.drop (p * m))) w := by
              intro q
              induction q with
              | zero =>
                intro p hp
                have hp' : p = nn := by omega
                subst hp'
                simp only [List.range'_zero, Op.eqItems, Sem.run_pure]
                congr 1
                rw [List.drop_eq_nil_of_le (by omega), List.drop_eq_nil_of_le (by omega)]
                simp
              | succ q ih =>
                intro p hp
                have hle : p * m + m ≤ nn * m := by
                  rw [← Nat.succ_mul]; exact Nat.mul_le_mul_right m (by omega)
                rw [List.range'_succ, Op.eqItems]
                simp only [Sem.run_bind, part_hom w hm ho.2 hc.1 (show p * m + m ≤ L.length by omega), part_hom w hm ho.2 hc.1 (show p * m + m ≤ L'.length by omega), Result.andThen_ok]
                rw [eq_hom d w hm ho.1 (by omega) (by rw [List.length_take, List.length_drop]; omega) (by rw [List.length_take, List.length_drop]; omega)]
                simp only [Result.andThen_ok]
                have hiff := drop_eq_iff (L := L) (L' := L') (off := p * m) (n := m) (by omega) (by omega)
                by_cases e1 : (L.drop (p * m)).take m = (L'.drop (p * m)).take m
                · simp only [e1, decide_true, Bool.not_true, Bool.false_eq_true, if_false]
                  rw [ih (p + 1) (by omega), Nat.succ_mul]
                  congr 1
                  simp only [hiff, e1, true_and]
                · have e2 : ¬ (L.drop (p * m) = L'.drop (p * m)) := fun e => e1 (hiff.1 e).1
                  simp [e1, e2, Sem.run_pure]
            have := main nn 0 (by omega)
            rw [List.range_eq_range']
            rw [this]
            simp
          · cases h
      | struct fs =>
        simp only at h ho
        simp only [Bool.and_eq_true, Bool.not_eq_true'] at ho
        cases hm : homF P k (hom P k d) 0 fs.toList with
        | none => rw [hm] at h; cases h
        | some m =>
          rw [hm] at h
          simp only at h
          split at h
          · rename_i hc
            injection h with h; subst h
            simp only [rowVal, ht]
            have hfs : P.fieldsOf t = fs := by simp [Program.fieldsOf, ht]
            rw [run_equalIn_struct w D t _ _ (by rw [hfs]; exact ht) ho.2, hfs]
            have main : ∀ (l : List Field) (off : Nat), homF P k (hom P k d) off l = some m → (l.all (fun f => f.name != "_" && eqOk P d f.type && (P.info? f.type).isSome)) = true →
                (Op.eqFields D (ints k L).toArray (ints k L').toArray l).run P w = .ok (decide (L.drop off = L'.drop off)) w := by
              intro l
              induction l with
              | nil =>
                intro off hf _
                simp [homF] at hf
                subst hf
                simp only [Op.eqFields, Sem.run_pure]
                congr 1
                rw [List.drop_eq_nil_of_le (by omega), List.drop_eq_nil_of_le (by omega)]
                simp
              | cons f l ih =>
                intro off hf ha
                have hsp := (homF_spec hf).1
                simp only [homF] at hf
                simp only [List.all_cons, Bool.and_eq_true, bne_iff_ne, ne_eq] at ha
                split at hf
                · rename_i n hn
                  split at hf
                  · rename_i hcc
                    have hle := (homF_spec hf).1
                    rw [Op.eqFields, if_pos ha.1.1.1]
                    simp only [Sem.run_bind, hcc.1, part_hom w hn ha.1.2 hcc.2 (show off + n ≤ L.length by omega), part_hom w hn ha.1.2 hcc.2 (show off + n ≤ L'.length by omega), Result.andThen_ok]
                    rw [eq_hom d w hn ha.1.1.2 (by omega) (by rw [List.length_take, List.length_drop]; omega) (by rw [List.length_take, List.length_drop]; omega)]
                    simp only [Result.andThen_ok]
                    have hiff := drop_eq_iff (L := L) (L' := L') (off := off) (n := n) (by omega) (by omega)
                    by_cases e1 : (L.drop off).take n = (L'.drop off).take n
                    · simp only [e1, decide_true, Bool.not_true, Bool.false_eq_true, if_false]
                      rw [ih (off + n) hf ha.2]
                      congr 1
                      simp only [hiff, e1, true_and]
                    · have e2 : ¬ (L.drop off = L'.drop off) := fun e => e1 (hiff.1 e).1
                      simp [e1, e2, Sem.run_pure]
                  · cases hf
                · cases hf
            rw [main fs.toList 0 hm ho.1]
            simp
          · cases h
      | _ => cases h
def cmpC (P : Program) (s : St) (ops : Array Oper) (i : Nat) : Option (Nat × BinOp × TypeId × SV × SV) :=
  match ops[i]? with
  | some o => match o.op, o.dst with
    | .binOp b t x y _, some d => match evO s x, evO s y with
      | some v, some u => some (d, b, t, v, u)
      | _, _ => none
    | _, _ => none
  | none => none
theorem cmpC_eq {P s ops i d b t v u} (h : cmpC P s ops i = some (d, b, t, v, u)) : ∃ o x y z, ops[i]? = some o ∧ o.dst = some d ∧ o.op = .binOp b t x y z ∧ evO s x = some v ∧ evO s y = some u := by
  unfold cmpC at h
  split at h
  · rename_i o ho
    split at h
    · rename_i b' t' x y z d' e1 e2
      split at h
      · rename_i v' u' u1 u2
        simp at h
        obtain ⟨rfl, rfl, rfl, rfl, rfl⟩ := h
        exact ⟨o, x, y, z, ho, e2, e1, u1, u2⟩
      · simp at h
    · simp at h
  · simp at h
def rowOk (P : Program) (k : IntKind) (t : TypeId) (n : Nat) : Bool := (match hom P k 20 t with | some m => Nat.beq m n | none => false) && eqOk P 20 t && !(P.eqGuardType P.depth t) && (match P.underlying t with | some de => de.isRow | none => false)
theorem At_eqW {X s ops i d t} {neg : Bool} {n : Nat} {k : IntKind} {L L' : List Int} (h : cmpC X.P s ops i = some (d, if neg then .neq else .eql, t, .agg [.arr k n L], .agg [.arr k n L'])) (hr : rowOk X.P k t n = true) (hL : L.length = n) (hL' : L'.length = n) : OpAt X s ops i d (.lf (.v (.bool (neg != (L == L'))))) := by
  obtain ⟨o, x, y, z, h1, h2, h3, h4, h5⟩ := cmpC_eq h
  refine ⟨o, h1, h2, OpV_value (by rw [h3]; intro c hc; cases hc) fun ids vals a w hrel => ?_⟩
  have e1 := hrel.ev h4
  have e2 := hrel.ev h5
  simp only [rowOk, Bool.and_eq_true, Bool.not_eq_true'] at hr
  obtain ⟨⟨⟨r1, r2⟩, r3⟩, r4⟩ := hr
  have hh : hom X.P k 20 t = some n := by
    split at r1
    · rename_i m hm; rw [hm, Nat.eq_of_beq_eq_true r1]
    · cases r1
  have hrv : ∀ Z : List Int, rowVal X.P t k Z = .agg (ints k Z).toArray := fun Z => by
    unfold rowVal
    split at r4
    · rename_i de hde
      rw [hde]
      cases de <;> simp [TypeDesc.isRow] at r4 <;> rfl
    · cases r4
  have hq := eq_hom 20 (D := Op.maxDepth) w hh r2 (by simp [Op.maxDepth]) hL hL'
  rw [hrv, hrv] at hq
  have c1 : SV.val ids vals (.agg [.arr k n L]) = .agg (ints k L).toArray := by simp [SV.val, sgCells, Sg.cells]
  have c2 : SV.val ids vals (.agg [.arr k n L']) = .agg (ints k L').toArray := by simp [SV.val, sgCells, Sg.cells]
  have hg : ∀ op, (eqGuard op t x y (.agg (ints k L).toArray) (.agg (ints k L').toArray)).run X.P w = .ok () w := by
    intro op
    unfold eqGuard
    cases op <;> simp [Sem.run_bind, program, Sem.run, r3, Sem.run_pure]
  unfold execOp
  rw [c1] at e1
  rw [c2] at e2
  simp only [h3, e1, e2, SV.val, Lf.val]
  rw [Sem.run_bind]
  have hb : (do eqGuard (if neg then .neq else .eql) t x y (.agg (ints k L).toArray) (.agg (ints k L').toArray); binOp (if neg then .neq else .eql) t (.agg (ints k L).toArray) (.agg (ints k L').toArray) : Sem Value).run X.P w = .ok (.bool (neg != (L == L'))) w := by
    rw [Sem.run_bind, hg]
    simp only [Result.andThen_ok]
    have hd : decide (L = L') = (L == L') := by by_cases e : L = L' <;> simp [e]
    cases neg
    · show (do pure (.bool (← Op.equal t _ _)) : Sem Value).run X.P w = _
      rw [Sem.run_bind]
      unfold Op.equal
      rw [hq, hd]
      simp [Sem.run_pure]
    · show (do pure (.bool (!(← Op.equal t _ _))) : Sem Value).run X.P w = _
      rw [Sem.run_bind]
      unfold Op.equal
      rw [hq, hd]
      simp [Sem.run_pure]
  rw [hb]
  rfl
theorem At_eqB {X s ops i d t} {neg : Bool} {a b : Bool} (h : cmpC X.P s ops i = some (d, if neg then .neq else .eql, t, .lf (.v (.bool a)), .lf (.v (.bool b)))) (hr : (match X.P.underlying t with | some .bool => true | _ => false) = true) : OpAt X s ops i d (.lf (.v (.bool (neg != (a == b))))) := by
  obtain ⟨o, x, y, z, h1, h2, h3, h4, h5⟩ := cmpC_eq h
  refine ⟨o, h1, h2, OpV_value (by rw [h3]; intro c hc; cases hc) fun ids vals ac w hrel => ?_⟩
  have e1 := hrel.ev h4
  have e2 := hrel.ev h5
  have ht : X.P.underlying t = some .bool := by
    split at hr
    · assumption
    · cases hr
  unfold execOp
  simp only [h3, e1, e2, SV.val, Lf.val]
  rw [Sem.run_bind]
  have hb : (do eqGuard (if neg then .neq else .eql) t x y (.bool a) (.bool b); binOp (if neg then .neq else .eql) t (.bool a) (.bool b) : Sem Value).run X.P w = .ok (.bool (neg != (a == b))) w := by
    rw [Sem.run_bind]
    have hg : ∀ op, (eqGuard op t x y (.bool a) (.bool b)).run X.P w = .ok () w := by intro op; unfold eqGuard; cases op <;> rfl
    rw [hg]
    simp only [Result.andThen_ok]
    cases neg
    · show (do pure (.bool (← Op.equal t _ _)) : Sem Value).run X.P w = _
      rw [Sem.run_bind, run_equal_bool w t a b ht]
      simp [Sem.run_pure]
    · show (do pure (.bool (!(← Op.equal t _ _))) : Sem Value).run X.P w = _
      rw [Sem.run_bind, run_equal_bool w t a b ht]
      simp [Sem.run_pure]
  rw [hb]
  rfl
end Go.Proofs.Ythniebmammmacaa
namespace Go.Proofs.Ythniebmammmacaa
open Go.RowKit
def subB (a b : List Nat) : Bool := a.all (fun x => inB x b)
theorem subB_iff {a b : List Nat} : subB a b = true ↔ ∀ x ∈ a, inB x b = true := by simp [subB]
def drawOkT (N : Nat) (ops : Array Oper) (eff : List Nat) (nd : List (List Nat)) : Bool :=
  (List.range ops.size).all fun i => match ops[i]? with
    | none => false
    | some o =>
      plainOp o.op && (bound o).all (fun j => Nat.blt j i) &&
      (tmpsOf ops o).all (fun t => (List.range ops.size).all fun j => match (ops[j]?).bind (·.dst) with
        | some d => !(Nat.beq d t) || inB j eff || inB j (bound o)
        | none => true) &&
      (inB i eff || (match o.dst with
        | some d => Nat.blt d N && (List.range ops.size).all (fun j => Nat.beq i j || (match (ops[j]?).bind (·.dst) with | some d' => !(Nat.beq d d') | none => true))
        | none => false)) &&
      (inB i eff || (nd.getD i []).all fun e => inB e eff && (bound o).any fun j => Nat.beq j e || (!(inB j eff) && inB e (nd.getD j [])))
def dueT (ops : Array Oper) (eff : List Nat) (nd : List (List Nat)) (done : List Nat) (i : Nat) : Bool :=
  !(inB i eff) && subB (nd.getD i []) done && !(done.any fun e => inB i (clo ops e (boundAt ops e)))
def newT (ops : Array Oper) (eff : List Nat) (nd : List (List Nat)) (old : Option (List Nat)) (done : List Nat) : List Nat :=
  (List.range ops.size).filterMap fun i => if !(inB i eff) && subB (nd.getD i []) done && !(match old with | some d => subB (nd.getD i []) d | none => false) then (ops[i]?).bind (·.dst) else none
def readyE (ops : Array Oper) (eff done : List Nat) (e : Nat) : Bool :=
  inB e eff && !(inB e done) && match ops[e]? with | some o => (bound o).all (fun j => !(inB j eff) || inB j done) | none => false
def StageT (X : Cx) (ops : Array Oper) (eff : List Nat) (nd : List (List Nat)) (Q : Exit → St → Prop) : Nat → List Nat → St → Prop
  | 0, done, s => (∀ i o, ops[i]? = some o → dueT ops eff nd done i = true → QF X ops s o) ∧ (subB eff done = true → Q .normal s) ∧ ∀ e, readyE ops eff done e = true → False
  | n + 1, done, s => (∀ i o, ops[i]? = some o → dueT ops eff nd done i = true → QF X ops s o) ∧ (subB eff done = true → Q .normal s) ∧
      (∀ e o, ops[e]? = some o → readyE ops eff done e = true → TL X ops [o] s fun ex s' => ex = .normal ∧ ∃ new : List (Nat × SV), new.map (·.1) = newT ops eff nd (some done) (e :: done) ∧ (∀ x ∈ new, x.2.wf) ∧ StageT X ops eff nd Q n (e :: done) { s' with σ := new ++ s'.σ })
structure InvT (X : Cx) (ops : Array Oper) (eff : List Nat) (nd : List (List Nat)) (Q : Exit → St → Prop) (listed : Array Bool) (a : Act) (w : World) (p : Nat) (es : List Nat) (s : St) (b : Act) (ids : Nat → Nat) (vals : Nat → Value) : Prop where
  size : listed.size = ops.size
  rel : Rel X ids vals s b w
  stage : StageT X ops eff nd Q p es s
  dfr : a.defers = b.defers
  sz : a.tmps.size = b.tmps.size
  agree : ∀ t, (∀ i, listed.getD i true = false → inB i eff = false → (ops[i]?).bind (·.dst) ≠ some t) → a.tmps[t]? = b.tmps[t]?
  done : ∀ i, i < ops.size → listed.getD i true = true → ∀ o, ops[i]? = some o → ∀ j ∈ bound o, listed.getD j false = true
  eff1 : ∀ e ∈ es, e < ops.size ∧ listed.getD e false = true
  eff2 : ∀ e, inB e eff = true → e ∉ es → listed.getD e true = false
  low : ∀ i, i < ops.size → inB i eff = false → listed.getD i false = true → subB (nd.getD i []) es = true
section
variable {X : Cx} {ops : Array Oper} {eff : List Nat} {nd : List (List Nat)} {Q : Exit → St → Prop}
theorem drawOkT_at (h : drawOkT X.N ops eff nd = true) {i : Nat} {o : Oper} (ho : ops[i]? = some o) :
    plainOp o.op = true ∧ (∀ j ∈ bound o, j < i) ∧ (∀ t ∈ tmpsOf ops o, ∀ j d, (ops[j]?).bind (·.dst) = some d → d = t → inB j eff = false → j ∈ bound o) ∧
    (inB i eff = false → ∃ d, o.dst = some d ∧ d < X.N ∧ ∀ j, j ≠ i → (ops[j]?).bind (·.dst) ≠ some d) ∧
    (inB i eff = false → ∀ e ∈ nd.getD i [], inB e eff = true ∧ ∃ j ∈ bound o, j = e ∨ (inB j eff = false ∧ inB e (nd.getD j []) = true)) := by
  have hi : i < ops.size := (Array.getElem?_eq_some_iff.1 ho).1
  unfold drawOkT at h
  rw [List.all_eq_true] at h
  have h := h i (List.mem_range.2 hi)
  rw [ho] at h
  simp only [Bool.and_eq_true] at h
  obtain ⟨⟨⟨⟨h1, h2⟩, h3⟩, h4⟩, h5⟩ := h
  refine ⟨h1, fun j hj => ?_, fun t ht j d hd e hne => ?_, fun hne => ?_, fun hne => ?_⟩
  · rw [List.all_eq_true] at h2
    exact Eq.mp Nat.blt_eq (h2 j hj)
  · rw [List.all_eq_true] at h3
    have h3 := h3 t ht
    rw [List.all_eq_true] at h3
    have hj : j < ops.size := by
      cases hh : ops[j]? with
      | none => rw [hh] at hd; simp at hd
      | some _ => exact (Array.getElem?_eq_some_iff.1 hh).1
    have h3 := h3 j (List.mem_range.2 hj)
    rw [hd] at h3
    subst e
    simp only [Nat.beq_refl, hne, Bool.not_true, Bool.false_or] at h3
    exact inB_iff.1 h3
  · rw [hne] at h4
    simp only [Bool.false_or] at h4
    cases hd : o.dst with
    | none => rw [hd] at h4; simp at h4
    | some d =>
      rw [hd] at h4
      simp only [Bool.and_eq_true] at h4
      refine ⟨d, rfl, Eq.mp Nat.blt_eq h4.1, fun j hji hj => ?_⟩
      have h4 := h4.2
      rw [List.all_eq_true] at h4
      have hjs : j < ops.size := by
        cases hh : ops[j]? with
        | none => rw [hh] at hj; simp at hj
        | some _ => exact (Array.getElem?_eq_some_iff.1 hh).1
      have h4 := h4 j (List.mem_range.2 hjs)
      rw [hj] at h4
      simp only [Nat.beq_refl, Bool.not_true, Bool.or_false] at h4
      exact hji (Nat.eq_of_beq_eq_true h4).symm
  · rw [hne] at h5
    simp only [Bool.false_or] at h5
    intro e he
    rw [List.all_eq_true] at h5
    have h6 := h5 e he
    simp only [Bool.and_eq_true] at h6
    refine ⟨h6.1, ?_⟩
    have h7 := h6.2
    rw [List.any_eq_true] at h7
    obtain ⟨j, hj, h8⟩ := h7
    simp only [Bool.or_eq_true, Bool.and_eq_true, Bool.not_eq_true'] at h8
    rcases h8 with h8 | h8
    · exact ⟨j, hj, .inl (Nat.eq_of_beq_eq_true h8)⟩
    · exact ⟨j, hj, .inr h8⟩
theorem InvT.all {listed a w p es s b ids vals} (hok : drawOkT X.N ops eff nd = true) (h : InvT X ops eff nd Q listed a w p es s b ids vals) (hr : Region.ready .any ops listed = []) : ∀ i, i < ops.size → listed.getD i true = true := by
  intro i
  induction i using Nat.strongRecOn with
  | _ i ih =>
    intro hi
    cases hl : listed.getD i true with
    | true => rfl
    | false =>
      have hmem : i ∈ Region.ready .any ops listed := by
        refine mem_ready.2 ⟨hl, ops[i], by simp [hi], fun e he hb => ?_⟩
        have hj : e.on ∈ bound ops[i] := List.mem_map.2 ⟨e, List.mem_filter.2 ⟨by simpa using he, hb⟩, rfl⟩
        have hlt := (drawOkT_at hok (show ops[i]? = some ops[i] by simp [hi])).2.1 _ hj
        have := ih e.on hlt (by omega)
        have hs := h.size
        simp only [Array.getD_eq_getD_getElem?] at this ⊢
        rw [Array.getElem?_eq_getElem (by omega)] at this ⊢
        simpa using this
      rw [hr] at hmem; cases hmem
theorem InvT.end_ {listed a w p es s b ids vals} (hes : ∀ e, inB e eff = true → e < ops.size) (h : InvT X ops eff nd Q listed a w p es s b ids vals) (hall : ∀ i, i < ops.size → listed.getD i true = true) : lift X Q .normal a w := by
  have hsub : subB eff es = true := by
    rw [subB_iff]
    intro e he
    refine inB_iff.2 (Classical.byContradiction fun hn => ?_)
    have h1 := h.eff2 e (inB_iff.2 he) hn
    rw [hall e (hes e (inB_iff.2 he))] at h1; cases h1
  have hst : Q .normal s := by
    have := h.stage
    cases p with
    | zero => exact this.2.1 hsub
    | succ p => exact this.2.1 hsub
  have hab : a = b := by
    obtain ⟨ta, da⟩ := a
    obtain ⟨tb, db⟩ := b
    have h1 : ta = tb := by
      apply Array.ext_getElem?
      intro t
      refine h.agree t (fun i hi _ => ?_)
      cases ho : ops[i]? with
      | none => simp
      | some o => rw [hall i (Array.getElem?_eq_some_iff.1 ho).1] at hi; cases hi
    have h2 := h.dfr
    simp only at h1 h2
    rw [h1, h2]
  rw [hab]
  exact ⟨s, ids, vals, hst, h.rel⟩
theorem newT_mem {ops : Array Oper} {eff : List Nat} {nd : List (List Nat)} {old : Option (List Nat)} {done : List Nat} {t : Nat} (h : t ∈ newT ops eff nd old done) : ∃ i, inB i eff = false ∧ subB (nd.getD i []) done = true ∧ (∀ d, old = some d → subB (nd.getD i []) d = false) ∧ (ops[i]?).bind (·.dst) = some t := by
  unfold newT at h
  rw [List.mem_filterMap] at h
  obtain ⟨i, _, hi⟩ := h
  cases h1 : inB i eff with
  | true => simp [h1] at hi
  | false =>
    cases h2 : subB (nd.getD i []) done with
    | false => rw [h1, h2] at hi; simp at hi
    | true =>
      cases old with
      | none => rw [h1, h2] at hi; exact ⟨i, h1, h2, fun d hd => (by cases hd), by simpa using hi⟩
      | some d0 =>
        cases h3 : subB (nd.getD i []) d0 with
        | true => rw [h1, h2] at hi; simp only [h3] at hi; simp at hi
        | false => rw [h1, h2] at hi; simp only [h3] at hi; exact ⟨i, h1, h2, fun d hd => (by injection hd with hd; subst hd; exact h3), by simpa using hi⟩
theorem wpAny_drawT (hok : drawOkT X.N ops eff nd = true) (hch : ∀ e, inB e eff = true → e < ops.size) : ∀ (fuel : Nat) (listed : Array Bool) (a : Act) (w : World) (p : Nat) (es : List Nat) (s : St) (b : Act) (ids : Nat → Nat) (vals : Nat → Value),
    InvT X ops eff nd Q listed a w p es s b ids vals → (unl ops.size listed).length ≤ fuel → wpAnyIn (Fx X.rd) 0 X.P .any ops (lift X Q) fuel listed a w := by
  intro fuel
  induction fuel with
  | zero =>
    intro listed a w p es s b ids vals h hf
    have hall : ∀ i, i < ops.size → listed.getD i true = true := by
      intro i hi
      cases hl : listed.getD i true with
      | true => rfl
      | false =>
        have : i ∈ unl ops.size listed := by simp only [unl, List.mem_filter, List.mem_range]; exact ⟨hi, by simpa using hl⟩
        rw [List.eq_nil_of_length_eq_zero (by omega : (unl ops.size listed).length = 0)] at this; cases this
    refine ⟨?_, h.end_ hch hall⟩
    cases hr : Region.ready .any ops listed with
    | nil => rfl
    | cons i r =>
      have hm : i ∈ Region.ready .any ops listed := by rw [hr]; simp
      obtain ⟨hl, o, ho, _⟩ := mem_ready.1 hm
      rw [hall i (Array.getElem?_eq_some_iff.1 ho).1] at hl; cases hl
  | succ fuel ih =>
    intro listed a w p es s b ids vals h hf
    refine ⟨fun hr => h.end_ hch (h.all hok hr), fun i hm => ?_⟩
    obtain ⟨hl, o, ho, hdeps⟩ := mem_ready.1 hm
    have hi : i < ops.size := (Array.getElem?_eq_some_iff.1 ho).1
    have hsz := h.size
    have hsz' : (listed.setIfInBounds i true).size = ops.size := by simp [hsz]
    have hfuel : (unl ops.size (listed.setIfInBounds i true)).length ≤ fuel := by
      have := unl_set hi hsz hl; omega
    obtain ⟨d1, d2, d3, d4, d5⟩ := drawOkT_at hok ho
    have hb : ∀ j ∈ bound o, listed.getD j false = true := by
      intro j hj
      obtain ⟨e, he, rfl⟩ := List.mem_map.1 hj
      obtain ⟨he1, he2⟩ := List.mem_filter.1 he
      exact hdeps e (by simpa using he1) he2
    have hb' : ∀ j ∈ bound o, listed.getD j true = true := fun j hj => by
      have hj2 := d2 j hj
      rw [getD_default (by omega) true false]; exact hb j hj
    -- the operands stand alike
    have hagree : ∀ t ∈ tmpsOf ops o, a.tmps[t]? = b.tmps[t]? := by
      intro t ht
      refine h.agree t (fun j hj hq hd => ?_)
      have := hb' j (d3 t ht j t hd rfl hq)
      rw [this] at hj; cases hj
    have heval : ∀ x ∈ o.op.operands, a.eval x = b.eval x := by
      intro x hx
      cases x with
      | tmp t =>
        have := hagree t (List.mem_append_left _ (List.mem_filterMap.2 ⟨.tmp t, by simpa using hx, rfl⟩))
        simp only [Act.eval, Array.getD_eq_getD_getElem?, this]
      | _ => rfl
    have hsel : ∀ cs bl, o.op ≠ .select cs bl := fun cs bl hh => by rw [hh] at d1; simp [plainOp] at d1
    have hdef : ∀ c, o.op ≠ .defer c := fun c hh => by rw [hh] at d1; simp [plainOp] at d1
    have hexec : execOp a.eval o = execOp b.eval o := execOp_congr o hsel heval
    have habout : ∀ w, o.about X.P w a.eval = o.about X.P w b.eval := fun w => about_congr o w heval
    have hwant : Region.wanted o (yielded ops a.tmps) = Region.wanted o (yielded ops b.tmps) := by
      unfold Region.wanted
      cases hg : o.guard with
      | none => rfl
      | some g =>
        obtain ⟨j, want⟩ := g
        simp only
        congr 1
        unfold yielded
        cases hd : (ops[j]?).bind (·.dst) with
        | none => rfl
        | some t =>
          have := hagree t (List.mem_append_right _ (by simp [gdst, hg, hd]))
          simp only [Option.bind_some, this]
    have hdone : ∀ i', i' < ops.size → (listed.setIfInBounds i true).getD i' true = true → ∀ o', ops[i']? = some o' → ∀ j ∈ bound o', (listed.setIfInBounds i true).getD j false = true := by
      intro i' hi' hl' o' ho' j hj
      rw [getD_set] at hl' ⊢
      by_cases e : i = i'
      · subst e
        rw [ho] at ho'; injection ho' with ho'; subst ho'
        split
        · rfl
        · exact hb j hj
      · rw [if_neg (by simp [e])] at hl'
        split
        · rfl
        · exact h.done i' hi' hl' o' ho' j hj
    unfold wpOpIn
    rw [ho]
    simp only
    by_cases hq : inB i eff = false
    · -- an operation that does not write
      obtain ⟨d, hd, hdN, huniq⟩ := d4 hq
      have hstQ : ∀ i o, ops[i]? = some o → dueT ops eff nd es i = true → QF X ops s o := by
        have := h.stage
        cases p with
        | zero => exact this.1
        | succ p => exact this.1
      have hlow : subB (nd.getD i []) es = true := by
        rw [subB_iff]
        intro e he
        obtain ⟨hee, j, hj, hcase⟩ := d5 hq e he
        rcases hcase with rfl | ⟨h1, h2⟩
        · refine inB_iff.2 (Classical.byContradiction fun hn => ?_)
          have h4 := h.eff2 j hee hn
          rw [hb' j hj] at h4; cases h4
        · have hj2 := d2 j hj
          exact subB_iff.1 (h.low j (by omega) h1 (hb j hj)) e (inB_iff.1 h2)
      have hdue : dueT ops eff nd es i = true := by
        unfold dueT
        simp only [Bool.and_eq_true, hq, Bool.not_false, true_and, Bool.not_eq_true']
        refine ⟨hlow, ?_⟩
        cases hany : es.any fun e => inB i (clo ops e (boundAt ops e)) with
        | false => rfl
        | true =>
          rw [List.any_eq_true] at hany
          obtain ⟨e, he, h1⟩ := hany
          have hall : ∀ x ∈ clo ops e (boundAt ops e), x < ops.size ∧ listed.getD x false = true := by
            have step : ∀ x, (x < ops.size ∧ listed.getD x false = true) → ∀ y ∈ boundAt ops x, y < ops.size ∧ listed.getD y false = true := by
              rintro x ⟨hx1, hx2⟩ y hy
              unfold boundAt at hy
              cases hox : ops[x]? with
              | none => rw [hox] at hy; cases hy
              | some ox =>
                rw [hox] at hy
                have hlt := (drawOkT_at hok hox).2.1 y hy
                exact ⟨by omega, h.done x hx1 (by rw [getD_default (by omega) true false]; exact hx2) ox hox y hy⟩
            have he1 : listed.getD e false = true := (h.eff1 e he).2
            refine clo_all step (fun x hx => ?_)
            have hes : e < ops.size := by
              unfold boundAt at hx
              cases hoe : ops[e]? with
              | none => rw [hoe] at hx; cases hx
              | some _ => exact (Array.getElem?_eq_some_iff.1 hoe).1
            exact step e ⟨hes, he1⟩ x hx
          have h2 := (hall i (inB_iff.1 h1)).2
          rw [getD_default (by omega) false true, hl] at h2; cases h2
      obtain ⟨d', x, e1, e2, hcase⟩ := hstQ i o ho hdue ids vals b w h.rel
      rw [hd] at e1; injection e1 with e1; subst e1
      have hbd := (h.rel.tmp d x e2).1
      -- whichever way, the invariant stands behind it
      have hinv : ∀ w', Below w.heap.size w w' → InvT X ops eff nd Q (listed.setIfInBounds i true) (a.put o.dst (x.val ids vals)) w' p es s b ids vals := by
        intro w' hbel
        exact {
          size := hsz'
          rel := h.rel.later hbel
          stage := h.stage
          dfr := by rw [hd]; exact h.dfr
          sz := by rw [hd]; simp [Act.put, h.sz]
          agree := fun t ht => by
            rw [hd]
            simp only [Act.put, Array.getElem?_setIfInBounds]
            by_cases e : d = t
            · subst e
              have hlt : d < a.tmps.size := by rw [h.sz, h.rel.size]; exact hdN
              simp [hlt, hbd]
            · rw [if_neg e]
              refine h.agree t (fun j hj hq' hdj => ?_)
              by_cases eij : i = j
              · subst eij
                rw [ho] at hdj
                simp only [Option.bind_some, hd] at hdj
                injection hdj with hdj; exact e hdj
              · exact ht j (by rw [getD_set, if_neg (by simp [eij])]; exact hj) hq' hdj
          done := hdone
          eff1 := fun e he => by
            refine ⟨(h.eff1 e he).1, ?_⟩
            rw [getD_set]; split
            · rfl
            · exact (h.eff1 e he).2
          eff2 := fun e he hn => by
            have hne : i ≠ e := by
              intro hh; subst hh
              rw [he] at hq; cases hq
            rw [getD_set, if_neg (by simp [hne])]; exact h.eff2 e he hn
          low := fun j hj hqj hlj => by
            rw [getD_set] at hlj
            by_cases eij : i = j
            · subst eij; exact hlow
            · rw [if_neg (by simp [eij])] at hlj; exact h.low j hj hqj hlj }
      rcases hcase with ⟨hw, hwp⟩ | ⟨hw, hu⟩
      · rw [if_pos (by rw [hwant]; exact hw)]
        refine Oper.wpIn_mono ?_ (wpIn_shadow hdef hexec habout (fun _ _ _ _ hf => hf) hwp)
        rintro a' w' ⟨ds, v, ⟨hbv, hbel⟩, rfl⟩
        have hds : ds = [] := by
          have := congrArg (fun z : Act => z.defers.length) hbv
          simp only [act_and_defers, List.length_append] at this
          rw [hd] at this
          simp only [Act.put] at this
          exact List.eq_nil_of_length_eq_zero (by omega)
        subst hds
        have hv : v = x.val ids vals := by
          have := congrArg (fun z : Act => z.tmps[d]?) hbv
          have hlt : d < b.tmps.size := by rw [h.rel.size]; exact hdN
          simp only [act_and_tmps, hd, if_true, hlt, Act.put, Array.getElem?_setIfInBounds] at this
          simpa using this
        subst hv
        exact ih _ _ _ _ _ _ _ _ _ (hinv w' hbel) hfuel
      · rw [if_neg (by rw [hwant, hw]; simp)]
        refine ⟨fun _ _ => trivial, ?_⟩
        rw [← hu]
        exact ih _ _ _ _ _ _ _ _ _ (hinv w (Below.refl _ _)) hfuel
    · -- the next one that writes
      have hq : inB i eff = true := by simpa using hq
      have hnot : i ∉ es := fun hh => by
        have h2 := (h.eff1 i hh).2
        rw [getD_default (by omega) false true, hl] at h2; cases h2
      have hrdy : readyE ops eff es i = true := by
        unfold readyE
        have hni : inB i es = false := by
          cases hh : inB i es with
          | false => rfl
          | true => exact absurd (inB_iff.1 hh) hnot
        rw [hq, hni, ho]
        simp only [Bool.not_false, Bool.true_and]
        rw [List.all_eq_true]
        intro j hj
        cases hje : inB j eff with
        | false => rfl
        | true =>
          simp only [Bool.not_true, Bool.false_or]
          refine inB_iff.2 (Classical.byContradiction fun hn => ?_)
          have h4 := h.eff2 j hje hn
          rw [hb' j hj] at h4; cases h4
      cases p with
      | zero => exact (h.stage.2.2 i hrdy).elim
      | succ p =>
        obtain ⟨_, _, hTL⟩ := h.stage
        have hTL := hTL i o ho hrdy ids vals b w h.rel
        have hgo : ∀ (ds : List Deferred) (v : Value) (w' : World), lift X (fun ex s' => ex = .normal ∧ ∃ new : List (Nat × SV), new.map (·.1) = newT ops eff nd (some es) (i :: es) ∧ (∀ x ∈ new, x.2.wf) ∧ StageT X ops eff nd Q p (i :: es) { s' with σ := new ++ s'.σ }) .normal (Act.and' b ds o.dst v) w' →
            wpAnyIn (Fx X.rd) 0 X.P .any ops (lift X Q) fuel (listed.setIfInBounds i true) (Act.and' a ds o.dst v) w' := by
          rintro ds v w' ⟨s', ids', vals', ⟨_, new, n1, n2, hst⟩, hr'⟩
          obtain ⟨b', r1, r2, r3⟩ := Rel.puts (new := new) hr' (fun x hx => by
            refine ⟨?_, n2 x hx⟩
            have : x.1 ∈ newT ops eff nd (some es) (i :: es) := by rw [← n1]; exact List.mem_map.2 ⟨x, hx, rfl⟩
            obtain ⟨j, j1, _, j2, j3⟩ := newT_mem this
            cases hoj : ops[j]? with
            | none => rw [hoj] at j3; simp at j3
            | some oj =>
              obtain ⟨dj, k1, k2, _⟩ := (drawOkT_at hok hoj).2.2.2.1 j1
              rw [hoj] at j3
              simp only [Option.bind_some, k1] at j3
              injection j3 with j3; subst j3; exact k2)
          refine ih _ _ _ p (i :: es) { s' with σ := new ++ s'.σ } b' ids' vals' ?_ hfuel
          exact {
            size := hsz'
            rel := r1
            stage := hst
            dfr := by rw [r2, act_and_defers, act_and_defers, h.dfr]
            sz := by rw [act_and_size, h.sz, r1.size, h.rel.size]
            agree := fun t ht => by
              have hnew : t ∉ new.map (·.1) := by
                rw [n1]; intro hh
                obtain ⟨j, j1, _, j2, j3⟩ := newT_mem hh
                have hjs : j < ops.size := by
                  cases hoj : ops[j]? with
                  | none => rw [hoj] at j3; simp at j3
                  | some _ => exact (Array.getElem?_eq_some_iff.1 hoj).1
                have hji : i ≠ j := fun hh => by subst hh; rw [hq] at j1; cases j1
                have hlj : listed.getD j true = false := by
                  cases hc : listed.getD j true with
                  | false => rfl
                  | true =>
                    have := h.low j hjs j1 (by rw [getD_default (by omega) false true]; exact hc)
                    rw [j2 es rfl] at this; cases this
                exact ht j (by rw [getD_set, if_neg (by simp [hji])]; exact hlj) j1 j3
              rw [r3 t hnew, act_and_tmps, act_and_tmps, h.sz]
              split
              · rfl
              · refine h.agree t (fun j hj hq' hdj => ?_)
                have hji : i ≠ j := fun hh => by subst hh; rw [hq] at hq'; cases hq'
                exact ht j (by rw [getD_set, if_neg (by simp [hji])]; exact hj) hq' hdj
            done := hdone
            eff1 := fun e he => by
              rcases List.mem_cons.1 he with rfl | he
              · exact ⟨hi, by rw [getD_set, if_pos ⟨rfl, by omega⟩]⟩
              · refine ⟨(h.eff1 e he).1, ?_⟩
                rw [getD_set]
                split
                · rfl
                · exact (h.eff1 e he).2
            eff2 := fun e he hn => by
              have hne : i ≠ e := fun hh => by subst hh; exact hn (List.mem_cons_self ..)
              rw [getD_set, if_neg (by simp [hne])]; exact h.eff2 e he (fun hh => hn (List.mem_cons_of_mem _ hh))
            low := fun j hj hqj hlj => by
              rw [getD_set] at hlj
              by_cases eij : i = j
              · subst eij; rw [hq] at hqj; cases hqj
              · rw [if_neg (by simp [eij])] at hlj
                have := h.low j hj hqj hlj
                rw [subB_iff] at this ⊢
                exact fun x hx => inB_iff.2 (List.mem_cons_of_mem _ (inB_iff.1 (this x hx))) }
        have hone : wpListIn (Fx X.rd) 0 X.P ops (lift X (fun ex s' => ex = .normal ∧ ∃ new : List (Nat × SV), new.map (·.1) = newT ops eff nd (some es) (i :: es) ∧ (∀ x ∈ new, x.2.wf) ∧ StageT X ops eff nd Q p (i :: es) { s' with σ := new ++ s'.σ })) [o] b w := hTL
        simp only [wpListIn] at hone
        by_cases hw : Region.wanted o (yielded ops b.tmps) = true
        · rw [if_pos hw] at hone
          rw [if_pos (by rw [hwant]; exact hw)]
          refine Oper.wpIn_mono ?_ (wpIn_shadow hdef hexec habout (fun e' a' w' hne hf => ?_) hone)
          · rintro a' w' ⟨ds, v, hN, rfl⟩
            exact hgo ds v w' hN
          · obtain ⟨s', _, _, ⟨h1, _⟩, _⟩ := hf
            exact hne h1
        · rw [if_neg hw] at hone
          rw [if_neg (by rw [hwant]; exact hw)]
          refine ⟨fun _ _ => trivial, ?_⟩
          have := hgo [] undef w hone.2
          simpa [Act.and'] using this
theorem T_drawT {c : Code} {s : St} {id : Nat} (n : Nat) (eff : List Nat) (nd : List (List Nat)) (h : regOf c = some (true, id)) (hmix : X.P.follows .mixedOrders = true) (hok : drawOkT X.N (opsOf c) eff nd = true) (hch : eff.all (fun e => Nat.blt e (opsOf c).size) = true)
    (new : List (Nat × SV)) (hnew : new.map (·.1) = newT (opsOf c) eff nd none []) (hwf : wfs new) (hst : StageT X (opsOf c) eff nd Q n [] { s with σ := new ++ s.σ }) : T X c s Q := by
  intro ids vals a w hr
  cases c with
  | region id' ops d =>
    simp [regOf] at h
    obtain ⟨rfl, rfl⟩ := h
    simp only [opsOf] at *
    refine wpIn_region_any hmix ?_
    have hr' : Rel X ids vals s a { w with drawn := w.drawn + 1 } := hr.later ⟨rfl, rfl, rfl, Nat.le_refl _, fun _ _ => rfl⟩
    obtain ⟨b, r1, r2, r3⟩ := Rel.puts (new := new) hr' (fun x hx => by
      refine ⟨?_, wfs_mem hwf x hx⟩
      have : x.1 ∈ newT ops eff nd none [] := by rw [← hnew]; exact List.mem_map.2 ⟨x, hx, rfl⟩
      obtain ⟨j, j1, _, j2, j3⟩ := newT_mem this
      cases hoj : ops[j]? with
      | none => rw [hoj] at j3; simp at j3
      | some oj =>
        obtain ⟨dj, k1, k2, _⟩ := (drawOkT_at hok hoj).2.2.2.1 j1
        rw [hoj] at j3
        simp only [Option.bind_some, k1] at j3
        injection j3 with j3; subst j3; exact k2)
    have hun : ∀ j, (Array.replicate ops.size false).getD j false = false := fun j => by
      simp only [Array.getD_eq_getD_getElem?, Array.getElem?_replicate]
      split <;> rfl
    refine wpAny_drawT hok (fun e he => by rw [List.all_eq_true] at hch; exact Eq.mp Nat.blt_eq (hch e (inB_iff.1 he))) _ _ _ _ n [] { s with σ := new ++ s.σ } b ids vals ?_ ?_
    · exact {
        size := by simp
        rel := r1
        stage := hst
        dfr := r2.symm
        sz := by rw [hr.size, r1.size]
        agree := fun t ht => by
          refine (r3 t ?_).symm
          rw [hnew]; intro hh
          obtain ⟨j, j1, _, j2, j3⟩ := newT_mem hh
          refine ht j ?_ j1 j3
          have hjs : j < ops.size := by
            cases hoj : ops[j]? with
            | none => rw [hoj] at j3; simp at j3
            | some _ => exact (Array.getElem?_eq_some_iff.1 hoj).1
          rw [getD_default (by simpa using hjs) true false]; exact hun j
        done := fun i hi hl => by
          rw [getD_default (by simpa using hi) true false, hun i] at hl; cases hl
        eff1 := fun e he => by simp at he
        eff2 := fun e he _ => by
          rw [List.all_eq_true] at hch
          rw [getD_default (by simpa using Eq.mp Nat.blt_eq (hch e (inB_iff.1 he))) true false]; exact hun e
        low := fun i _ _ hl => by rw [hun i] at hl; cases hl }
    · have := List.length_filter_le (fun i => !((Array.replicate ops.size false).getD i true)) (List.range ops.size)
      simp only [List.length_range] at this
      exact this
  | _ => simp [regOf] at h
end
def dueTL (ops : Array Oper) (eff : List Nat) (nd : List (List Nat)) (done : List Nat) : List Nat := (List.range ops.size).filter (dueT ops eff nd done)
theorem stageT_all {X ops s eff nd done} (pure spec : List Nat) (h1 : (dueTL ops eff nd done).all (fun i => inB i pure || inB i spec) = true) (h2 : pure.map (exHead X.P X.N ops s) = pure.map (lookHead ops s)) (h3 : pure.all (fun i => (lookHead ops s i).isSome) = true)
    (h4 : specs X ops s spec) : ∀ i o, ops[i]? = some o → dueT ops eff nd done i = true → QF X ops s o := by
  intro i o ho hd
  have hm : i ∈ dueTL ops eff nd done := List.mem_filter.2 ⟨List.mem_range.2 (Array.getElem?_eq_some_iff.1 ho).1, hd⟩
  rw [List.all_eq_true] at h1
  have := h1 i hm
  simp only [Bool.or_eq_true] at this
  rcases this with hp | hs
  · have hp := inB_iff.1 hp
    rw [List.all_eq_true] at h3
    obtain ⟨y, hy⟩ := Option.isSome_iff_exists.1 (h3 i hp)
    have : exHead X.P X.N ops s i = lookHead ops s i := List.map_inj_left.1 h2 i hp
    exact QF_pure ho (this.trans hy) hy
  · exact specs_mem h4 i (inB_iff.1 hs) o ho
def readyL (ops : Array Oper) (eff done : List Nat) : List Nat := (List.range ops.size).filter (readyE ops eff done)
theorem readyL_mem {ops : Array Oper} {eff done : List Nat} {e : Nat} (h : readyE ops eff done e = true) : e ∈ readyL ops eff done := by
  refine List.mem_filter.2 ⟨List.mem_range.2 ?_, h⟩
  unfold readyE at h
  simp only [Bool.and_eq_true] at h
  cases ho : ops[e]? with
  | none => rw [ho] at h; simp at h
  | some o => exact (Array.getElem?_eq_some_iff.1 ho).1
def stageTQ (X : Cx) (ops : Array Oper) (eff : List Nat) (nd : List (List Nat)) (Q : Exit → St → Prop) (n : Nat) (done : List Nat) (e : Nat) : Exit → St → Prop := fun ex s' => ex = .normal ∧ ∃ new : List (Nat × SV), new.map (·.1) = newT ops eff nd (some done) (e :: done) ∧ (∀ x ∈ new, x.2.wf) ∧ StageT X ops eff nd Q n (e :: done) { s' with σ := new ++ s'.σ }
theorem stageTQ_of {X ops eff nd Q n done e s} (new : List (Nat × SV)) (h1 : new.map (·.1) = newT ops eff nd (some done) (e :: done)) (h2 : wfs new) (h3 : StageT X ops eff nd Q n (e :: done) { s with σ := new ++ s.σ }) : stageTQ X ops eff nd Q n done e .normal s := ⟨rfl, new, h1, wfs_mem h2, h3⟩
def stepsT (X : Cx) (ops : Array Oper) (eff : List Nat) (nd : List (List Nat)) (Q : Exit → St → Prop) (n : Nat) (done : List Nat) (s : St) : List Nat → Prop
  | [] => True
  | e :: r => TE X ops e [] s (stageTQ X ops eff nd Q n done e) ∧ stepsT X ops eff nd Q n done s r
theorem stepsT_mem {X ops eff nd Q n done s} : ∀ {l : List Nat} {e : Nat}, stepsT X ops eff nd Q n done s l → e ∈ l → TE X ops e [] s (stageTQ X ops eff nd Q n done e)
  | [], _, _, h => by cases h
  | x :: r, e, h, he => by
    rcases List.mem_cons.1 he with rfl | he
    · exact h.1
    · exact stepsT_mem h.2 he
theorem StageT_leaf {X ops eff nd Q n done s} (h1 : ∀ i o, ops[i]? = some o → dueT ops eff nd done i = true → QF X ops s o) (hr : readyL ops eff done = []) (h2 : Q .normal s) : StageT X ops eff nd Q n done s := by
  have hno : ∀ e, readyE ops eff done e = true → False := fun e he => by
    have := readyL_mem he
    rw [hr] at this; cases this
  cases n with
  | zero => exact ⟨h1, fun _ => h2, hno⟩
  | succ n => exact ⟨h1, fun _ => h2, fun e o _ he => (hno e he).elim⟩
theorem StageT_cons {X ops eff nd Q n done s} (rdy : List Nat) (h1 : ∀ i o, ops[i]? = some o → dueT ops eff nd done i = true → QF X ops s o) (hr : readyL ops eff done = rdy) (hn : subB eff done = false) (h : stepsT X ops eff nd Q n done s rdy) : StageT X ops eff nd Q (n + 1) done s :=
  ⟨h1, fun hh => (by rw [hn] at hh; cases hh), fun e o ho he => stepsT_mem h (by rw [← hr]; exact readyL_mem he) o ho⟩
theorem StepT_ex {X ops eff nd Q n done e s} (s' : St) (hs : (ops[e]?).bind (exStep X.P X.N ops s) = some s') (new : List (Nat × SV)) (hn : new.map (·.1) = newT ops eff nd (some done) (e :: done)) (hw : wfs new)
    (h : StageT X ops eff nd Q n (e :: done) { s' with σ := new ++ s'.σ }) : TE X ops e [] s (stageTQ X ops eff nd Q n done e) := TE_ex hs (TL_nil (stageTQ_of new hn hw h))
end Go.Proofs.Ythniebmammmacaa
namespace Go.Proofs.Ythniebmammmacaa
open Go.RowKit
def uniM (M M' : Mem) : Mem := fun b => match M b with | some c => some c | none => M' b
theorem uniM_l {M M' : Mem} : Mem.le M (uniM M M') := fun b c h => by simp [uniM, h]
theorem uniM_some {M M' : Mem} {b : Nat} {c : Array Value} (h : uniM M M' b = some c) : M b = some c ∨ (M b = none ∧ M' b = some c) := by
  unfold uniM at h
  cases hb : M b with
  | some d => rw [hb] at h; exact .inl h
  | none => rw [hb] at h; exact .inr ⟨rfl, h⟩
theorem uniM_none {M M' : Mem} {b : Nat} (h : M b = none) (h' : M' b = none) : uniM M M' b = none := by simp [uniM, h, h']
theorem uniM_le {M M' : Mem} (h : Mem.le M M') : uniM M' M = M' := by
  funext b
  unfold uniM
  cases hb : M' b with
  | some c => rfl
  | none =>
    cases hc : M b with
    | none => rfl
    | some d => rw [h b d hc] at hb; cases hb
def News (Mp Mq : Mem) (A B : World) : Prop := Mem.le Mq (memOf B) ∧ ∀ b c, Mq b = some c → Mp b = some c ∨ A.heap.size ≤ b
theorem Rel.gain {X ids vals s a A B} (h : Rel X ids vals s a A) (hb : Below A.heap.size A B) {Mp Mq : Mem} (hp : Mem.le Mp s.M) (hq : News Mp Mq A B) : Rel X ids vals { s with M := uniM s.M Mq } a B := by
  have h' := h.later hb
  have hne : ∀ y, y < A.heap.size → s.M y = none → uniM s.M Mq y = none := fun y hy hm => by
    refine uniM_none hm ?_
    cases hc : Mq y with
    | none => rfl
    | some d =>
      rcases hq.2 y d hc with e | e
      · rw [hp y d e] at hm; cases hm
      · omega
  exact {
    size := h'.size
    defers := h'.defers
    marks := h'.marks
    att := h'.att
    others := h'.others
    onev := h'.onev
    tmp := h'.tmp
    blk := fun n d hn => by
      obtain ⟨q1, q2, q3, q4⟩ := h'.blk n d hn
      exact ⟨q1, q2, hne _ (h.lt_blk hn) q3, q4⟩
    inj := h'.inj
    vec := h'.vec
    apart := fun n v g hv hg => by
      obtain ⟨q1, q2, q3⟩ := h'.apart n v g hv hg
      obtain ⟨cur, e, he⟩ := h.own_ne hv hg
      exact ⟨hne _ (Array.getElem?_eq_some_iff.1 he).1 q1, q2, q3⟩
    mem := fun y d hy => by
      rcases uniM_some hy with hy | ⟨_, hy⟩
      · exact h'.mem y d hy
      · exact hq.1 y d hy
    grow := ⟨Mem.le_trans h'.grow.1 uniM_l, fun y hy hn => by
      by_cases hm : s.M y = none
      · cases hc : Mq y with
        | none => exact absurd (uniM_none hm hc) hn
        | some d =>
          rcases hq.2 y d hc with e | e
          · rw [hp y d e] at hm; cases hm
          · have := h.base; omega
      · exact h'.grow.2 y hy hm⟩
    below := h'.below
    base := h'.base }
def IterE {α : Type} (en : α → SV) (P : Program) (gf : Nat) (lb : List Value) (M : Mem) (ks : List α) : Prop :=
  ∀ (l : Nat) (J : Mem → List α → World → Prop) (Jx : World → Prop) (W : World),
    (∀ Mp pre A, J Mp pre A → Mem.le Mp (memOf A)) →
    (∀ Mp Mq pre A B, J Mp pre A → Below A.heap.size A B → News Mp Mq A B → J Mq pre B) → Gr Jx →
    (∀ Mp pre x A, (∃ r, (pre ++ [x]) ++ r = ks) → J Mp pre A → YieldAt Fence.wide 0 P l #[rval (en x)] A fun e B => (e = .returned (.bool true) ∧ J Mp (pre ++ [x]) B) ∨ (e = .returned (.bool false) ∧ Jx B ∧ Mem.le Mp (memOf B))) →
    J M [] W → CallsIn Fence.wide 0 P gf (#[.func (.yield l) #[] #[]] ++ lb.toArray) W fun e W' => (∃ v, e = .returned v) ∧ ((∃ Mp, J Mp ks W') ∨ Jx W')
theorem IterE.le {α : Type} {en : α → SV} {P gf lb M M' ks} (h : IterE en P gf lb M ks) (hM : Mem.le M M') : IterE en P gf lb M' ks := fun l J Jx W hm hg hx hy h0 =>
  (h l (fun Mp pre A => Mem.le M' (memOf A) ∧ Mem.le Mp (memOf A) ∧ J (uniM M' Mp) pre A) Jx W (fun Mp pre A hA => hA.2.1)
    (fun Mp Mq pre A B hA hAB hq => by
      refine ⟨Mem.le_trans hA.1 (memOf_below hAB), hq.1, hg _ _ _ _ _ hA.2.2 hAB ⟨fun y d hy => ?_, fun y d hy => ?_⟩⟩
      · rcases uniM_some hy with hy | ⟨_, hy⟩
        · exact memOf_below hAB y d (hA.1 y d hy)
        · exact hq.1 y d hy
      · rcases uniM_some hy with hy | ⟨hn, hy⟩
        · exact .inl (uniM_l y d hy)
        · rcases hq.2 y d hy with e | e
          · exact .inl (by simp [uniM, hn, e])
          · exact .inr e) hx
    (fun Mp pre x A hr hA => by
      obtain ⟨fn, tmps, assign, body, y1, y2⟩ := hy _ pre x A hr hA.2.2
      have hu : ∀ B, Mem.le (uniM M' Mp) (memOf B) → Mem.le M' (memOf B) ∧ (Mem.le Mp (memOf A) → Mem.le Mp (memOf B)) := fun B hB => by
        refine ⟨fun y d hy => hB y d (by simp [uniM, hy]), fun hMA y d hy => ?_⟩
        cases hb : M' y with
        | none => exact hB y d (by simp [uniM, hb, hy])
        | some d' =>
          have e1 := hA.1 y d' hb
          rw [hMA y d hy] at e1
          cases e1
          exact hB y d (by simp [uniM, hb])
      refine ⟨fn, tmps, assign, body, y1, y2.mono ?_⟩
      rintro e B (⟨q1, q2⟩ | ⟨q1, q2, q3⟩)
      · have hB := hm _ _ _ q2
        exact .inl ⟨q1, (hu B hB).1, (hu B hB).2 hA.2.1, q2⟩
      · exact .inr ⟨q1, q2, (hu B q3).2 hA.2.1⟩)
    ⟨hm _ _ _ h0, Mem.le_trans hM (hm _ _ _ h0), by rw [uniM_le hM]; exact h0⟩).mono (fun e W' hq => ⟨hq.1, hq.2.elim (fun ⟨Mp, q⟩ => .inl ⟨_, q.2.2⟩) .inr⟩)
theorem T_rangeE {α : Type} (en : α → SV) {X : Cx} {c : Code} {σ : List (Nat × SV)} {H : List (Nat × List Sg)} {V : List (Nat × Vc)} {M : Mem} {Q : Exit → St → Prop} {g p gf : Nat} {assign body : Code} {lb : List Value} {ks : List α} (names : List Nat)
    (h : c = .rangeFunc (.tmp g) #[p] assign body) (hrd : X.rd = none) (hg : look σ g = some (.lf (.v (.func (.func gf) #[] lb.toArray)))) (hgf : entersOk X.P gf = true) (hpN : Nat.blt p X.N = true) (hit : IterE en X.P gf lb M ks) (hen : ∀ x ∈ ks, (en x).wf ∧ (en x).closed = true) (hti : tieds names σ = true) (hσp : look σ p = none)
    (Inv : List α → List (Nat × List Sg) → List (Nat × Vc) → Mem → Prop) (Ix : Code → List (Nat × List Sg) → List (Nat × Vc) → Mem → Prop) (h0 : Inv [] H V M)
    (hgr : ∀ pre H V M' M'', Inv pre H V M' → Mem.le M' M'' → Inv pre H V M'')
    (round : ∀ l O bs pre x H' V' M', (∃ r, (pre ++ [x]) ++ r = ks) → Inv pre H' V' M' → T { X with rd := some l } assign { σ := (p, en x) :: σ, H := H', V := V', M := M', ds := [], os := O, ats := tiesOf names bs } (fun e s1 => e = .normal ∧ s1.os = O ∧ s1.ds = [] ∧
      ∀ O', T { X with rd := some l } body { s1 with os := O' } (fun e s0 => ∃ s2, Sub s2 s0 ∧ s2.os = O' ∧ s2.ats = tiesOf names bs ∧ Mem.le M' s2.M ∧ (match e with | .normal => Inv (pre ++ [x]) s2.H s2.V s2.M | .ret => Ix .ret s2.H s2.V s2.M | .exit id => Ix (.exit id) s2.H s2.V s2.M | _ => False))))
    (hdone : ∀ D H' V' M', Inv ks H' V' M' → Q .normal { σ := σ, H := H', V := V', M := M', ds := [D] })
    (hstop : ∀ D c H' V' M', Ix c H' V' M' → T X c { σ := σ, H := H', V := V', M := M', ds := [D] } Q) :
    T X c { σ := σ, H := H, V := V, M := M, ds := [] } Q := by
  subst h
  intro ids vals a w hr
  refine wpIn_rangeFunc ?_
  intro fn hfn
  have hro : (Fx X.rd).round = none := hrd
  rw [hro]
  obtain ⟨rec, hrec⟩ : ∃ rec : LoopState → Option Code → Loop, rec = fun st pe => { state := st, pending := pe, fn, tmps := a.tmps, params := #[p], assign, body, defers := w.heap.size } := ⟨_, rfl⟩
  obtain ⟨W1, hW1⟩ : ∃ W1, (w.alloc (.deferred (some []))).alloc (.loop (rec .ready none)) = W1 := ⟨_, rfl⟩
  have hL1 : W1.heap[w.heap.size + 1]? = some (.loop (rec .ready none)) := by
    rw [← hW1]; have := World.alloc_heap_new (w.alloc (.deferred (some []))) (.loop (rec .ready none)); rwa [World.size_alloc] at this
  have hK1 : W1.heap[w.heap.size]? = some (.deferred (some [])) := by
    rw [← hW1]; exact (Below.heap_alloc _ _ _ (by simp)).trans (World.alloc_heap_new w _)
  have hb1 : Below w.heap.size w W1 := by
    rw [← hW1]; exact ((Below.refl _ w).alloc (Nat.le_refl _) _).alloc (by simp) _
  have hr1 := hr.later hb1
  obtain ⟨os, hos⟩ : ∃ os : LoopState → Option Code → List (Nat × Obj), os = fun st pe => [(w.heap.size + 1, .loop (rec st pe)), (w.heap.size, .deferred (some []))] := ⟨_, rfl⟩
  obtain ⟨b0, hb0⟩ : ∃ b0 : Act, b0 = { tmps := a.tmps, defers := [] } := ⟨_, rfl⟩
  have hbase := hr.base
  have eff : evO { σ := σ, H := H, V := V, M := M, ds := [] } (.tmp g) = some (.lf (.v (.func (.func gf) #[] lb.toArray))) := hg
  have heg : a.eval (.tmp g) = .func (.func gf) #[] lb.toArray := hr.ev eff
  -- what holds between two rounds; what holds where a round has left
  obtain ⟨J, hJ⟩ : ∃ J : Mem → List α → World → Prop, J = fun Mp pre W => ∃ H' V' M' ids' vals', Inv pre H' V' M' ∧ Mem.le Mp M' ∧ Rel { X with rd := some (w.heap.size + 1) } ids' vals' { σ := σ, H := H', V := V', M := M', ds := [], os := os .ready none, ats := tiesOf names ids } b0 W := ⟨_, rfl⟩
  obtain ⟨Jx, hJx⟩ : ∃ Jx : World → Prop, Jx = fun W => ∃ c H' V' M' ids' vals', Ix c H' V' M' ∧ Rel { X with rd := some (w.heap.size + 1) } ids' vals' { σ := σ, H := H', V := V', M := M', ds := [], os := os .done (some c), ats := tiesOf names ids } b0 W := ⟨_, rfl⟩
  have tie : ∀ {ids' : Nat → Nat}, (∀ q ∈ tiesOf names ids, ids' q.1 = q.2) → ∀ n ∈ names, ids' n = ids n := fun hq n hn => hq (n, ids n) (List.mem_map.2 ⟨n, hn, rfl⟩)
  have osOk : ∀ (W : World) st pe, W.heap[w.heap.size + 1]? = some (.loop (rec st pe)) → W.heap[w.heap.size]? = some (.deferred (some [])) → ∀ q ∈ os st pe, X.B ≤ q.1 ∧ W.heap[q.1]? = some q.2 ∧ q.2.isCells = false := by
    intro W st pe h1 h2 q hq
    rw [hos] at hq
    simp only [List.mem_cons, List.mem_nil_iff, or_false] at hq
    rcases hq with rfl | rfl
    · exact ⟨Nat.le_succ_of_le hbase, h1, rfl⟩
    · exact ⟨hbase, h2, rfl⟩
  have osAt : ∀ {X' : Cx} {ids' vals' s' a' W} st pe, Rel X' ids' vals' s' a' W → s'.os = os st pe → W.heap[w.heap.size + 1]? = some (.loop (rec st pe)) ∧ W.heap[w.heap.size]? = some (.deferred (some [])) := by
    intro X' ids' vals' s' a' W st pe hR ho
    rw [hos] at ho
    exact ⟨(hR.others (w.heap.size + 1, .loop (rec st pe)) (by rw [ho]; simp)).2.1, (hR.others (w.heap.size, .deferred (some [])) (by rw [ho]; simp)).2.1⟩
  have σAt : ∀ {ids' : Nat → Nat} {vals' : Nat → Value}, (∀ n ∈ names, ids' n = ids n) → ∀ t x, look σ t = some x → b0.tmps[t]? = some (x.val ids' vals') ∧ x.wf := by
    intro ids' vals' hn t x hx
    obtain ⟨e1, e2⟩ := hr.tmp t x hx
    refine ⟨?_, e2⟩
    rw [hb0, tied_val hn (tieds_look hti hx)]
    exact e1
  have h0J : J M [] W1 := by
    rw [hJ]
    refine ⟨H, V, M, ids, vals, h0, Mem.le_refl _, ?_⟩
    exact hr1.frame (X' := { X with rd := some (w.heap.size + 1) }) (s := { σ := σ, H := H, V := V, M := M, ds := [] }) (σ' := σ) (ds := []) (os := os .ready none) (ats := tiesOf names ids) ⟨rfl, rfl, rfl, rfl⟩ (by rw [hb0]; exact hr.size) (by rw [hb0]; rfl) (σAt (fun _ _ => rfl)) (fun D hD => by cases hD) (osOk W1 _ _ hL1 hK1) (fun q hq => by obtain ⟨n, _, rfl⟩ := List.mem_map.1 hq; rfl)
  refine ⟨w.heap.size + 1, [{ target := .collected w.heap.size, args := #[] }], W1, { target := .fn (.func gf) lb.toArray, args := #[.func (.yield (w.heap.size + 1)) #[] #[]] }, W1, gf,
    #[.func (.yield (w.heap.size + 1)) #[] #[]] ++ lb.toArray, W1, ?_, ?_, fun _ _ => trivial, ?_, (by intro hh; simp [Fx, Fence.wide] at hh), ?_⟩
  · rw [← hW1, hrec]; exact run_enterLoop_outer _ _ _ _ _
  · simp only [resolve, heg]
    simp [go_sem]
  · simp only [invoke]
    exact enters_run hgf _ _
  · have hcall := hit (w.heap.size + 1) J Jx W1 ?_ ?_ ?_ ?_ h0J
    · have hF : Fx X.rd = Fence.wide := by rw [hrd]; rfl
      have hmono : CallsIn Fence.wide 0 X.P gf (#[.func (.yield (w.heap.size + 1)) #[] #[]] ++ lb.toArray) W1 (rangePost (Fx X.rd) 0 X.P (w.heap.size + 1) (lift X Q) { a with defers := [{ target := .collected w.heap.size, args := #[] }] ++ a.defers }) := by
        refine hcall.mono ?_
        rintro e W2 ⟨⟨v, rfl⟩, hq⟩
        rcases hq with ⟨Mq, hq⟩ | hq
        · rw [hJ] at hq
          obtain ⟨H', V', M', ids', vals', hi, hMq, hR⟩ := hq
          obtain ⟨hl, hk⟩ := osAt _ _ hR rfl
          have hlt := (Array.getElem?_eq_some_iff.1 hl).1
          refine ⟨none, _, by have := run_endLoop (P := X.P) hl (by rw [hrec]; simp); rw [hrec] at this; exact this, ?_⟩
          have hk4 : (W2.putObj (w.heap.size + 1) (.loop { rec .ready none with state := .exhausted })).heap[w.heap.size]? = some (.deferred (some [])) := (World.putObj_heap_other (by omega)).trans hk
          have hR0 := hR.forget (s' := { σ := σ, H := H', V := V', M := M', ds := [], ats := tiesOf names ids }) (Mem.le_refl _) hR.grow.1 rfl (fun _ _ h => h) (fun _ _ h => h) (fun _ _ h => h) (fun q hq => by cases hq)
          have hR2 := hR0.other (grownBy_putObj' W2 (w.heap.size + 1) (.loop { rec .ready none with state := .exhausted })) (fun r e => by
            cases e; exact ⟨Nat.le_succ_of_le hbase, by simp, _, hl, rfl⟩)
          have hn := tie hR.att
          refine ⟨_, ids', vals', hdone w.heap.size H' V' M' hi, ?_⟩
          have := hR2.frame (X' := X) (b := { a with defers := [{ target := .collected w.heap.size, args := #[] }] ++ a.defers }) (σ' := σ) (ds := [w.heap.size]) (os := []) (ats := []) ⟨rfl, rfl, rfl, rfl⟩ hr.size (by simp only [hr.defers]; rfl) (fun t x hx => by have := σAt (vals' := vals') hn t x hx; rw [hb0] at this; exact this) (fun D hD => by
            simp only [List.mem_cons, List.mem_nil_iff, or_false] at hD; subst hD; exact ⟨hbase, hk4⟩) (fun q hq => by cases hq) (fun q hq => by cases hq)
          rw [hrec] at this
          exact this
        · rw [hJx] at hq
          obtain ⟨c, H', V', M', ids', vals', hi, hR⟩ := hq
          obtain ⟨hl, hk⟩ := osAt _ _ hR rfl
          refine ⟨some c, _, by have := run_endLoop (P := X.P) hl (by rw [hrec]; simp); rw [hrec] at this; exact this, ?_⟩
          have hk4 : (W2.putObj (w.heap.size + 1) (.loop { rec .done (some c) with state := .exhausted })).heap[w.heap.size]? = some (.deferred (some [])) := (World.putObj_heap_other (by omega)).trans hk
          have hR0 := hR.forget (s' := { σ := σ, H := H', V := V', M := M', ds := [], ats := tiesOf names ids }) (Mem.le_refl _) hR.grow.1 rfl (fun _ _ h => h) (fun _ _ h => h) (fun _ _ h => h) (fun q hq => by cases hq)
          have hR2 := hR0.other (grownBy_putObj' W2 (w.heap.size + 1) (.loop { rec .done (some c) with state := .exhausted })) (fun r e => by
            cases e; exact ⟨Nat.le_succ_of_le hbase, by simp, _, hl, rfl⟩)
          have hn := tie hR.att
          have := hR2.frame (X' := X) (b := { a with defers := [{ target := .collected w.heap.size, args := #[] }] ++ a.defers }) (σ' := σ) (ds := [w.heap.size]) (os := []) (ats := []) ⟨rfl, rfl, rfl, rfl⟩ hr.size (by simp only [hr.defers]; rfl) (fun t x hx => by have := σAt (vals' := vals') hn t x hx; rw [hb0] at this; exact this) (fun D hD => by
            simp only [List.mem_cons, List.mem_nil_iff, or_false] at hD; subst hD; exact ⟨hbase, hk4⟩) (fun q hq => by cases hq) (fun q hq => by cases hq)
          rw [hrec] at this
          exact hstop w.heap.size c H' V' M' hi ids' vals' _ _ this
      rw [hF] at hmono ⊢
      exact hmono
    · intro Mq pre A hA
      rw [hJ] at hA
      obtain ⟨H', V', M', ids', vals', hi, hMq, hR⟩ := hA
      exact Mem.le_trans hMq hR.mem
    · intro Mp Mq pre A B hA hAB hnew
      rw [hJ] at hA ⊢
      obtain ⟨H', V', M', ids', vals', hi, hMq, hR⟩ := hA
      refine ⟨H', V', uniM M' Mq, ids', vals', hgr _ _ _ _ _ hi uniM_l, fun y d hy => ?_, hR.gain hAB hMq hnew⟩
      cases hb : M' y with
      | none => simp [uniM, hb, hy]
      | some d' =>
        rcases hnew.2 y d hy with e | e
        · have e2 := hMq y d e
          rw [hb] at e2
          cases e2
          simp [uniM, hb]
        · exact absurd (hR.mem_lt hb) (by omega)
    · intro A B hA hAB
      rw [hJx] at hA ⊢
      obtain ⟨c, H', V', M', ids', vals', hi, hR⟩ := hA
      exact ⟨c, H', V', M', ids', vals', hi, hR.later hAB⟩
    · intro Mq pre x W hks hj
      rw [hJ] at hj
      obtain ⟨H', V', M', ids', vals', hi, hMq, hR⟩ := hj
      obtain ⟨henw, henc⟩ := hen x (by obtain ⟨r, hr⟩ := hks; rw [← hr]; simp)
      have hev : (en x).val ids' vals' = rval (en x) := SV.closed_val henc
      obtain ⟨hl, hk⟩ := osAt _ _ hR rfl
      have hy := run_yield (P := X.P) (args := #[rval (en x)]) hl (by rw [hrec]; rfl)
      rw [hrec] at hy
      refine ⟨fn, _, assign, body, hy, roundIn_of_wpIn trivial ?_⟩
      have htm : ((#[p].zip #[rval (en x)]).foldl (fun tmps (t, a) => tmps.setIfInBounds t a) a.tmps) = a.tmps.setIfInBounds p (rval (en x)) := by simp
      simp only [htm]
      have hn := tie hR.att
      have hRa : Rel { X with rd := some (w.heap.size + 1) } ids' vals' { σ := (p, en x) :: σ, H := H', V := V', M := M', ds := [], os := os .ready none, ats := tiesOf names ids } { tmps := a.tmps.setIfInBounds p (rval (en x)), defers := [] } W := by
        have := hR.put (d := p) (Eq.mp Nat.blt_eq hpN) (x := en x) henw
        rw [hb0, hev] at this
        exact this
      have hass := round (w.heap.size + 1) (os .ready none) ids pre x H' V' M' hks hi ids' vals' _ W hRa
      refine wpIn_mono hass ?_
      rintro e a1 w1 ⟨s1, ids1, vals1, ⟨rfl, ho1, hd1, hbody⟩, hR1⟩
      obtain ⟨hl1, hk1⟩ := osAt _ _ hR1 ho1
      have hlt1 := (Array.getElem?_eq_some_iff.1 hl1).1
      refine ⟨_, run_beginRound hl1 (by rw [hrec]), ?_⟩
      obtain ⟨Wb, hWb⟩ : ∃ Wb, w1.putObj (w.heap.size + 1) (.loop { rec .ready none with state := .busy }) = Wb := ⟨_, rfl⟩
      have hbusy : { rec .ready none with state := .busy } = rec .busy none := by rw [hrec]
      rw [hWb]
      have hl2 : Wb.heap[w.heap.size + 1]? = some (.loop (rec .busy none)) := by rw [← hWb, hbusy]; exact World.putObj_heap_same hlt1
      have hk2 : Wb.heap[w.heap.size]? = some (.deferred (some [])) := by rw [← hWb]; exact (World.putObj_heap_other (by omega)).trans hk1
      have hR1' := hR1.forget (s' := { s1 with os := [] }) (Mem.le_refl _) hR1.grow.1 rfl (fun _ _ h => h) (fun _ _ h => h) (fun _ _ h => h) (fun q hq => by cases hq)
      have hR2 := hR1'.other (w' := Wb) (by rw [← hWb]; exact grownBy_putObj' w1 _ _) (fun r e => by
        cases e; exact ⟨Nat.le_succ_of_le hbase, by rw [show ({ s1 with os := [] } : St).ds = s1.ds from rfl, hd1]; simp, _, hl1, rfl⟩)
      have hR3 := hR2.frame (X' := { X with rd := some (w.heap.size + 1) }) (b := a1) (σ' := s1.σ) (ds := s1.ds) (os := os .busy none) (ats := s1.ats) ⟨rfl, rfl, rfl, rfl⟩ hR1.size hR1.defers hR1.tmp hR2.marks (osOk Wb _ _ hl2 hk2) hR1.att
      refine wpIn_mono (hbody (os .busy none) ids1 vals1 a1 Wb hR3) ?_
      rintro e a2 w2 ⟨s0, ids0, vals0, ⟨s2, hsub, ho2, ha2, hm2, hq2⟩, hR40⟩
      obtain ⟨ids2, vals2, hR4⟩ := hsub _ _ _ _ _ hR40
      obtain ⟨hl3, hk3⟩ := osAt _ _ hR4 ho2
      have hlt3 := (Array.getElem?_eq_some_iff.1 hl3).1
      have fin : ∀ (jump : Option Code) (st : LoopState), st = (if jump.isNone then .ready else .done) →
          (Instr.endRound (w.heap.size + 1) jump).run X.P w2 = .ok (.bool jump.isNone) (w2.putObj (w.heap.size + 1) (.loop (rec st jump))) ∧
          Rel { X with rd := some (w.heap.size + 1) } ids2 vals2 { σ := σ, H := s2.H, V := s2.V, M := s2.M, ds := [], os := os st jump, ats := tiesOf names ids } b0 (w2.putObj (w.heap.size + 1) (.loop (rec st jump))) := by
        intro jump st hst
        subst hst
        have h1 := run_endRound (P := X.P) jump hl3
        have hl5 : (w2.putObj (w.heap.size + 1) (.loop (rec (if jump.isNone then .ready else .done) jump))).heap[w.heap.size + 1]? = some (.loop (rec (if jump.isNone then .ready else .done) jump)) := World.putObj_heap_same hlt3
        have hk5 : (w2.putObj (w.heap.size + 1) (.loop (rec (if jump.isNone then .ready else .done) jump))).heap[w.heap.size]? = some (.deferred (some [])) := (World.putObj_heap_other (by omega)).trans hk3
        have hq := hR4.frame (X' := { X with rd := some (w.heap.size + 1) }) (b := b0) (σ' := σ) (ds := []) (os := []) (ats := tiesOf names ids) ⟨rfl, rfl, rfl, rfl⟩ (by rw [hb0]; exact hr.size) (by rw [hb0]; rfl) (σAt (tie (fun q hq => hR4.att q (by rw [ha2]; exact hq)))) (fun D hD => by cases hD) (fun q hq => by cases hq) (fun q hq => hR4.att q (by rw [ha2]; exact hq))
        have hq2 := hq.other (grownBy_putObj' w2 (w.heap.size + 1) (.loop (rec (if jump.isNone then .ready else .done) jump))) (fun r e => by
          cases e; exact ⟨Nat.le_succ_of_le hbase, by simp, _, hl3, rfl⟩)
        refine ⟨by rw [hrec] at h1 ⊢; exact h1, ?_⟩
        exact hq2.frame (X' := { X with rd := some (w.heap.size + 1) }) (σ' := σ) (ds := []) (os := os (if jump.isNone then .ready else .done) jump) (ats := tiesOf names ids) ⟨rfl, rfl, rfl, rfl⟩ (by rw [hb0]; exact hr.size) (by rw [hb0]; rfl) hq2.tmp (fun D hD => by cases hD) (osOk _ _ _ hl5 hk5) hq2.att
      cases e with
      | normal =>
        obtain ⟨f1, f2⟩ := fin none .ready rfl
        refine ⟨_, _, f1, .inl ⟨rfl, ?_⟩⟩
        rw [hJ]; exact ⟨_, _, _, _, _, hq2, Mem.le_trans hMq hm2, f2⟩
      | ret =>
        obtain ⟨f1, f2⟩ := fin (some .ret) .done rfl
        refine ⟨_, _, f1, .inr ⟨rfl, ?_, Mem.le_trans (Mem.le_trans hMq hm2) f2.mem⟩⟩
        rw [hJx]; exact ⟨_, _, _, _, _, _, hq2, f2⟩
      | exit id =>
        obtain ⟨f1, f2⟩ := fin (some (.exit id)) .done rfl
        refine ⟨_, _, f1, .inr ⟨rfl, ?_, Mem.le_trans (Mem.le_trans hMq hm2) f2.mem⟩⟩
        rw [hJx]; exact ⟨_, _, _, _, _, _, hq2, f2⟩
      | _ => exact hq2.elim
end Go.Proofs.Ythniebmammmacaa
namespace Go.Proofs.Ythniebmammmacaa
open Go.RowKit
def bor (k : IntKind) (a b : Int) : Int := ((BitVec.ofInt k.bits a ||| BitVec.ofInt k.bits b).toNat : Int)
def band (k : IntKind) (a b : Int) : Int := ((BitVec.ofInt k.bits a &&& BitVec.ofInt k.bits b).toNat : Int)
theorem At_shl {X s ops i d k k'} {m n : Int} (h : binC s ops i = some (d, .shl, .int k m, .int k' n)) (hn : 0 ≤ n) : OpAt X s ops i d (.lf (.v (.int k (k.wrap (m * 2 ^ (min n.toNat k.bits)))))) := At_bin h (by simp [exBin]; omega)
theorem At_shr {X s ops i d k k'} {m n : Int} (h : binC s ops i = some (d, .shr, .int k m, .int k' n)) (hn : 0 ≤ n) : OpAt X s ops i d (.lf (.v (.int k (m.fdiv (2 ^ (min n.toNat k.bits)))))) := At_bin h (by simp [exBin]; omega)
def NQ (Q : WQ) (e : Exit) (σ : List (Nat × SV)) (pre : World → Prop) : Prop := ∀ w, pre w → Q e σ w
def KW (P : Program) (N : Nat) (M : Mem) (c2 : Code) (Q : WQ) : List (Nat × SV) → World → Prop := fun σ' w => ∃ pre' : World → Prop, pre' w ∧ TW P N M c2 σ' pre' Q
section
variable {P : Program} {N : Nat} {M : Mem} {c c1 c2 : Code} {σ : List (Nat × SV)} {pre : World → Prop} {Q : WQ} {ops : Array Oper} {i : Nat}
theorem W_seq (h : c = .seq c1 c2) (h1 : TW P N M c1 σ pre (thenW (KW P N M c2 Q) Q)) : TW P N M c σ pre Q :=
  TW_seq (KW P N M c2 Q) h h1 (fun σ' a w hr ⟨pre', hp, ht⟩ => ht a w hr hp)
theorem NQ_then (h : TW P N M c2 σ pre Q) : NQ (thenW (KW P N M c2 Q) Q) .normal σ pre := fun w hw => ⟨pre, hw, h⟩
theorem NQ_thenx {K} {id : Nat} (h : NQ Q (.exit id) σ pre) : NQ (thenW K Q) (.exit id) σ pre := h
theorem NQ_thenr {K} (h : NQ Q .ret σ pre) : NQ (thenW K Q) .ret σ pre := h
theorem NQ_bn {id : Nat} (h : NQ Q .normal σ pre) : NQ (blockW id Q) .normal σ pre := h
theorem NQ_br {id : Nat} (h : NQ Q .ret σ pre) : NQ (blockW id Q) .ret σ pre := h
theorem NQ_bx {id : Nat} (h : NQ Q .normal σ pre) : NQ (blockW id Q) (.exit id) σ pre := fun w hw => by simp only [blockW, if_true]; exact h w hw
theorem W_skip (h : c = .skip) (h1 : NQ Q .normal σ pre) : TW P N M c σ pre Q := TW_skip h h1
theorem W_exit {id : Nat} (h : c = .exit id) (h1 : NQ Q (.exit id) σ pre) : TW P N M c σ pre Q := TW_exit h h1
theorem W_ret (h : c = .ret) (h1 : NQ Q .ret σ pre) : TW P N M c σ pre Q := TW_ret h h1
theorem WI_end (h : Nat.beq ops.size i = true) (h1 : NQ Q .normal σ pre) : TWI P N M ops i σ pre Q := TWI_end h h1
theorem W_condT {x : Operand} (h : c = .cond x c1 c2) (hx : evO (st0 σ M) x = some (.lf (.v (.bool true)))) (h1 : TW P N M c1 σ pre Q) : TW P N M c σ pre Q := TW_cond h hx (fun _ => h1) (fun hb => by cases hb)
theorem W_condF {x : Operand} (h : c = .cond x c1 c2) (hx : evO (st0 σ M) x = some (.lf (.v (.bool false)))) (h1 : TW P N M c2 σ pre Q) : TW P N M c σ pre Q := TW_cond h hx (fun hb => by cases hb) (fun _ => h1)
theorem W_loop {γ : Type} (S : γ → List (Nat × SV)) (K : γ → World → Prop) (φ : Nat → γ → Prop) {g0 : γ} {k : Nat} (h : c = .loop c1) (h0 : S g0 = σ) (hφ : φ k g0) (hp : ∀ w, pre w → K g0 w)
    (round : ∀ k g, φ k g → TW P N M c1 (S g) (K g) (thenW (fun σ' w' => ∃ k' g', k' < k ∧ σ' = S g' ∧ φ k' g' ∧ K g' w') Q)) : TW P N M c σ pre Q :=
  TW_loop h (fun k σ w => ∃ g, σ = S g ∧ φ k g ∧ K g w) (k := k) (fun w hw => ⟨g0, h0.symm, hφ, hp w hw⟩) (fun k σ a w hr ⟨g, e, hf, hk⟩ => by
    subst e
    refine wpIn_mono (round k g hf a w hr hk) ?_
    rintro e a' w' ⟨σ', hq, hr'⟩
    refine ⟨σ', ?_, hr'⟩
    cases e with
    | normal => obtain ⟨k', g', h1, h2, h3, h4⟩ := hq; exact ⟨k', h1, g', h2, h3, h4⟩
    | _ => exact hq)
theorem NQ_loop {γ : Type} {S : γ → List (Nat × SV)} {K : γ → World → Prop} {φ : Nat → γ → Prop} {k : Nat} (k' : Nat) (g' : γ) (hk : k' < k) (hs : σ = S g') (hf : φ k' g') (hp : ∀ w, pre w → K g' w) : NQ (thenW (fun σ' w' => ∃ k' g', k' < k ∧ σ' = S g' ∧ φ k' g' ∧ K g' w') Q) .normal σ pre := fun w hw => ⟨k', g', hk, hs, hf, hp w hw⟩
end
def yldE (s : St) (ops : Array Oper) (i : Nat) : Option (Nat × Nat × SV) :=
  match ops[i]? with
  | some o => match o.op, o.dst with
    | .call { callee := .value fo, args := ⟨[x]⟩, .. }, some d => match evO s fo, evO s x with
      | some (.lf (.v (.func (.yield l) ⟨[]⟩ ⟨[]⟩))), some y => some (d, l, y)
      | _, _ => none
    | _, _ => none
  | none => none
structure Yd {α : Type} (en : α → SV) (P : Program) (ks : List α) (l : Nat) (J : Mem → List α → World → Prop) (Jx : World → Prop) : Prop where
  mem : ∀ Mp pre A, J Mp pre A → Mem.le Mp (memOf A)
  grow : ∀ Mp Mq pre A B, J Mp pre A → Below A.heap.size A B → News Mp Mq A B → J Mq pre B
  gx : Gr Jx
  yld : ∀ Mp pre x A, (∃ r, (pre ++ [x]) ++ r = ks) → J Mp pre A → YieldAt Fence.wide 0 P l #[rval (en x)] A fun e B => (e = .returned (.bool true) ∧ J Mp (pre ++ [x]) B) ∨ (e = .returned (.bool false) ∧ Jx B ∧ Mem.le Mp (memOf B))
theorem Yd.gr {α : Type} {en : α → SV} {P ks l J Jx} (h : Yd en P ks l J Jx) (Mp : Mem) (pre : List α) : Gr (J Mp pre) := fun A B ha hb => h.grow _ _ _ _ _ ha hb ⟨Mem.le_trans (h.mem _ _ _ ha) (memOf_below hb), fun _ _ e => .inl e⟩
def Stp (Jx : World → Prop) (M : Mem) : World → Prop := fun w => Jx w ∧ Mem.le M (memOf w)
theorem Stp.gr {Jx : World → Prop} {M : Mem} (h : Gr Jx) : Gr (Stp Jx M) := fun A B ha hb => ⟨h A B ha.1 hb, Mem.le_trans ha.2 (memOf_below hb)⟩
theorem IterE_of {α : Type} {en : α → SV} {P gf lb M ks} (h : ∀ l J Jx W, Yd en P ks l J Jx → Mem.le M (memOf W) → J M [] W → CallsIn Fence.wide 0 P gf (#[.func (.yield l) #[] #[]] ++ lb.toArray) W fun e W' => (∃ v, e = .returned v) ∧ ((∃ Mp, J Mp ks W') ∨ Jx W')) : IterE en P gf lb M ks :=
  fun l J Jx W hm hg hx hy h0 => h l J Jx W ⟨hm, hg, hx, hy⟩ (hm _ _ _ h0) h0
section
variable {P : Program} {N : Nat} {M : Mem} {c c1 c2 : Code} {σ : List (Nat × SV)} {pre : World → Prop} {Q : WQ} {ops : Array Oper} {i : Nat}
theorem WI_yield {α : Type} {en : α → SV} {ks : List α} {J : Mem → List α → World → Prop} {Jx : World → Prop} {d l : Nat} (hyd : Yd en P ks l J Jx) {pr : List α} {x : α} (h : yldE (st0 σ M) ops i = some (d, l, en x)) (hcl : (en x).closed = true) (hk : ∃ r, (pr ++ [x]) ++ r = ks) (hc : (match wantedAt ops (st0 σ M) i with | some b => b && Nat.blt d N | none => false) = true)
    (h1 : TWI P N M ops (i + 1) ((d, .lf (.v (.bool true))) :: σ) (J M (pr ++ [x])) Q) (h2 : TWI P N M ops (i + 1) ((d, .lf (.v (.bool false))) :: σ) (Stp Jx M) Q) : TWI P N M ops i σ (J M pr) Q := by
  intro a w hr hp
  unfold yldE at h
  split at h
  · rename_i o ho
    obtain ⟨dst, op, type, pos, after, guard⟩ := o
    simp only at h
    split at h
    · rename_i fo xo tys d'
      split at h
      · rename_i l' y e1 e2
        simp at h
        obtain ⟨rfl, rfl, rfl⟩ := h
        rw [drop_cons ho]
        cases hw : wantedAt ops (st0 σ M) i with
        | none => rw [hw] at hc; cases hc
        | some b =>
          rw [hw] at hc
          simp only [Bool.and_eq_true] at hc
          rw [hc.1] at hw
          simp only [wantedAt, ho, Option.bind_some] at hw
          simp only [wpListIn]
          have hrel := hr.rel P
          rw [if_pos (wantedS_eq hrel hw)]
          obtain ⟨fn, tmps, assign, body, y1, y2⟩ := hyd.yld M pr x w hk hp
          unfold Oper.wpIn
          refine ⟨fun _ _ => trivial, ?_⟩
          rw [Oper.semAt_plain Fence.wide _ _ (by intro c hc; cases hc)]
          have ef := hrel.ev e1
          have ex : a.eval xo = rval (en x) := hrel.ev e2
          have hrun : (execOp a.eval ⟨some d', .call { callee := .value fo, args := ⟨[xo]⟩, argTypes := tys }, type, pos, after, guard⟩).run P w = .ok (.round l' fn tmps assign body) w := by
            simp only [execOp, resolve, Sem.run_bind, ef, SV.val, Lf.val, Deferred.ofValue, Sem.run_pure, Result.andThen_ok, invoke]
            simpa [ex] using y1
          rw [hrun]
          refine ⟨by intro hh; simp [Fence.wide] at hh, y2.mono ?_⟩
          have nxt : ∀ (b : Bool) (w' : World), Mem.le M (memOf w') → R0 N M ((d', .lf (.v (.bool b))) :: σ) (a.put (some d') (.bool b)) w' := fun b w' hm => ⟨by simp [Act.put, hr.size], hr.defers, fun t y hy => by
              rw [look_cons] at hy
              have hs := hr.size
              simp only [Act.put, Array.getElem?_setIfInBounds]
              split at hy
              · rename_i e; subst e; simp at hy; subst hy
                exact ⟨by simp [hs, Eq.mp Nat.blt_eq hc.2, rval, SV.val, Lf.val], trivial⟩
              · rename_i e; rw [if_neg e]; exact hr.tmp t y hy, hm⟩
          rintro e w' (⟨rfl, q1⟩ | ⟨rfl, q1, q2⟩)
          · exact h1 _ w' (nxt true w' (hyd.mem _ _ _ q1)) q1
          · exact h2 _ w' (nxt false w' q2) ⟨q1, q2⟩
      · simp at h
    · simp at h
  · simp at h
end
theorem cons_some {α : Type} {o : Option (List α)} {x : α} {rest : List α} (h : (cl o fun r => some (x :: r)) = some rest) : ∃ r, o = some r ∧ rest = x :: r := by
  cases o with
  | none => cases h
  | some r => exact ⟨r, rfl, (Option.some.inj h).symm⟩
theorem pre_step {α : Type} {pr r ks : List α} {x : α} (h : pr ++ x :: r = ks) : (pr ++ [x]) ++ r = ks := by rw [List.append_assoc]; exact h
end Go.Proofs.Ythniebmammmacaa
namespace Go.Proofs.Ythniebmammmacaa
open Go.RowKit
theorem At_idxC {X : Cx} {s ops i d z A n c sz} {cs : List Value} (h : idxC X.P s ops i = some (d, .v (.slice A n c), sz, 0, z)) (hz : 0 ≤ z ∧ z < (n : Int)) (hS : SlC s.M A cs) (hne : cs ≠ []) : OpAt X s ops i d (.lf (.ep (.slice A n c) sz z.toNat 0)) := by
  obtain ⟨o, t, x, y, e, k', h1, h2, h3, h4, h5, h6, h7⟩ := idxC_eq h
  exact ⟨o, h1, h2, OpV_idx h3 h4 h5 h6 h7 hz.1 hz.2 hS hne⟩
theorem At_ldC {X : Cx} {s ops i d A n c sz q j} {cs : List Value} {v : Value} (h : ldC X.P s ops i = some (d, false, 1, .ep (.slice A n c) sz q j)) (hS : SlC s.M A cs) (hv : cs[q * sz + j]? = some v) : OpAt X s ops i d (.lf (.v v)) := by
  obtain ⟨o, t, x, de, h1, h2, hop, ht, hrow, hsz, hx⟩ := ldC_eq h
  refine ⟨o, h1, h2, ?_⟩
  have hne : cs ≠ [] := by intro hh; subst hh; simp at hv
  obtain ⟨b, off, rfl, hc⟩ := hS.resolve_left hne
  refine OpV_value (by rw [hop]; intro c hc; cases hc) fun ids vals a w hr => ?_
  have e1 := hr.ev hx
  have hcell : w.cell? ⟨b, off + q * sz + j, none⟩ = some v := by
    have := memCell_cell hr.mem (hc _ _ hv)
    rwa [show off + q * sz + j = off + (q * sz + j) from by omega]
  have hr1 := run_load_one (P := X.P) (w := w) ht hrow hcell
  unfold execOp
  simp only [hop, e1, SV.val, Lf.val, elemPtr, baseOf]
  rw [Sem.run_bind, hr1]
  rfl
abbrev WT := List Int × List Int
def wkC (H : Nat → Option Addr) (C : Nat → Nat) : Nat → List WT → List Value
  | _, [] => []
  | i, w :: r => (.slice (H i) w.1.length (C i) :: ints .i64 w.2) ++ wkC H C (i + 1) r
structure SlW (M : Mem) (m : Nat) (A : Option Addr) (c : Nat) (H : Nat → Option Addr) (C : Nat → Nat) (W : List WT) : Prop where
  len3 : ∀ w ∈ W, w.2.length = m
  cells : SlC M A (wkC H C 0 W)
  cap : W.length ≤ c
  rows : ∀ q, q < W.length → SlI M (H q) (C q) .i64 (W.getD q ([], [])).1
theorem SlW.le {M M' m A c H C W} (h : SlW M m A c H C W) (hM : Mem.le M M') : SlW M' m A c H C W := ⟨h.len3, h.cells.le hM, h.cap, fun q hq => (h.rows q hq).le hM⟩
theorem wkC_get (m : Nat) (H : Nat → Option Addr) (C : Nat → Nat) : ∀ (W : List WT) (i q j : Nat), (∀ w ∈ W, w.2.length = m) → q < W.length → j < m + 1 → (wkC H C i W)[q * (m + 1) + j]? = if j = 0 then some (.slice (H (i + q)) (W.getD q ([], [])).1.length (C (i + q))) else some (.int .i64 ((W.getD q ([], [])).2.getD (j - 1) 0))
  | [], _, q, _, _, hq, _ => by simp at hq
  | w :: r, i, 0, j, h3, _, hj => by
    have hw := h3 w (List.mem_cons_self ..)
    have hl : (Value.slice (H i) w.1.length (C i) :: ints .i64 w.2).length = m + 1 := by simp [ints_length, hw]
    simp only [wkC, Nat.zero_mul, Nat.zero_add, Nat.add_zero, List.getD_cons_zero]
    rw [List.getElem?_append_left (by omega)]
    cases j with
    | zero => simp
    | succ j =>
      rw [if_neg (by omega), Nat.add_sub_cancel]
      simp [ints, List.getD_eq_getElem?_getD, List.getElem?_eq_getElem (show j < w.2.length by omega)]
  | w :: r, i, q + 1, j, h3, hq, hj => by
    have hw := h3 w (List.mem_cons_self ..)
    have hl : (Value.slice (H i) w.1.length (C i) :: ints .i64 w.2).length = m + 1 := by simp [ints_length, hw]
    have ih := wkC_get m H C r (i + 1) q j (fun x hx => h3 x (List.mem_cons_of_mem _ hx)) (by simpa using hq) hj
    have e : (q + 1) * (m + 1) = q * (m + 1) + (m + 1) := by rw [Nat.add_mul, Nat.one_mul]
    simp only [wkC]
    rw [List.getElem?_append_right (by omega), hl, show (q + 1) * (m + 1) + j - (m + 1) = q * (m + 1) + j from by omega, ih, List.getD_cons_succ, show i + 1 + q = i + (q + 1) from by omega]
theorem wkC_ne {H C W} (h : 0 < W.length) : wkC H C 0 W ≠ [] := by
  cases W with
  | nil => simp at h
  | cons w r => simp [wkC]
theorem At_idxSW {X : Cx} {s ops i d z m A c H C} {W : List WT} (h : idxC X.P s ops i = some (d, .v (.slice A (List.length W) c), m + 1, 0, z)) (hz : 0 ≤ z ∧ z < (W.length : Int)) (hS : SlW s.M m A c H C W) : OpAt X s ops i d (.lf (.ep (.slice A W.length c) (m + 1) z.toNat 0)) :=
  At_idxC h hz hS.cells (wkC_ne (by omega))
theorem At_ldSW0 {X : Cx} {s ops i d m A c H C q} {W : List WT} (h : ldC X.P s ops i = some (d, false, 1, .ep (.slice A (List.length W) c) (m + 1) q 0)) (hi : q < W.length) (hS : SlW s.M m A c H C W) : OpAt X s ops i d (.lf (.v (.slice (H q) (List.length (W.getD q ([], [])).1) (C q)))) :=
  At_ldC h hS.cells (by have := wkC_get m H C W 0 q 0 hS.len3 hi (by omega); simpa using this)
theorem At_ldSWi {X : Cx} {s ops i d m A c H C q j} {W : List WT} (h : ldC X.P s ops i = some (d, false, 1, .ep (.slice A (List.length W) c) (m + 1) q (j + 1))) (hj : Nat.blt j m = true) (hi : q < W.length) (hS : SlW s.M m A c H C W) : OpAt X s ops i d (.lf (.v (.int .i64 (List.getD (W.getD q ([], [])).2 j 0)))) :=
  At_ldC h hS.cells (by
    have hj := Eq.mp Nat.blt_eq hj
    have := wkC_get m H C W 0 q (j + 1) hS.len3 hi (by omega)
    rw [if_neg (by omega), Nat.add_sub_cancel] at this
    simpa using this)
def wkSg (H : Option Addr) (C : Nat) (L : List Int) (a b c : Int) : List Sg := [.one (.v (.slice H (List.length L) C)), .one (.v (.int .i64 a)), .one (.v (.int .i64 b)), .one (.v (.int .i64 c))]
theorem At_ldSWa {X : Cx} {s ops i d A c H C q} {W : List WT} (h : ldC X.P s ops i = some (d, true, 4, .ep (.slice A (List.length W) c) 4 q 0)) (hi : q < W.length) (hS : SlW s.M 3 A c H C W) : OpAt X s ops i d (.agg (wkSg (H q) (C q) (W.getD q ([], [])).1 (List.getD (W.getD q ([], [])).2 0 0) (List.getD (W.getD q ([], [])).2 1 0) (List.getD (W.getD q ([], [])).2 2 0))) := by
  obtain ⟨o, t, x, de, h1, h2, hop, ht, hrow, hsz, hx⟩ := ldC_eq h
  refine ⟨o, h1, h2, ?_⟩
  obtain ⟨b, off, rfl, hc⟩ := hS.cells.resolve_left (wkC_ne (by omega))
  refine OpV_value (by rw [hop]; intro c hc; cases hc) fun ids vals a w hr => ?_
  have e1 := hr.ev hx
  have hrng : w.rangeAt b (off + q * 4) (sgCells ids vals (wkSg (H q) (C q) (W.getD q ([], [])).1 (List.getD (W.getD q ([], [])).2 0 0) (List.getD (W.getD q ([], [])).2 1 0) (List.getD (W.getD q ([], [])).2 2 0))) := by
    intro j v hv
    have hj : j < 4 := (List.getElem?_eq_some_iff.1 hv).1
    have hg := wkC_get 3 H C W 0 q j hS.len3 hi hj
    have hcv : (wkC H C 0 W)[q * 4 + j]? = some v := by
      rw [hg]
      match j, hj with
      | 0, _ => simpa [wkSg, sgCells, Sg.cells, Lf.val] using hv
      | 1, _ => simpa [wkSg, sgCells, Sg.cells, Lf.val] using hv
      | 2, _ => simpa [wkSg, sgCells, Sg.cells, Lf.val] using hv
      | 3, _ => simpa [wkSg, sgCells, Sg.cells, Lf.val] using hv
    have := memCell_cell hr.mem (hc _ _ hcv)
    rwa [show off + q * 4 + j = off + (q * 4 + j) from by omega]
  have hr1 := run_load_own (P := X.P) (w := w) ht hsz rfl hrng hrow
  unfold execOp
  simp only [hop, e1, SV.val, Lf.val, elemPtr, baseOf]
  rw [Nat.add_zero, Sem.run_bind, hr1]
  simp [Result.andThen, Sem.run_pure]
theorem nilW (M : Mem) (m c : Nat) (H : Nat → Option Addr) (C : Nat → Nat) : SlW M m none c H C [] := ⟨(by intro w hw; cases hw), .inl rfl, Nat.zero_le _, (by intro q hq; simp at hq)⟩
def cl5 {α β γ δ ε ζ : Type} (o : Option (α × β × γ × δ × ε)) (f : α → β → γ → δ → ε → Option ζ) : Option ζ := match o with | some (a, b, c, d, e) => f a b c d e | none => none
theorem cl5_some {α β γ δ ε ζ : Type} {o : Option (α × β × γ × δ × ε)} {f : α → β → γ → δ → ε → Option ζ} {r : ζ} (h : cl5 o f = some r) : ∃ a b c d e, o = some (a, b, c, d, e) ∧ f a b c d e = some r := by
  cases o with
  | none => cases h
  | some x => exact ⟨x.1, x.2.1, x.2.2.1, x.2.2.2.1, x.2.2.2.2, rfl, h⟩
def enI (x : Int) : SV := .lf (.v (.int .i64 x))
def enU (x : Int) : SV := .lf (.v (.int .u64 x))
def fixl (n : Nat) (L : List Int) : List Int := (List.range n).map fun i => L.getD i 0
theorem fixl_len (n : Nat) (L : List Int) : (fixl n L).length = n := by simp [fixl]
def enR (n : Nat) (L : List Int) : SV := .agg [.arr .i64 n (fixl n L)]
theorem enI_ok (ks : List Int) : ∀ x ∈ ks, (enI x).wf ∧ (enI x).closed = true := fun _ _ => ⟨trivial, rfl⟩
theorem enU_ok (ks : List Int) : ∀ x ∈ ks, (enU x).wf ∧ (enU x).closed = true := fun _ _ => ⟨trivial, rfl⟩
theorem enR_ok (n : Nat) (ks : List (List Int)) : ∀ x ∈ ks, (enR n x).wf ∧ (enR n x).closed = true := fun x _ => ⟨⟨fixl_len n x, trivial⟩, rfl⟩
end Go.Proofs.Ythniebmammmacaa
namespace Go.Proofs.Ythniebmammmacaa
open Go.RowKit
section
variable {P : Program} {b : Frame} {a : Act} {k : List Item} {cs : List Frame} {w : World}
theorem stepR_scope {c : Code} : step P (lone (b.atR a (.code (.scope c) :: k)) cs w) = .next (lone (b.atR a (.code c :: .inScope c :: k)) cs w) :=
  step_lone_go (by simp [stepG, stepG.exec, Frame.atR])
theorem stepR_inScope {c : Code} : step P (lone (b.atR a (.inScope c :: k)) cs w) = .next (lone (b.atR a k) cs w) :=
  step_lone_go (by simp [stepG, stepG.exec, Frame.atR])
end
theorem wpIn_scope {F : Fence} {n : Nat} {P : Program} {Q : Exit → Act → World → Prop} {a : Act} {w : World} {c : Code} (h : c.wpIn F n P (fun e a w => (∀ l, e ≠ .goto l) ∧ Q e a w) a w) : (Code.scope c).wpIn F n P Q a w := by
  intro b k cs hro hb hr
  have h0 : (lone (b.atR a (.code (.scope c) :: k)) cs w).fenced P F := fenced_calm hb hr rfl
  obtain ⟨e, a₁, w₁, ⟨hng, hq⟩, harr⟩ := h b (.inScope c :: k) cs hro hb hr
  cases e with
  | normal => exact ⟨.normal, a₁, w₁, hq, .head h0 stepR_scope (StepsIn.trans harr (.one (fenced_calm hb hr rfl) stepR_inScope))⟩
  | exit id' =>
    have hx : exitTo id' (.inScope c :: k) = exitTo id' k := by simp [exitTo]
    exact ⟨.exit id', a₁, w₁, hq, fun k' hk => .head h0 stepR_scope (harr.1 k' (by rw [hx]; exact hk)),
      fun hr' hk => let ⟨k₁, h1, h2⟩ := harr.2 hr' (by rw [hx]; exact hk); ⟨k₁, h1, .head h0 stepR_scope h2⟩⟩
  | goto l => exact absurd rfl (hng l)
  | ret => exact ⟨_, a₁, w₁, hq, .of_steps (.one h0 stepR_scope) harr⟩
  | panic ch => exact ⟨_, a₁, w₁, hq, .of_steps (.one h0 stepR_scope) harr⟩
  | outgrown => exact ⟨_, a₁, w₁, hq, .of_steps (.one h0 stepR_scope) harr⟩
def scopeQ (Q : Exit → St → Prop) : Exit → St → Prop := fun e s => (∀ l, e ≠ .goto l) ∧ Q e s
theorem T_scope {X c c1 s Q} (h : c = .scope c1) (h1 : T X c1 s (scopeQ Q)) : T X c s Q := by
  subst h
  intro ids vals a w hr
  refine wpIn_scope (wpIn_mono (h1 ids vals a w hr) ?_)
  rintro e a' w' ⟨s', ids', vals', ⟨q1, q2⟩, hr'⟩
  exact ⟨q1, s', ids', vals', q2, hr'⟩
theorem scopeQ_n {Q s} (h : Q .normal s) : scopeQ Q .normal s := ⟨fun _ e => by (cases e), h⟩
end Go.Proofs.Ythniebmammmacaa
namespace Go.Proofs.Ythniebmammmacaa
open Go.RowKit
def bools (L : List Bool) : List Value := L.map Value.bool
def SlB (M : Mem) (A : Option Addr) (c : Nat) (L : List Bool) : Prop := SlC M A (bools L) ∧ L.length ≤ c
theorem SlB.le {M M' A c L} (h : SlB M A c L) (hM : Mem.le M M') : SlB M' A c L := ⟨h.1.le hM, h.2⟩
theorem SlB.rem {M M1 M2 : Mem} {b : Nat} {cs : Array Value} {A : Option Addr} {c : Nat} {L : List Bool} (hM : M2 = remM M1 b) (h : SlB M1 A c L) (hn : ∀ g o p, A = some ⟨g, o, p⟩ → addM M b cs g = none) : SlB M2 A c L := ⟨h.1.rem hM hn, h.2⟩
theorem bools_len (L : List Bool) : (bools L).length = L.length := by simp [bools]
theorem bools_one {L : List Bool} : ∀ u ∈ bools L, u.oneCell' = true := by
  intro u hu
  obtain ⟨b, _, rfl⟩ := List.mem_map.1 hu
  rfl
theorem SlB.src {X s x L A c} (hx : evO s x = some (.lf (.v (.slice A L.length c)))) (hS : SlB s.M A c L) : SrcAt X s x 1 L.length (bools L) := SlC.src hx hS.1 (by rw [bools_len]; omega) bools_one (by omega)
end Go.Proofs.Ythniebmammmacaa
namespace Go.Proofs.Ythniebmammmacaa
open Go.RowKit
theorem R0.later {N M σ a w w'} (h : R0 N M σ a w) (hb : Below w.heap.size w w') : R0 N M σ a w' := ⟨h.size, h.defers, h.tmp, Mem.le_trans h.mem (memOf_below hb)⟩
theorem R0.put0 {N M σ a w} (h : R0 N M σ a w) {d : Nat} (hd : d < N) {x : SV} (hx : x.wf) : R0 N M ((d, x) :: σ) (a.put (some d) (rval x)) w := h.put (Below.refl _ _) hd hx
theorem R0.puts {N M w} : ∀ {new : List (Nat × SV)} {σ a}, R0 N M σ a w → (∀ x ∈ new, x.1 < N ∧ x.2.wf) →
    ∃ a', R0 N M (new ++ σ) a' w ∧ a'.defers = a.defers ∧ ∀ t, t ∉ new.map (·.1) → a'.tmps[t]? = a.tmps[t]?
  | [], σ, a, h, _ => ⟨a, h, rfl, fun _ _ => rfl⟩
  | (d, x) :: r, σ, a, h, hn => by
    obtain ⟨a', h1, h2, h3⟩ := R0.puts (new := r) h (fun y hy => hn y (List.mem_cons_of_mem _ hy))
    obtain ⟨n1, n2⟩ := hn (d, x) (by simp)
    refine ⟨_, h1.put0 n1 n2, h2, fun t ht => ?_⟩
    simp only [List.map_cons, List.mem_cons, not_or] at ht
    simp only [Act.put, Array.getElem?_setIfInBounds]
    rw [if_neg (Ne.symm ht.1)]
    exact h3 t ht.2
def TWL (P : Program) (N : Nat) (M : Mem) (ops : Array Oper) (l : List Oper) (σ : List (Nat × SV)) (pre : World → Prop) (Q : WQ) : Prop := ∀ a w, R0 N M σ a w → pre w → wpListIn Fence.wide 0 P ops (wpost N M Q) l a w
def QFW (P : Program) (N : Nat) (M : Mem) (ops : Array Oper) (σ : List (Nat × SV)) (o : Oper) : Prop := ∀ w, QF (cx0 P N w M) ops (st0 σ M) o
def StageW (P : Program) (N : Nat) (M : Mem) (ops : Array Oper) (eff lo : List Nat) (Q : WQ) : List Nat → Nat → List (Nat × SV) → (World → Prop) → Prop
  | [], p, σ, pre => Gr pre ∧ (∀ i o, ops[i]? = some o → due ops eff lo p i = true → QFW P N M ops σ o) ∧ NQ Q .normal σ pre
  | e :: es, p, σ, pre => Gr pre ∧ (∀ i o, ops[i]? = some o → due ops eff lo p i = true → QFW P N M ops σ o) ∧
      (∀ o, ops[e]? = some o → TWL P N M ops [o] σ pre fun ex σ' w' => ex = .normal ∧ ∃ (new : List (Nat × SV)) (pre' : World → Prop), pre' w' ∧ new.map (·.1) = newAt ops eff lo (p + 1) ∧ (∀ x ∈ new, x.2.wf) ∧ StageW P N M ops eff lo Q es (p + 1) (new ++ σ') pre')
structure InvW (P : Program) (N : Nat) (M : Mem) (ops : Array Oper) (eff lo : List Nat) (Q : WQ) (listed : Array Bool) (a : Act) (w : World) (p : Nat) (es : List Nat) (s : List (Nat × SV)) (pre : World → Prop) (b : Act) : Prop where
  size : listed.size = ops.size
  split : eff = eff.take p ++ es
  plen : p ≤ eff.length
  rel : R0 N M s b w
  pr : pre w
  stage : StageW P N M ops eff lo Q es p s pre
  dfr : a.defers = b.defers
  sz : a.tmps.size = b.tmps.size
  agree : ∀ t, (∀ i, listed.getD i true = false → inB i eff = false → (ops[i]?).bind (·.dst) ≠ some t) → a.tmps[t]? = b.tmps[t]?
  done : ∀ i, i < ops.size → listed.getD i true = true → ∀ o, ops[i]? = some o → ∀ j ∈ bound o, listed.getD j false = true
  eff1 : ∀ e ∈ eff.take p, listed.getD e false = true
  eff2 : ∀ e ∈ es, listed.getD e true = false
  low : ∀ i, i < ops.size → inB i eff = false → listed.getD i false = true → lo.getD i 0 ≤ p
theorem StageW.gr {P N M ops eff lo Q es p σ pre} (h : StageW P N M ops eff lo Q es p σ pre) : Gr pre := by
  cases es with
  | nil => exact h.1
  | cons e r => exact h.1
section
variable {P : Program} {N : Nat} {M : Mem} {ops : Array Oper} {eff lo : List Nat} {Q : WQ}
theorem InvW.all {listed a w p es s pre b} (hok : drawOk N ops eff lo = true) (h : InvW P N M ops eff lo Q listed a w p es s pre b) (hr : Region.ready .any ops listed = []) : ∀ i, i < ops.size → listed.getD i true = true := by
  intro i
  induction i using Nat.strongRecOn with
  | _ i ih =>
    intro hi
    cases hl : listed.getD i true with
    | true => rfl
    | false =>
      have hmem : i ∈ Region.ready .any ops listed := by
        refine mem_ready.2 ⟨hl, ops[i], by simp [hi], fun e he hb => ?_⟩
        have hj : e.on ∈ bound ops[i] := List.mem_map.2 ⟨e, List.mem_filter.2 ⟨by simpa using he, hb⟩, rfl⟩
        have hlt := (drawOk_at (X := { P := P, rd := none, B := 0, N := N, w0 := default, M0 := M }) hok (show ops[i]? = some ops[i] by simp [hi])).2.1 _ hj
        have := ih e.on hlt (by omega)
        have hs := h.size
        simp only [Array.getD_eq_getD_getElem?] at this ⊢
        rw [Array.getElem?_eq_getElem (by omega)] at this ⊢
        simpa using this
      rw [hr] at hmem; cases hmem
theorem InvW.end_ {listed a w p es s pre b} (hch : chainOk ops eff = true) (h : InvW P N M ops eff lo Q listed a w p es s pre b) (hall : ∀ i, i < ops.size → listed.getD i true = true) : wpost N M Q .normal a w := by
  have he : es = [] := by
    cases hes : es with
    | nil => rfl
    | cons e r =>
      have h1 := h.eff2 e (by rw [hes]; simp)
      have h2 : e ∈ eff := by rw [h.split, hes]; simp
      rw [hall e (chain_lt hch e h2)] at h1; cases h1
  have hst := h.stage
  rw [he] at hst
  have hab : a = b := by
    obtain ⟨ta, da⟩ := a
    obtain ⟨tb, db⟩ := b
    have h1 : ta = tb := by
      apply Array.ext_getElem?
      intro t
      refine h.agree t (fun i hi _ => ?_)
      cases ho : ops[i]? with
      | none => simp
      | some o => rw [hall i (Array.getElem?_eq_some_iff.1 ho).1] at hi; cases hi
    have h2 := h.dfr
    simp only at h1 h2
    rw [h1, h2]
  rw [hab]
  exact ⟨s, hst.2.2 w h.pr, h.rel⟩
theorem wpAny_drawW (hok : drawOk N ops eff lo = true) (hch : chainOk ops eff = true) (hnd : eff.Nodup) : ∀ (fuel : Nat) (listed : Array Bool) (a : Act) (w : World) (p : Nat) (es : List Nat) (s : List (Nat × SV)) (pre : World → Prop) (b : Act),
    InvW P N M ops eff lo Q listed a w p es s pre b → (unl ops.size listed).length ≤ fuel → wpAnyIn Fence.wide 0 P .any ops (wpost N M Q) fuel listed a w := by
  intro fuel
  induction fuel with
  | zero =>
    intro listed a w p es s pre b h hf
    have hall : ∀ i, i < ops.size → listed.getD i true = true := by
      intro i hi
      cases hl : listed.getD i true with
      | true => rfl
      | false =>
        have : i ∈ unl ops.size listed := by simp only [unl, List.mem_filter, List.mem_range]; exact ⟨hi, by simpa using hl⟩
        rw [List.eq_nil_of_length_eq_zero (by omega : (unl ops.size listed).length = 0)] at this; cases this
    refine ⟨?_, h.end_ hch hall⟩
    cases hr : Region.ready .any ops listed with
    | nil => rfl
    | cons i r =>
      have hm : i ∈ Region.ready .any ops listed := by rw [hr]; simp
      obtain ⟨hl, o, ho, _⟩ := mem_ready.1 hm
      rw [hall i (Array.getElem?_eq_some_iff.1 ho).1] at hl; cases hl
  | succ fuel ih =>
    intro listed a w p es s pre b h hf
    refine ⟨fun hr => h.end_ hch (h.all hok hr), fun i hm => ?_⟩
    obtain ⟨hl, o, ho, hdeps⟩ := mem_ready.1 hm
    have hi : i < ops.size := (Array.getElem?_eq_some_iff.1 ho).1
    have hsz := h.size
    have hsz' : (listed.setIfInBounds i true).size = ops.size := by simp [hsz]
    have hfuel : (unl ops.size (listed.setIfInBounds i true)).length ≤ fuel := by
      have := unl_set hi hsz hl; omega
    obtain ⟨d1, d2, d3, d4, d5⟩ := drawOk_at (X := { P := P, rd := none, B := 0, N := N, w0 := default, M0 := M }) hok ho
    have hb : ∀ j ∈ bound o, listed.getD j false = true := by
      intro j hj
      obtain ⟨e, he, rfl⟩ := List.mem_map.1 hj
      obtain ⟨he1, he2⟩ := List.mem_filter.1 he
      exact hdeps e (by simpa using he1) he2
    have hb' : ∀ j ∈ bound o, listed.getD j true = true := fun j hj => by
      have hj2 := d2 j hj
      rw [getD_default (by omega) true false]; exact hb j hj
    -- the operands stand alike
    have hagree : ∀ t ∈ tmpsOf ops o, a.tmps[t]? = b.tmps[t]? := by
      intro t ht
      refine h.agree t (fun j hj hq hd => ?_)
      have := hb' j (d3 t ht j t hd rfl hq)
      rw [this] at hj; cases hj
    have heval : ∀ x ∈ o.op.operands, a.eval x = b.eval x := by
      intro x hx
      cases x with
      | tmp t =>
        have := hagree t (List.mem_append_left _ (List.mem_filterMap.2 ⟨.tmp t, by simpa using hx, rfl⟩))
        simp only [Act.eval, Array.getD_eq_getD_getElem?, this]
      | _ => rfl
    have hsel : ∀ cs bl, o.op ≠ .select cs bl := fun cs bl hh => by rw [hh] at d1; simp [plainOp] at d1
    have hdef : ∀ c, o.op ≠ .defer c := fun c hh => by rw [hh] at d1; simp [plainOp] at d1
    have hexec : execOp a.eval o = execOp b.eval o := execOp_congr o hsel heval
    have habout : ∀ w, o.about P w a.eval = o.about P w b.eval := fun w => about_congr o w heval
    have hwant : Region.wanted o (yielded ops a.tmps) = Region.wanted o (yielded ops b.tmps) := by
      unfold Region.wanted
      cases hg : o.guard with
      | none => rfl
      | some g =>
        obtain ⟨j, want⟩ := g
        simp only
        congr 1
        unfold yielded
        cases hd : (ops[j]?).bind (·.dst) with
        | none => rfl
        | some t =>
          have := hagree t (List.mem_append_right _ (by simp [gdst, hg, hd]))
          simp only [Option.bind_some, this]
    have hdone : ∀ i', i' < ops.size → (listed.setIfInBounds i true).getD i' true = true → ∀ o', ops[i']? = some o' → ∀ j ∈ bound o', (listed.setIfInBounds i true).getD j false = true := by
      intro i' hi' hl' o' ho' j hj
      rw [getD_set] at hl' ⊢
      by_cases e : i = i'
      · subst e
        rw [ho] at ho'; injection ho' with ho'; subst ho'
        split
        · rfl
        · exact hb j hj
      · rw [if_neg (by simp [e])] at hl'
        split
        · rfl
        · exact h.done i' hi' hl' o' ho' j hj
    unfold wpOpIn
    rw [ho]
    simp only
    by_cases hq : inB i eff = false
    · -- an operation that does not write
      obtain ⟨d, hd, hdN, huniq⟩ := d4 hq
      have hgr := h.stage.gr
      have hstQ : ∀ i o, ops[i]? = some o → due ops eff lo p i = true → QFW P N M ops s o := by
        have := h.stage
        cases es with
        | nil => exact this.2.1
        | cons e es' => exact this.2.1
      have hlow : lo.getD i 0 ≤ p := by
        rcases d5 hq with h0 | ⟨j, hj, ⟨q, h1, h2⟩ | ⟨h1, h2⟩⟩
        · omega
        · obtain ⟨_, hjq⟩ := idxOf_some h1
          simp only [Nat.sub_zero] at hjq
          have hqp : q < p := by
            refine Classical.byContradiction fun hge => ?_
            have hes : j ∈ es := by
              have h3 := h.split
              have hpl := h.plen
              rw [h3, List.getElem?_append_right (by simp; omega)] at hjq
              exact List.mem_of_getElem? hjq
            have h4 := h.eff2 j hes
            rw [hb' j hj] at h4; cases h4
          omega
        · have hjn := idxOf_none h1
          have hj2 := d2 j hj
          have := h.low j (by omega) hjn (hb j hj)
          omega
      have hdue : due ops eff lo p i = true := by
        unfold due
        simp only [Bool.and_eq_true, hq, Bool.not_false, true_and, Bool.not_eq_true']
        refine ⟨Eq.mpr Nat.ble_eq hlow, ?_⟩
        cases hany : (eff.take p).any fun e => inB i (clo ops e (boundAt ops e)) with
        | false => rfl
        | true =>
          rw [List.any_eq_true] at hany
          obtain ⟨e, he, h1⟩ := hany
          have hall : ∀ x ∈ clo ops e (boundAt ops e), x < ops.size ∧ listed.getD x false = true := by
            have step : ∀ x, (x < ops.size ∧ listed.getD x false = true) → ∀ y ∈ boundAt ops x, y < ops.size ∧ listed.getD y false = true := by
              rintro x ⟨hx1, hx2⟩ y hy
              unfold boundAt at hy
              cases hox : ops[x]? with
              | none => rw [hox] at hy; cases hy
              | some ox =>
                rw [hox] at hy
                have hlt := (drawOk_at (X := { P := P, rd := none, B := 0, N := N, w0 := default, M0 := M }) hok hox).2.1 y hy
                exact ⟨by omega, h.done x hx1 (by rw [getD_default (by omega) true false]; exact hx2) ox hox y hy⟩
            have he1 : listed.getD e false = true := h.eff1 e he
            refine clo_all step (fun x hx => ?_)
            have hes : e < ops.size := by
              unfold boundAt at hx
              cases hoe : ops[e]? with
              | none => rw [hoe] at hx; cases hx
              | some _ => exact (Array.getElem?_eq_some_iff.1 hoe).1
            exact step e ⟨hes, he1⟩ x hx
          have h2 := (hall i (inB_iff.1 h1)).2
          rw [getD_default (by omega) false true, hl] at h2; cases h2
      obtain ⟨d', x, e1, e2, hcase⟩ := hstQ i o ho hdue w _ _ b w (h.rel.rel P)
      rw [hd] at e1; injection e1 with e1; subst e1
      have hbd := (h.rel.tmp d x e2).1
      -- whichever way, the invariant stands behind it
      have hinv : ∀ w', Below w.heap.size w w' → InvW P N M ops eff lo Q (listed.setIfInBounds i true) (a.put o.dst (rval x)) w' p es s pre b := by
        intro w' hbel
        exact {
          size := hsz'
          split := h.split
          plen := h.plen
          rel := h.rel.later hbel
          pr := hgr _ _ h.pr hbel
          stage := h.stage
          dfr := by rw [hd]; exact h.dfr
          sz := by rw [hd]; simp [Act.put, h.sz]
          agree := fun t ht => by
            rw [hd]
            simp only [Act.put, Array.getElem?_setIfInBounds]
            by_cases e : d = t
            · subst e
              have hlt : d < a.tmps.size := by rw [h.sz, h.rel.size]; exact hdN
              simp [hlt, hbd]
            · rw [if_neg e]
              refine h.agree t (fun j hj hq' hdj => ?_)
              by_cases eij : i = j
              · subst eij
                rw [ho] at hdj
                simp only [Option.bind_some, hd] at hdj
                injection hdj with hdj; exact e hdj
              · exact ht j (by rw [getD_set, if_neg (by simp [eij])]; exact hj) hq' hdj
          done := hdone
          eff1 := fun e he => by
            rw [getD_set]; split
            · rfl
            · exact h.eff1 e he
          eff2 := fun e he => by
            have hne : i ≠ e := by
              intro hh; subst hh
              have : i ∈ eff := by rw [h.split]; exact List.mem_append_right _ he
              rw [inB_iff.2 this] at hq; cases hq
            rw [getD_set, if_neg (by simp [hne])]; exact h.eff2 e he
          low := fun j hj hqj hlj => by
            rw [getD_set] at hlj
            by_cases eij : i = j
            · subst eij; exact hlow
            · rw [if_neg (by simp [eij])] at hlj; exact h.low j hj hqj hlj }
      rcases hcase with ⟨hw, hwp⟩ | ⟨hw, hu⟩
      · rw [if_pos (by rw [hwant]; exact hw)]
        refine Oper.wpIn_mono ?_ (wpIn_shadow hdef hexec habout (fun _ _ _ _ hf => hf) hwp)
        rintro a' w' ⟨ds, v, ⟨hbv, hbel⟩, rfl⟩
        have hds : ds = [] := by
          have := congrArg (fun z : Act => z.defers.length) hbv
          simp only [act_and_defers, List.length_append] at this
          rw [hd] at this
          simp only [Act.put] at this
          exact List.eq_nil_of_length_eq_zero (by omega)
        subst hds
        have hv : v = rval x := by
          have := congrArg (fun z : Act => z.tmps[d]?) hbv
          have hlt : d < b.tmps.size := by rw [h.rel.size]; exact hdN
          simp only [act_and_tmps, hd, if_true, hlt, Act.put, Array.getElem?_setIfInBounds] at this
          simpa [rval] using this
        subst hv
        exact ih _ _ _ _ _ _ _ _ (hinv w' hbel) hfuel
      · rw [if_neg (by rw [hwant, hw]; simp)]
        refine ⟨fun _ _ => trivial, ?_⟩
        rw [← hu]
        exact ih _ _ _ _ _ _ _ _ (hinv w (Below.refl _ _)) hfuel
    · -- the next one that writes
      have hq : inB i eff = true := by simpa using hq
      have hie : i ∈ es := by
        have := inB_iff.1 hq
        rw [h.split, List.mem_append] at this
        rcases this with h1 | h1
        · have h2 := h.eff1 i h1
          rw [getD_default (by omega) false true, hl] at h2; cases h2
        · exact h1
      cases es with
      | nil => cases hie
      | cons e es' =>
        have he : i = e := by
          rw [List.mem_cons] at hie
          rcases hie with rfl | hie
          · rfl
          · have hc2 : chainOk ops (e :: es') = true := chain_append (a := eff.take p) (by rw [← h.split]; exact hch)
            obtain ⟨j, hj, o', ho', hjb⟩ := chain_pred hc2 hie
            rw [ho] at ho'; injection ho' with ho'; subst ho'
            have h1 := hb' j hjb
            rw [h.eff2 j hj] at h1; cases h1
        subst he
        obtain ⟨_, _, hTL⟩ := h.stage
        have hTL := hTL o ho b w h.rel h.pr
        have hplt : p < eff.length := by
          have := congrArg List.length h.split
          simp at this; omega
        have htake : eff.take (p + 1) = eff.take p ++ [i] := by
          have h1 : eff[p]? = some i := by
            rw [h.split, List.getElem?_append_right (by simp; omega)]
            simp [Nat.min_eq_left h.plen]
          rw [List.take_add_one, h1]; rfl
        have hnotin : i ∉ es' ∧ i ∉ eff.take p := by
          have := hnd
          rw [h.split, List.nodup_append] at this
          obtain ⟨_, h2, h3⟩ := this
          exact ⟨(List.nodup_cons.1 h2).1, fun hh => h3 i hh i (by simp) rfl⟩
        have hgo : ∀ (ds : List Deferred) (v : Value) (w' : World), wpost N M (fun ex σ' w' => ex = .normal ∧ ∃ (new : List (Nat × SV)) (pre' : World → Prop), pre' w' ∧ new.map (·.1) = newAt ops eff lo (p + 1) ∧ (∀ x ∈ new, x.2.wf) ∧ StageW P N M ops eff lo Q es' (p + 1) (new ++ σ') pre') .normal (Act.and' b ds o.dst v) w' →
            wpAnyIn Fence.wide 0 P .any ops (wpost N M Q) fuel (listed.setIfInBounds i true) (Act.and' a ds o.dst v) w' := by
          rintro ds v w' ⟨s', ⟨_, new, pre', hp', n1, n2, hst⟩, hr'⟩
          obtain ⟨b', r1, r2, r3⟩ := R0.puts (new := new) hr' (fun x hx => by
            refine ⟨?_, n2 x hx⟩
            have : x.1 ∈ newAt ops eff lo (p + 1) := by rw [← n1]; exact List.mem_map.2 ⟨x, hx, rfl⟩
            obtain ⟨j, j1, j2, j3⟩ := newAt_mem this
            cases hoj : ops[j]? with
            | none => rw [hoj] at j3; simp at j3
            | some oj =>
              obtain ⟨dj, k1, k2, _⟩ := (drawOk_at (X := { P := P, rd := none, B := 0, N := N, w0 := default, M0 := M }) hok hoj).2.2.2.1 j1
              rw [hoj] at j3
              simp only [Option.bind_some, k1] at j3
              injection j3 with j3; subst j3; exact k2)
          refine ih _ _ _ (p + 1) es' (new ++ s') pre' b' ?_ hfuel
          exact {
            size := hsz'
            split := by rw [htake, List.append_assoc]; exact h.split
            plen := hplt
            rel := r1
            pr := hp'
            stage := hst
            dfr := by rw [r2, act_and_defers, act_and_defers, h.dfr]
            sz := by rw [act_and_size, h.sz, r1.size, h.rel.size]
            agree := fun t ht => by
              have hnew : t ∉ new.map (·.1) := by
                rw [n1]; intro hh
                obtain ⟨j, j1, j2, j3⟩ := newAt_mem hh
                have hjs : j < ops.size := by
                  cases hoj : ops[j]? with
                  | none => rw [hoj] at j3; simp at j3
                  | some _ => exact (Array.getElem?_eq_some_iff.1 hoj).1
                have hji : i ≠ j := fun hh => by subst hh; rw [hq] at j1; cases j1
                have hlj : listed.getD j true = false := by
                  cases hc : listed.getD j true with
                  | false => rfl
                  | true =>
                    have := h.low j hjs j1 (by rw [getD_default (by omega) false true]; exact hc)
                    omega
                exact ht j (by rw [getD_set, if_neg (by simp [hji])]; exact hlj) j1 j3
              rw [r3 t hnew, act_and_tmps, act_and_tmps, h.sz]
              split
              · rfl
              · refine h.agree t (fun j hj hq' hdj => ?_)
                have hji : i ≠ j := fun hh => by subst hh; rw [hq] at hq'; cases hq'
                exact ht j (by rw [getD_set, if_neg (by simp [hji])]; exact hj) hq' hdj
            done := hdone
            eff1 := fun e he => by
              rw [getD_set]
              rw [htake, List.mem_append] at he
              rcases he with he | he
              · split
                · rfl
                · exact h.eff1 e he
              · simp at he; subst he
                rw [if_pos ⟨rfl, by omega⟩]
            eff2 := fun e he => by
              have hne : i ≠ e := fun hh => by subst hh; exact hnotin.1 he
              rw [getD_set, if_neg (by simp [hne])]; exact h.eff2 e (List.mem_cons_of_mem _ he)
            low := fun j hj hqj hlj => by
              rw [getD_set] at hlj
              by_cases eij : i = j
              · subst eij; rw [hq] at hqj; cases hqj
              · rw [if_neg (by simp [eij])] at hlj
                have := h.low j hj hqj hlj; omega }
        have hone : wpListIn Fence.wide 0 P ops (wpost N M (fun ex σ' w' => ex = .normal ∧ ∃ (new : List (Nat × SV)) (pre' : World → Prop), pre' w' ∧ new.map (·.1) = newAt ops eff lo (p + 1) ∧ (∀ x ∈ new, x.2.wf) ∧ StageW P N M ops eff lo Q es' (p + 1) (new ++ σ') pre')) [o] b w := hTL
        simp only [wpListIn] at hone
        by_cases hw : Region.wanted o (yielded ops b.tmps) = true
        · rw [if_pos hw] at hone
          rw [if_pos (by rw [hwant]; exact hw)]
          refine Oper.wpIn_mono ?_ (wpIn_shadow hdef hexec habout (fun e' a' w' hne hf => ?_) hone)
          · rintro a' w' ⟨ds, v, hN, rfl⟩
            exact hgo ds v w' hN
          · obtain ⟨s', ⟨h1, _⟩, _⟩ := hf
            exact hne h1
        · rw [if_neg hw] at hone
          rw [if_neg (by rw [hwant]; exact hw)]
          refine ⟨fun _ _ => trivial, ?_⟩
          have := hgo [] undef w hone.2
          simpa [Act.and'] using this
theorem W_draw {c : Code} {s : List (Nat × SV)} {pre : World → Prop} {id : Nat} (eff lo : List Nat) (h : regOf c = some (true, id)) (hmix : P.follows .mixedOrders = true) (hok : drawOk N (opsOf c) eff lo = true) (hch : (chainOk (opsOf c) eff && decide eff.Nodup) = true)
    (new : List (Nat × SV)) (hnew : new.map (·.1) = newAt (opsOf c) eff lo 0) (hwf : ∀ x ∈ new, x.2.wf) (hst : StageW P N M (opsOf c) eff lo Q eff 0 (new ++ s) pre) : TW P N M c s pre Q := by
  intro a w hr hp
  simp only [Bool.and_eq_true, decide_eq_true_eq] at hch
  cases c with
  | region id' ops d =>
    simp [regOf] at h
    obtain ⟨rfl, rfl⟩ := h
    simp only [opsOf] at *
    refine wpIn_region_any hmix ?_
    have hbel : Below w.heap.size w { w with drawn := w.drawn + 1 } := ⟨rfl, rfl, rfl, Nat.le_refl _, fun _ _ => rfl⟩
    have hr' : R0 N M s a { w with drawn := w.drawn + 1 } := hr.later hbel
    obtain ⟨b, r1, r2, r3⟩ := R0.puts (new := new) hr' (fun x hx => by
      refine ⟨?_, hwf x hx⟩
      have : x.1 ∈ newAt ops eff lo 0 := by rw [← hnew]; exact List.mem_map.2 ⟨x, hx, rfl⟩
      obtain ⟨j, j1, j2, j3⟩ := newAt_mem this
      cases hoj : ops[j]? with
      | none => rw [hoj] at j3; simp at j3
      | some oj =>
        obtain ⟨dj, k1, k2, _⟩ := (drawOk_at (X := { P := P, rd := none, B := 0, N := N, w0 := default, M0 := M }) hok hoj).2.2.2.1 j1
        rw [hoj] at j3
        simp only [Option.bind_some, k1] at j3
        injection j3 with j3; subst j3; exact k2)
    have hun : ∀ j, (Array.replicate ops.size false).getD j false = false := fun j => by
      simp only [Array.getD_eq_getD_getElem?, Array.getElem?_replicate]
      split <;> rfl
    refine wpAny_drawW hok hch.1 hch.2 _ _ _ _ 0 eff (new ++ s) pre b ?_ ?_
    · exact {
        size := by simp
        split := by simp
        plen := Nat.zero_le _
        rel := r1
        pr := hst.gr _ _ hp hbel
        stage := hst
        dfr := r2.symm
        sz := by rw [hr.size, r1.size]
        agree := fun t ht => by
          refine (r3 t ?_).symm
          rw [hnew]; intro hh
          obtain ⟨j, j1, j2, j3⟩ := newAt_mem hh
          refine ht j ?_ j1 j3
          have hjs : j < ops.size := by
            cases hoj : ops[j]? with
            | none => rw [hoj] at j3; simp at j3
            | some _ => exact (Array.getElem?_eq_some_iff.1 hoj).1
          rw [getD_default (by simpa using hjs) true false]; exact hun j
        done := fun i hi hl => by
          rw [getD_default (by simpa using hi) true false, hun i] at hl; cases hl
        eff1 := fun e he => by simp at he
        eff2 := fun e he => by
          rw [getD_default (by simpa using chain_lt hch.1 e he) true false]; exact hun e
        low := fun i _ _ hl => by rw [hun i] at hl; cases hl }
    · have := List.length_filter_le (fun i => !((Array.replicate ops.size false).getD i true)) (List.range ops.size)
      simp only [List.length_range] at this
      exact this
  | _ => simp [regOf] at h
end
end Go.Proofs.Ythniebmammmacaa
namespace Go.Proofs.Ythniebmammmacaa
open Go.RowKit
theorem calls_TWb {P : Program} {f : Nat} {fn : Func} {c : Code} (args : List SV) {M : Mem} {W : World} {t : Nat} {Post : Bool → World → Prop} (hf : P.funcs[f]? = some fn) (hb : fn.body = some c) (hn : args.length ≤ fn.ntmps) (hres : fn.results = #[.tmp t]) (hw : ∀ x ∈ args, x.wf) (hM : Mem.le M (memOf W))
    (h : TW P fn.ntmps M c (params 0 args) (fun w => w = W) (fun e σ w => e = .ret ∧ ∃ b, look σ t = some (.lf (.v (.bool b))) ∧ Post b w)) : CallsIn Fence.wide 0 P f (args.map rval).toArray W fun e w' => ∃ b, e = .returned (.bool b) ∧ Post b w' := by
  refine callsIn_of_wp_marks hf hb trivial ?_ rfl
  have hr : R0 fn.ntmps M (params 0 args) { tmps := (args.map rval).toArray ++ Array.replicate (fn.ntmps - (args.map rval).toArray.size) undef, defers := [] } W := {
    size := by simp; omega
    defers := rfl
    tmp := fun t x hx => by
      obtain ⟨_, h2⟩ := params_look hx
      simp only [Nat.sub_zero] at h2
      have hlt : t < args.length := (List.getElem?_eq_some_iff.1 h2).1
      refine ⟨?_, hw x (List.mem_of_getElem? h2)⟩
      rw [Array.getElem?_append_left (by simpa using hlt)]
      simp [h2]
    mem := hM }
  refine wpIn_mono (h _ W hr rfl) ?_
  rintro e a' w' ⟨σ', ⟨rfl, b, hl, hp⟩, hr'⟩
  have e1 := (hr'.tmp t _ hl).1
  have fin : LeavesInM Fence.wide 0 P fn a'.tmps (fun e w' => ∃ b, e = .returned (.bool b) ∧ Post b w') a'.defers .returning w' := by
    rw [hr'.defers]
    refine ⟨.bool b, ?_, b, rfl, hp⟩
    simp [results_eq, hres, resV, Array.getD_eq_getD_getElem?, e1, Sem.run_pure, Sem.run_bind, rval, SV.val, Lf.val]
  exact fin
section
variable {P : Program} {N : Nat} {M : Mem} {σ : List (Nat × SV)} {pre : World → Prop} {Q : WQ} {ops : Array Oper} {i : Nat} {l : List Oper}
theorem WL_callB {d f : Nat} {args : List Value} (pre1 pre2 : World → Prop) (h : callC P (st0 σ M) ops i = some (d, f, args)) (hc : (match wantedAt ops (st0 σ M) i with | some b => b && Nat.blt d N | none => false) = true)
    (hF : ∀ w, pre w → Mem.le M (memOf w) → CallsIn Fence.wide 0 P f args.toArray w fun e w' => ∃ b, e = .returned (.bool b) ∧ Mem.le M (memOf w') ∧ (match b with | true => pre1 w' | false => pre2 w'))
    (h1 : TWL P N M ops l ((d, .lf (.v (.bool true))) :: σ) pre1 Q) (h2 : TWL P N M ops l ((d, .lf (.v (.bool false))) :: σ) pre2 Q) : ∀ o, ops[i]? = some o → TWL P N M ops (o :: l) σ pre Q := by
  intro o ho a w hr hp
  obtain ⟨o', fo, ars, tys, first, cap, vs, q1, hd, hop, q4, q5, q6, q7⟩ := callC_eq h
  rw [ho] at q1; injection q1 with q1; subst q1
  cases hw : wantedAt ops (st0 σ M) i with
  | none => rw [hw] at hc; cases hc
  | some b =>
    rw [hw] at hc
    simp only [Bool.and_eq_true] at hc
    rw [hc.1] at hw
    simp only [wantedAt, ho, Option.bind_some] at hw
    simp only [wpListIn]
    have hrel := hr.rel P
    rw [if_pos (wantedS_eq hrel hw)]
    obtain ⟨dst, op, type, pos, after, guard⟩ := o
    simp only at hd hop
    subst hop hd
    unfold Oper.wpIn
    refine ⟨fun _ _ => trivial, ?_⟩
    rw [Oper.semAt_plain Fence.wide _ _ (by intro c hc; cases hc)]
    have hev := hrel.ev q4
    have hargs := argsS_eq hrel q5
    have hargs2 : ars.map a.eval = (vs.map rval).toArray := by
      apply Array.ext'; rw [← hargs]; simp
    have hrun : (execOp a.eval ⟨some d, .call { callee := .value fo, args := ars, argTypes := tys }, type, pos, after, guard⟩).run P w = .ok (.enter f args.toArray) w := by
      simp only [execOp, resolve, Sem.run_bind, hev, SV.val, Lf.val, Deferred.ofValue, Sem.run_pure, Result.andThen_ok, invoke, hargs2]
      rw [enters_run q6]
      congr 2
      rw [← q7]
      simp
    rw [hrun]
    refine ⟨by intro hh; simp [Fence.wide] at hh, ?_⟩
    have hcall := hF w hp hr.mem
    refine ⟨hcall.1, fun cs hroom => ?_⟩
    obtain ⟨e, w', fr, ⟨b, rfl, hm, hq⟩, rest⟩ := hcall.2 cs hroom
    refine ⟨_, w', fr, ?_, rest⟩
    have nxt : R0 N M ((d, .lf (.v (.bool b))) :: σ) (a.put (some d) (.bool b)) w' := ⟨by simp [Act.put, hr.size], hr.defers, fun t y hy => by
      rw [look_cons] at hy
      have hs := hr.size
      simp only [Act.put, Array.getElem?_setIfInBounds]
      split at hy
      · rename_i e; subst e; simp at hy; subst hy
        exact ⟨by simp [hs, Eq.mp Nat.blt_eq hc.2, rval, SV.val, Lf.val], trivial⟩
      · rename_i e; rw [if_neg e]; exact hr.tmp t y hy, hm⟩
    cases b with
    | true => exact h1 _ w' nxt hq
    | false => exact h2 _ w' nxt hq
theorem TWL_nil (h : NQ Q .normal σ pre) : TWL P N M ops [] σ pre Q := fun a w hr hp => ⟨σ, h w hp, hr⟩
end
end Go.Proofs.Ythniebmammmacaa
namespace Go.Proofs.Ythniebmammmacaa
open Go.RowKit
def TS (P : Program) (N : Nat) (M : Mem) (w0 : World) (c : Code) (s : St) (Qg : Exit → Act → World → Prop) : Prop := ∀ ids vals a w, Rel (cx0 P N w0 M) ids vals s a w → c.wpIn Fence.wide 0 P Qg a w
section
variable {P : Program} {N : Nat} {M : Mem} {w0 : World} {c c1 c2 : Code} {s : St} {Qg : Exit → Act → World → Prop} {σ : List (Nat × SV)} {pre : World → Prop} {Q : WQ}
theorem TS_enter (h : ∀ w0, pre w0 → TS P N M w0 c (st0 σ M) (wpost N M Q)) : TW P N M c σ pre Q := fun a w hr hp => h w hp _ _ a w (hr.rel P)
theorem TS_seq (h : c = .seq c1 c2) (h1 : T (cx0 P N w0 M) c1 s (fun e s' => e = .normal ∧ TS P N M w0 c2 s' Qg)) : TS P N M w0 c s Qg := by
  subst h
  intro ids vals a w hr
  refine wpIn_seq (wpIn_mono (h1 ids vals a w hr) ?_)
  rintro e a' w' ⟨s', ids', vals', ⟨rfl, ht⟩, hr'⟩
  exact ht ids' vals' a' w' hr'
theorem TS_turn {F} (h : Turn (cx0 P N w0 M) s F) (h1 : ∀ s', F s' → TS P N M w0 c s' Qg) : TS P N M w0 c s Qg := fun ids vals a w hr => by
  obtain ⟨s', ids', vals', hf, hr'⟩ := h ids vals a w hr
  exact h1 s' hf ids' vals' a w hr'
theorem TS_sub {s' : St} (hs : Sub s' s) (h : TS P N M w0 c s' Qg) : TS P N M w0 c s Qg := fun ids vals a w hr => by
  obtain ⟨ids', vals', hr'⟩ := hs _ _ _ _ _ hr
  exact h ids' vals' a w hr'
theorem TS_leave {σ' : List (Nat × SV)} {M' : Mem} {K : World → Prop} (hcl : ∀ t x, look σ' t = some x → x.closed = true) (hM : Mem.le M M') (hK : ∀ w, Below w0.heap.size w0 w → News M M' w0 w → K w)
    (h : TW P N M' c σ' K Q) : TS P N M w0 c { σ := σ', H := [], V := [], M := M', ds := [] } (wpost N M Q) := by
  intro ids vals a w hr
  have hr0 : R0 N M' σ' a w := ⟨hr.size, hr.defers, fun t x hx => by
    obtain ⟨e, wf⟩ := hr.tmp t x hx
    rw [SV.closed_val (hcl t x hx) (ids' := fun _ => 0) (vals' := fun _ => .slice none 0 0)] at e
    exact ⟨e, wf⟩, hr.mem⟩
  have hn : News M M' w0 w := ⟨hr.mem, fun b c hb => by
    cases hm : M b with
    | some d => have := hM b d hm; rw [hb] at this; exact .inl (by rw [this])
    | none => exact .inr (hr.grow.2 b hm (show M' b ≠ none by rw [hb]; simp))⟩
  refine wpIn_mono (h a w hr0 (hK w hr.below hn)) ?_
  rintro e a' w' ⟨σ2, q, r⟩
  exact ⟨σ2, q, ⟨r.size, r.defers, r.tmp, Mem.le_trans hM r.mem⟩⟩
end
theorem closed_all {l : List (Nat × SV)} (h : closeds (l.map (·.2)) = true) : ∀ t x, look l t = some x → x.closed = true := by
  induction l with
  | nil => intro t x hx; simp [look] at hx
  | cons y r ih =>
    obtain ⟨k, v⟩ := y
    simp only [List.map_cons, closeds, Bool.and_eq_true] at h
    intro t x hx
    rw [look_cons] at hx
    split at hx
    · simp at hx; subst hx; exact h.1
    · exact ih h.2 t x hx
theorem turn_pubT {X s} (n b : Nat) {c : List Sg} (hc : look s.H n = some c) (hcl : sgClosed c = true) (hb : look s.ats n = some b) : Turn X s (fun s' => s' = { σ := mapσ (Lf.pubH n b) s.σ, H := mapH (Lf.pubH n b) (dropH n s.H), V := s.V, M := addM s.M b (sgCells (fun _ => 0) (fun _ => .slice none 0 0) c).toArray, ds := s.ds, os := s.os, ats := [] } ∧ s.M b = none) := fun ids vals a w hr => by
  have e := hr.att _ (look_mem hb)
  simp only at e
  subst e
  have h1 := hr.pubH hc hcl
  exact ⟨_, ids, vals, ⟨rfl, (hr.blk n c hc).2.2.1⟩, { h1 with att := fun p hp => by cases hp }⟩
theorem turn_back {X s} (t : Nat) {n b off : Nat} (hl : look s.σ t = some (.lf (.v (.pointer (some ⟨b, off, none⟩))))) (hb : look s.ats n = some b) : Turn X s (fun s' => s' = { s with σ := (t, .lf (.own n off)) :: s.σ }) := fun ids vals a w hr => by
  have e := hr.att _ (look_mem hb)
  simp only at e
  refine ⟨_, ids, vals, rfl, ?_⟩
  refine { hr with tmp := ?_ }
  intro t' x hx
  rw [look_cons] at hx
  split at hx
  · rename_i e'; subst e'; simp at hx; subst hx
    have h1 := hr.tmp t _ hl
    refine ⟨?_, trivial⟩
    rw [h1.1]
    simp [SV.val, Lf.val, e]
  · exact hr.tmp t' x hx
theorem TWI_of {P : Program} {N : Nat} {M : Mem} {σ : List (Nat × SV)} {pre : World → Prop} {Q : WQ} {ops : Array Oper} {i : Nat} (hi : Nat.blt i ops.size = true) (h : ∀ o, ops[i]? = some o → TWL P N M ops (o :: ops.toList.drop (i + 1)) σ pre Q) : TWI P N M ops i σ pre Q := by
  have hl : i < ops.size := Eq.mp Nat.blt_eq hi
  have ho : ops[i]? = some ops[i] := Array.getElem?_eq_getElem hl
  intro a w hr hp
  rw [drop_cons ho]
  exact h _ ho a w hr hp
end Go.Proofs.Ythniebmammmacaa
namespace Go.Proofs.Ythniebmammmacaa
open Go.RowKit
abbrev XT := (Option Addr × Nat) × WT
def xC : List XT → List Value
  | [] => []
  | x :: r => (.slice x.1.1 x.2.1.length x.1.2 :: ints .i64 x.2.2) ++ xC r
theorem xC_app (X Y : List XT) : xC X ++ xC Y = xC (X ++ Y) := by
  induction X with
  | nil => rfl
  | cons x r ih => simp only [xC, List.cons_append, List.append_assoc, ih]
structure XOK (M : Mem) (m : Nat) (X : List XT) (W : List WT) : Prop where
  eq : W = X.map (·.2)
  all : ∀ x ∈ X, x.2.2.length = m ∧ SlI M x.1.1 x.1.2 .i64 x.2.1
theorem XOK.le {M M' m X W} (h : XOK M m X W) (hM : Mem.le M M') : XOK M' m X W := ⟨h.eq, fun x hx => ⟨(h.all x hx).1, (h.all x hx).2.le hM⟩⟩
theorem XOK.nil (M : Mem) (m : Nat) : XOK M m [] [] := ⟨rfl, by intro x hx; cases hx⟩
theorem XOK.cons {M m X W A c L Z} (h1 : SlI M A c .i64 L) (h2 : Z.length = m) (h : XOK M m X W) : XOK M m (((A, c), (L, Z)) :: X) ((L, Z) :: W) := by
  refine ⟨by rw [h.eq]; rfl, fun x hx => ?_⟩
  rcases List.mem_cons.1 hx with rfl | hx
  · exact ⟨h2, h1⟩
  · exact h.all x hx
theorem XOK.app {M m X Y W V U} (h : XOK M m X W) (h' : XOK M m Y V) (e : U = W ++ V) : XOK M m (X ++ Y) U := by
  refine ⟨by rw [e, h.eq, h'.eq, List.map_append], fun x hx => ?_⟩
  rcases List.mem_append.1 hx with hx | hx
  · exact h.all x hx
  · exact h'.all x hx
theorem XOK.len {M m X W} (h : XOK M m X W) : X.length = W.length := by rw [h.eq, List.length_map]
def hx (X : List XT) (q : Nat) : Option Addr := (X.getD q ((none, 0), ([], []))).1.1
def cx (X : List XT) (q : Nat) : Nat := (X.getD q ((none, 0), ([], []))).1.2
theorem wk_xC (H : Nat → Option Addr) (C : Nat → Nat) : ∀ (Y : List XT) (i : Nat), (∀ q, q < Y.length → H (i + q) = hx Y q ∧ C (i + q) = cx Y q) → wkC H C i (Y.map (·.2)) = xC Y
  | [], _, _ => rfl
  | y :: r, i, h => by
    have h0 := h 0 (by simp)
    simp only [Nat.add_zero, hx, cx, List.getD_cons_zero] at h0
    simp only [List.map_cons, wkC, xC, h0.1, h0.2]
    rw [wk_xC H C r (i + 1) (fun q hq => by
      have := h (q + 1) (by simpa using hq)
      simp only [hx, cx, List.getD_cons_succ] at this ⊢
      rwa [show i + 1 + q = i + (q + 1) from by omega])]
theorem XOK.slW {M m X W A c} (h : XOK M m X W) (hS : SlC M A (xC X)) (hc : W.length ≤ c) : SlW M m A c (hx X) (cx X) W := by
  have e := h.eq
  refine ⟨fun w hw => ?_, ?_, hc, fun q hq => ?_⟩
  · rw [e] at hw
    obtain ⟨x, hx', rfl⟩ := List.mem_map.1 hw
    exact (h.all x hx').1
  · rw [e, wk_xC (hx X) (cx X) X 0 (fun q _ => by rw [Nat.zero_add]; exact ⟨rfl, rfl⟩)]; exact hS
  · have hq' : q < X.length := by rw [h.len]; exact hq
    have := (h.all X[q] (List.getElem_mem hq')).2
    simpa [hx, cx, e, List.getD_eq_getElem?_getD, List.getElem?_eq_getElem hq'] using this
def toX (H : Nat → Option Addr) (C : Nat → Nat) : Nat → List WT → List XT
  | _, [] => []
  | i, w :: r => ((H i, C i), w) :: toX H C (i + 1) r
theorem xC_toX (H : Nat → Option Addr) (C : Nat → Nat) : ∀ (W : List WT) (i : Nat), xC (toX H C i W) = wkC H C i W
  | [], _ => rfl
  | w :: r, i => by simp only [toX, xC, wkC, xC_toX H C r (i + 1)]
theorem toX_map (H : Nat → Option Addr) (C : Nat → Nat) : ∀ (W : List WT) (i : Nat), (toX H C i W).map (·.2) = W
  | [], _ => rfl
  | w :: r, i => by simp only [toX, List.map_cons, toX_map H C r (i + 1)]
theorem toX_mem (H : Nat → Option Addr) (C : Nat → Nat) : ∀ (W : List WT) (i : Nat) (x : XT), x ∈ toX H C i W → ∃ q, q < W.length ∧ x = ((H (i + q), C (i + q)), W.getD q ([], []))
  | [], _, _, h => by cases h
  | w :: r, i, x, h => by
    rcases List.mem_cons.1 h with rfl | h
    · exact ⟨0, by simp, rfl⟩
    · obtain ⟨q, hq, rfl⟩ := toX_mem H C r (i + 1) x h
      exact ⟨q + 1, by simpa using hq, by rw [List.getD_cons_succ, show i + 1 + q = i + (q + 1) from by omega]⟩
theorem SlW.xok {M m A c H C W} (h : SlW M m A c H C W) : XOK M m (toX H C 0 W) W := by
  refine ⟨(toX_map H C W 0).symm, fun x hx => ?_⟩
  obtain ⟨q, hq, rfl⟩ := toX_mem H C W 0 x hx
  rw [Nat.zero_add]
  refine ⟨h.len3 _ ?_, h.rows q hq⟩
  rw [List.getD_eq_getElem?_getD, List.getElem?_eq_getElem hq]
  exact List.getElem_mem hq
theorem xC_one {X : List XT} : ∀ u ∈ xC X, u.oneCell' = true := by
  induction X with
  | nil => intro u hu; cases hu
  | cons x r ih =>
    intro u hu
    simp only [xC] at hu
    rcases List.mem_append.1 hu with hu | hu
    · rcases List.mem_cons.1 hu with rfl | hu
      · rfl
      · exact ints_one u hu
    · exact ih u hu
theorem xC_len {M m X W} (h : XOK M m X W) : (xC X).length = W.length * (m + 1) := by
  rw [← h.len]
  have ha := fun x hx => (h.all x hx).1
  clear h
  induction X with
  | nil => simp [xC]
  | cons x r ih =>
    have e := ha x (List.mem_cons_self ..)
    simp only [xC, List.length_append, List.length_cons, ints_length, e, ih fun y hy => ha y (List.mem_cons_of_mem _ hy)]
    rw [Nat.add_mul (r.length), Nat.one_mul]; omega
theorem SlW.src {X s x m A c H C} {W : List WT} (hx : evO s x = some (.lf (.v (.slice A W.length c)))) (hS : SlW s.M m A c H C W) : SrcAt X s x (m + 1) W.length (xC (toX H C 0 W)) :=
  SlC.src hx (by rw [xC_toX]; exact hS.cells) (xC_len hS.xok) xC_one (by omega)
end Go.Proofs.Ythniebmammmacaa
namespace Go.Proofs.Ythniebmammmacaa
open Go.ChangeShapes Go.WideShapes Go.ChangeAt Go.RowKit
section
variable {H : Type} {enc : TypeId × Value → H} {P : Program} {w : World} {base : Nat} {spare : Nat → Bool} {held : Bool}
theorem chop3 {α : Type} {cs : List α} {a b c : Nat} (h : cs.length = a + b + c) : cs = (cs.drop 0).take a ++ ((cs.drop a).take b ++ (cs.drop (a + b)).take c) := by
  have e : (cs.drop (a + b)).take c = cs.drop (a + b) := List.take_of_length_le (by rw [List.length_drop]; omega)
  rw [e, List.drop_zero, show cs.drop (a + b) = (cs.drop a).drop b from by rw [List.drop_drop], List.take_append_drop, List.take_append_drop]
theorem open_three {fuel : Nat} {t : TypeId} {f0 f1 f2 : Field} {cs : List Value} {x : DataW H × List MemPlace} (ht : P.underlying t = some (.struct #[f0, f1, f2])) (h0 : f0.offset = 0) (h1 : f1.offset = P.cellsOf f0.type) (h2 : f2.offset = P.cellsOf f0.type + P.cellsOf f1.type) (h3 : P.cellsOf t = P.cellsOf f0.type + P.cellsOf f1.type + P.cellsOf f2.type)
    (hx : DataW.trod enc P w base spare held fuel t cs = some x) : ∃ c0 c1 c2 f' y0 y1 y2, cs = c0 ++ (c1 ++ c2) ∧ DataW.trod enc P w base spare held f' f0.type c0 = some y0 ∧ DataW.trod enc P w base spare held f' f1.type c1 = some y1 ∧ DataW.trod enc P w base spare held f' f2.type c2 = some y2 := by
  obtain ⟨xs, f', _, _, hl, hxl, hch⟩ := DataW.trod_struct ht hx
  have e0 := hch 0 f0 rfl
  have e1 := hch 1 f1 rfl
  have e2 := hch 2 f2 rfl
  have hxl' : xs.length = 3 := hxl
  rw [List.getElem?_eq_getElem (by omega)] at e0 e1 e2
  refine ⟨_, _, _, f', _, _, _, ?_, e0, e1, e2⟩
  rw [h0, h1, h2]
  exact chop3 (by rw [hl, h3])
theorem open_four1 {fuel : Nat} {t : TypeId} {f0 f1 f2 f3 : Field} {cs : List Value} {x : DataW H × List MemPlace} (ht : P.underlying t = some (.struct #[f0, f1, f2, f3])) (ho : (f0.offset, f1.offset, f2.offset, f3.offset) = (0, 1, 2, 3)) (hc : (P.cellsOf f0.type, P.cellsOf f1.type, P.cellsOf f2.type, P.cellsOf f3.type) = (1, 1, 1, 1)) (h3 : P.cellsOf t = 4)
    (hx : DataW.trod enc P w base spare held fuel t cs = some x) : ∃ v0 v1 v2 v3 f' y0 y1 y2 y3, cs = [v0, v1, v2, v3] ∧ DataW.trod enc P w base spare held f' f0.type [v0] = some y0 ∧ DataW.trod enc P w base spare held f' f1.type [v1] = some y1 ∧ DataW.trod enc P w base spare held f' f2.type [v2] = some y2 ∧ DataW.trod enc P w base spare held f' f3.type [v3] = some y3 := by
  obtain ⟨xs, f', _, _, hl, hxl, hch⟩ := DataW.trod_struct ht hx
  have e0 := hch 0 f0 rfl
  have e1 := hch 1 f1 rfl
  have e2 := hch 2 f2 rfl
  have e3 := hch 3 f3 rfl
  have hxl' : xs.length = 4 := hxl
  rw [List.getElem?_eq_getElem (by omega)] at e0 e1 e2 e3
  simp only [Prod.mk.injEq] at ho hc
  rw [ho.1, hc.1] at e0
  rw [ho.2.1, hc.2.1] at e1
  rw [ho.2.2.1, hc.2.2.1] at e2
  rw [ho.2.2.2, hc.2.2.2] at e3
  rw [h3] at hl
  match cs, hl with
  | [v0, v1, v2, v3], _ => exact ⟨v0, v1, v2, v3, f', _, _, _, _, rfl, e0, e1, e2, e3⟩
theorem open_i1 {k : IntKind} {d fuel : Nat} {t : TypeId} {cs : List Value} {x : DataW H × List MemPlace} (hh : hom P k d t = some 1) (hx : DataW.trod enc P w base spare held fuel t cs = some x) : ∃ z : Int, cs = [.int k z] ∧ Wfi k z := by
  obtain ⟨L, rfl, l, h⟩ := open_ints' hh hx
  obtain ⟨a, rfl⟩ := List.length_eq_one_iff.1 l
  exact ⟨a, rfl, h a (by simp)⟩
def WorkIn (w : World) (m : Nat) (cs : List Value) (x : XT) : Prop := cs = .slice x.1.1 x.2.1.length x.1.2 :: ints .i64 x.2.2 ∧ x.2.2.length = m ∧ SlI (memOf w) x.1.1 x.1.2 .i64 x.2.1 ∧ x.2.1.length ≤ maxLen ∧ (∀ z ∈ x.2.1, Wfi .i64 z) ∧ ∀ z ∈ x.2.2, Wfi .i64 z
def okWT (m : Nat) (x : WT) : Prop := x.2.length = m ∧ x.1.length ≤ maxLen ∧ (∀ z ∈ x.1, Wfi .i64 z) ∧ ∀ z ∈ x.2, Wfi .i64 z
theorem open_works {m fuel : Nat} {t e : TypeId} {cs : List Value} {x : DataW H × List MemPlace} (ht : P.underlying t = some (.slice e)) (hc : P.cellsOf e = m + 1)
    (hel : ∀ {f : Nat} {cs : List Value} {y : DataW H × List MemPlace}, DataW.trod enc P w base spare held f e cs = some y → ∃ x, WorkIn w m cs x) (hx9 : DataW.trod enc P w base spare held fuel t cs = some x) :
    ∃ (A : Option Addr) (W : List WT) (c : Nat) (Hh : Nat → Option Addr) (C : Nat → Nat), cs = [.slice A W.length c] ∧ SlW (memOf w) m A c Hh C W ∧ W.length ≤ maxLen ∧ ∀ x ∈ W, okWT m x := by
  rcases DataW.trod_slice ht hx9 with ⟨rfl, _⟩ | ⟨a, len, cap, elems, rest, f', _, rfl, _, _, hle, hcap, hel2, hcell, _, _⟩
  · exact ⟨none, [], 0, fun _ => none, fun _ => 0, rfl, nilW _ _ _ _ _, Nat.zero_le _, by simp⟩
  · have hF : ∀ i, i < len → ∃ (x : XT) (cs : List Value), WorkIn w m cs x ∧ ∀ j, j < m + 1 → w.cell? (a.add (i * (m + 1) + j)) = cs[j]? := by
      intro i hi
      have h1 := hcell i hi
      rw [List.getElem?_eq_getElem (by omega)] at h1
      obtain ⟨cs, h2, h3⟩ := Option.bind_eq_some_iff.1 h1
      rw [hc] at h2
      obtain ⟨h4, h5⟩ := cells?_get h2
      obtain ⟨x, h6⟩ := hel h3
      refine ⟨x, cs, h6, fun j hj => ?_⟩
      rw [← h5 j hj, Addr.add_add]
    let g : Nat → XT := fun i => if h : i < len then Classical.choose (hF i h) else ((none, 0), ([], []))
    have hg : ∀ i, i < len → ∃ cs, WorkIn w m cs (g i) ∧ ∀ j, j < m + 1 → w.cell? (a.add (i * (m + 1) + j)) = cs[j]? := by
      intro i hi
      have := Classical.choose_spec (hF i hi)
      simpa only [g, dif_pos hi] using this
    have hlen : ((List.range len).map fun i => (g i).2).length = len := by simp
    have hget : ∀ q, q < len → ((List.range len).map fun i => (g i).2).getD q ([], []) = (g q).2 := by
      intro q hq
      simp [List.getD_eq_getElem?_getD, hq]
    have h3 : ∀ x ∈ ((List.range len).map fun i => (g i).2), x.2.length = m := by
      intro x hx
      obtain ⟨i, hi, rfl⟩ := List.mem_map.1 hx
      obtain ⟨cs, hw, _⟩ := hg i (by simpa using hi)
      exact hw.2.1
    refine ⟨some a, (List.range len).map fun i => (g i).2, cap, fun i => (g i).1.1, fun i => (g i).1.2, by rw [hlen], ⟨h3, ?_, by rw [hlen]; exact hle, ?_⟩, by rw [hlen]; omega, ?_⟩
    · by_cases h0 : len = 0
      · subst h0; exact .inl rfl
      · obtain ⟨b, o, sp⟩ := a
        have hcl : ∀ i, i < len → ∀ j, j < m + 1 → ∃ v, (wkC (fun i => (g i).1.1) (fun i => (g i).1.2) 0 ((List.range len).map fun i => (g i).2))[i * (m + 1) + j]? = some v ∧ w.cell? ((⟨b, o, sp⟩ : Addr).add (i * (m + 1) + j)) = some v := by
          intro i hi j hj
          obtain ⟨cs, hw, hcs⟩ := hg i hi
          have h1 := wkC_get m (fun i => (g i).1.1) (fun i => (g i).1.2) _ 0 i j h3 (by rw [hlen]; exact hi) hj
          rw [hget i hi, Nat.zero_add] at h1
          refine ⟨_, h1.trans (by rw [← apply_ite some]), ?_⟩
          rw [hcs j hj, hw.1]
          cases j with
          | zero => rfl
          | succ j =>
            have hl : j < (g i).2.2.length := by rw [hw.2.1]; omega
            simp [ints, List.getElem?_eq_getElem hl, List.getD_eq_getElem?_getD]
        have hsp : sp = none := by
          obtain ⟨v, _, hv⟩ := hcl 0 (by omega) 0 (by omega)
          rw [show 0 * (m + 1) + 0 = 0 from by omega] at hv
          exact (memCell_of_cell (b := b) (o := o) (by simpa [Addr.add] using hv)).1
        subst hsp
        refine .inr ⟨b, o, rfl, fun q v hv => ?_⟩
        have hm0 : 0 < m + 1 := by omega
        have hql : (wkC (fun i => (g i).1.1) (fun i => (g i).1.2) 0 ((List.range len).map fun i => (g i).2)).length = len * (m + 1) := by
          have hX : XOK (memOf w) m ((List.range len).map g) ((List.range len).map fun i => (g i).2) := by
            refine ⟨by rw [List.map_map]; rfl, fun x hx => ?_⟩
            obtain ⟨i, hi, rfl⟩ := List.mem_map.1 hx
            obtain ⟨cs, hw, _⟩ := hg i (by simpa using hi)
            exact ⟨hw.2.1, hw.2.2.1⟩
          have e1 := wk_xC (fun i => (g i).1.1) (fun i => (g i).1.2) ((List.range len).map g) 0 (fun q hq => by
            rw [Nat.zero_add]
            have hq' : q < len := by simpa using hq
            simp [hx, cx, List.getD_eq_getElem?_getD, hq'])
          rw [List.map_map] at e1
          rw [show ((List.range len).map fun i => (g i).2) = (List.range len).map ((fun x => x.2) ∘ g) from rfl, e1, xC_len hX]
          simp
        have hq : q < len * (m + 1) := by rw [← hql]; exact (List.getElem?_eq_some_iff.1 hv).1
        have hi : q / (m + 1) < len := (Nat.div_lt_iff_lt_mul hm0).2 hq
        have hj : q % (m + 1) < m + 1 := Nat.mod_lt _ hm0
        have hdm : q / (m + 1) * (m + 1) + q % (m + 1) = q := Nat.div_add_mod' q (m + 1)
        obtain ⟨u, hu1, hu2⟩ := hcl _ hi _ hj
        rw [hdm] at hu1 hu2
        rw [hu1] at hv
        injection hv with hv
        subst hv
        have hz' : w.cell? ⟨b, o + q, none⟩ = some u := by
          rw [← hu2]
          unfold Addr.add
          split
          · rename_i e0; subst e0; rfl
          · rfl
        exact (memCell_of_cell hz').2
    · intro q hq
      rw [hlen] at hq
      rw [hget q hq]
      obtain ⟨cs, hw, _⟩ := hg q hq
      exact hw.2.2.1
    · intro x hx
      obtain ⟨i, hi, rfl⟩ := List.mem_map.1 hx
      obtain ⟨cs, hw, _⟩ := hg i (by simpa using hi)
      exact ⟨hw.2.1, hw.2.2.2.1, hw.2.2.2.2.1, hw.2.2.2.2.2⟩
theorem open_work {f : Nat} {t e : TypeId} {f0 f1 f2 f3 : Field} {cs : List Value} {x : DataW H × List MemPlace} (ht : P.underlying t = some (.struct #[f0, f1, f2, f3])) (ho : (f0.offset, f1.offset, f2.offset, f3.offset) = (0, 1, 2, 3)) (hc : (P.cellsOf f0.type, P.cellsOf f1.type, P.cellsOf f2.type, P.cellsOf f3.type) = (1, 1, 1, 1)) (h3 : P.cellsOf t = 4)
    (hs : P.underlying f0.type = some (.slice e)) (hh : hom P .i64 8 e = some 1) (he : P.cellsOf e = 1) (h1 : hom P .i64 8 f1.type = some 1) (h2 : hom P .i64 8 f2.type = some 1) (h4 : hom P .i64 8 f3.type = some 1)
    (hx : DataW.trod enc P w base spare held f t cs = some x) : ∃ x, WorkIn w 3 cs x := by
  obtain ⟨v0, v1, v2, v3, f', y0, y1, y2, y3, rfl, e0, e1, e2, e3⟩ := open_four1 ht ho hc h3 hx
  obtain ⟨A, L, c, hv0, hS, hL, hw⟩ := open_sint hs hh he e0
  obtain ⟨L1, hv1, l1, w1⟩ := open_ints' h1 e1
  obtain ⟨L2, hv2, l2, w2⟩ := open_ints' h2 e2
  obtain ⟨L3, hv3, l3, w3⟩ := open_ints' h4 e3
  obtain ⟨a1, rfl⟩ := List.length_eq_one_iff.1 l1
  obtain ⟨a2, rfl⟩ := List.length_eq_one_iff.1 l2
  obtain ⟨a3, rfl⟩ := List.length_eq_one_iff.1 l3
  simp only [ints, List.map_cons, List.map_nil, List.cons.injEq, and_true] at hv0 hv1 hv2 hv3
  subst hv0 hv1 hv2 hv3
  refine ⟨((A, c), (L, [a1, a2, a3])), rfl, rfl, hS, hL, hw, fun z hz => ?_⟩
  simp only [List.mem_cons, List.mem_nil_iff, or_false] at hz
  rcases hz with rfl | rfl | rfl
  · exact w1 _ (by simp)
  · exact w2 _ (by simp)
  · exact w3 _ (by simp)
def isWork (P : Program) (t e : TypeId) : Bool := match P.underlying t with
  | some (.struct fs) => match fs.toList with
    | [f0, f1, f2, f3] => decide ((f0.offset, f1.offset, f2.offset, f3.offset) = (0, 1, 2, 3)) && decide ((P.cellsOf f0.type, P.cellsOf f1.type, P.cellsOf f2.type, P.cellsOf f3.type) = (1, 1, 1, 1)) && decide (P.cellsOf t = 4) && (match P.underlying f0.type with | some (.slice e') => decide (e' = e) | _ => false) &&
      decide (hom P .i64 8 e = some 1) && decide (P.cellsOf e = 1) && decide (hom P .i64 8 f1.type = some 1) && decide (hom P .i64 8 f2.type = some 1) && decide (hom P .i64 8 f3.type = some 1)
    | _ => false
  | _ => false
theorem open_workB {f : Nat} {t : TypeId} (e : TypeId) {cs : List Value} {x : DataW H × List MemPlace} (h : isWork P t e = true) (hx : DataW.trod enc P w base spare held f t cs = some x) : ∃ x, WorkIn w 3 cs x := by
  unfold isWork at h
  split at h
  · rename_i fs ht
    split at h
    · rename_i f0 f1 f2 f3 hfs
      obtain rfl : fs = #[f0, f1, f2, f3] := by cases fs; simp_all
      simp only [Bool.and_eq_true, decide_eq_true_eq] at h
      obtain ⟨⟨⟨⟨⟨⟨⟨⟨h1, h2⟩, h3⟩, h4⟩, h5⟩, h6⟩, h7⟩, h8⟩, h9⟩ := h
      split at h4
      · rename_i e' he
        simp only [decide_eq_true_eq] at h4
        subst h4
        exact open_work ht h1 h2 h3 he h5 h6 h7 h8 h9 hx
      · cases h4
    · cases h
  · cases h
end
end Go.Proofs.Ythniebmammmacaa
namespace Go.Proofs.Ythniebmammmacaa
open Go.RowKit
@[reducible] noncomputable def oI (x : Int) : Sg := .one (.v (.int .i64 x))
@[reducible] noncomputable def oS {α : Type} (A : Option Addr) (L : List α) (c : Nat) : Sg := .one (.v (.slice A L.length c))
@[reducible] noncomputable def lS {α : Type} (A : Option Addr) (L : List α) (c : Nat) : SV := .lf (.v (.slice A L.length c))
@[reducible] noncomputable def lO (n : Nat) : SV := .lf (.own n 0)
@[reducible] noncomputable def lP (b : Nat) : SV := .lf (.v (.pointer (some ⟨b, 0, none⟩)))
@[reducible] noncomputable def lV (n : Nat) : SV := .lf (.vec n)
@[reducible] noncomputable def vI (e sz : Nat) (L : List Int) : Vc := ⟨e, sz, L.length, ints .i64 L⟩
@[reducible] noncomputable def S4 (σ : List (Nat × SV)) (H : List (Nat × List Sg)) (V : List (Nat × Vc)) (M : Mem) : St := { σ := σ, H := H, V := V, M := M, ds := [] }
@[reducible] def MB (M : Mem) (b : Nat) (l : List Sg) : Prop := M b = some (sgCells (fun _ => 0) (fun _ => .slice none 0 0) l).toArray
@[reducible] def ks {α : Type} (l : List (Nat × α)) : List Nat := l.map Prod.fst
section
variable {X : Cx} {ops : Array Oper} {Q : Exit → St → Prop} {K : St → Prop} {c f : Code} {p : List Nat} {s : St} {i : Nat}
theorem EN (h1 : K s) (h : ops.size = i := by kernel_rfl) : TI X ops i s (thenQ K Q) := TI_end h h1
theorem E0 (h1 : Q .normal s) (h : ops.size = i := by kernel_rfl) : TI X ops i s Q := TI_end h h1
theorem RG (h1 : TI X (opsOf c) 0 s Q) (h : (match regOf c with | some (false, _) => true | _ => false) = true := by kernel_rfl) : T X c s Q := by
  cases hc : regOf c with
  | none => rw [hc] at h; cases h
  | some x =>
    obtain ⟨b, id⟩ := x
    cases b with
    | true => rw [hc] at h; cases h
    | false => exact T_region hc h1
theorem SQ (h1 : T X (sub (p ++ [0]) f) s (thenQ (fun s' => T X (sub (p ++ [1]) f) s' Q) Q)) (h : sub p f = .seq (sub (p ++ [0]) f) (sub (p ++ [1]) f) := by kernel_rfl) : T X (sub p f) s Q := T_seq h h1
theorem SQ0 (h1 : T X (sub [0] f) s (thenQ (fun s' => T X (sub [1] f) s' Q) Q)) (h : f = .seq (sub [0] f) (sub [1] f) := by kernel_rfl) : T X f s Q := T_seq h h1
theorem SN (h1 : K s) (h : c = .skip := by kernel_rfl) : T X c s (thenQ K Q) := T_skip h h1
theorem S0 (h1 : Q .normal s) (h : c = .skip := by kernel_rfl) : T X c s Q := T_skip h h1
theorem RT (h1 : Q .ret s) (h : c = .ret := by kernel_rfl) : T X c s Q := T_ret h h1
theorem XI (id : Nat) (h1 : Q (.exit id) s) (h : c = .exit id := by kernel_rfl) : T X c s Q := T_exit h h1
theorem BK (id : Nat) (h1 : T X (sub (p ++ [0]) f) s (blockQ id Q)) (h : sub p f = .block id (sub (p ++ [0]) f) := by kernel_rfl) : T X (sub p f) s Q := T_block h h1
def cdOf : Code → Operand
  | .cond x _ _ => x
  | _ => .const (.bool false)
theorem CT (h1 : T X (sub (p ++ [0]) f) s Q) (h : sub p f = .cond (cdOf (sub p f)) (sub (p ++ [0]) f) (sub (p ++ [1]) f) := by kernel_rfl) (hx : evO s (cdOf (sub p f)) = some (.lf (.v (.bool true))) := by kernel_rfl) : T X (sub p f) s Q := T_condT h hx h1
theorem CF (h1 : T X (sub (p ++ [1]) f) s Q) (h : sub p f = .cond (cdOf (sub p f)) (sub (p ++ [0]) f) (sub (p ++ [1]) f) := by kernel_rfl) (hx : evO s (cdOf (sub p f)) = some (.lf (.v (.bool false))) := by kernel_rfl) : T X (sub p f) s Q := T_condF h hx h1
theorem SS {σ H V M ds os ats} (j : Nat) (σ' : List (Nat × SV)) (h1 : TI X ops j ⟨σ', H, V, M, ds, os, ats⟩ Q) (h : (exs X.P X.N ops ⟨σ, H, V, M, ds, os, ats⟩ ((ops.toList.drop i).take (j - i))).bind (fun z => z.keep (ks σ') (ks H) (ks V)) = some ⟨σ', H, V, M, ds, os, ats⟩ := by kernel_rfl) (hij : Nat.ble i j = true := by kernel_rfl) : TI X ops i ⟨σ, H, V, M, ds, os, ats⟩ Q := TI_segK _ _ _ h hij h1
theorem SK {σ H V M ds os ats} (j : Nat) (σ' : List (Nat × SV)) (H' : List (Nat × List Sg)) (V' : List (Nat × Vc)) (h1 : TI X ops j ⟨σ', H', V', M, ds, os, ats⟩ Q) (h : (exs X.P X.N ops ⟨σ, H, V, M, ds, os, ats⟩ ((ops.toList.drop i).take (j - i))).bind (fun z => z.keep (ks σ') (ks H') (ks V')) = some ⟨σ', H', V', M, ds, os, ats⟩ := by kernel_rfl) (hij : Nat.ble i j = true := by kernel_rfl) : TI X ops i ⟨σ, H, V, M, ds, os, ats⟩ Q := TI_segK _ _ _ h hij h1
theorem SH {σ H V M ds os ats} (j : Nat) (σ' : List (Nat × SV)) (H' : List (Nat × List Sg)) (h1 : TI X ops j ⟨σ', H', V, M, ds, os, ats⟩ Q) (h : (exs X.P X.N ops ⟨σ, H, V, M, ds, os, ats⟩ ((ops.toList.drop i).take (j - i))).bind (fun z => z.keep (ks σ') (ks H') (ks V)) = some ⟨σ', H', V, M, ds, os, ats⟩ := by kernel_rfl) (hij : Nat.ble i j = true := by kernel_rfl) : TI X ops i ⟨σ, H, V, M, ds, os, ats⟩ Q := TI_segK _ _ _ h hij h1
theorem KS {σ H V M ds os ats} (σ' : List (Nat × SV)) (h1 : T X c ⟨σ', H, V, M, ds, os, ats⟩ Q) (h : (⟨σ, H, V, M, ds, os, ats⟩ : St).keep (ks σ') (ks H) (ks V) = some ⟨σ', H, V, M, ds, os, ats⟩ := by kernel_rfl) : T X c ⟨σ, H, V, M, ds, os, ats⟩ Q := T_keep _ _ _ h h1
theorem KP {σ H V M ds os ats} (σ' : List (Nat × SV)) (H' : List (Nat × List Sg)) (V' : List (Nat × Vc)) (h1 : T X c ⟨σ', H', V', M, ds, os, ats⟩ Q) (h : (⟨σ, H, V, M, ds, os, ats⟩ : St).keep (ks σ') (ks H') (ks V') = some ⟨σ', H', V', M, ds, os, ats⟩ := by kernel_rfl) : T X c ⟨σ, H, V, M, ds, os, ats⟩ Q := T_keep _ _ _ h h1
theorem SG (j : Nat) (s' : St) (h1 : TI X ops j s' Q) (h : (exs X.P X.N ops s ((ops.toList.drop i).take (j - i))).bind (fun z => z.keep (ks s'.σ) (ks s'.H) (ks s'.V)) = some s' := by kernel_rfl) (hij : Nat.ble i j = true := by kernel_rfl) : TI X ops i s Q := TI_segK _ _ _ h hij h1
theorem KG (s' : St) (h1 : T X c s' Q) (h : s.keep (ks s'.σ) (ks s'.H) (ks s'.V) = some s' := by kernel_rfl) : T X c s Q := T_keep _ _ _ h h1
theorem AT (d : Nat) (x : SV) (h : OpAt X s ops i d x) (h1 : TI X ops (i + 1) (s.put d x) Q) (hx : x.wf := by exact trivial) (hc : (match wantedAt ops s i with | some b => b && Nat.blt d X.N | none => false) = true := by kernel_rfl) : TI X ops i s Q := TI_at h hc hx h1
theorem AC {g : Nat} {args : List Value} (d : Nat) (x : SV) (hF : Fn X.P g args s.M fun y _ => y = x) (h1 : TI X ops (i + 1) (s.put d x) Q) (h : callC X.P s ops i = some (d, g, args) := by kernel_rfl) (hx : x.wf := by exact trivial) (hc : (match wantedAt ops s i with | some b => b && Nat.blt d X.N | none => false) = true := by kernel_rfl) : TI X ops i s Q := TI_at (At_call h hF) hc hx h1
theorem FT {P : Program} {rs : List ResultVar} {R : SV → Mem → Prop} (x : SV) (h3 : R x s.M) (h1 : resS P s rs = some x := by kernel_rfl) (h2 : x.closed = true := by kernel_rfl) (h4 : s.ds = [] := by rfl) : endQ P rs R .ret s := fin_ret x h1 h2 h4 h3
end
theorem wfa_lf : ∀ l : List SV, (l.all fun p => match p with | .lf _ => true | _ => false) = true → wfa l
  | [], _ => trivial
  | x :: l, h => by
    simp only [List.all_cons, Bool.and_eq_true] at h
    cases x with
    | lf y => exact ⟨trivial, wfa_lf l h.2⟩
    | _ => cases h.1
theorem sj {α : Type} {a b : α} (h : some a = some b) : a = b := Option.some.inj h
theorem FO {P : Program} {g : Nat} {fn : Func} {M : Mem} {R : SV → Mem → Prop} (args : List SV) (hf : P.funcs[g]? = some fn) (hw : wfa args)
    (h : ∀ w, T (fnCx P fn w M) (bodyOf fn) { σ := params 0 args, H := [], V := [], M := M, ds := [] } (endQ P fn.results.toList R)) (hb : fn.body = some (bodyOf fn) := by kernel_rfl) (hn : Nat.ble args.length fn.ntmps = true := by kernel_rfl) (hcl : closeds args = true := by kernel_rfl) : Fn P g (args.map rval) M R :=
  Fn_of args hf hb (Nat.le_of_ble_eq_true hn) (args_ok hcl hw) h
end Go.Proofs.Ythniebmammmacaa
namespace Go.Proofs.Ythniebmammmacaa
open Go.RowKit
def vecQ (P : Program) (rs : List ResultVar) (n' : Nat) (R : Vc → Mem → Prop) : Exit → St → Prop := fun e s => (e = .ret ∨ e = .normal) ∧ s.ds.Nodup ∧ resS P s rs = some (.lf (.vec n')) ∧ ∃ v', look s.V n' = some v' ∧ R v' s.M
def FnV (P : Program) (f : Nat) (args : List SV) (n : Nat) (v : Vc) (n' : Nat) (M : Mem) (R : Vc → Mem → Prop) : Prop :=
  ∃ fn c, P.funcs[f]? = some fn ∧ fn.body = some c ∧ args.length ≤ fn.ntmps ∧ wfa args ∧ ∀ B w0, T ⟨P, none, B, fn.ntmps, w0, M⟩ c { σ := params 0 args, H := [], V := [(n, v)], M := M, ds := [] } (vecQ P fn.results.toList n' R)
theorem FnV_of {P : Program} {f : Nat} {fn : Func} {c : Code} {n : Nat} {v : Vc} {n' : Nat} {M : Mem} {R : Vc → Mem → Prop} (args : List SV) (hf : P.funcs[f]? = some fn) (hb : fn.body = some c) (hn : args.length ≤ fn.ntmps) (hw : wfa args)
    (h : ∀ B w0, T ⟨P, none, B, fn.ntmps, w0, M⟩ c { σ := params 0 args, H := [], V := [(n, v)], M := M, ds := [] } (vecQ P fn.results.toList n' R)) : FnV P f args n v n' M R := ⟨fn, c, hf, hb, hn, hw, h⟩
theorem finV {P : Program} {rs : List ResultVar} {n' : Nat} {R : Vc → Mem → Prop} {s : St} (v' : Vc) (h1 : resS P s rs = some (.lf (.vec n'))) (h2 : look s.V n' = some v') (h4 : s.ds.Nodup) (h3 : R v' s.M) : vecQ P rs n' R .ret s := ⟨.inl rfl, h4, h1, v', h2, h3⟩
theorem leaves_inl {X : Cx} {fn : Func} {RW : Ending → World → Prop} (hro : X.rd = none) :
    ∀ {ds : List Nat} {ids vals s a w} {x : SV}, s.ds = ds → ds.Nodup → Rel X ids vals s a w → resS X.P s fn.results.toList = some x →
    (∀ a' w', x.wf → Rel X ids vals { s with ds := [], os := [] } a' w' → RW (.returned (x.val ids vals)) w') →
    LeavesInM (Fx X.rd) 0 X.P fn a.tmps RW (ds.map fun D => { target := .collected D, args := #[] }) .returning w
  | [], ids, vals, s, a, w, x, hs, _, hr, h1, hRW => by
    obtain ⟨wf, hrun⟩ := resS_run hr h1
    refine ⟨x.val ids vals, hrun, ?_⟩
    refine hRW a w wf ?_
    exact {
      size := hr.size
      defers := by rw [hr.defers, hs]
      marks := fun D hD => by cases hD
      others := fun p hp => by cases hp
      att := hr.att
      onev := hr.onev
      tmp := hr.tmp
      blk := hr.blk
      inj := hr.inj
      vec := hr.vec
      apart := hr.apart
      mem := hr.mem
      grow := hr.grow
      below := hr.below
      base := hr.base }
  | D :: ds, ids, vals, s, a, w, x, hs, hnd, hr, h1, hRW => by
    have hD := hr.marks D (by rw [hs]; simp)
    refine ⟨by simp, .inl ⟨D, _, rfl, run_takeDeferred hD.2, ?_⟩⟩
    have hr0 : Rel X ids vals { s with ds := ds, os := [] } { a with defers := ds.map fun D => { target := .collected D, args := #[] } } w := {
      size := hr.size
      defers := rfl
      marks := fun E hE => hr.marks E (by rw [hs]; exact List.mem_cons_of_mem _ hE)
      others := fun p hp => by cases hp
      att := hr.att
      onev := hr.onev
      tmp := hr.tmp
      blk := hr.blk
      inj := hr.inj
      vec := hr.vec
      apart := hr.apart
      mem := hr.mem
      grow := hr.grow
      below := hr.below
      base := hr.base }
    have hr1 := hr0.other (grownBy_putObj' w D (.deferred none)) (fun r e => by
      cases e
      exact ⟨hD.1, (List.nodup_cons.1 hnd).1, _, hD.2, rfl⟩)
    have hres : resS X.P { s with ds := ds, os := [] } fn.results.toList = some x := by
      rw [← h1]
      have h1' : ∀ r, resOne X.P { s with ds := ds, os := [] } r = resOne X.P s r := fun r => by cases r <;> rfl
      unfold resS
      split <;> simp only [h1']
    exact leaves_inl (a := { a with defers := ds.map fun D => { target := .collected D, args := #[] } }) hro (ds := ds) rfl (List.nodup_cons.1 hnd).2 hr1 hres hRW
def cls (σ : List (Nat × SV)) : List (Nat × SV) := σ.filter fun p => match look σ p.1 with | some y => y.closed | none => false
theorem look_filter {α : Type} {q : Nat → Bool} : ∀ {l : List (Nat × α)} {t : Nat} {x : α}, look (l.filter fun p => q p.1) t = some x → look l t = some x ∧ q t = true
  | [], t, x, h => by simp [look] at h
  | (m, y) :: r, t, x, h => by
    rw [List.filter_cons] at h
    split at h
    · rename_i hq
      rw [look_cons] at h ⊢
      by_cases e : m = t
      · rw [if_pos e] at h ⊢; subst e; exact ⟨h, hq⟩
      · rw [if_neg e] at h ⊢; exact look_filter h
    · rename_i hq
      obtain ⟨h1, h2⟩ := look_filter h
      refine ⟨?_, h2⟩
      rw [look_cons, if_neg]
      · exact h1
      · rintro rfl; exact hq h2
theorem cls_look {σ : List (Nat × SV)} {t : Nat} {x : SV} (h : look (cls σ) t = some x) : look σ t = some x ∧ x.closed = true := by
  obtain ⟨h1, h2⟩ := look_filter (q := fun m => match look σ m with | some y => y.closed | none => false) h
  refine ⟨h1, ?_⟩
  rw [h1] at h2
  exact h2
def argsV (s : St) : List Operand → Option (List SV)
  | [] => some []
  | x :: r => match evO s x, argsV s r with
    | some y, some l => some (y :: l)
    | _, _ => none
theorem argsV_eq {X ids vals s a w} (h : Rel X ids vals s a w) : ∀ {l : List Operand} {vs : List SV}, argsV s l = some vs → l.map a.eval = vs.map (fun x => x.val ids vals)
  | [], vs, hx => by simp [argsV] at hx; subst hx; rfl
  | x :: r, vs, hx => by
    simp only [argsV] at hx
    split at hx
    · rename_i y l e1 e2
      simp at hx; subst hx
      simp only [List.map_cons, argsV_eq h e2, h.ev e1]
    · simp at hx
def callV (P : Program) (s : St) (ops : Array Oper) (i : Nat) : Option (Nat × Nat × List SV) :=
  match ops[i]? with
  | some o => match o.op, o.dst with
    | .call { callee := .value fo, args, .. }, some d => match evO s fo, argsV s args.toList with
      | some (.lf (.v (.func (.func f) first cap))), some vs => if entersOk P f && first.toList.isEmpty && cap.toList.isEmpty then some (d, f, vs) else none
      | _, _ => none
    | _, _ => none
  | none => none
theorem callV_eq {P s ops i d f vs} (h : callV P s ops i = some (d, f, vs)) : ∃ o fo ars tys, ops[i]? = some o ∧ o.dst = some d ∧ o.op = .call { callee := .value fo, args := ars, argTypes := tys } ∧
    evO s fo = some (.lf (.v (.func (.func f) #[] #[]))) ∧ argsV s ars.toList = some vs ∧ entersOk P f = true := by
  unfold callV at h
  split at h
  · rename_i o ho
    split at h
    · rename_i fo ars tys d' e1 e2
      split at h
      · rename_i f' first cap vs u1 u2
        split at h
        · rename_i he
          simp only [Bool.and_eq_true, List.isEmpty_iff] at he
          simp at h
          obtain ⟨rfl, rfl, rfl⟩ := h
          obtain ⟨⟨he1, he2⟩, he3⟩ := he
          have e3 : first = #[] := by apply Array.ext'; simpa using he2
          have e4 : cap = #[] := by apply Array.ext'; simpa using he3
          subst e3 e4
          exact ⟨o, fo, ars, tys, ho, e2, e1, u1, u2, he1⟩
        · simp at h
      · simp at h
    · simp at h
  · simp at h
theorem Rel.back {P : Program} {B N N' : Nat} {w0 : World} {M0 : Mem} {ids vals ids' vals' s a w s1 a1 w'} (h : Rel ⟨P, none, B, N, w0, M0⟩ ids vals s a w) (hds : s.ds = []) (h1 : Rel ⟨P, none, B, N', w0, s.M⟩ ids' vals' s1 a1 w') :
    Rel ⟨P, none, B, N, w0, M0⟩ ids' vals' { σ := cls s.σ, H := s1.H, V := s1.V, M := s1.M, ds := [] } a w' where
  size := h.size
  defers := by rw [h.defers, hds]
  marks := fun D hD => by cases hD
  others := fun p hp => by cases hp
  att := fun p hp => by cases hp
  onev := h1.onev
  tmp := fun t x hx => by
    obtain ⟨h2, h3⟩ := cls_look hx
    obtain ⟨h4, h5⟩ := h.tmp t x h2
    refine ⟨?_, h5⟩
    rw [h4, (SV.closed_val h3 : SV.val ids vals x = rval x), (SV.closed_val h3 : SV.val ids' vals' x = rval x)]
  blk := h1.blk
  inj := h1.inj
  vec := h1.vec
  apart := h1.apart
  mem := h1.mem
  grow := ⟨Mem.le_trans h.grow.1 h1.grow.1, fun b hb hne => by
    cases hs : s.M b with
    | none => exact h1.grow.2 b hs hne
    | some cc => exact h.grow.2 b hb (by rw [hs]; simp)⟩
  below := h1.below
  base := h1.base
theorem TE_callV {P : Program} {B N : Nat} {w0 : World} {M0 : Mem} {ops : Array Oper} {i : Nat} {s : St} {Q : Exit → St → Prop} {lr : List Oper} {d f n nc : Nat} {args argsN : List SV} {v : Vc} (n' : Nat) {R : Vc → Mem → Prop} (h : callV P s ops i = some (d, f, argsN)) (ha : ∀ (ids : Nat → Nat) (vals : Nat → Value), argsN.map (fun x => x.val ids vals) = args.map (fun x => x.val ids (fun _ => vals n)))
    (hw : (match wantedAt ops s i with | some b => b && Nat.blt d N | none => false) = true) (hv : look s.V n = some v) (hds : s.ds = []) (hF : FnV P f args nc v n' s.M R)
    (next : ∀ v' M', Mem.le s.M M' → R v' M' → TL ⟨P, none, B, N, w0, M0⟩ ops lr { σ := (d, .lf (.vec n')) :: cls s.σ, H := [], V := [(n', v')], M := M', ds := [] } Q) : TE ⟨P, none, B, N, w0, M0⟩ ops i lr s Q := by
  intro o' ho' ids vals a w hr
  obtain ⟨o, fo, ars, tys, h1, h2, h3, h4, h5, h6⟩ := callV_eq h
  rw [h1] at ho'
  injection ho' with ho'
  subst ho'
  cases hwd : wantedAt ops s i with
  | none => rw [hwd] at hw; cases hw
  | some bb =>
    rw [hwd] at hw
    simp only [Bool.and_eq_true] at hw
    rw [hw.1] at hwd
    simp only [wantedAt, h1, Option.bind_some] at hwd
    simp only [wpListIn]
    rw [if_pos (wantedS_eq hr hwd)]
    unfold Oper.wpIn
    refine ⟨fun _ _ => trivial, ?_⟩
    rw [Oper.semAt_plain (Fx none) _ _ (by rw [h3]; intro c hc; cases hc)]
    have hev := hr.ev h4
    have hargs := argsV_eq hr h5
    have hargs2 : ars.map a.eval = (args.map (fun x => x.val ids (fun _ => vals n))).toArray := by
      apply Array.ext'; rw [← ha ids vals, ← hargs]; simp
    have hrun : (execOp a.eval o).run P w = .ok (.enter f (args.map (fun x => x.val ids (fun _ => vals n))).toArray) w := by
      unfold execOp
      simp only [h3, resolve, Sem.run_bind, hev, SV.val, Lf.val, Deferred.ofValue, Sem.run_pure, Result.andThen_ok, invoke, hargs2]
      rw [enters_run h6]
      congr 2
      simp
    rw [hrun]
    refine ⟨by intro hh; simp [Fx, Fence.wide] at hh, ?_⟩
    obtain ⟨fn, c, f1, f2, f3, f4, f5⟩ := hF
    have hc' : CallsIn (Fx none) 0 P f (args.map (fun x => x.val ids (fun _ => vals n))).toArray w (fun e w' => ∃ v' M' ids' vals' a1, e = .returned (vals' n') ∧ Mem.le s.M M' ∧ R v' M' ∧ Rel ⟨P, none, B, fn.ntmps, w0, s.M⟩ ids' vals' { σ := [], H := [], V := [(n', v')], M := M', ds := [] } a1 w') := by
      refine callsIn_of_wp_marks f1 f2 trivial ?_ rfl
      have hr2 : Rel ⟨P, none, B, fn.ntmps, w0, s.M⟩ ids (fun _ => vals n) { σ := params 0 args, H := [], V := [(nc, v)], M := s.M, ds := [] }
          { tmps := (args.map (fun x => x.val ids (fun _ => vals n))).toArray ++ Array.replicate (fn.ntmps - (args.map (fun x => x.val ids (fun _ => vals n))).toArray.size) undef, defers := [] } w := {
        size := by simp; omega
        defers := rfl
        marks := fun D hD => by cases hD
        others := fun p hp => by cases hp
        att := fun p hp => by cases hp
        onev := fun _ => hr.onev n
        tmp := fun t x hx => by
          obtain ⟨_, g2⟩ := params_look hx
          simp only [Nat.sub_zero] at g2
          have hlt : t < args.length := (List.getElem?_eq_some_iff.1 g2).1
          refine ⟨?_, ?_⟩
          · rw [Array.getElem?_append_left (by simpa using hlt)]
            simp [g2]
          · have hm : x ∈ args := List.mem_of_getElem? g2
            clear hr h5 hargs hargs2 hrun f3 f5 h hx g2 hlt ha
            induction args with
            | nil => cases hm
            | cons y r ih =>
              rcases List.mem_cons.1 hm with e | e
              · subst e; exact f4.1
              · exact ih f4.2 e
        blk := fun n c hc => by simp [look] at hc
        inj := fun n m c d hc => by simp [look] at hc
        vec := fun m v' hm => by
          rw [look_cons] at hm
          split at hm
          · rename_i e; injection hm with hm; subst hm; exact hr.vec _ v hv
          · simp [look] at hm
        apart := fun m v' g hm hg => by
          rw [look_cons] at hm
          split at hm
          · rename_i e; subst e; injection hm with hm; subst hm
            obtain ⟨q1, q2, q3⟩ := hr.apart n v g hv hg
            refine ⟨q1, fun m' c hc => by simp [look] at hc, fun m' u hu hne => ?_⟩
            rw [look_cons] at hu
            split at hu
            · rename_i e; exact absurd e.symm hne
            · simp [look] at hu
          · simp [look] at hm
        mem := hr.mem
        grow := ⟨Mem.le_refl _, fun b g1 g2 => absurd g1 g2⟩
        below := hr.below
        base := hr.base }
      refine wpIn_mono (f5 B w0 _ _ _ _ hr2) ?_
      rintro e a' w' ⟨s', ids', vals', ⟨hq, hnd, hres, v', hv', hR⟩, hr'⟩
      have fin : LeavesInM Fence.wide 0 P fn a'.tmps (fun e w' => ∃ v' M' ids' vals' a1, e = .returned (vals' n') ∧ Mem.le s.M M' ∧ R v' M' ∧ Rel ⟨P, none, B, fn.ntmps, w0, s.M⟩ ids' vals' { σ := [], H := [], V := [(n', v')], M := M', ds := [] } a1 w') a'.defers .returning w' := by
        rw [hr'.defers]
        refine leaves_inl (X := ⟨P, none, B, fn.ntmps, w0, s.M⟩) rfl rfl hnd hr' hres ?_
        intro a2 w2 _ hr3
        refine ⟨v', s'.M, ids', vals', a2, rfl, hr'.grow.1, hR, ?_⟩
        exact {
          size := hr3.size
          defers := hr3.defers
          marks := fun D hD => by cases hD
          others := fun p hp => by cases hp
          att := fun p hp => by cases hp
          onev := hr3.onev
          tmp := fun t x hx => by simp [look] at hx
          blk := fun n c hc => by simp [look] at hc
          inj := fun n m c d hc => by simp [look] at hc
          vec := fun m u hm => by
            rw [look_cons] at hm
            by_cases e : n' = m
            · rw [if_pos e] at hm; subst e; injection hm with hm; subst hm; exact hr3.vec _ _ hv'
            · rw [if_neg e] at hm; simp [look] at hm
          apart := fun m u g hm hg => by
            rw [look_cons] at hm
            by_cases e : n' = m
            rotate_left
            · rw [if_neg e] at hm; simp [look] at hm
            · rw [if_pos e] at hm; subst e; injection hm with hm; subst hm
              obtain ⟨q1, q2, q3⟩ := hr3.apart _ _ g hv' hg
              refine ⟨q1, fun m' c hc => by simp [look] at hc, fun m' u hu hne => ?_⟩
              rw [look_cons] at hu
              split at hu
              · rename_i e; exact absurd e.symm hne
              · simp [look] at hu
          mem := hr3.mem
          grow := hr3.grow
          below := hr3.below
          base := hr3.base }
      rcases hq with rfl | rfl
      · exact fin
      · exact fin
    refine ⟨hc'.1, fun cs hroom => ?_⟩
    obtain ⟨e, w', fr, ⟨v', M', ids', vals', a1, p1, p2, p3, p4⟩, rest⟩ := hc'.2 cs hroom
    refine ⟨e, w', fr, ?_, rest⟩
    subst p1
    have hr1 := (hr.back hds p4).put (d := d) (x := .lf (.vec n')) (Eq.mp Nat.blt_eq hw.2) trivial
    have := next v' M' p2 p3 ids' vals' _ w' hr1
    rw [h2]
    exact this
end Go.Proofs.Ythniebmammmacaa
namespace Go.Proofs.Ythniebmammmacaa
open Go.RowKit Go.MapKept
def mEnt : Nat → List (Int × Int) → List MapEntry
  | _, [] => []
  | i, p :: r => ⟨.int .i64 p.1, .int .i64 p.2, i⟩ :: mEnt (i + 1) r
def mapO (E : List (Int × Int)) : Obj := .map (mEnt 0 E).toArray E.length
def mfind : List (Int × Int) → Int → Option Int
  | [], _ => none
  | p :: r, k => if p.1 = k then some p.2 else mfind r k
def mget (E : List (Int × Int)) (k : Int) : Int := (mfind E k).getD 0
def mput : List (Int × Int) → Int → Int → List (Int × Int)
  | [], k, v => [(k, v)]
  | p :: r, k, v => if p.1 = k then (k, v) :: r else p :: mput r k v
theorem fnow (k : Int) : ∀ (E : List (Int × Int)) (i0 j : Nat),
    (Instr.findNow (.int .i64) (.int .i64 k) (mEnt i0 E) j = some none ∧ mfind E k = none ∧ ∀ v, mEnt i0 (mput E k v) = mEnt i0 E ++ [⟨.int .i64 k, .int .i64 v, i0 + E.length⟩] ∧ (mput E k v).length = E.length + 1) ∨
    (∃ q v0 b, Instr.findNow (.int .i64) (.int .i64 k) (mEnt i0 E) j = some (some (j + q, .int .i64 v0)) ∧ mfind E k = some v0 ∧ (mEnt i0 E)[q]? = some ⟨.int .i64 k, .int .i64 v0, b⟩ ∧ ∀ v, mEnt i0 (mput E k v) = (mEnt i0 E).set q ⟨.int .i64 k, .int .i64 v, b⟩ ∧ (mput E k v).length = E.length)
  | [], i0, j => .inl ⟨rfl, rfl, fun v => ⟨rfl, rfl⟩⟩
  | p :: r, i0, j => by
    by_cases hp : p.1 = k
    · refine .inr ⟨0, p.2, i0, ?_, ?_, ?_, fun v => ⟨?_, ?_⟩⟩
      · simp [mEnt, Instr.findNow, Instr.sameNow, hp]
      · simp [mfind, hp]
      · simp [mEnt, hp]
      · simp [mput, hp, mEnt]
      · simp [mput, hp]
    · have hp' : ¬ k = p.1 := fun e => hp e.symm
      rcases fnow k r (i0 + 1) (j + 1) with ⟨h1, h2, h3⟩ | ⟨q, v0, b, h1, h2, h3, h4⟩
      · refine .inl ⟨?_, ?_, fun v => ⟨?_, ?_⟩⟩
        · simp only [mEnt, Instr.findNow, Instr.sameNow]
          rw [if_pos trivial, show (k == p.1) = false from by simp [hp']]
          exact h1
        · simp [mfind, hp, h2]
        · simp only [mput, hp, if_false, mEnt, (h3 v).1, List.cons_append, List.length_cons]
          rw [show i0 + 1 + r.length = i0 + (r.length + 1) from by omega]
        · simp [mput, hp, (h3 v).2]
      · refine .inr ⟨q + 1, v0, b, ?_, ?_, ?_, fun v => ⟨?_, ?_⟩⟩
        · simp only [mEnt, Instr.findNow, Instr.sameNow]
          rw [if_pos trivial, show (k == p.1) = false from by simp [hp'], show j + (q + 1) = j + 1 + q from by omega]
          exact h1
        · simp [mfind, hp, h2]
        · simpa [mEnt] using h3
        · simp [mput, hp, mEnt, (h4 v).1]
        · simp [mput, hp, (h4 v).2]
section
variable {P : Program} {w : World} {t k e : TypeId} {b : Nat} {E : List (Int × Int)}
theorem run_mget (ht : P.underlying t = some (.map k e)) (hk : P.underlying k = some (.int .i64)) (hz : (P.info? e).bind (·.zero) = some (.int .i64 0)) (hb : w.heap[b]? = some (mapO E)) (z : Int) :
    (Instr.lookup t (.map (some b)) (.int .i64 z) false).run P w = .ok (.int .i64 (mget E z)) w := by
  have hkey : IsKey (.int .i64) (.int .i64 z) := rfl
  have hb' : w.heap[b]? = some (.map (mEnt 0 E).toArray E.length) := hb
  cases hi : P.info? e with
  | none => rw [hi] at hz; cases hz
  | some i =>
    rw [hi] at hz
    have hz' : i.zero = some (.int .i64 0) := hz
    rcases fnow z E 0 0 with ⟨h1, h2, _⟩ | ⟨q, v0, bb, h1, h2, _, _⟩
    · have h1' : (Instr.findKey k (.int .i64 z) (mEnt 0 E)).run P w = .ok none w := Go.MapKept.run_findKey hk h1
      simp [Instr.lookup, run_underlying ht, Go.MapKept.run_getObj_map hb', Go.MapKept.run_checkKey hk hkey, h1', Result.andThen, zeroValue, typeInfo, program, Sem.run, hi, hz', mget, h2]
    · have h1' : (Instr.findKey k (.int .i64 z) (mEnt 0 E)).run P w = .ok (some (0 + q, .int .i64 v0)) w := Go.MapKept.run_findKey hk h1
      simp [Instr.lookup, run_underlying ht, Go.MapKept.run_getObj_map hb', Go.MapKept.run_checkKey hk hkey, h1', Result.andThen, mget, h2]
theorem run_mput (ht : P.underlying t = some (.map k e)) (hk : P.underlying k = some (.int .i64)) (hb : w.heap[b]? = some (mapO E)) (z v : Int) :
    (Instr.mapUpdate t (.map (some b)) (.int .i64 z) (.int .i64 v)).run P w = .ok () (w.putObj b (mapO (mput E z v))) := by
  have hkey : IsKey (.int .i64) (.int .i64 z) := rfl
  have hb' : w.heap[b]? = some (.map (mEnt 0 E).toArray E.length) := hb
  rcases fnow z E 0 0 with ⟨h1, _, h3⟩ | ⟨q, v0, bb, h1, _, h3, h4⟩
  · have h1' : (Instr.findKey k (.int .i64 z) (mEnt 0 E)).run P w = .ok none w := Go.MapKept.run_findKey hk h1
    simp [Instr.mapUpdate, run_underlying ht, Go.MapKept.run_getObj_map hb', Go.MapKept.run_checkKey hk hkey, h1', Go.MapKept.run_setObj_map _ hb', Result.andThen, mapO, (h3 v).1, (h3 v).2, World.putObj]
  · have h1' : (Instr.findKey k (.int .i64 z) (mEnt 0 E)).run P w = .ok (some (0 + q, .int .i64 v0)) w := Go.MapKept.run_findKey hk h1
    have hm : (mEnt 0 E).modify q (fun e => { key := .int .i64 z, val := .int .i64 v, born := e.born }) = (mEnt 0 E).set q ⟨.int .i64 z, .int .i64 v, bb⟩ := by
      apply List.ext_getElem?
      intro m
      rw [List.getElem?_modify, List.getElem?_set]
      by_cases e : q = m
      · subst e
        obtain ⟨hl, e⟩ := List.getElem?_eq_some_iff.1 h3
        simp [h3, hl, e]
      · simp [e]
    simp [Instr.mapUpdate, run_underlying ht, Go.MapKept.run_getObj_map hb', Go.MapKept.run_checkKey hk hkey, h1', h3, Go.MapKept.run_keyThatStays hkey, Go.MapKept.run_setObj_map _ hb', Result.andThen, mapO, (h4 v).1, (h4 v).2, World.putObj, hm]
end
def mkMC (ops : Array Oper) (i : Nat) : Option Nat := match ops[i]? with
  | some o => match o.op, o.dst with
    | .makeMap _ none, some d => some d
    | _, _ => none
  | none => none
theorem TE_map {X ops i s Q} {lr : List Oper} {d : Nat} (h : mkMC ops i = some d) (hw : (match wantedAt ops s i with | some b => b && Nat.blt d X.N | none => false) = true)
    (next : ∀ b, TL X ops lr { s with σ := (d, .lf (.v (.map (some b)))) :: s.σ, os := (b, mapO []) :: s.os } Q) : TE X ops i lr s Q := by
  unfold mkMC at h
  split at h
  · rename_i o ho
    cases hwd : wantedAt ops s i with
    | none => rw [hwd] at hw; cases hw
    | some bb =>
      rw [hwd] at hw
      simp only [Bool.and_eq_true] at hw
      rw [hw.1] at hwd
      refine TE_op ho hwd fun ids vals a w hr => ?_
      obtain ⟨dst, op, type, pos, after, guard⟩ := o
      simp only at h
      split at h
      · rename_i t' d'
        simp at h
        subst h
        unfold Oper.wpIn
        refine ⟨fun _ _ => trivial, ?_⟩
        rw [Oper.semAt_plain (Fx X.rd) _ _ (by intro c hc; cases hc)]
        have hrun : (execOp a.eval ⟨some d', .makeMap t' none, type, pos, after, guard⟩).run X.P w = .ok (.value (.map (some w.heap.size))) (w.alloc (.map #[] 0)) := rfl
        rw [hrun]
        have hl := hr.later ((Below.refl _ _).alloc (Nat.le_refl _) (.map #[] 0))
        have hr1 : Rel X ids vals { s with os := (w.heap.size, mapO []) :: s.os } a (w.alloc (.map #[] 0)) := {
          size := hl.size
          defers := hl.defers
          marks := hl.marks
          others := fun p hp => by
            rcases List.mem_cons.1 hp with e | e
            · subst e; exact ⟨hr.base, (by show (w.heap.push (mapO []))[w.heap.size]? = some (mapO []); simp), rfl⟩
            · exact hl.others p e
          att := hl.att
          onev := hl.onev
          tmp := hl.tmp
          blk := hl.blk
          inj := hl.inj
          vec := hl.vec
          apart := hl.apart
          mem := hl.mem
          grow := hl.grow
          below := hl.below
          base := hl.base }
        exact next w.heap.size ids vals _ _ (hr1.put (d := d') (x := .lf (.v (.map (some w.heap.size)))) (Eq.mp Nat.blt_eq hw.2) trivial)
      · simp at h
  · simp at h
def luC (P : Program) (s : St) (ops : Array Oper) (i : Nat) : Option (Nat × Nat × Int) := match ops[i]? with
  | some o => match o.op, o.dst with
    | .lookup t x y false, some d => match P.underlying t, evO s x, evO s y with
      | some (.map k e), some (.lf (.v (.map (some b)))), some (.lf (.v (.int .i64 z))) => match P.underlying k, (P.info? e).bind (·.zero) with
        | some (.int .i64), some (.int .i64 0) => some (d, b, z)
        | _, _ => none
      | _, _, _ => none
    | _, _ => none
  | none => none
theorem At_look {X s ops i d b z} {E : List (Int × Int)} (h : luC X.P s ops i = some (d, b, z)) (hos : (b, mapO E) ∈ s.os) : OpAt X s ops i d (.lf (.v (.int .i64 (mget E z)))) := by
  unfold luC at h
  split at h
  · rename_i o ho
    split at h
    · rename_i t x y d' e1 e2
      split at h
      · rename_i k e b' z' u1 u2 u3
        split at h
        · rename_i u4 u5
          simp at h
          obtain ⟨rfl, rfl, rfl⟩ := h
          refine ⟨o, ho, e2, OpV_value (by rw [e1]; intro c hc; cases hc) fun ids vals a w hr => ?_⟩
          have hb := (hr.others _ hos).2.1
          have hr1 := run_mget (P := X.P) (w := w) u1 u4 u5 hb z'
          unfold execOp
          simp only [e1, hr.ev u2, hr.ev u3, SV.val, Lf.val]
          rw [Sem.run_bind, hr1]
          rfl
        · simp at h
      · simp at h
    · simp at h
  · simp at h
def muC (P : Program) (s : St) (ops : Array Oper) (i : Nat) : Option (Nat × Int × Int) := match ops[i]? with
  | some o => match o.op, o.dst with
    | .mapUpdate t x y v, none | .insert t x y v, none => match P.underlying t, evO s x, evO s y, evO s v with
      | some (.map k _), some (.lf (.v (.map (some b)))), some (.lf (.v (.int .i64 z))), some (.lf (.v (.int .i64 u))) => match P.underlying k with
        | some (.int .i64) => some (b, z, u)
        | _ => none
      | _, _, _, _ => none
    | _, _ => none
  | none => none
theorem muC_eq {P s ops i b z u} (h : muC P s ops i = some (b, z, u)) : ∃ o t x y v k e, ops[i]? = some o ∧ (o.op = .mapUpdate t x y v ∨ o.op = .insert t x y v) ∧ o.dst = none ∧ P.underlying t = some (.map k e) ∧ P.underlying k = some (.int .i64) ∧
    evO s x = some (.lf (.v (.map (some b)))) ∧ evO s y = some (.lf (.v (.int .i64 z))) ∧ evO s v = some (.lf (.v (.int .i64 u))) := by
  unfold muC at h
  split at h
  · rename_i o ho
    split at h
    · rename_i t x y v e1 e2
      split at h
      · rename_i k e b' z' u' u1 u2 u3 u4
        split at h
        · rename_i u5
          simp at h
          obtain ⟨rfl, rfl, rfl⟩ := h
          exact ⟨o, t, x, y, v, k, e, ho, .inl e1, e2, u1, u5, u2, u3, u4⟩
        · simp at h
      · simp at h
    · rename_i t x y v e1 e2
      split at h
      · rename_i k e b' z' u' u1 u2 u3 u4
        split at h
        · rename_i u5
          simp at h
          obtain ⟨rfl, rfl, rfl⟩ := h
          exact ⟨o, t, x, y, v, k, e, ho, .inr e1, e2, u1, u5, u2, u3, u4⟩
        · simp at h
      · simp at h
    · simp at h
  · simp at h
theorem TE_mapU {X ops i s Q} {lr : List Oper} {b : Nat} {z u : Int} (E E2 : List (Int × Int)) (hE : E2 = mput E z u) (h : muC X.P s ops i = some (b, z, u)) (hw : wantedAt ops s i = some true) (hos : s.os = [(b, mapO E)]) (hds : s.ds = [])
    (next : TL X ops lr { s with os := [(b, mapO E2)] } Q) : TE X ops i lr s Q := by
  subst hE
  obtain ⟨o, t, x, y, v, k, e, ho, hop, hdst, u1, u2, u3, u4, u5⟩ := muC_eq h
  refine TE_op ho hw fun ids vals a w hr => ?_
  have hmem : (b, mapO E) ∈ s.os := by rw [hos]; exact List.mem_singleton.2 rfl
  obtain ⟨hB, hb, _⟩ := hr.others _ hmem
  have hst := run_mput (P := X.P) (w := w) u1 u2 hb z u
  unfold Oper.wpIn
  refine ⟨fun _ _ => trivial, ?_⟩
  rw [Oper.semAt_plain (Fx X.rd) _ _ (by rcases hop with hop | hop <;> rw [hop] <;> intro c hc <;> cases hc)]
  have hrun : (execOp a.eval o).run X.P w = .ok .skip (w.putObj b (mapO (mput E z u))) := by
    unfold execOp
    rcases hop with hop | hop
    · simp only [hop, hr.ev u3, hr.ev u4, hr.ev u5, SV.val, Lf.val]
      rw [Sem.run_bind, hst]
      rfl
    · simp only [hop, hr.ev u3, hr.ev u4, hr.ev u5, SV.val, Lf.val]
      rw [Sem.run_bind, hst]
      rfl
  rw [hrun]
  have hr0 := hr.forget (s' := { s with os := [] }) (Mem.le_refl _) hr.grow.1 rfl (fun _ _ h => h) (fun _ _ h => h) (fun _ _ h => h) (fun q hq => by cases hq)
  have hr1 := hr0.other (grownBy_putObj' w b (mapO (mput E z u))) (fun r e => by
    cases e
    exact ⟨hB, by rw [show ({ s with os := [] } : St).ds = s.ds from rfl, hds]; simp, _, hb, rfl⟩)
  have hsz : b < w.heap.size := (Array.getElem?_eq_some_iff.1 hb).1
  have hr2 : Rel X ids vals { s with os := [(b, mapO (mput E z u))] } a (w.putObj b (mapO (mput E z u))) := {
    size := hr1.size
    defers := hr1.defers
    marks := hr1.marks
    others := fun p hp => by
      rw [List.mem_singleton.1 hp]
      exact ⟨hB, World.putObj_heap_same hsz, rfl⟩
    att := hr1.att
    onev := hr1.onev
    tmp := hr1.tmp
    blk := hr1.blk
    inj := hr1.inj
    vec := hr1.vec
    apart := hr1.apart
    mem := hr1.mem
    grow := hr1.grow
    below := hr1.below
    base := hr1.base }
  exact next ids vals _ _ (by rw [hdst]; exact rel_putnone hr2 _)
end Go.Proofs.Ythniebmammmacaa
namespace Go.Proofs.Ythniebmammmacaa
open Go.RowKit
def lendA (A : Option Addr) (len c : Nat) : SV → SV
  | .lf (.vec _) => .lf (.v (.slice A len c))
  | y => y
def okA (n : Nat) (l : List SV) : Bool := l.all fun x => match x with
  | .lf (.vec m) => Nat.beq m n
  | y => y.closed
theorem okA_val {n : Nat} {A : Option Addr} {len c : Nat} {ids : Nat → Nat} {vals : Nat → Value} (hv : vals n = .slice A len c) : ∀ {l : List SV}, okA n l = true → l.map (fun x => x.val ids vals) = (l.map (lendA A len c)).map rval
  | [], _ => rfl
  | x :: l, h => by
    simp only [okA, List.all_cons, Bool.and_eq_true] at h
    have ih := okA_val (ids := ids) hv (l := l) h.2
    simp only [List.map_cons, ih]
    congr 1
    have h1 := h.1
    match x with
    | .lf (.vec m) =>
      have : m = n := Nat.eq_of_beq_eq_true h1
      subst this
      exact hv
    | .lf (.v y) => exact SV.closed_val h1
    | .lf (.own a b) => exact SV.closed_val h1
    | .lf (.oel a b) => exact SV.closed_val h1
    | .lf (.vel a b c' d) => exact SV.closed_val h1
    | .lf (.ep a b c' d) => exact SV.closed_val h1
    | .agg l' => exact SV.closed_val h1
    | .tup l' => exact SV.closed_val h1
theorem At_lendV {X : Cx} {s : St} {ops : Array Oper} {i d f : Nat} {argsN : List SV} {x : SV} (n : Nat) {v : Vc} (h : callV X.P s ops i = some (d, f, argsN)) (hv : look s.V n = some v) (hok : okA n argsN = true)
    (hF : ∀ A c M, Mem.le s.M M → SlC M A v.cs → v.len ≤ c → Fn X.P f ((argsN.map (lendA A v.len c)).map rval) M fun y _ => y = x) : OpAt X s ops i d x := by
  obtain ⟨o, fo, ars, tys, h1, h2, h3, h4, h5, h6⟩ := callV_eq h
  refine ⟨o, h1, h2, ?_⟩
  intro ids vals a w hr
  -- what the row is
  obtain ⟨A, c, M, e1, e2, e3, e4, e5⟩ : ∃ A c M, vals n = .slice A v.len c ∧ Mem.le s.M M ∧ Mem.le M (memOf w) ∧ SlC M A v.cs ∧ v.len ≤ c := by
    obtain ⟨hl, hh⟩ := hr.vecAt hv
    rcases hh with ⟨g1, g2⟩ | ⟨g, c, cur, g1, g2, g3, g4, g5, g6, g7⟩
    · refine ⟨none, 0, s.M, by rw [g1, g2], Mem.le_refl _, hr.mem, .inl ?_, by omega⟩
      rw [g2, Nat.zero_mul] at hl
      exact List.length_eq_zero_iff.1 hl
    · have hno := (hr.apart n v g hv (by rw [g1]; rfl)).1
      refine ⟨some ⟨g, 0, none⟩, c, addM s.M g cur, g1, addM_le hno, ?_, .inr ⟨g, 0, rfl, fun j u hu => ?_⟩, g4⟩
      · intro b cc hb
        by_cases e : b = g
        · subst e
          rw [addM_at] at hb
          injection hb with hb
          subst hb
          exact memOf_some.2 ⟨_, _, g3⟩
        · rw [addM_ne e] at hb
          exact hr.mem b cc hb
      · unfold memCell
        rw [addM_at]
        rw [← g7, List.getElem?_take] at hu
        split at hu
        · simpa using hu
        · cases hu
  unfold Oper.wpIn
  refine ⟨fun _ _ => trivial, ?_⟩
  rw [Oper.semAt_plain (Fx X.rd) _ _ (by rw [h3]; intro c hc; cases hc)]
  have hev := hr.ev h4
  have hargs := argsV_eq hr h5
  have hargs2 : ars.map a.eval = ((argsN.map (lendA A v.len c)).map rval).toArray := by
    apply Array.ext'; rw [← okA_val (ids := ids) e1 hok, ← hargs]; simp
  have hrun : (execOp a.eval o).run X.P w = .ok (.enter f ((argsN.map (lendA A v.len c)).map rval).toArray) w := by
    unfold execOp
    simp only [h3, resolve, Sem.run_bind, hev, SV.val, Lf.val, Deferred.ofValue, Sem.run_pure, Result.andThen_ok, invoke, hargs2]
    rw [enters_run h6]
    congr 2
    simp
  rw [hrun]
  refine ⟨by intro hh; simp [Fx, Fence.wide] at hh, ?_⟩
  have hc := hF A c M e2 e4 e5 w e3
  have hc' : CallsIn (Fx X.rd) (0 - 1) X.P f ((argsN.map (lendA A v.len c)).map rval).toArray w (fnPost w M fun y _ => y = x) := by
    cases hrd : X.rd with
    | none => exact hc
    | some l => exact CallsIn.inRound l hc
  refine ⟨hc'.1, fun cs hroom => ?_⟩
  obtain ⟨e, w', fr, ⟨y, M', p1, p2, p3, p4, p5, p6, p7, p8⟩, rest⟩ := hc'.2 cs hroom
  refine ⟨e, w', fr, ?_, rest⟩
  subst p1 p8
  exact ⟨by rw [show rval y = y.val ids vals from (SV.closed_val p2).symm], p4⟩
end Go.Proofs.Ythniebmammmacaa
