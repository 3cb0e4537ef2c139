/- The law ClaimLogs holds of every input. No condition: every theorem names its own hypotheses. -/
import Derived.Test.YthjkejbgknemgaaK5
import Derived.Test.YthjkejbgknemgaaRows
set_option linter.unusedVariables false
set_option linter.unusedSimpArgs false
set_option maxHeartbeats 4000000
namespace Go.Proofs.Ythjkejbgknemgaa
open Go.RowKit Classical
theorem drop_rd {R : List (List Int)} {i : Nat} (h : i < R.length) : R.drop i = rd R i :: R.drop (i + 1) := by
  rw [List.drop_eq_getElem_cons h]
  simp [rd, List.getD_eq_getElem?_getD, List.getElem?_eq_getElem h]
theorem mem_rd {R : List (List Int)} {r : List Int} (h : r ∈ R) : ∃ i, i < R.length ∧ rd R i = r := by
  obtain ⟨i, hi, rfl⟩ := List.getElem_of_mem h
  exact ⟨i, hi, by simp [rd, List.getD_eq_getElem?_getD, List.getElem?_eq_getElem hi]⟩
theorem rd_mem {R : List (List Int)} {i : Nat} (h : i < R.length) : rd R i ∈ R := by
  simp only [rd, List.getD_eq_getElem?_getD, List.getElem?_eq_getElem h, Option.getD_some]
  exact List.getElem_mem h
theorem asc_lt {R : List (List Int)} (ha : ∀ i, i + 1 < R.length → rA (rd R i) < rA (rd R (i + 1))) : ∀ {d i : Nat}, i + d + 1 < R.length → rA (rd R i) < rA (rd R (i + d + 1))
  | 0, i, h => ha i h
  | d + 1, i, h => by
    have h1 := asc_lt ha (d := d) (i := i) (by omega)
    have h2 := ha (i + d + 1) (by omega)
    have : i + (d + 1) + 1 = i + d + 1 + 1 := by omega
    rw [this]; omega
theorem asc_le {R : List (List Int)} (ha : ∀ i, i + 1 < R.length → rA (rd R i) < rA (rd R (i + 1))) {i j : Nat} (hij : i ≤ j) (hj : j < R.length) : rA (rd R i) ≤ rA (rd R j) := by
  rcases Nat.eq_or_lt_of_le hij with e | e
  · rw [e]; exact Int.le_refl _
  · have := asc_lt ha (d := j - i - 1) (i := i) (by omega)
    rw [show i + (j - i - 1) + 1 = j from by omega] at this
    omega
theorem ArgOk.range {R D} (h : ArgOk R D) {i : Nat} (hi : i < R.length) : stT R ≤ rA (rd R i) ∧ rA (rd R i) ≤ stT R + lastI R := by
  have := h.n2
  refine ⟨asc_le h.asc (Nat.zero_le _) hi, ?_⟩
  have := asc_le h.asc (i := i) (j := R.length - 1) (by omega) (by omega)
  unfold lastI
  omega
theorem ArgOk.st {R D} (h : ArgOk R D) : 0 ≤ stT R ∧ stT R ≤ 1099511627776 := by
  have := h.n2
  have := h.read 0 (by omega)
  exact ⟨this.1, this.2.1⟩
theorem ArgOk.last {R D} (h : ArgOk R D) : 1 ≤ lastI R := by
  have h2 := h.n2
  have := h.asc 0 (by omega)
  rw [Nat.zero_add] at this
  have h3 := asc_le h.asc (i := 1) (j := R.length - 1) (by omega) (by omega)
  unfold lastI stT
  omega
theorem p45_eq {k : Nat} {R : List (List Int)} {D : List Int} {m : Int} (h0 : 0 < R.length) (h1 : -9223372036854775808 ≤ stT R + m) (h2 : stT R + m ≤ 9223372036854775807) : p45 k R D m = some (stT R + m) := by
  unfold p45
  rw [gd_v (by omega)]
  simp only [lt_v]
  rw [show (R.getD 0 []).getD 0 0 + m = stT R + m from rfl, wr64 h1 h2]
theorem p53_eq {k : Nat} {R : List (List Int)} {D : List Int} (h0 : 0 < R.length) (hn : R.length ≤ 64) (h1 : -9223372036854775808 ≤ lastI R) (h2 : lastI R ≤ 9223372036854775807) : p53 k R D = some (lastI R) := by
  unfold p53
  simp only [lt_v]
  rw [wr64 (by omega) (by omega), gd_v (by omega), gd_v (by omega)]
  rw [show ((R.length : Int) - 1).toNat = R.length - 1 from by omega]
  rw [show (R.getD (R.length - 1) []).getD 0 0 - (R.getD 0 []).getD 0 0 = lastI R from rfl, wr64 h1 h2]
theorem p16_l1_eq {k : Nat} {R : List (List Int)} {D : List Int} {m t : Int} (hn : R.length ≤ 64) (ht : p45 k R D m = some t) (j : List Int → Option (List Int)) : ∀ (d i n : Nat) (a b : Int), i + d = R.length → d < n →
    p16_l1 k R D m j n (i : Int) [a, b] = j [PL t (R.drop i) a, PH t (R.drop i) b]
  | 0, i, n, a, b, h1, h2 => by
    obtain ⟨n, rfl⟩ : ∃ n', n = n' + 1 := ⟨n - 1, by omega⟩
    rw [p16_l1]
    simp only [lt_v, sp_d]
    rw [if_neg (by omega), List.drop_eq_nil_of_le (by omega)]
    rfl
  | d + 1, i, n, a, b, h1, h2 => by
    obtain ⟨n, rfl⟩ : ∃ n', n = n' + 1 := ⟨n - 1, by omega⟩
    rw [p16_l1]
    simp only [lt_v, sp_d, jn_v]
    rw [if_pos (by omega), gd_v (by omega)]
    simp only [ht, cl_v, mx_eq, mn_eq, Int.toNat_natCast]
    have hw : wr .i64 ((i : Int) + 1) = ((i + 1 : Nat) : Int) := by rw [wr64 (by omega) (by omega)]; omega
    rw [drop_rd (by omega : i < R.length)]
    simp only [PL, PH]
    have ih := fun a b => p16_l1_eq hn ht j d (i + 1) n a b (by omega) (by omega)
    show (if rA (rd R i) ≤ t then _ else _) = _
    have e1 : ∀ a b x : Int, List.set [a, b] 0 x = [x, b] := fun _ _ _ => rfl
    have e2 : ∀ a b x : Int, List.set [a, b] 1 x = [a, x] := fun _ _ _ => rfl
    simp only [e1, e2, List.getD_cons_zero, List.getD_cons_succ, hw, ih, ge_iff_le]
    show (if rA (rd R i) ≤ t then (if t ≤ rA (rd R i) then _ else _) else (if t ≤ rA (rd R i) then _ else _)) = _
    split <;> split <;> rfl
theorem p16_eq {k : Nat} (hk : 5000 ≤ k) {R : List (List Int)} {D : List Int} {m : Int} (h0 : 0 < R.length) (hn : R.length ≤ 64) (h1 : -9223372036854775808 ≤ stT R + m) (h2 : stT R + m ≤ 9223372036854775807) : p16 k R D m = some [pl R m, ph R m] := by
  unfold p16
  simp only [jn_v]
  have := p16_l1_eq hn (p45_eq (k := k) (D := D) h0 h1 h2) (fun L => some L) R.length 0 k (-1099511627776) 1099511627776 (by omega) (by omega)
  rw [List.drop_zero] at this
  exact this
theorem ab_mul {d x : Int} (h0 : 0 ≤ d) (h1 : d ≤ 1048576) (h2 : -2001 ≤ x) (h3 : x ≤ 2001) : 0 ≤ d * ab x ∧ d * ab x ≤ 2098200576 := by
  have : 0 ≤ ab x ∧ ab x ≤ 2001 := by unfold ab; omega
  constructor
  · exact Int.mul_nonneg h0 this.1
  · calc d * ab x ≤ 1048576 * 2001 := Int.mul_le_mul h1 this.2 this.1 (by omega)
      _ = 2098200576 := by rfl
theorem p17_l1_eq {k : Nat} {R : List (List Int)} {D : List Int} {m : Int} {kk : Nat} (hn : R.length ≤ 64) (ha : ArgOk R D) (hm0 : 0 ≤ m) (hm1 : m ≤ lastI R) (hk4 : kk < 4) (j : List Int → Option (List Int)) : ∀ (d i n : Nat) (a b : Int), i + d = R.length → d < n →
    p17_l1 k R D m (kk : Int) j n (i : Int) [a, b] = j [VL (D.getD kk 0) kk (stT R + m) (R.drop i) a, VH (D.getD kk 0) kk (stT R + m) (R.drop i) b]
  | 0, i, n, a, b, h1, h2 => by
    obtain ⟨n, rfl⟩ : ∃ n', n = n' + 1 := ⟨n - 1, by omega⟩
    rw [p17_l1]
    simp only [lt_v, sp_d]
    rw [if_neg (by omega), List.drop_eq_nil_of_le (by omega)]
    rfl
  | d + 1, i, n, a, b, h1, h2 => by
    obtain ⟨n, rfl⟩ : ∃ n', n = n' + 1 := ⟨n - 1, by omega⟩
    have hst := ha.st
    have hsp := ha.span
    have hrg := ha.range (i := i) (by omega)
    have hdr := ha.dr kk hk4
    have hrd := (ha.read i (by omega)).2.2.2 kk hk4
    have h45 : p45 k R D m = some (stT R + m) := p45_eq (by omega) (by omega) (by omega)
    have hmul := ab_mul hdr.1 hdr.2 (x := rA (rd R i) - (stT R + m)) (by omega) (by omega)
    have hw : wr .i64 ((i : Int) + 1) = ((i + 1 : Nat) : Int) := by rw [wr64 (by omega) (by omega)]; omega
    rw [p17_l1]
    simp only [lt_v, sp_d, h45, cl_v, Int.toNat_natCast]
    rw [if_pos (by omega), gd_v (by omega), gd_v (by omega), gd_v (by omega), gd_v (by omega), gd_v (by omega)]
    rw [show List.getD (List.getD R i []) 0 0 = rA (rd R i) from rfl]
    rw [wr64 (z := rA (rd R i) - (stT R + m)) (by omega) (by omega), wr64 (z := stT R + m - rA (rd R i)) (by omega) (by omega)]
    simp only [mx_eq, mn_eq]
    rw [show max (rA (rd R i) - (stT R + m)) (stT R + m - rA (rd R i)) = ab (rA (rd R i) - (stT R + m)) from by unfold ab; omega]
    rw [show D.getD (0 + kk * 1) 0 = D.getD kk 0 from by rw [Nat.zero_add, Nat.mul_one]]
    rw [wr64 (z := D.getD kk 0 * ab (rA (rd R i) - (stT R + m))) (by omega) (by omega)]
    rw [show List.getD (List.getD R i []) (3 + kk * 2 + 0) 0 = rVL kk (rd R i) from rfl, show List.getD (List.getD R i []) (3 + kk * 2 + 1) 0 = rVH kk (rd R i) from rfl]
    unfold bandOk at hrd
    rw [wr64 (z := rVL kk (rd R i) - _) (by omega) (by omega), wr64 (z := rVH kk (rd R i) + _) (by omega) (by omega), hw]
    have e1 : ∀ a b x : Int, List.set [a, b] 0 x = [x, b] := fun _ _ _ => rfl
    have e2 : ∀ a b x : Int, List.set [a, b] 1 x = [a, x] := fun _ _ _ => rfl
    simp only [e1, e2, List.getD_cons_zero, List.getD_cons_succ]
    rw [p17_l1_eq hn ha hm0 hm1 hk4 j d (i + 1) n _ _ (by omega) (by omega), drop_rd (by omega : i < R.length)]
    rfl
theorem p17_eq {k : Nat} (hk : 5000 ≤ k) {R : List (List Int)} {D : List Int} {m : Int} {kk : Nat} (hn : R.length ≤ 64) (ha : ArgOk R D) (hm0 : 0 ≤ m) (hm1 : m ≤ lastI R) (hk4 : kk < 4) : p17 k R D m (kk : Int) = some [vl R D kk m, vh R D kk m] := by
  unfold p17
  simp only [jn_v]
  have := p17_l1_eq (k := k) hn ha hm0 hm1 hk4 (fun L => some L) R.length 0 k (-1125899906842624) 1125899906842624 (by omega) (by omega)
  rw [List.drop_zero] at this
  exact this
theorem if_all {α : Type} {P Q S : Prop} [Decidable P] [Decidable Q] [Decidable S] (h : P ↔ Q ∧ S) (x y : α) : (if P then x else y) = if Q then (if S then x else y) else y := by
  by_cases hq : Q <;> by_cases hs : S <;> simp [h, hq, hs]
theorem if_row {α : Type} {c1 c2 c3 c4 P : Prop} [Decidable c1] [Decidable c2] [Decidable c3] [Decidable c4] [Decidable P] (h : P ↔ c1 ∧ ¬ c3 ∧ c2 ∧ c4) (X Z : α) : (if c1 then (if c3 then Z else (if c2 then (if c4 then X else Z) else Z)) else Z) = if P then X else Z := by
  by_cases h1 : c1 <;> by_cases h2 : c2 <;> by_cases h3 : c3 <;> by_cases h4 : c4 <;> simp [h, h1, h2, h3, h4]
theorem if_row' {α : Type} {c1 c2 c3 c4 P : Prop} [Decidable c1] [Decidable c2] [Decidable c3] [Decidable c4] [Decidable P] (h : P ↔ c1 ∧ ¬ c3 ∧ c2 ∧ c4) (X Z : α) : (if c1 then (if c2 then (if c3 then Z else (if c4 then X else Z)) else Z) else Z) = if P then X else Z := by
  by_cases h1 : c1 <;> by_cases h2 : c2 <;> by_cases h3 : c3 <;> by_cases h4 : c4 <;> simp [h, h1, h2, h3, h4]
theorem if_row0 {α : Type} {c1 c2 c4 P : Prop} [Decidable c1] [Decidable c2] [Decidable c4] [Decidable P] (h : P ↔ c1 ∧ c2 ∧ c4) (X Z : α) : (if c1 then (if c2 then (if c4 then X else Z) else Z) else Z) = if P then X else Z := by
  by_cases h1 : c1 <;> by_cases h2 : c2 <;> by_cases h4 : c4 <;> simp [h, h1, h2, h4]
theorem p21_l2_eq {k : Nat} {j : Option Int} {L : List Int} : ∀ (d i n : Nat), i + d = 4 → d < n → p21_l2 k j L n (i : Int) = if ∀ q, i ≤ q → q < 4 → bandOk (rVL q L) (rVH q L) then j else some 2
  | 0, i, n, h1, h2 => by
    obtain ⟨n, rfl⟩ : ∃ n', n = n' + 1 := ⟨n - 1, by omega⟩
    rw [p21_l2]
    simp only [lt_v, sp_d]
    rw [if_neg (by omega), if_pos (fun q h3 h4 => by omega)]
  | d + 1, i, n, h1, h2 => by
    obtain ⟨n, rfl⟩ : ∃ n', n = n' + 1 := ⟨n - 1, by omega⟩
    rw [p21_l2]
    simp only [lt_v, sp_d, p52_eq, cl_v, Int.toNat_natCast]
    rw [if_pos (by omega), gd_v (by omega)]
    have hw : wr .i64 ((i : Int) + 1) = ((i + 1 : Nat) : Int) := by rw [wr64 (by omega) (by omega)]; omega
    rw [hw, p21_l2_eq d (i + 1) n (by omega) (by omega)]
    have e0 : (List.take 2 (List.drop (3 + i * 2) L)).getD 0 0 = rVL i L := by simp [rVL, List.getD_eq_getElem?_getD]
    have e1 : (List.take 2 (List.drop (3 + i * 2) L)).getD 1 0 = rVH i L := by simp [rVH, List.getD_eq_getElem?_getD]
    rw [e0, e1]
    rw [if_all (P := ∀ q, i ≤ q → q < 4 → bandOk (rVL q L) (rVH q L)) (Q := bandOk (rVL i L) (rVH i L)) (S := ∀ q, i + 1 ≤ q → q < 4 → bandOk (rVL q L) (rVH q L)) ?_]
    constructor
    · intro h; exact ⟨h i (by omega) (by omega), fun q h3 h4 => h q (by omega) h4⟩
    · rintro ⟨h3, h4⟩ q h5 h6
      rcases Nat.eq_or_lt_of_le h5 with e | e
      · subst e; exact h3
      · exact h4 q e h6
def rowOkAt (R : List (List Int)) (i : Nat) : Prop := readOk (rd R i) ∧ (0 < i → rA (rd R (i - 1)) < rA (rd R i))
theorem p21_l1_eq {k : Nat} (hk : 5000 ≤ k) {R : List (List Int)} (hn : R.length ≤ 64) {j : Option Int} : ∀ (d i n : Nat), i + d = R.length → d < n → p21_l1 k R j n (i : Int) = if ∀ q, i ≤ q → q < R.length → rowOkAt R q then j else some 2
  | 0, i, n, h1, h2 => by
    obtain ⟨n, rfl⟩ : ∃ n', n = n' + 1 := ⟨n - 1, by omega⟩
    rw [p21_l1]
    simp only [lt_v, sp_d]
    rw [if_neg (by omega), if_pos (fun q h3 h4 => by omega)]
  | d + 1, i, n, h1, h2 => by
    obtain ⟨n, rfl⟩ : ∃ n', n = n' + 1 := ⟨n - 1, by omega⟩
    rw [p21_l1]
    simp only [lt_v, sp_d, p52_eq, p50_eq, cl_v, jn_v, Int.toNat_natCast]
    rw [if_pos (by omega), gd_v (by omega)]
    have hw : wr .i64 ((i : Int) + 1) = ((i + 1 : Nat) : Int) := by rw [wr64 (by omega) (by omega)]; omega
    rw [hw, p21_l1_eq hk hn d (i + 1) n (by omega) (by omega)]
    have h2' := p21_l2_eq (k := k) (j := if ∀ q, i + 1 ≤ q → q < R.length → rowOkAt R q then j else some 2) (L := rd R i) 4 0 k (by omega) (by omega)
    have hl2 : p21_l2 k (if ∀ q, i + 1 ≤ q → q < R.length → rowOkAt R q then j else some 2) (R.getD i []) k 0 = _ := h2'
    rw [hl2]
    have e0 : (List.take 2 (List.drop 1 (R.getD i []))).getD 0 0 = rPL (rd R i) := by simp [rPL, rd, List.getD_eq_getElem?_getD]
    have e1 : (List.take 2 (List.drop 1 (R.getD i []))).getD 1 0 = rPH (rd R i) := by simp [rPH, rd, List.getD_eq_getElem?_getD]
    rw [e0, e1]
    rw [if_all (P := ∀ q, i ≤ q → q < R.length → rowOkAt R q) (Q := rowOkAt R i) (S := ∀ q, i + 1 ≤ q → q < R.length → rowOkAt R q) (by
      constructor
      · intro h; exact ⟨h i (by omega) (by omega), fun q h3 h4 => h q (by omega) h4⟩
      · rintro ⟨h3, h4⟩ q h5 h6
        rcases Nat.eq_or_lt_of_le h5 with e | e
        · subst e; exact h3
        · exact h4 q e h6)]
    generalize hX : (if ∀ q, i + 1 ≤ q → q < R.length → rowOkAt R q then j else some 2) = X
    have hA : List.getD (R.getD i []) 0 0 = rA (rd R i) := rfl
    rw [hA]
    by_cases hi : 0 < i
    · have hw2 : wr .i64 ((i : Int) - 1) = ((i - 1 : Nat) : Int) := by rw [wr64 (by omega) (by omega)]; omega
      rw [if_pos (show (i : Int) > 0 by omega), hw2, gd_v (by omega)]
      simp only [Int.toNat_natCast, sp_tt, sp_nd]
      refine if_row (c3 := rA (rd R i) ≤ rA (rd R (i - 1))) ?_ _ _
      unfold rowOkAt readOk
      constructor
      · rintro ⟨⟨a1, a2, a3, a4⟩, a5⟩
        exact ⟨⟨a1, a2⟩, by have := a5 hi; omega, a3, fun q _ hq => a4 q hq⟩
      · rintro ⟨⟨a1, a2⟩, a3, a4, a5⟩
        exact ⟨⟨a1, a2, a4, fun q hq => a5 q (Nat.zero_le _) hq⟩, fun _ => by omega⟩
    · rw [if_neg (show ¬ (i : Int) > 0 by omega)]
      simp only [sp_tt, sp_nd]
      refine if_row0 ?_ _ _
      unfold rowOkAt readOk
      constructor
      · rintro ⟨⟨a1, a2, a3, a4⟩, a5⟩
        exact ⟨⟨a1, a2⟩, a3, fun q _ hq => a4 q hq⟩
      · rintro ⟨⟨a1, a2⟩, a4, a5⟩
        exact ⟨⟨a1, a2, a4, fun q hq => a5 q (Nat.zero_le _) hq⟩, fun h => absurd h hi⟩
theorem p21_l3_eq {k : Nat} {D : List Int} {j : Option Int} : ∀ (d i n : Nat), i + d = 4 → d < n → p21_l3 k D j n (i : Int) = if ∀ q, i ≤ q → q < 4 → 0 ≤ D.getD q 0 ∧ D.getD q 0 ≤ 1048576 then j else some 2
  | 0, i, n, h1, h2 => by
    obtain ⟨n, rfl⟩ : ∃ n', n = n' + 1 := ⟨n - 1, by omega⟩
    rw [p21_l3]
    simp only [lt_v, sp_d]
    rw [if_neg (by omega), if_pos (fun q h3 h4 => by omega)]
  | d + 1, i, n, h1, h2 => by
    obtain ⟨n, rfl⟩ : ∃ n', n = n' + 1 := ⟨n - 1, by omega⟩
    rw [p21_l3]
    simp only [lt_v, sp_d, p50_eq, cl_v, Int.toNat_natCast]
    rw [if_pos (by omega), gd_v (by omega)]
    have hw : wr .i64 ((i : Int) + 1) = ((i + 1 : Nat) : Int) := by rw [wr64 (by omega) (by omega)]; omega
    rw [hw, p21_l3_eq d (i + 1) n (by omega) (by omega)]
    rw [if_all (P := ∀ q, i ≤ q → q < 4 → 0 ≤ D.getD q 0 ∧ D.getD q 0 ≤ 1048576) (Q := 0 ≤ D.getD i 0 ∧ D.getD i 0 ≤ 1048576) (S := ∀ q, i + 1 ≤ q → q < 4 → 0 ≤ D.getD q 0 ∧ D.getD q 0 ≤ 1048576) ?_]
    · simp only [Nat.zero_add, Nat.mul_one]
    constructor
    · intro h; exact ⟨h i (by omega) (by omega), fun q h3 h4 => h q (by omega) h4⟩
    · rintro ⟨h3, h4⟩ q h5 h6
      rcases Nat.eq_or_lt_of_le h5 with e | e
      · subst e; exact h3
      · exact h4 q e h6
theorem p21_l5_eq {k : Nat} (hk : 5000 ≤ k) {R : List (List Int)} {D : List Int} (hn : R.length ≤ 64) (ha : ArgOk R D) {m : Int} (hm0 : 0 ≤ m) (hm1 : m ≤ lastI R) {j : Option Int} : ∀ (d i n : Nat), i + d = 4 → d < n → p21_l5 k R D m j n (i : Int) = if ∀ q, i ≤ q → q < 4 → vl R D q m ≤ vh R D q m then j else some 16
  | 0, i, n, h1, h2 => by
    obtain ⟨n, rfl⟩ : ∃ n', n = n' + 1 := ⟨n - 1, by omega⟩
    rw [p21_l5]
    simp only [lt_v, sp_d]
    rw [if_neg (by omega), if_pos (fun q h3 h4 => by omega)]
  | d + 1, i, n, h1, h2 => by
    obtain ⟨n, rfl⟩ : ∃ n', n = n' + 1 := ⟨n - 1, by omega⟩
    rw [p21_l5]
    simp only [lt_v, sp_d, p17_eq hk hn ha hm0 hm1 (show i < 4 by omega), cl_v]
    rw [if_pos (by omega), gd_v (c := [_, _].length = 2) rfl]
    have hw : wr .i64 ((i : Int) + 1) = ((i + 1 : Nat) : Int) := by rw [wr64 (by omega) (by omega)]; omega
    rw [hw, p21_l5_eq hk hn ha hm0 hm1 d (i + 1) n (by omega) (by omega)]
    simp only [List.getD_cons_zero, List.getD_cons_succ]
    rw [if_all (P := ∀ q, i ≤ q → q < 4 → vl R D q m ≤ vh R D q m) (Q := vl R D i m ≤ vh R D i m) (S := ∀ q, i + 1 ≤ q → q < 4 → vl R D q m ≤ vh R D q m) ?_]
    · by_cases c : vl R D i m ≤ vh R D i m
      · rw [if_pos c, if_neg (by omega)]
      · rw [if_neg c, if_pos (by omega)]
    constructor
    · intro h; exact ⟨h i (by omega) (by omega), fun q h3 h4 => h q (by omega) h4⟩
    · rintro ⟨h3, h4⟩ q h5 h6
      rcases Nat.eq_or_lt_of_le h5 with e | e
      · subst e; exact h3
      · exact h4 q e h6
theorem p21_l4_eq {k : Nat} (hk : 5000 ≤ k) {R : List (List Int)} {D : List Int} (hn : R.length ≤ 64) (ha : ArgOk R D) {j : Option Int} : ∀ (d n : Nat) (m : Int), 0 ≤ m → m + d = lastI R + 1 → d < n → p21_l4 k R D j n m = if ∀ q, m ≤ q → q ≤ lastI R → SumAt R D q then j else some 16
  | 0, n, m, h0, h1, h2 => by
    obtain ⟨n, rfl⟩ : ∃ n', n = n' + 1 := ⟨n - 1, by omega⟩
    have := ha.last
    have := ha.span
    have := ha.n2
    rw [p21_l4]
    simp only [lt_v, sp_d, p53_eq (k := k) (D := D) (by omega) hn (by omega) (by omega), cl_v]
    rw [if_neg (by omega), if_pos (fun q h3 h4 => by omega)]
  | d + 1, n, m, h0, h1, h2 => by
    obtain ⟨n, rfl⟩ : ∃ n', n = n' + 1 := ⟨n - 1, by omega⟩
    have := ha.last
    have := ha.span
    have := ha.n2
    have := ha.st
    rw [p21_l4]
    simp only [lt_v, sp_d, jn_v, p53_eq (k := k) (D := D) (by omega) hn (by omega) (by omega), p16_eq (D := D) hk (by omega) hn (show -9223372036854775808 ≤ stT R + m by omega) (by omega), cl_v]
    rw [if_pos (by omega), gd_v (c := [_, _].length = 2) rfl, wr64 (by omega) (by omega), p21_l4_eq hk hn ha d n (m + 1) (by omega) (by omega) (by omega)]
    have h5 := p21_l5_eq hk hn ha h0 (show m ≤ lastI R by omega) (j := if ∀ q, m + 1 ≤ q → q ≤ lastI R → SumAt R D q then j else some 16) 4 0 k (by omega) (by omega)
    rw [show (0 : Int) = ((0 : Nat) : Int) from rfl, h5]
    simp only [List.getD_cons_zero, List.getD_cons_succ]
    rw [if_all (P := ∀ q, m ≤ q → q ≤ lastI R → SumAt R D q) (Q := SumAt R D m) (S := ∀ q, m + 1 ≤ q → q ≤ lastI R → SumAt R D q) ?_]
    · by_cases c : pl R m ≤ ph R m <;> by_cases c2 : ∀ q, q < 4 → vl R D q m ≤ vh R D q m
      · rw [if_neg (by omega), if_pos (fun q _ => c2 q), if_pos (show SumAt R D m from ⟨c, c2⟩)]
      · rw [if_neg (by omega), if_neg (fun h => c2 fun q => h q (Nat.zero_le _)), if_neg (fun h : SumAt R D m => c2 h.2)]
      · rw [if_pos (by omega), if_neg (fun h : SumAt R D m => c h.1)]
      · rw [if_pos (by omega), if_neg (fun h : SumAt R D m => c h.1)]
    constructor
    · intro h; exact ⟨h m (by omega) (by omega), fun q h3 h4 => h q (by omega) h4⟩
    · rintro ⟨h3, h4⟩ q h5 h6
      by_cases e : q = m
      · subst e; exact h3
      · exact h4 q (by omega) h6
theorem p21_l1_eq0 {k : Nat} (hk : 5000 ≤ k) {R : List (List Int)} (hn : R.length ≤ 64) {j : Option Int} : p21_l1 k R j k 0 = if ∀ q, q < R.length → rowOkAt R q then j else some 2 := by
  have := p21_l1_eq hk hn (j := j) R.length 0 k (by omega) (by omega)
  simpa using this
theorem p21_l3_eq0 {k : Nat} (hk : 5 ≤ k) {D : List Int} {j : Option Int} : p21_l3 k D j k 0 = if ∀ q, q < 4 → 0 ≤ D.getD q 0 ∧ D.getD q 0 ≤ 1048576 then j else some 2 := by
  have := p21_l3_eq (k := k) (D := D) (j := j) 4 0 k (by omega) (by omega)
  simpa using this
theorem p21_eq {k : Nat} (hk : 5000 ≤ k) {R : List (List Int)} {D : List Int} (hD : D.length = 4) (hb : ∀ r ∈ R, ∀ z ∈ r, -9223372036854775808 ≤ z ∧ z ≤ 9223372036854775807) : p21 k R D = some (logE R D) := by
  unfold p21 logE
  simp only [lt_v, sp_d, jn_v]
  by_cases hn : 64 < R.length
  · rw [if_pos (by omega), if_pos hn]
  · rw [if_neg (by omega), if_neg hn]
    have hn' : R.length ≤ 64 := by omega
    by_cases h2 : R.length < 2
    · rw [if_pos (by omega), if_pos (fun h => by have := h.n2; omega)]
    · rw [if_neg (by omega)]
      rw [p21_l1_eq0 hk hn']
      by_cases hrow : ∀ q, q < R.length → rowOkAt R q
      · rw [if_pos hrow]
        have hasc : ∀ i, i + 1 < R.length → rA (rd R i) < rA (rd R (i + 1)) := fun i hi => by
          have := (hrow (i + 1) hi).2 (by omega)
          simpa using this
        have r0 := (hrow 0 (by omega)).1
        have r1 := (hrow (R.length - 1) (by omega)).1
        unfold readOk at r0 r1
        have hla : lastI R = rA (rd R (R.length - 1)) - rA (rd R 0) := rfl
        rw [wr64 (z := (R.length : Int) - 1) (by omega) (by omega), gd_v (by omega), gd_v (by omega), show ((R.length : Int) - 1).toNat = R.length - 1 from by omega]
        rw [show (R.getD (R.length - 1) []).getD 0 0 - (R.getD 0 []).getD 0 0 = lastI R from rfl, wr64 (z := lastI R) (by omega) (by omega)]
        by_cases hs : lastI R ≤ 2000
        · rw [if_neg (by omega), p21_l3_eq0 (by omega)]
          by_cases hd : ∀ q, q < 4 → 0 ≤ D.getD q 0 ∧ D.getD q 0 ≤ 1048576
          · have ha : ArgOk R D := ⟨by omega, fun i hi => (hrow i hi).1, hasc, hs, hd⟩
            rw [if_pos hd, if_neg (fun h => h ha)]
            have hla1 := ha.last
            rw [p21_l4_eq hk hn' ha (lastI R + 1).toNat k 0 (by omega) (by omega) (by omega)]
            by_cases hq : ∀ q, 0 ≤ q → q ≤ lastI R → SumAt R D q
            · rw [if_pos hq, if_neg (fun h : ¬ SumOk R D => h hq)]
            · rw [if_neg hq, if_pos (show ¬ SumOk R D from hq)]
          · rw [if_neg hd, if_pos (fun h => hd h.dr)]
        · rw [if_pos (by omega), if_pos (fun h => hs h.span)]
      · rw [if_neg hrow, if_pos]
        intro h
        refine hrow fun q hq => ⟨h.read q hq, fun h0 => ?_⟩
        have := h.asc (q - 1) (by omega)
        rw [show q - 1 + 1 = q from by omega] at this
        exact this
end Go.Proofs.Ythjkejbgknemgaa
namespace Go.Proofs.Ythjkejbgknemgaa
open Go.RowKit Classical
def ML : List (List Int) → Int → Int
  | [], a => a
  | r :: l, a => ML l (max a (r.getD 0 0))
def MH : List (List Int) → Int → Int
  | [], b => b
  | r :: l, b => MH l (min b (r.getD 1 0))
theorem p83_l1_eq {k : Nat} {P : List (List Int)} (hn : P.length ≤ 1000) (j : List Int → Option (List Int)) : ∀ (d i n : Nat) (a b : Int), i + d = P.length → d < n →
    p83_l1 k j P n (i : Int) [a, b] = j [ML (P.drop i) a, MH (P.drop i) b]
  | 0, i, n, a, b, h1, h2 => by
    obtain ⟨n, rfl⟩ : ∃ n', n = n' + 1 := ⟨n - 1, by omega⟩
    rw [p83_l1]
    simp only [lt_v, sp_d]
    rw [if_neg (by omega), List.drop_eq_nil_of_le (by omega)]
    rfl
  | d + 1, i, n, a, b, h1, h2 => by
    obtain ⟨n, rfl⟩ : ∃ n', n = n' + 1 := ⟨n - 1, by omega⟩
    rw [p83_l1]
    simp only [lt_v, sp_d, mx_eq, mn_eq, Int.toNat_natCast]
    have hw : wr .i64 ((i : Int) + 1) = ((i + 1 : Nat) : Int) := by rw [wr64 (by omega) (by omega)]; omega
    rw [if_pos (by omega), gd_v (by omega), hw]
    have e1 : ∀ a b x : Int, List.set [a, b] 0 x = [x, b] := fun _ _ _ => rfl
    have e2 : ∀ a b x : Int, List.set [a, b] 1 x = [a, x] := fun _ _ _ => rfl
    simp only [e1, e2, List.getD_cons_zero, List.getD_cons_succ]
    rw [p83_l1_eq hn j d (i + 1) n _ _ (by omega) (by omega), drop_rd (by omega : i < P.length)]
    rfl
theorem p83_eq {k : Nat} (hk : 5000 ≤ k) {a b : Int} {P : List (List Int)} (hn : P.length ≤ 100) : p83 k ([a, b] :: P) = some [ML P a, MH P b] := by
  unfold p83
  simp only [jn_v, lt_v]
  rw [gd_v (by simp), gd_v (by simp)]
  have hp : part ([a, b] :: P) ((1 : Int)).toNat ([a, b] :: P).length = P := by
    have : ((1 : Int)).toNat = 1 := rfl
    simp [part, this]
  rw [hp]
  have := p83_l1_eq (k := k) (P := P) (by omega) (fun L5 => some L5) P.length 0 k a b (by omega) (by omega)
  rw [List.drop_zero] at this
  exact this
theorem p83_two {k : Nat} (hk : 5000 ≤ k) {a b c d : Int} : p83 k [[a, b], [c, d]] = some [max a c, min b d] := by
  rw [p83_eq hk (by simp)]
  rfl
theorem PL_base {t b b' : Int} {l : List (List Int)} {r : List Int} (hr : r ∈ l) (ht : rA r ≤ t) (h1 : b ≤ rPL r) (h2 : b' ≤ rPL r) : PL t l b = PL t l b' := by
  have h3 : PL t l b ≤ PL t l b' := PL_le.2 ⟨Int.le_trans h1 ((PL_le.1 (Int.le_refl _)).2 r hr ht), fun q hq hqt => (PL_le.1 (Int.le_refl (PL t l b'))).2 q hq hqt⟩
  have h4 : PL t l b' ≤ PL t l b := PL_le.2 ⟨Int.le_trans h2 ((PL_le.1 (Int.le_refl _)).2 r hr ht), fun q hq hqt => (PL_le.1 (Int.le_refl (PL t l b))).2 q hq hqt⟩
  omega
theorem PH_base {t b b' : Int} {l : List (List Int)} {r : List Int} (hr : r ∈ l) (ht : t ≤ rA r) (h1 : rPH r ≤ b) (h2 : rPH r ≤ b') : PH t l b = PH t l b' := by
  have h3 : PH t l b ≤ PH t l b' := le_PH.2 ⟨Int.le_trans ((le_PH.1 (Int.le_refl _)).2 r hr ht) h2, fun q hq hqt => (le_PH.1 (Int.le_refl (PH t l b))).2 q hq hqt⟩
  have h4 : PH t l b' ≤ PH t l b := le_PH.2 ⟨Int.le_trans ((le_PH.1 (Int.le_refl _)).2 r hr ht) h1, fun q hq hqt => (le_PH.1 (Int.le_refl (PH t l b'))).2 q hq hqt⟩
  omega
theorem p73_l1_eq {k : Nat} (hk : 5000 ≤ k) {R : List (List Int)} {t : Int} (hn : R.length ≤ 64) (j : List Int → Option (List Int)) (hr : ∀ i, i < R.length → readOk (rd R i)) : ∀ (d i n : Nat) (a b : Int), i + d = R.length → d < n → -1073741824 ≤ a → b ≤ 1073741824 →
    p73_l1 k R t j n (i : Int) [a, b] = j [PL t (R.drop i) a, PH t (R.drop i) b]
  | 0, i, n, a, b, h1, h2, ha, hb => by
    obtain ⟨n, rfl⟩ : ∃ n', n = n' + 1 := ⟨n - 1, by omega⟩
    rw [p73_l1]
    simp only [lt_v, sp_d]
    rw [if_neg (by omega), List.drop_eq_nil_of_le (by omega)]
    rfl
  | d + 1, i, n, a, b, h1, h2, ha, hb => by
    obtain ⟨n, rfl⟩ : ∃ n', n = n' + 1 := ⟨n - 1, by omega⟩
    have hri := (hr i (by omega)).2.2.1
    unfold bandOk at hri
    rw [p73_l1]
    simp only [lt_v, sp_d, jn_v, Int.toNat_natCast]
    have hw : wr .i64 ((i : Int) + 1) = ((i + 1 : Nat) : Int) := by rw [wr64 (by omega) (by omega)]; omega
    rw [if_pos (by omega), gd_v (by omega), hw]
    rw [drop_rd (by omega : i < R.length)]
    simp only [PL, PH]
    have hg : ∀ (a b : Int) (x : Option (List Int)), gd ([a, b].length = 2) x = x := fun _ _ _ => rfl
    have ih := fun a b ha hb => p73_l1_eq (t := t) hk hn j hr d (i + 1) n a b (by omega) (by omega) ha hb
    simp only [p83_two hk, cl_v, hg, ge_iff_le]
    show (if rA (rd R i) ≤ t then (if t ≤ rA (rd R i) then p73_l1 k R t j n ((i + 1 : Nat) : Int) [max (max a (rPL (rd R i))) (-1073741824), min (min b 1073741824) (rPH (rd R i))] else p73_l1 k R t j n ((i + 1 : Nat) : Int) [max a (rPL (rd R i)), min b 1073741824]) else
      (if t ≤ rA (rd R i) then p73_l1 k R t j n ((i + 1 : Nat) : Int) [max a (-1073741824), min b (rPH (rd R i))] else p73_l1 k R t j n ((i + 1 : Nat) : Int) [a, b])) = _
    split <;> split
    · rw [show max (max a (rPL (rd R i))) (-1073741824) = max a (rPL (rd R i)) from by omega, show min (min b 1073741824) (rPH (rd R i)) = min b (rPH (rd R i)) from by omega]
      exact ih _ _ (by omega) (by omega)
    · rw [show min b 1073741824 = b from by omega]
      exact ih _ _ (by omega) (by omega)
    · rw [show max a (-1073741824) = a from by omega]
      exact ih _ _ (by omega) (by omega)
    · exact ih _ _ (by omega) (by omega)
theorem pl_base {R : List (List Int)} {D : List Int} (ha : ArgOk R D) {m : Int} (h0 : 0 ≤ m) : PL (stT R + m) R (-1073741824) = pl R m := by
  have h2 := ha.n2
  have hb := (ha.read 0 (by omega)).2.2.1
  unfold bandOk at hb
  exact PL_base (rd_mem (i := 0) (by omega)) (by have : stT R = rA (rd R 0) := rfl; omega) (by omega) (by omega)
theorem ph_base {R : List (List Int)} {D : List Int} (ha : ArgOk R D) {m : Int} (h1 : m ≤ lastI R) : PH (stT R + m) R 1073741824 = ph R m := by
  have h2 := ha.n2
  have hb := (ha.read (R.length - 1) (by omega)).2.2.1
  unfold bandOk at hb
  exact PH_base (rd_mem (i := R.length - 1) (by omega)) (by have : lastI R = rA (rd R (R.length - 1)) - stT R := rfl; omega) (by omega) (by omega)
theorem p73_eq {k : Nat} (hk : 5000 ≤ k) {R : List (List Int)} {D D' : List Int} {st : Int} {P V} (hn : R.length ≤ 64) (ha : ArgOk R D) {m : Int} (h0 : 0 ≤ m) (h1 : m ≤ lastI R) : p73 k R D' st P V (stT R + m) = some [pl R m, ph R m] := by
  unfold p73
  simp only [jn_v]
  have := p73_l1_eq hk (t := stT R + m) hn (fun L => some L) ha.read R.length 0 k (-1073741824) 1073741824 (by omega) (by omega) (by omega) (by omega)
  rw [List.drop_zero, pl_base ha h0, ph_base ha h1] at this
  exact this
def vrow (d : Int) (kk : Nat) (t : Int) (r : List Int) : List Int := [rVL kk r - d * ab (rA r - t), rVH kk r + d * ab (rA r - t)]
theorem p84_l1_eq {k : Nat} {R : List (List Int)} {D : List Int} {m : Int} {kk : Nat} (hn : R.length ≤ 64) (ha : ArgOk R D) (hm0 : 0 ≤ m) (hm1 : m ≤ lastI R) (hk4 : kk < 4) (j : List (List Int) → Option (List Int)) : ∀ (d i n : Nat) (W : List (List Int)), i + d = R.length → d < n → W.length = i →
    p84_l1 k (stT R + m) R D (kk : Int) j n (i : Int) W = j (W ++ (R.drop i).map (vrow (D.getD kk 0) kk (stT R + m)))
  | 0, i, n, W, h1, h2, hW => by
    obtain ⟨n, rfl⟩ : ∃ n', n = n' + 1 := ⟨n - 1, by omega⟩
    rw [p84_l1]
    simp only [lt_v, sp_d]
    rw [if_neg (by omega), List.drop_eq_nil_of_le (by omega)]
    simp
  | d + 1, i, n, W, h1, h2, hW => by
    obtain ⟨n, rfl⟩ : ∃ n', n = n' + 1 := ⟨n - 1, by omega⟩
    have hst := ha.st
    have hsp := ha.span
    have hrg := ha.range (i := i) (by omega)
    have hdr := ha.dr kk hk4
    have hrd := (ha.read i (by omega)).2.2.2 kk hk4
    have hmul := ab_mul hdr.1 hdr.2 (x := rA (rd R i) - (stT R + m)) (by omega) (by omega)
    have hw : wr .i64 ((i : Int) + 1) = ((i + 1 : Nat) : Int) := by rw [wr64 (by omega) (by omega)]; omega
    unfold bandOk at hrd
    rw [p84_l1]
    simp only [lt_v, sp_d, Int.toNat_natCast]
    rw [if_pos (by omega), gd_v (by omega), gd_v (by omega), gd_v (by omega), gd_v (by omega)]
    rw [show List.getD (List.getD R i []) 0 0 = rA (rd R i) from rfl]
    rw [wr64 (z := rA (rd R i) - (stT R + m)) (by omega) (by omega), wr64 (z := stT R + m - rA (rd R i)) (by omega) (by omega)]
    simp only [mx_eq]
    rw [show max (rA (rd R i) - (stT R + m)) (stT R + m - rA (rd R i)) = ab (rA (rd R i) - (stT R + m)) from by unfold ab; omega]
    rw [show D.getD (kk * 1) 0 = D.getD kk 0 from by rw [Nat.mul_one]]
    rw [wr64 (z := D.getD kk 0 * ab (rA (rd R i) - (stT R + m))) (by omega) (by omega)]
    rw [show List.getD (List.getD R i []) (3 + kk * 2 + 0) 0 = rVL kk (rd R i) from rfl, show List.getD (List.getD R i []) (3 + kk * 2 + 1) 0 = rVH kk (rd R i) from rfl]
    rw [wr64 (z := rVL kk (rd R i) - _) (by omega) (by omega), wr64 (z := rVH kk (rd R i) + _) (by omega) (by omega), hw]
    rw [gd_v (by simp; omega)]
    rw [p84_l1_eq hn ha hm0 hm1 hk4 j d (i + 1) n _ (by omega) (by omega) (by simp [hW]), drop_rd (by omega : i < R.length)]
    simp [vrow]
theorem ML_vrow {d t : Int} {kk : Nat} : ∀ {l : List (List Int)} {a : Int}, ML (l.map (vrow d kk t)) a = VL d kk t l a
  | [], a => rfl
  | r :: l, a => by
    simp only [List.map_cons, ML, VL]
    rw [ML_vrow]
    rfl
theorem MH_vrow {d t : Int} {kk : Nat} : ∀ {l : List (List Int)} {a : Int}, MH (l.map (vrow d kk t)) a = VH d kk t l a
  | [], a => rfl
  | r :: l, a => by
    simp only [List.map_cons, MH, VH]
    rw [MH_vrow]
    rfl
theorem p84_eq {k : Nat} (hk : 5000 ≤ k) {R : List (List Int)} {D : List Int} {st : Int} {P V} {m : Int} {kk : Nat} (hn : R.length ≤ 64) (ha : ArgOk R D) (hm0 : 0 ≤ m) (hm1 : m ≤ lastI R) (hk4 : kk < 4) : p84 k (stT R + m) R D st P V (kk : Int) = some [vl R D kk m, vh R D kk m] := by
  unfold p84
  simp only [jn_v]
  have := p84_l1_eq (k := k) hn ha hm0 hm1 hk4 (fun R2 => cl (p83 k R2) fun v30 => gd ((v30).length = 2) <| some v30) R.length 0 k [] (by omega) (by omega) rfl
  rw [show ((0 : Nat) : Int) = 0 from rfl] at this
  rw [this, List.drop_zero, List.nil_append]
  have h2 := ha.n2
  obtain ⟨r, l, rfl⟩ : ∃ r l, R = r :: l := by
    cases R with
    | nil => simp at h2
    | cons r l => exact ⟨r, l, rfl⟩
  have hst := ha.st
  have hsp := ha.span
  have hrg := ha.range (i := 0) (by simp)
  have hdr := ha.dr kk hk4
  have hrd := (ha.read 0 (by simp)).2.2.2 kk hk4
  have hmul := ab_mul hdr.1 hdr.2 (x := rA (rd (r :: l) 0) - (stT (r :: l) + m)) (by omega) (by omega)
  have hr0 : rd (r :: l) 0 = r := rfl
  rw [hr0] at hrd hmul
  unfold bandOk at hrd
  simp only [List.map_cons]
  rw [show vrow (D.getD kk 0) kk (stT (r :: l) + m) r = [rVL kk r - D.getD kk 0 * ab (rA r - (stT (r :: l) + m)), rVH kk r + D.getD kk 0 * ab (rA r - (stT (r :: l) + m))] from rfl]
  rw [p83_eq hk (by simp at hn ⊢; omega), cl_v, ML_vrow, MH_vrow]
  simp only [vl, vh, VL, VH]
  rw [show max (-1125899906842624) (rVL kk r - D.getD kk 0 * ab (rA r - (stT (r :: l) + m))) = rVL kk r - D.getD kk 0 * ab (rA r - (stT (r :: l) + m)) from by omega]
  rw [show min 1125899906842624 (rVH kk r + D.getD kk 0 * ab (rA r - (stT (r :: l) + m))) = rVH kk r + D.getD kk 0 * ab (rA r - (stT (r :: l) + m)) from by omega]
  rfl
end Go.Proofs.Ythjkejbgknemgaa
namespace Go.Proofs.Ythjkejbgknemgaa
open Go.RowKit Classical
theorem set_fill {α : Type} (g : Nat → α) (z : α) (i d : Nat) (x : α) (hx : x = g i) : ((List.range i).map g ++ List.replicate (d + 1) z).set i x = (List.range (i + 1)).map g ++ List.replicate d z := by
  subst hx
  rw [List.set_append_right _ _ (by simp)]
  simp [List.range_succ, List.replicate_succ]
theorem getD_fill {α : Type} (g : Nat → α) (z y : α) (i d : Nat) : ((List.range (i + 1)).map g ++ List.replicate d z).getD i y = g i := by
  simp [List.getD_eq_getElem?_getD, List.getElem?_append_left]
def pls (R : List (List Int)) (N : Nat) : List (List Int) := (List.range N).map fun m : Nat => [pl R (m : Int), ph R (m : Int)]
def vls (R : List (List Int)) (D : List Int) (kk N : Nat) : List (List Int) := (List.range N).map fun m : Nat => [vl R D kk (m : Int), vh R D kk (m : Int)]
theorem p72a_l1_eq {k : Nat} (hk : 5000 ≤ k) {R : List (List Int)} {D D' : List Int} {P V} (hn : R.length ≤ 64) (ha : ArgOk R D) {N : Nat} (hN : (N : Int) = lastI R + 1) (j : List (List Int) → Option (List (List Int) × Bool)) : ∀ (d i n : Nat), i + d = N → d < n →
    p72a_l1 k R D' (stT R) P V (N : Int) j n (i : Int) ((List.range i).map (fun m : Nat => [pl R (m : Int), ph R (m : Int)]) ++ List.replicate d [0, 0]) = if ∀ q : Nat, i ≤ q → q < N → pl R q ≤ ph R q then j (pls R N) else some ([], false)
  | 0, i, n, h1, h2 => by
    obtain ⟨n, rfl⟩ : ∃ n', n = n' + 1 := ⟨n - 1, by omega⟩
    rw [p72a_l1]
    simp only [lt_v, sp_d]
    rw [if_neg (by omega), if_pos (fun q h3 h4 => by omega), show i = N from by omega]
    simp [pls]
  | d + 1, i, n, h1, h2 => by
    obtain ⟨n, rfl⟩ : ∃ n', n = n' + 1 := ⟨n - 1, by omega⟩
    have hst := ha.st
    have hsp := ha.span
    have hw : wr .i64 ((i : Int) + 1) = ((i + 1 : Nat) : Int) := by rw [wr64 (by omega) (by omega)]; omega
    rw [p72a_l1]
    simp only [lt_v, sp_d, Int.toNat_natCast]
    rw [if_pos (by omega), wr64 (z := stT R + (i : Int)) (by omega) (by omega), p73_eq hk hn ha (by omega) (by omega), cl_v]
    rw [gd_v (c := [_, _].length = 2) rfl, gd_v (by simp; omega), set_fill (fun m : Nat => [pl R (m : Int), ph R (m : Int)]) [0, 0] i d _ rfl]
    rw [gd_v (by simp; omega), gd_v (by simp; omega), getD_fill (fun m : Nat => [pl R (m : Int), ph R (m : Int)]), hw]
    simp only [List.getD_cons_zero, List.getD_cons_succ]
    rw [p72a_l1_eq hk hn ha hN j d (i + 1) n (by omega) (by omega)]
    rw [if_all (P := ∀ q : Nat, i ≤ q → q < N → pl R q ≤ ph R q) (Q := pl R i ≤ ph R i) (S := ∀ q : Nat, i + 1 ≤ q → q < N → pl R q ≤ ph R q) ?_]
    · by_cases c : pl R i ≤ ph R i
      · rw [if_pos c, if_neg (by omega)]
      · rw [if_neg c, if_pos (by omega)]
    constructor
    · intro h; exact ⟨h i (by omega) (by omega), fun q h3 h4 => h q (by omega) h4⟩
    · rintro ⟨h3, h4⟩ q h5 h6
      rcases Nat.eq_or_lt_of_le h5 with e | e
      · subst e; exact h3
      · exact h4 q e h6
theorem p72a_eq {k : Nat} (hk : 5000 ≤ k) {R : List (List Int)} {D D' : List Int} {P V} (hn : R.length ≤ 64) (ha : ArgOk R D) {N : Nat} (hN : (N : Int) = lastI R + 1) : p72a k R D' (stT R) P V (N : Int) = if ∀ q : Nat, q < N → pl R q ≤ ph R q then some (pls R N, true) else some ([], false) := by
  have hsp := ha.span
  unfold p72a
  simp only [lt_v, jn_v, Int.toNat_natCast]
  rw [gd_v (by omega)]
  have := p72a_l1_eq (k := k) hk hn ha hN (D' := D') (P := P) (V := V) (fun R5 => some (R5, true)) N 0 k (by omega) (by omega)
  simpa using this
theorem p72b_l1_eq {k : Nat} (hk : 5000 ≤ k) {R : List (List Int)} {D : List Int} {P V} {kk : Nat} (hk4 : kk < 4) (hn : R.length ≤ 64) (ha : ArgOk R D) {N : Nat} (hN : (N : Int) = lastI R + 1) (j : List (List Int) → Option (List (List Int) × Bool)) : ∀ (d i n : Nat), i + d = N → d < n →
    p72b_l1 k R D (stT R) P V (N : Int) (kk : Int) j n (i : Int) ((List.range i).map (fun m : Nat => [vl R D kk (m : Int), vh R D kk (m : Int)]) ++ List.replicate d [0, 0]) = if ∀ q : Nat, i ≤ q → q < N → vl R D kk q ≤ vh R D kk q then j (vls R D kk N) else some ([], false)
  | 0, i, n, h1, h2 => by
    obtain ⟨n, rfl⟩ : ∃ n', n = n' + 1 := ⟨n - 1, by omega⟩
    rw [p72b_l1]
    simp only [lt_v, sp_d]
    rw [if_neg (by omega), if_pos (fun q h3 h4 => by omega), show i = N from by omega]
    simp [vls]
  | d + 1, i, n, h1, h2 => by
    obtain ⟨n, rfl⟩ : ∃ n', n = n' + 1 := ⟨n - 1, by omega⟩
    have hst := ha.st
    have hsp := ha.span
    have hw : wr .i64 ((i : Int) + 1) = ((i + 1 : Nat) : Int) := by rw [wr64 (by omega) (by omega)]; omega
    rw [p72b_l1]
    simp only [lt_v, sp_d, Int.toNat_natCast]
    rw [if_pos (by omega), wr64 (z := stT R + (i : Int)) (by omega) (by omega), p84_eq hk hn ha (by omega) (by omega) hk4, cl_v]
    rw [gd_v (c := [_, _].length = 2) rfl, gd_v (by simp; omega), set_fill (fun m : Nat => [vl R D kk (m : Int), vh R D kk (m : Int)]) [0, 0] i d _ rfl]
    rw [gd_v (by simp; omega), gd_v (by simp; omega), getD_fill (fun m : Nat => [vl R D kk (m : Int), vh R D kk (m : Int)]), hw]
    simp only [List.getD_cons_zero, List.getD_cons_succ]
    rw [p72b_l1_eq hk hk4 hn ha hN j d (i + 1) n (by omega) (by omega)]
    rw [if_all (P := ∀ q : Nat, i ≤ q → q < N → vl R D kk q ≤ vh R D kk q) (Q := vl R D kk i ≤ vh R D kk i) (S := ∀ q : Nat, i + 1 ≤ q → q < N → vl R D kk q ≤ vh R D kk q) ?_]
    · by_cases c : vl R D kk i ≤ vh R D kk i
      · rw [if_pos c, if_neg (by omega)]
      · rw [if_neg c, if_pos (by omega)]
    constructor
    · intro h; exact ⟨h i (by omega) (by omega), fun q h3 h4 => h q (by omega) h4⟩
    · rintro ⟨h3, h4⟩ q h5 h6
      rcases Nat.eq_or_lt_of_le h5 with e | e
      · subst e; exact h3
      · exact h4 q e h6
theorem p72b_eq {k : Nat} (hk : 5000 ≤ k) {R : List (List Int)} {D : List Int} {P V} {kk : Nat} (hk4 : kk < 4) (hn : R.length ≤ 64) (ha : ArgOk R D) {N : Nat} (hN : (N : Int) = lastI R + 1) : p72b k R D (stT R) P V (N : Int) (kk : Int) = if ∀ q : Nat, q < N → vl R D kk q ≤ vh R D kk q then some (vls R D kk N, true) else some ([], false) := by
  have hsp := ha.span
  unfold p72b
  simp only [lt_v, jn_v, Int.toNat_natCast]
  rw [gd_v (by omega)]
  have := p72b_l1_eq (k := k) hk hk4 hn ha hN (P := P) (V := V) (fun R5 => some (R5, true)) N 0 k (by omega) (by omega)
  simpa using this
theorem p81_l1_eq {k : Nat} {L : List Int} {j : Int} (hL : L.length ≤ 1000) (hj : j < 0) : ∀ (d i n : Nat), i + d = L.length → d < n → ∃ v, p81_l1 k L (some j) n (i : Int) = some v ∧ (0 ≤ v ↔ ∃ q, i ≤ q ∧ q < L.length ∧ ¬ (0 ≤ L.getD q 0 ∧ L.getD q 0 ≤ 1048576))
  | 0, i, n, h1, h2 => by
    obtain ⟨n, rfl⟩ : ∃ n', n = n' + 1 := ⟨n - 1, by omega⟩
    refine ⟨j, ?_, fun h => by omega, fun ⟨q, h3, h4, _⟩ => by omega⟩
    rw [p81_l1]
    simp only [lt_v, sp_d]
    rw [if_neg (by omega)]
  | d + 1, i, n, h1, h2 => by
    obtain ⟨n, rfl⟩ : ∃ n', n = n' + 1 := ⟨n - 1, by omega⟩
    rw [p81_l1]
    simp only [lt_v, sp_d, p69, p49_eq, cl_v, sp_nd, Int.toNat_natCast]
    have hw : wr .i64 ((i : Int) + 1) = ((i + 1 : Nat) : Int) := by rw [wr64 (by omega) (by omega)]; omega
    rw [if_pos (by omega), gd_v (by omega), hw]
    obtain ⟨v, h3, h4⟩ := p81_l1_eq (k := k) hL hj d (i + 1) n (by omega) (by omega)
    by_cases c : 0 ≤ L.getD i 0 ∧ L.getD i 0 ≤ 1048576
    · rw [if_pos c]
      refine ⟨v, h3, h4.trans ⟨fun ⟨q, a1, a2, a3⟩ => ⟨q, by omega, a2, a3⟩, fun ⟨q, a1, a2, a3⟩ => ⟨q, ?_, a2, a3⟩⟩⟩
      rcases Nat.eq_or_lt_of_le a1 with e | e
      · subst e; exact absurd c a3
      · exact e
    · rw [if_neg c]
      exact ⟨(i : Int), rfl, fun _ => ⟨i, Nat.le_refl _, by omega, c⟩, fun _ => by omega⟩
theorem p68_eq {k : Nat} (hk : 5000 ≤ k) {L : List Int} (hL : L.length ≤ 1000) : p68 k L = some (decide (∃ q, q < L.length ∧ ¬ (0 ≤ L.getD q 0 ∧ L.getD q 0 ≤ 1048576))) := by
  unfold p68 p81
  simp only [jn_v, lt_v]
  obtain ⟨v, h1, h2⟩ := p81_l1_eq (k := k) hL (show (-1 : Int) < 0 by omega) L.length 0 k (by omega) (by omega)
  rw [show ((0 : Nat) : Int) = 0 from rfl] at h1
  rw [h1, cl_v]
  refine congrArg some (decide_eq_decide.2 (h2.trans ?_))
  simp
theorem p82_l1_eq {k : Nat} {L : List (List Int)} {j : Int} (hL : L.length ≤ 1000) (hj : j < 0) : ∀ (d i n : Nat), i + d = L.length → d < n → ∃ v, p82_l1 k L (some j) n (i : Int) = some v ∧ (0 ≤ v ↔ ∃ q, i ≤ q ∧ q < L.length ∧ ¬ bandOk ((L.getD q []).getD 0 0) ((L.getD q []).getD 1 0))
  | 0, i, n, h1, h2 => by
    obtain ⟨n, rfl⟩ : ∃ n', n = n' + 1 := ⟨n - 1, by omega⟩
    refine ⟨j, ?_, fun h => by omega, fun ⟨q, h3, h4, _⟩ => by omega⟩
    rw [p82_l1]
    simp only [lt_v, sp_d]
    rw [if_neg (by omega)]
  | d + 1, i, n, h1, h2 => by
    obtain ⟨n, rfl⟩ : ∃ n', n = n' + 1 := ⟨n - 1, by omega⟩
    rw [p82_l1]
    simp only [lt_v, sp_d, p71, p61_eq, cl_v, sp_nd, Int.toNat_natCast]
    have hw : wr .i64 ((i : Int) + 1) = ((i + 1 : Nat) : Int) := by rw [wr64 (by omega) (by omega)]; omega
    rw [if_pos (by omega), gd_v (by omega), hw]
    obtain ⟨v, h3, h4⟩ := p82_l1_eq (k := k) hL hj d (i + 1) n (by omega) (by omega)
    by_cases c : bandOk ((L.getD i []).getD 0 0) ((L.getD i []).getD 1 0)
    · rw [if_pos c]
      refine ⟨v, h3, h4.trans ⟨fun ⟨q, a1, a2, a3⟩ => ⟨q, by omega, a2, a3⟩, fun ⟨q, a1, a2, a3⟩ => ⟨q, ?_, a2, a3⟩⟩⟩
      rcases Nat.eq_or_lt_of_le a1 with e | e
      · subst e; exact absurd c a3
      · exact e
    · rw [if_neg c]
      exact ⟨(i : Int), rfl, fun _ => ⟨i, Nat.le_refl _, by omega, c⟩, fun _ => by omega⟩
theorem p70_eq {k : Nat} (hk : 5000 ≤ k) {L : List (List Int)} (hL : L.length ≤ 1000) : p70 k L = some (decide (∃ q, q < L.length ∧ ¬ bandOk ((L.getD q []).getD 0 0) ((L.getD q []).getD 1 0))) := by
  unfold p70 p82
  simp only [jn_v, lt_v]
  obtain ⟨v, h1, h2⟩ := p82_l1_eq (k := k) hL (show (-1 : Int) < 0 by omega) L.length 0 k (by omega) (by omega)
  rw [show ((0 : Nat) : Int) = 0 from rfl] at h1
  rw [h1, cl_v]
  refine congrArg some (decide_eq_decide.2 (h2.trans ?_))
  simp
theorem bands4_get (L : List Int) : ∀ q, q < 4 → ((bands4 L).getD q []).getD 0 0 = rVL q L ∧ ((bands4 L).getD q []).getD 1 0 = rVH q L
  | 0, _ => by simp [bands4, rVL, rVH, List.getD_eq_getElem?_getD]
  | 1, _ => by simp [bands4, rVL, rVH, List.getD_eq_getElem?_getD]
  | 2, _ => by simp [bands4, rVL, rVH, List.getD_eq_getElem?_getD]
  | 3, _ => by simp [bands4, rVL, rVH, List.getD_eq_getElem?_getD]
  | q + 4, h => by omega
def valsOk (L : List Int) : Prop := ∀ q, q < 4 → bandOk (rVL q L) (rVH q L)
theorem p70_bands {k : Nat} (hk : 5000 ≤ k) (L : List Int) : p70 k (bands4 L) = some (!decide (valsOk L)) := by
  rw [p70_eq hk (show (bands4 L).length ≤ 1000 from (by show 4 ≤ 1000; omega)), ← decide_not]
  refine congrArg some (decide_eq_decide.2 ?_)
  unfold valsOk
  rw [Classical.not_forall]
  constructor
  · rintro ⟨q, h1, h2⟩
    have h1' : q < 4 := h1
    rw [(bands4_get L q h1').1, (bands4_get L q h1').2] at h2
    exact ⟨q, fun h => h2 (h h1')⟩
  · rintro ⟨q, h1⟩
    rw [Classical.not_imp] at h1
    refine ⟨q, h1.1, ?_⟩
    rw [(bands4_get L q h1.1).1, (bands4_get L q h1.1).2]
    exact h1.2
theorem p46_l1_eq {k : Nat} (hk : 5000 ≤ k) {R : List (List Int)} (hn : R.length ≤ 64) {j : Option (Option CT × Int)} : ∀ (d i n : Nat), i + d = R.length → d < n → p46_l1 k R j n (i : Int) = if ∀ q, i ≤ q → q < R.length → rowOkAt R q then j else some (none, 2)
  | 0, i, n, h1, h2 => by
    obtain ⟨n, rfl⟩ : ∃ n', n = n' + 1 := ⟨n - 1, by omega⟩
    rw [p46_l1]
    simp only [lt_v, sp_d]
    rw [if_neg (by omega), if_pos (fun q h3 h4 => by omega)]
  | d + 1, i, n, h1, h2 => by
    obtain ⟨n, rfl⟩ : ∃ n', n = n' + 1 := ⟨n - 1, by omega⟩
    have e0 : (List.take 2 (List.drop 1 (R.getD i []))).getD 0 0 = rPL (rd R i) := by simp [rPL, rd, List.getD_eq_getElem?_getD]
    have e1 : (List.take 2 (List.drop 1 (R.getD i []))).getD 1 0 = rPH (rd R i) := by simp [rPH, rd, List.getD_eq_getElem?_getD]
    have hA : List.getD (R.getD i []) 0 0 = rA (rd R i) := rfl
    have hw : wr .i64 ((i : Int) + 1) = ((i + 1 : Nat) : Int) := by rw [wr64 (by omega) (by omega)]; omega
    rw [p46_l1]
    simp only [lt_v, sp_d, p61_eq, p49_eq, p70_bands hk, cl_v, jn_v, sp_tt, sp_ff, sp_nd, Int.toNat_natCast, e0, e1, hA, hw]
    rw [if_pos (by omega), gd_v (by omega)]
    rw [p46_l1_eq hk hn d (i + 1) n (by omega) (by omega)]
    rw [if_all (P := ∀ q, i ≤ q → q < R.length → rowOkAt R q) (Q := rowOkAt R i) (S := ∀ q, i + 1 ≤ q → q < R.length → rowOkAt R q) (by
      constructor
      · intro h; exact ⟨h i (by omega) (by omega), fun q h3 h4 => h q (by omega) h4⟩
      · rintro ⟨h3, h4⟩ q h5 h6
        rcases Nat.eq_or_lt_of_le h5 with e | e
        · subst e; exact h3
        · exact h4 q e h6)]
    generalize hX : (if ∀ q, i + 1 ≤ q → q < R.length → rowOkAt R q then j else some (none, 2)) = X
    have hrd : R.getD i [] = rd R i := rfl
    rw [hrd]
    by_cases hi : 0 < i
    · have hw2 : wr .i64 ((i : Int) - 1) = ((i - 1 : Nat) : Int) := by rw [wr64 (by omega) (by omega)]; omega
      rw [if_pos (show (i : Int) > 0 by omega), hw2, gd_v (by omega)]
      simp only [Int.toNat_natCast]
      refine @if_row' _ _ _ (rA (rd R i) ≤ rA (rd R (i - 1))) _ _ _ _ _ _ _ ?_ _ _
      unfold rowOkAt readOk valsOk
      constructor
      · rintro ⟨⟨a1, a2, a3, a4⟩, a5⟩
        exact ⟨⟨a1, a2⟩, by have := a5 hi; omega, a3, a4⟩
      · rintro ⟨⟨a1, a2⟩, a3, a4, a5⟩
        exact ⟨⟨a1, a2, a4, a5⟩, fun _ => by omega⟩
    · rw [if_neg (show ¬ (i : Int) > 0 by omega)]
      refine @if_row0 _ _ _ _ _ _ _ _ _ ?_ _ _
      unfold rowOkAt readOk valsOk
      constructor
      · rintro ⟨⟨a1, a2, a3, a4⟩, a5⟩
        exact ⟨⟨a1, a2⟩, a3, a4⟩
      · rintro ⟨⟨a1, a2⟩, a4, a5⟩
        exact ⟨⟨a1, a2, a4, a5⟩, fun h => absurd h hi⟩
theorem p46_l1_eq0 {k : Nat} (hk : 5000 ≤ k) {R : List (List Int)} (hn : R.length ≤ 64) {j : Option (Option CT × Int)} : p46_l1 k R j k 0 = if ∀ q, q < R.length → rowOkAt R q then j else some (none, 2) := by
  have := p46_l1_eq hk hn (j := j) R.length 0 k (by omega) (by omega)
  simpa using this
def lastN (R : List (List Int)) : Nat := (lastI R).toNat
def crs (R : List (List Int)) (D : List Int) : CT := (R, D, stT R, pls R (lastN R + 1), [vls R D 0 (lastN R + 1), vls R D 1 (lastN R + 1), vls R D 2 (lastN R + 1), vls R D 3 (lastN R + 1)])
theorem p46_eq {k : Nat} (hk : 5000 ≤ k) {R : List (List Int)} {D : List Int} (hD : D.length = 4) : p46 k R D = some (if logE R D = 0 then some (crs R D) else none, logE R D) := by
  have hb : ∀ {x : Int} {y : Option CT}, logE R D = x → x ≠ 0 → some ((none : Option CT), x) = some (if logE R D = 0 then y else none, logE R D) := fun h h0 => by rw [h, if_neg h0]
  unfold p46
  simp only [lt_v, sp_d, jn_v]
  by_cases hn : 64 < R.length
  · rw [if_pos (by omega)]
    exact hb (by unfold logE; rw [if_pos hn]) (by omega)
  · rw [if_neg (by omega)]
    have hn' : R.length ≤ 64 := by omega
    by_cases h2 : R.length < 2
    · rw [if_pos (by omega)]
      exact hb (by unfold logE; rw [if_neg hn, if_pos (fun h => by have := h.n2; omega)]) (by omega)
    · rw [if_neg (by omega), p68_eq hk (by omega), cl_v, sp_d]
      by_cases hd : ∃ q, q < D.length ∧ ¬ (0 ≤ D.getD q 0 ∧ D.getD q 0 ≤ 1048576)
      · rw [if_pos hd]
        obtain ⟨q, q1, q2⟩ := hd
        exact hb (by unfold logE; rw [if_neg hn, if_pos (fun h => q2 (h.dr q (by omega)))]) (by omega)
      · rw [if_neg hd]
        have hdr : ∀ q, q < 4 → 0 ≤ D.getD q 0 ∧ D.getD q 0 ≤ 1048576 := fun q hq => Classical.byContradiction fun h => hd ⟨q, by omega, h⟩
        rw [p46_l1_eq0 hk hn']
        by_cases hrow : ∀ q, q < R.length → rowOkAt R q
        · rw [if_pos hrow]
          have hasc : ∀ i, i + 1 < R.length → rA (rd R i) < rA (rd R (i + 1)) := fun i hi => by
            have := (hrow (i + 1) hi).2 (by omega)
            simpa using this
          have r0 := (hrow 0 (by omega)).1
          have r1 := (hrow (R.length - 1) (by omega)).1
          unfold readOk at r0 r1
          have hla : lastI R = rA (rd R (R.length - 1)) - rA (rd R 0) := rfl
          rw [wr64 (z := (R.length : Int) - 1) (by omega) (by omega), gd_v (by omega), gd_v (by omega), show ((R.length : Int) - 1).toNat = R.length - 1 from by omega]
          rw [show (R.getD (R.length - 1) []).getD 0 0 - (R.getD 0 []).getD 0 0 = lastI R from rfl, wr64 (z := lastI R) (by omega) (by omega)]
          by_cases hs : lastI R ≤ 2000
          · have ha : ArgOk R D := ⟨by omega, fun i hi => (hrow i hi).1, hasc, hs, hdr⟩
            have hla1 := ha.last
            have hN : ((lastN R + 1 : Nat) : Int) = lastI R + 1 := by unfold lastN; omega
            rw [if_neg (by omega), wr64 (z := lastI R + 1) (by omega) (by omega), ← hN, show (R.getD 0 []).getD 0 0 = stT R from rfl]
            have hsum : ∀ {e : Int}, ¬ SumOk R D → logE R D = 16 := fun h => by unfold logE; rw [if_neg hn, if_neg (fun h => h ha), if_pos h]
            have hno : ¬ SumOk R D → some ((none : Option CT), (16 : Int)) = some (if logE R D = 0 then some (crs R D) else none, logE R D) := fun h => hb (hsum (e := 0) h) (by omega)
            have hin : ∀ q : Nat, q < lastN R + 1 → (0 : Int) ≤ q ∧ (q : Int) ≤ lastI R := fun q hq => by unfold lastN at hq; omega
            rw [p72a_eq hk hn' ha hN]
            by_cases c : ∀ q : Nat, q < lastN R + 1 → pl R q ≤ ph R q
            · rw [if_pos c, cl2_v, sp_tt]
              have key : ∀ kk, kk < 4 → ¬ (∀ q : Nat, q < lastN R + 1 → vl R D kk q ≤ vh R D kk q) → ¬ SumOk R D := fun kk hkk h hs => h fun q hq => (hs q (hin q hq).1 (hin q hq).2).2 kk hkk
              have b0 := fun P V => p72b_eq (k := k) (P := P) (V := V) hk (show 0 < 4 by omega) hn' ha hN
              have b1 := fun P V => p72b_eq (k := k) (P := P) (V := V) hk (show 1 < 4 by omega) hn' ha hN
              have b2 := fun P V => p72b_eq (k := k) (P := P) (V := V) hk (show 2 < 4 by omega) hn' ha hN
              have b3 := fun P V => p72b_eq (k := k) (P := P) (V := V) hk (show 3 < 4 by omega) hn' ha hN
              simp only [show ((0 : Nat) : Int) = 0 from rfl, show ((1 : Nat) : Int) = 1 from rfl, show ((2 : Nat) : Int) = 2 from rfl, show ((3 : Nat) : Int) = 3 from rfl] at b0 b1 b2 b3
              rw [b0]
              by_cases c0 : ∀ q : Nat, q < lastN R + 1 → vl R D 0 q ≤ vh R D 0 q
              · rw [if_pos c0, cl2_v, sp_tt, b1]
                by_cases c1 : ∀ q : Nat, q < lastN R + 1 → vl R D 1 q ≤ vh R D 1 q
                · rw [if_pos c1, cl2_v, sp_tt, b2]
                  by_cases c2 : ∀ q : Nat, q < lastN R + 1 → vl R D 2 q ≤ vh R D 2 q
                  · rw [if_pos c2, cl2_v, sp_tt, b3]
                    by_cases c3 : ∀ q : Nat, q < lastN R + 1 → vl R D 3 q ≤ vh R D 3 q
                    · rw [if_pos c3, cl2_v, sp_tt]
                      have hso : SumOk R D := fun m h0 h1 => by
                        obtain ⟨q, rfl⟩ : ∃ q : Nat, m = q := ⟨m.toNat, by omega⟩
                        have hq : q < lastN R + 1 := by unfold lastN; omega
                        refine ⟨c q hq, fun kk hkk => ?_⟩
                        match kk, hkk with
                        | 0, _ => exact c0 q hq
                        | 1, _ => exact c1 q hq
                        | 2, _ => exact c2 q hq
                        | 3, _ => exact c3 q hq
                      rw [show logE R D = 0 from logE_zero.2 ⟨hn', ha, hso⟩, if_pos rfl]
                      rfl
                    · rw [if_neg c3, cl2_v, sp_ff]; exact hno (key 3 (by omega) c3)
                  · rw [if_neg c2, cl2_v, sp_ff]; exact hno (key 2 (by omega) c2)
                · rw [if_neg c1, cl2_v, sp_ff]; exact hno (key 1 (by omega) c1)
              · rw [if_neg c0, cl2_v, sp_ff]; exact hno (key 0 (by omega) c0)
            · rw [if_neg c, cl2_v, sp_ff]
              exact hno fun hs => c fun q hq => (hs q (hin q hq).1 (hin q hq).2).1
          · rw [if_pos (by omega)]
            exact hb (by unfold logE; rw [if_neg hn, if_pos (fun h => hs h.span)]) (by omega)
        · rw [if_neg hrow]
          refine hb ?_ (by omega)
          unfold logE
          rw [if_neg hn, if_pos]
          intro h
          refine hrow fun q hq => ⟨h.read q hq, fun h0 => ?_⟩
          have := h.asc (q - 1) (by omega)
          rw [show q - 1 + 1 = q from by omega] at this
          exact this
end Go.Proofs.Ythjkejbgknemgaa
namespace Go.Proofs.Ythjkejbgknemgaa
open Go.RowKit Classical
theorem LogOk.N {R D} (h : LogOk R D) : ((lastN R + 1 : Nat) : Int) = lastI R + 1 := by
  have := h.arg.last
  unfold lastN; omega
theorem getD_map_range {α : Type} (f : Nat → α) (N i : Nat) (y : α) (h : i < N) : ((List.range N).map f).getD i y = f i := by
  simp [List.getD_eq_getElem?_getD, h]
theorem pls_get {R : List (List Int)} {N : Nat} {x : Int} (h0 : 0 ≤ x) (h1 : x < N) : (pls R N).getD x.toNat [] = [pl R x, ph R x] := by
  unfold pls
  rw [getD_map_range _ _ _ _ (by omega), show ((x.toNat : Nat) : Int) = x from by omega]
theorem vls_get {R : List (List Int)} {D : List Int} {kk N : Nat} {x : Int} (h0 : 0 ≤ x) (h1 : x < N) : (vls R D kk N).getD x.toNat [] = [vl R D kk x, vh R D kk x] := by
  unfold vls
  rw [getD_map_range _ _ _ _ (by omega), show ((x.toNat : Nat) : Int) = x from by omega]
theorem pls_len (R : List (List Int)) (N : Nat) : (pls R N).length = N := by simp [pls]
theorem vls_len (R : List (List Int)) (D : List Int) (kk N : Nat) : (vls R D kk N).length = N := by simp [vls]
theorem crsV_get (R : List (List Int)) (D : List Int) : ∀ kk, kk < 4 → ([vls R D 0 (lastN R + 1), vls R D 1 (lastN R + 1), vls R D 2 (lastN R + 1), vls R D 3 (lastN R + 1)]).getD kk [] = vls R D kk (lastN R + 1)
  | 0, _ => rfl
  | 1, _ => rfl
  | 2, _ => rfl
  | 3, _ => rfl
  | q + 4, h => by omega
def inC (R : List (List Int)) (u : List Int) (x : Int) : Prop := u.getD 4 0 ≤ stT R + x ∧ stT R + x + 1 ≤ u.getD 5 0
noncomputable def stepsFrom (R : List (List Int)) (u : List Int) (i d : Nat) : List Int := ((List.range' i d).map fun q : Nat => (q : Int)).filter fun x => decide (inC R u x)
noncomputable def steps (R : List (List Int)) (u : List Int) : List Int := stepsFrom R u 0 (lastN R)
theorem steps_mem {R u x} : x ∈ steps R u ↔ 0 ≤ x ∧ x < (lastN R : Int) ∧ inC R u x := by
  unfold steps stepsFrom
  rw [List.mem_filter, List.mem_map]
  simp only [List.mem_range'_1, decide_eq_true_eq]
  constructor
  · rintro ⟨⟨q, ⟨_, hq⟩, rfl⟩, h⟩; exact ⟨by omega, by omega, h⟩
  · rintro ⟨h0, h1, h2⟩; exact ⟨⟨x.toNat, ⟨by omega, by omega⟩, by omega⟩, h2⟩
theorem p85_eq {R : List (List Int)} {D : List Int} {u : List Int} (h : LogOk R D) : ∀ (d i f : Nat), i + d = lastN R → d < f → p85_l (stT R) (u.getD 4 0) (u.getD 5 0) (lastN R : Int) f (i : Int) = some (stepsFrom R u i d)
  | 0, i, f, h1, h2 => by
    obtain ⟨f, rfl⟩ : ∃ f', f = f' + 1 := ⟨f - 1, by omega⟩
    rw [p85_l, sp_d, if_neg (by omega)]
    rfl
  | d + 1, i, f, h1, h2 => by
    obtain ⟨f, rfl⟩ : ∃ f', f = f' + 1 := ⟨f - 1, by omega⟩
    have hst := h.arg.st
    have hsp := h.arg.span
    have hN := h.N
    have hw : wr .i64 ((i : Int) + 1) = ((i + 1 : Nat) : Int) := by rw [wr64 (by omega) (by omega)]; omega
    rw [p85_l]
    simp only [sp_d, lt_v]
    rw [if_pos (by omega), wr64 (z := stT R + (i : Int)) (by omega) (by omega), wr64 (z := stT R + (i : Int) + 1) (by omega) (by omega), hw, p85_eq h d (i + 1) f (by omega) (by omega), cl_v]
    have e : stepsFrom R u i (d + 1) = if inC R u i then (i : Int) :: stepsFrom R u (i + 1) d else stepsFrom R u (i + 1) d := by
      unfold stepsFrom
      rw [List.range'_succ, List.map_cons, List.filter_cons]
      simp only [decide_eq_true_eq]
    rw [e]
    unfold inC
    by_cases c1 : u.getD 4 0 ≤ stT R + i <;> by_cases c2 : stT R + i + 1 ≤ u.getD 5 0
    · rw [if_pos (by omega), if_pos c2, if_pos ⟨c1, c2⟩]
    · rw [if_pos (by omega), if_neg c2, if_neg (fun h => c2 h.2)]
    · rw [if_neg (by omega), if_neg (fun h => c1 h.1)]
    · rw [if_neg (by omega), if_neg (fun h => c1 h.1)]
theorem p77_eq {k : Nat} (hk : 5000 ≤ k) {R : List (List Int)} {D : List Int} {u : List Int} {V} (h : LogOk R D) : p77 k R D (stT R) (pls R (lastN R + 1)) V u = some (steps R u) := by
  have hsp := h.arg.span
  have hN := h.N
  unfold p77 p86
  rw [pls_len]
  simp only [lt_v]
  rw [wr64 (by omega) (by omega), cl_v, show ((lastN R + 1 : Nat) : Int) - 1 = (lastN R : Int) from by omega]
  exact p85_eq h (lastN R) 0 k (by omega) (by omega)
theorem ne_zero_b (x : Int) : (x != 0) = !decide (x = 0) := by by_cases h : x = 0 <;> simp [h]
theorem eq_zero_b (x y : Int) : (x == y) = decide (x = y) := by by_cases h : x = y <;> simp [h]
theorem p43_eq {k : Nat} (hk : 5000 ≤ k) {R : List (List Int)} {D u : List Int} (hD : D.length = 4) : p43 k R D u = some (if logE R D = 0 then some (crs R D) else none, if logE R D = 0 then claimE u else logE R D) := by
  unfold p43
  rw [p46_eq hk hD, cl2_v]
  simp only [lt_v, ne_zero_b, sp_nd, p32_eq, cl_v]
  by_cases h : logE R D = 0
  · rw [if_pos h, if_pos h, if_pos h]
  · rw [if_neg h, if_neg h, if_neg h]
theorem p12_eq {k : Nat} (hk : 5000 ≤ k) : p12 k = some true := by
  obtain ⟨j, rfl⟩ : ∃ j, k = j + 5000 := ⟨k - 5000, by omega⟩
  kernel_rfl
end Go.Proofs.Ythjkejbgknemgaa
namespace Go.Proofs.Ythjkejbgknemgaa
open Go.RowKit Classical
def PastP (R : List (List Int)) (u : List Int) (S : List Int) : Prop := ∃ a : Int, (∀ s ∈ S, s < a → pl R (s + 1) < u.getD 0 0) ∧ (∀ s ∈ S, a ≤ s → u.getD 1 0 < ph R s) ∧ ¬ (a - 1 ∈ S ∧ a ∈ S)
theorem PastP.sub {R R' : List (List Int)} {u u' S S' : List Int} (h : PastP R' u' S') (hS : ∀ x ∈ S, x ∈ S') (h1 : ∀ x ∈ S, pl R (x + 1) ≤ pl R' (x + 1)) (h2 : ∀ x ∈ S, ph R' x ≤ ph R x) (h3 : u'.getD 0 0 ≤ u.getD 0 0) (h4 : u.getD 1 0 ≤ u'.getD 1 0) : PastP R u S := by
  obtain ⟨a, a1, a2, a3⟩ := h
  refine ⟨a, fun s hs hl => ?_, fun s hs hl => ?_, fun ⟨h5, h6⟩ => a3 ⟨hS _ h5, hS _ h6⟩⟩
  · have := a1 s (hS s hs) hl
    have := h1 s hs
    omega
  · have := a2 s (hS s hs) hl
    have := h2 s hs
    omega
theorem p18_some {k : Nat} {R : List (List Int)} {D : List Int} : ∃ b, p18 k R D = some b := by
  unfold p18
  simp only [jn_v, lt_v, sp_d]
  have tail : ∀ b : Bool, R.length ≤ 100 → ∃ c, sp b (some true) (if (R.length : Int) > 1 then gd ((0 : Int) ≤ wr .i64 ((R.length : Int) - 1) ∧ wr .i64 ((R.length : Int) - 1) < (R.length : Int)) (gd ((0 : Int) ≤ 0 ∧ (0 : Int) < (R.length : Int)) (if (R.getD (wr .i64 ((R.length : Int) - 1)).toNat []).getD 0 0 > (R.getD 0 []).getD 0 0 then gd ((0 : Int) ≤ wr .i64 ((R.length : Int) - 1) ∧ wr .i64 ((R.length : Int) - 1) < (R.length : Int)) (gd ((0 : Int) ≤ 0 ∧ (0 : Int) < (R.length : Int)) (if wr .i64 ((R.getD (wr .i64 ((R.length : Int) - 1)).toNat []).getD 0 0 - (R.getD 0 []).getD 0 0) > 120 then gd ((0 : Int) ≤ wr .i64 ((R.length : Int) - 1) ∧ wr .i64 ((R.length : Int) - 1) < (R.length : Int)) (gd ((0 : Int) ≤ 0 ∧ (0 : Int) < (R.length : Int)) (some (decide (wr .i64 ((R.getD (wr .i64 ((R.length : Int) - 1)).toNat []).getD 0 0 - (R.getD 0 []).getD 0 0) ≤ 2000)))) else some false)) else some false)) else some false) = some c := by
    intro b hb
    cases b with
    | true => exact ⟨true, rfl⟩
    | false =>
      rw [sp_ff]
      split
      · rename_i h1
        rw [wr64 (z := (R.length : Int) - 1) (by omega) (by omega), gd_v (by omega), gd_v (by omega)]
        split
        · rw [gd_v (by omega), gd_v (by omega)]
          split
          · rw [gd_v (by omega), gd_v (by omega)]; exact ⟨_, rfl⟩
          · exact ⟨_, rfl⟩
        · exact ⟨_, rfl⟩
      · exact ⟨_, rfl⟩
  by_cases h1 : (R.length : Int) > 100
  · rw [if_pos h1]; exact ⟨true, rfl⟩
  · rw [if_neg h1]
    by_cases h2 : (R.length : Int) > 20
    · rw [if_pos h2]
      by_cases h3 : (R.length : Int) ≤ 64
      · rw [if_pos h3]; exact ⟨true, rfl⟩
      · rw [if_neg h3]; exact tail false (by omega)
    · rw [if_neg h2]; exact tail false (by omega)
def Wf64 (R : List (List Int)) : Prop := ∀ r ∈ R, ∀ z ∈ r, -9223372036854775808 ≤ z ∧ z ≤ 9223372036854775807
end Go.Proofs.Ythjkejbgknemgaa
namespace Go.Proofs.Ythjkejbgknemgaa
open Go.RowKit Classical
theorem p80_eq {k : Nat} {R : List (List Int)} {D u : List Int} (h : LogOk R D) {m : Int} (h0 : 0 ≤ m) (h1 : m < lastI R) : p80 k R D u m = some (decide (inC R u m)) := by
  have hst := h.arg.st
  have hsp := h.arg.span
  have hn := h.arg.n2
  unfold p80
  simp only [jn_v, lt_v]
  rw [p45_eq (by omega) (by omega) (by omega), cl_v, wr64 (z := m + 1) (by omega) (by omega), p45_eq (by omega) (by omega) (by omega)]
  simp only [cl_v, sp_d]
  by_cases c1 : u.getD 4 0 ≤ stT R + m
  · rw [if_pos c1]
    exact congrArg some (decide_eq_decide.2 ⟨fun h => ⟨c1, by omega⟩, fun h => by have := h.2; omega⟩)
  · rw [if_neg c1]
    exact congrArg some (decide_eq_false (fun h => c1 h.1)).symm
theorem p55_eq {k : Nat} (hk : 5000 ≤ k) {R : List (List Int)} {D u : List Int} (hD : D.length = 4) (hb : Wf64 R) : p55 k R D u = some (if logE R D = 0 then claimE u else logE R D) := by
  unfold p55
  rw [p21_eq hk hD hb, cl_v]
  simp only [lt_v, ne_zero_b, sp_nd, p33_eq, cl_v]
  split <;> rfl
end Go.Proofs.Ythjkejbgknemgaa
namespace Go.Proofs.Ythjkejbgknemgaa
open Go.RowKit Classical
theorem all_step {P : Nat → Prop} {i N : Nat} (h : i < N) : (∀ q, i ≤ q → q < N → P q) ↔ P i ∧ ∀ q, i + 1 ≤ q → q < N → P q :=
  ⟨fun hh => ⟨hh i (Nat.le_refl _) h, fun q h1 h2 => hh q (by omega) h2⟩, fun hh q h1 h2 => by
    rcases Nat.eq_or_lt_of_le h1 with e | e
    · subst e; exact hh.1
    · exact hh.2 q e h2⟩
theorem if_iff {α : Type} {P Q : Prop} [Decidable P] [Decidable Q] (h : P ↔ Q) (x y : α) : (if P then x else y) = if Q then x else y := by
  by_cases c : P
  · rw [if_pos c, if_pos (h.1 c)]
  · rw [if_neg c, if_neg (fun hh => c (h.2 hh))]
def hv (V : List (List Int)) (m q : Nat) : Int := (V.getD m []).getD q 0
def valOk (R : List (List Int)) (D : List Int) (V : List (List Int)) (m q : Nat) : Prop := (vl R D q m ≤ hv V m q ∧ hv V m q ≤ vh R D q m) ∧ (0 < m → hv V (m - 1) q - D.getD q 0 ≤ hv V m q ∧ hv V m q ≤ hv V (m - 1) q + D.getD q 0)
def plcOk (R : List (List Int)) (P : List Int) (m : Nat) : Prop := (pl R m ≤ P.getD m 0 ∧ P.getD m 0 ≤ ph R m) ∧ (0 < m → P.getD (m - 1) 0 ≤ P.getD m 0)
structure Fits (R : List (List Int)) (D : List Int) (P : List Int) (V : List (List Int)) : Prop where
  lp : P.length = lastN R + 1
  lv : V.length = lastN R + 1
  plc : ∀ m, m < lastN R + 1 → plcOk R P m
  val : ∀ m, m < lastN R + 1 → ∀ q, q < 4 → valOk R D V m q
theorem vl_ge (R : List (List Int)) (D : List Int) (q : Nat) (m : Int) : -1125899906842624 ≤ vl R D q m := (VL_le.1 (Int.le_refl (vl R D q m))).1
theorem vh_le (R : List (List Int)) (D : List Int) (q : Nat) (m : Int) : vh R D q m ≤ 1125899906842624 := (le_VH.1 (Int.le_refl (vh R D q m))).1
theorem p22_l2_eq {k : Nat} {R : List (List Int)} {D : List Int} {V : List (List Int)} (h : LogOk R D) {m : Nat} (hm : m < lastN R + 1) (hV : V.length = lastN R + 1) (hp : 0 < m → ∀ q, q < 4 → -1125899906842624 ≤ hv V (m - 1) q ∧ hv V (m - 1) q ≤ 1125899906842624) (j : Option (Bool × Int)) : ∀ (d i n : Nat), i + d = 4 → d < n → p22_l2 k D V (m : Int) j (crs R D) (V.getD m []) n (i : Int) = if ∀ q, i ≤ q → q < 4 → valOk R D V m q then j else some (false, 0)
  | 0, i, n, h1, h2 => by
    obtain ⟨n, rfl⟩ : ∃ n', n = n' + 1 := ⟨n - 1, by omega⟩
    rw [p22_l2]
    simp only [lt_v, sp_d]
    rw [if_neg (by omega), if_pos (fun q _ _ => by omega)]
  | d + 1, i, n, h1, h2 => by
    obtain ⟨n, rfl⟩ : ∃ n', n = n' + 1 := ⟨n - 1, by omega⟩
    have hN := h.N
    have hsp := h.arg.span
    have hdr := h.arg.dr i (by omega)
    have hw : wr .i64 ((i : Int) + 1) = ((i + 1 : Nat) : Int) := by rw [wr64 (by omega) (by omega)]; omega
    have hcr : (crs R D).2.2.2.2.getD i [] = vls R D i (lastN R + 1) := crsV_get R D i (by omega)
    rw [p22_l2]
    simp only [lt_v, sp_d, Int.toNat_natCast, Nat.zero_add, Nat.mul_one, hw, hcr, jn_v]
    have hg : (vls R D i (lastN R + 1)).getD m [] = [vl R D i m, vh R D i m] := by
      have := vls_get (R := R) (D := D) (kk := i) (N := lastN R + 1) (x := (m : Int)) (by omega) (by omega)
      simpa using this
    rw [if_pos (by omega), gd_v (by omega), gd_v (by omega), gd_v (by rw [vls_len]; omega), hg]
    simp only [List.getD_cons_zero, List.getD_cons_succ, p49_eq, cl_v, sp_d, sp_ff]
    rw [p22_l2_eq h hm hV hp j d (i + 1) n (by omega) (by omega)]
    rw [if_iff (all_step (P := valOk R D V m) (show i < 4 by omega))]
    change (if vl R D i m ≤ hv V m i ∧ hv V m i ≤ vh R D i m then _ else _) = _
    by_cases c1 : vl R D i m ≤ hv V m i ∧ hv V m i ≤ vh R D i m
    · rw [if_pos c1]
      by_cases c2 : 0 < m
      · have hb := hp c2 i (by omega)
        have hw2 : wr .i64 ((m : Int) - 1) = ((m - 1 : Nat) : Int) := by rw [wr64 (by omega) (by omega)]; omega
        rw [if_pos (by omega), hw2, Int.toNat_natCast, gd_v (by omega), gd_v (by omega), gd_v (by omega), gd_v (by omega), gd_v (by omega), gd_v (by omega)]
        change sp (!decide (wr .i64 (hv V (m - 1) i - D.getD i 0) ≤ hv V m i ∧ hv V m i ≤ wr .i64 (hv V (m - 1) i + D.getD i 0))) _ _ = _
        rw [wr64 (by omega) (by omega), wr64 (by omega) (by omega), sp_nd]
        by_cases c3 : hv V (m - 1) i - D.getD i 0 ≤ hv V m i ∧ hv V m i ≤ hv V (m - 1) i + D.getD i 0
        · rw [if_pos c3]
          by_cases c4 : ∀ q, i + 1 ≤ q → q < 4 → valOk R D V m q
          · rw [if_pos c4, if_pos ⟨⟨c1, fun _ => c3⟩, c4⟩]
          · rw [if_neg c4, if_neg (fun hh => c4 hh.2)]
        · rw [if_neg c3, if_neg (fun hh => c3 (hh.1.2 c2))]
      · rw [if_neg (by omega)]
        by_cases c4 : ∀ q, i + 1 ≤ q → q < 4 → valOk R D V m q
        · rw [if_pos c4, if_pos ⟨⟨c1, fun hh => absurd hh c2⟩, c4⟩]
        · rw [if_neg c4, if_neg (fun hh => c4 hh.2)]
    · rw [if_neg c1, if_neg (fun hh => c1 hh.1.1)]
def minOk (R : List (List Int)) (D : List Int) (P : List Int) (V : List (List Int)) (m : Nat) : Prop := plcOk R P m ∧ ∀ q, q < 4 → valOk R D V m q
theorem p22_l1_eq {k : Nat} (hk : 5000 ≤ k) {R : List (List Int)} {D P : List Int} {V : List (List Int)} (h : LogOk R D) (hP : P.length = lastN R + 1) (hV : V.length = lastN R + 1) (j : Option (Bool × Int)) : ∀ (d m n : Nat), m + d = lastN R + 1 → d < n → (0 < m → ∀ q, q < 4 → -1125899906842624 ≤ hv V (m - 1) q ∧ hv V (m - 1) q ≤ 1125899906842624) → p22_l1 k D P V j (crs R D) n (m : Int) = if ∀ q, m ≤ q → q < lastN R + 1 → minOk R D P V q then j else some (false, 0)
  | 0, m, n, h1, h2, hp => by
    obtain ⟨n, rfl⟩ : ∃ n', n = n' + 1 := ⟨n - 1, by omega⟩
    rw [p22_l1]
    simp only [lt_v, sp_d]
    rw [if_neg (by omega), if_pos (fun q _ _ => by omega)]
  | d + 1, m, n, h1, h2, hp => by
    obtain ⟨n, rfl⟩ : ∃ n', n = n' + 1 := ⟨n - 1, by omega⟩
    have hN := h.N
    have hsp := h.arg.span
    have hw : wr .i64 ((m : Int) + 1) = ((m + 1 : Nat) : Int) := by rw [wr64 (by omega) (by omega)]; omega
    have hcl : ((crs R D).2.2.2.1.length : Int) = lastI R + 1 := by
      show ((pls R (lastN R + 1)).length : Int) = _
      rw [pls_len]; exact hN
    have hg : (crs R D).2.2.2.1.getD m [] = [pl R m, ph R m] := by
      have := pls_get (R := R) (N := lastN R + 1) (x := (m : Int)) (by omega) (by omega)
      rw [Int.toNat_natCast] at this
      exact this
    have hl2 := p22_l2_eq (k := k) h (m := m) (by omega) hV hp (p22_l1 k D P V j (crs R D) n ((m + 1 : Nat) : Int)) 4 0 k (by omega) (by omega)
    rw [show ((0 : Nat) : Int) = 0 from rfl] at hl2
    rw [p22_l1]
    simp only [lt_v, sp_d, Int.toNat_natCast, hw, jn_v, hg, p49_eq, cl_v, List.getD_cons_zero, List.getD_cons_succ, sp_ff, sp_tt, hl2]
    rw [if_pos (by omega), gd_v (c := 0 ≤ (m : Int) ∧ (m : Int) < (V.length : Int)) (by omega), gd_v (by omega), gd_v (by omega), gd_v (by omega)]
    rw [if_iff (all_step (P := minOk R D P V) (show m < lastN R + 1 by omega))]
    have tail : (if ∀ q, 0 ≤ q → q < 4 → valOk R D V m q then p22_l1 k D P V j (crs R D) n ((m + 1 : Nat) : Int) else some (false, 0)) = if (∀ q, q < 4 → valOk R D V m q) ∧ (∀ q, m + 1 ≤ q → q < lastN R + 1 → minOk R D P V q) then j else some (false, 0) := by
      by_cases c : ∀ q, q < 4 → valOk R D V m q
      · rw [if_pos (fun q _ h4 => c q h4), p22_l1_eq hk h hP hV j d (m + 1) n (by omega) (by omega) (fun _ q h4 => by
          have := (c q h4).1
          have := vl_ge R D q m
          have := vh_le R D q m
          rw [Nat.add_sub_cancel]; omega)]
        by_cases c2 : ∀ q, m + 1 ≤ q → q < lastN R + 1 → minOk R D P V q
        · rw [if_pos c2, if_pos ⟨c, c2⟩]
        · rw [if_neg c2, if_neg (fun hh => c2 hh.2)]
      · rw [if_neg (fun hh => c (fun q h4 => hh q (Nat.zero_le _) h4)), if_neg (fun hh => c hh.1)]
    rw [tail]
    by_cases c1 : pl R m ≤ P.getD m 0 ∧ P.getD m 0 ≤ ph R m
    · rw [if_pos c1]
      by_cases c2 : 0 < m
      · have hw2 : wr .i64 ((m : Int) - 1) = ((m - 1 : Nat) : Int) := by rw [wr64 (by omega) (by omega)]; omega
        rw [if_pos (by omega), hw2, Int.toNat_natCast, gd_v (by omega)]
        by_cases c3 : P.getD m 0 < P.getD (m - 1) 0
        · rw [if_pos c3, if_neg (fun hh => by have := hh.1.1.2 c2; omega)]
        · rw [if_neg c3]
          by_cases c4 : (∀ q, q < 4 → valOk R D V m q) ∧ (∀ q, m + 1 ≤ q → q < lastN R + 1 → minOk R D P V q)
          · rw [if_pos c4, if_pos ⟨⟨⟨c1, fun _ => by omega⟩, c4.1⟩, c4.2⟩]
          · rw [if_neg c4, if_neg (fun hh => c4 ⟨hh.1.2, hh.2⟩)]
      · rw [if_neg (by omega)]
        by_cases c4 : (∀ q, q < 4 → valOk R D V m q) ∧ (∀ q, m + 1 ≤ q → q < lastN R + 1 → minOk R D P V q)
        · rw [if_pos c4, if_pos ⟨⟨⟨c1, fun hh => absurd hh c2⟩, c4.1⟩, c4.2⟩]
        · rw [if_neg c4, if_neg (fun hh => c4 ⟨hh.1.2, hh.2⟩)]
    · rw [if_neg c1, if_neg (fun hh => c1 hh.1.1.1)]
theorem p54_eq {k : Nat} {R : List (List Int)} {D P : List Int} {V : List (List Int)} {D' W st} : p54 k R D' st (pls R (lastN R + 1)) W P V = some (decide (P.length = lastN R + 1 ∧ V.length = lastN R + 1)) := by
  unfold p54
  simp only [jn_v, lt_v, pls_len, eq_zero_b, sp_d]
  by_cases c1 : P.length = lastN R + 1
  · rw [if_pos (by omega)]
    exact congrArg some (decide_eq_decide.2 ⟨fun h => ⟨c1, by omega⟩, fun h => by omega⟩)
  · rw [if_neg (by omega)]
    exact congrArg some (decide_eq_false (fun h => c1 h.1)).symm
theorem p22_eq {k : Nat} (hk : 5000 ≤ k) {R : List (List Int)} {D P : List Int} {V : List (List Int)} (hD : D.length = 4) : p22 k R D P V = some (if logE R D = 0 then (decide (Fits R D P V), 0) else (false, logE R D)) := by
  unfold p22
  rw [p46_eq hk hD]
  simp only [cl2_v, lt_v, ne_zero_b, sp_nd]
  by_cases hl : logE R D = 0
  · have h := logE_zero.1 hl
    have e54 : p54 k (crs R D).1 (crs R D).2.1 (crs R D).2.2.1 (crs R D).2.2.2.1 (crs R D).2.2.2.2 P V = some (decide (P.length = lastN R + 1 ∧ V.length = lastN R + 1)) := p54_eq (D := D)
    rw [if_pos hl, if_pos hl, if_pos hl, cl_v, e54, cl_v, sp_d]
    by_cases c : P.length = lastN R + 1 ∧ V.length = lastN R + 1
    · rw [if_pos c, jn_v]
      have e := p22_l1_eq hk h c.1 c.2 (some (true, (0 : Int))) (lastN R + 1) 0 k (by omega) (by have := h.N; have := h.arg.span; omega) (fun hh => by omega)
      rw [show ((0 : Nat) : Int) = 0 from rfl] at e
      rw [e]
      by_cases f : Fits R D P V
      · rw [if_pos (fun q _ hq => ⟨f.plc q hq, f.val q hq⟩), decide_eq_true f]
      · rw [if_neg (fun hh => f ⟨c.1, c.2, fun m hm => (hh m (Nat.zero_le _) hm).1, fun m hm => (hh m (Nat.zero_le _) hm).2⟩), decide_eq_false f]
    · rw [if_neg c, decide_eq_false (fun f : Fits R D P V => c ⟨f.lp, f.lv⟩)]
  · rw [if_neg hl, if_neg hl]
end Go.Proofs.Ythjkejbgknemgaa
namespace Go.Proofs.Ythjkejbgknemgaa
open Go.RowKit Classical
def drOk (D : List Int) (V : List (List Int)) (m q : Nat) : Prop := (-1152921504606846976 ≤ hv V (m - 1) q ∧ hv V (m - 1) q ≤ 1152921504606846976) ∧ hv V (m - 1) q - D.getD q 0 ≤ hv V m q ∧ hv V m q ≤ hv V (m - 1) q + D.getD q 0
def stepOk (D P : List Int) (V : List (List Int)) (m : Nat) : Prop := P.getD (m - 1) 0 ≤ P.getD m 0 ∧ ∀ q, q < 4 → drOk D V m q
def atI (R : List (List Int)) (i : Nat) : Nat := (rA (rd R i) - stT R).toNat
def bandAt (R : List (List Int)) (V : List (List Int)) (i q : Nat) : Prop := rVL q (rd R i) ≤ hv V (atI R i) q ∧ hv V (atI R i) q ≤ rVH q (rd R i)
def readAt (R : List (List Int)) (P : List Int) (V : List (List Int)) (i : Nat) : Prop := (rPL (rd R i) ≤ P.getD (atI R i) 0 ∧ P.getD (atI R i) 0 ≤ rPH (rd R i)) ∧ ∀ q, q < 4 → bandAt R V i q
theorem p35_l2_eq {k : Nat} {R : List (List Int)} {D : List Int} {V : List (List Int)} (h : LogOk R D) {m : Nat} (hm0 : 0 < m) (hm : m < lastN R + 1) (hV : V.length = lastN R + 1) (j : Option (Bool × Int)) : ∀ (d i n : Nat), i + d = 4 → d < n → p35_l2 k D V (m : Int) j n (i : Int) = if ∀ q, i ≤ q → q < 4 → drOk D V m q then j else some (false, 0)
  | 0, i, n, h1, h2 => by
    obtain ⟨n, rfl⟩ : ∃ n', n = n' + 1 := ⟨n - 1, by omega⟩
    rw [p35_l2]
    simp only [lt_v, sp_d]
    rw [if_neg (by omega), if_pos (fun q _ _ => by omega)]
  | d + 1, i, n, h1, h2 => by
    obtain ⟨n, rfl⟩ : ∃ n', n = n' + 1 := ⟨n - 1, by omega⟩
    have hN := h.N
    have hsp := h.arg.span
    have hdr := h.arg.dr i (by omega)
    have hw : wr .i64 ((i : Int) + 1) = ((i + 1 : Nat) : Int) := by rw [wr64 (by omega) (by omega)]; omega
    have hw2 : wr .i64 ((m : Int) - 1) = ((m - 1 : Nat) : Int) := by rw [wr64 (by omega) (by omega)]; omega
    rw [p35_l2]
    simp only [lt_v, sp_d, Int.toNat_natCast, Nat.zero_add, Nat.mul_one, hw, hw2, jn_v, p50_eq, cl_v, sp_ff, sp_tt]
    rw [if_pos (by omega), gd_v (by omega), gd_v (by omega)]
    rw [p35_l2_eq h hm0 hm hV j d (i + 1) n (by omega) (by omega)]
    rw [if_iff (all_step (P := drOk D V m) (show i < 4 by omega))]
    change (if -1152921504606846976 ≤ hv V (m - 1) i ∧ hv V (m - 1) i ≤ 1152921504606846976 then _ else _) = _
    by_cases c1 : -1152921504606846976 ≤ hv V (m - 1) i ∧ hv V (m - 1) i ≤ 1152921504606846976
    · rw [if_pos c1, gd_v (by omega), gd_v (by omega), gd_v (by omega)]
      change (if hv V m i < wr .i64 (hv V (m - 1) i - D.getD i 0) then _ else _) = _
      rw [wr64 (by omega) (by omega)]
      by_cases c2 : hv V m i < hv V (m - 1) i - D.getD i 0
      · rw [if_pos c2, if_neg (fun hh => by have := hh.1.2.1; omega)]
      · rw [if_neg c2, gd_v (by omega), gd_v (by omega), gd_v (by omega)]
        change (if hv V m i > wr .i64 (hv V (m - 1) i + D.getD i 0) then _ else _) = _
        rw [wr64 (by omega) (by omega)]
        by_cases c3 : hv V m i > hv V (m - 1) i + D.getD i 0
        · rw [if_pos c3, if_neg (fun hh => by have := hh.1.2.2; omega)]
        · rw [if_neg c3]
          by_cases c4 : ∀ q, i + 1 ≤ q → q < 4 → drOk D V m q
          · rw [if_pos c4, if_pos ⟨⟨c1, by omega, by omega⟩, c4⟩]
          · rw [if_neg c4, if_neg (fun hh => c4 hh.2)]
    · rw [if_neg c1, if_neg (fun hh => c1 hh.1.1)]
theorem p35_l1_eq {k : Nat} (hk : 5000 ≤ k) {R : List (List Int)} {D P : List Int} {V : List (List Int)} (h : LogOk R D) (hP : P.length = lastN R + 1) (hV : V.length = lastN R + 1) (j : Option (Bool × Int)) : ∀ (d m n : Nat), m + d = lastN R + 1 → d < n → 0 < m → p35_l1 k R D P V j n (m : Int) = if ∀ q, m ≤ q → q < lastN R + 1 → stepOk D P V q then j else some (false, 0)
  | 0, m, n, h1, h2, hp => by
    obtain ⟨n, rfl⟩ : ∃ n', n = n' + 1 := ⟨n - 1, by omega⟩
    have hN := h.N
    have hsp := h.arg.span
    have hn := h.arg.n2
    rw [p35_l1, p53_eq (by omega) h.n64 (by omega) (by omega), cl_v]
    simp only [lt_v, sp_d]
    rw [if_neg (by omega), if_pos (fun q _ _ => by omega)]
  | d + 1, m, n, h1, h2, hp => by
    obtain ⟨n, rfl⟩ : ∃ n', n = n' + 1 := ⟨n - 1, by omega⟩
    have hN := h.N
    have hsp := h.arg.span
    have hn := h.arg.n2
    have hw : wr .i64 ((m : Int) + 1) = ((m + 1 : Nat) : Int) := by rw [wr64 (by omega) (by omega)]; omega
    have hw2 : wr .i64 ((m : Int) - 1) = ((m - 1 : Nat) : Int) := by rw [wr64 (by omega) (by omega)]; omega
    have hl2 := p35_l2_eq (k := k) h (m := m) hp (by omega) hV (p35_l1 k R D P V j n ((m + 1 : Nat) : Int)) 4 0 k (by omega) (by omega)
    rw [show ((0 : Nat) : Int) = 0 from rfl] at hl2
    rw [p35_l1, p53_eq (by omega) h.n64 (by omega) (by omega), cl_v]
    simp only [lt_v, sp_d, Int.toNat_natCast, hw, hw2, jn_v, hl2]
    rw [if_pos (by omega), gd_v (by omega), gd_v (by omega)]
    rw [if_iff (all_step (P := stepOk D P V) (show m < lastN R + 1 by omega)), p35_l1_eq hk h hP hV j d (m + 1) n (by omega) (by omega) (by omega)]
    by_cases c1 : P.getD m 0 < P.getD (m - 1) 0
    · rw [if_pos c1, if_neg (fun hh => by have := hh.1.1; omega)]
    · rw [if_neg c1]
      by_cases c2 : ∀ q, q < 4 → drOk D V m q
      · rw [if_pos (fun q _ h4 => c2 q h4)]
        by_cases c3 : ∀ q, m + 1 ≤ q → q < lastN R + 1 → stepOk D P V q
        · rw [if_pos c3, if_pos ⟨⟨by omega, c2⟩, c3⟩]
        · rw [if_neg c3, if_neg (fun hh => c3 hh.2)]
      · rw [if_neg (fun hh => c2 (fun q h4 => hh q (Nat.zero_le _) h4)), if_neg (fun hh => c2 hh.1.2)]
theorem p35_l4_eq {k : Nat} {R : List (List Int)} {D : List Int} {V : List (List Int)} (h : LogOk R D) {r : Nat} (hr : r < R.length) (hV : V.length = lastN R + 1) (j : Option (Bool × Int)) : ∀ (d i n : Nat), i + d = 4 → d < n → p35_l4 k V j (rd R r) (atI R r : Int) n (i : Int) = if ∀ q, i ≤ q → q < 4 → bandAt R V r q then j else some (false, 0)
  | 0, i, n, h1, h2 => by
    obtain ⟨n, rfl⟩ : ∃ n', n = n' + 1 := ⟨n - 1, by omega⟩
    rw [p35_l4]
    simp only [lt_v, sp_d]
    rw [if_neg (by omega), if_pos (fun q _ _ => by omega)]
  | d + 1, i, n, h1, h2 => by
    obtain ⟨n, rfl⟩ : ∃ n', n = n' + 1 := ⟨n - 1, by omega⟩
    have hN := h.N
    have hg := h.arg.range hr
    have hw : wr .i64 ((i : Int) + 1) = ((i + 1 : Nat) : Int) := by rw [wr64 (by omega) (by omega)]; omega
    rw [p35_l4]
    simp only [lt_v, sp_d, Int.toNat_natCast, Nat.zero_add, Nat.mul_one, hw, p50_eq, cl_v]
    have ha : (atI R r : Int) ≤ lastI R := by unfold atI; omega
    rw [if_pos (by omega), gd_v (by omega), gd_v (by omega), gd_v (by omega), gd_v (by omega)]
    rw [p35_l4_eq h hr hV j d (i + 1) n (by omega) (by omega)]
    rw [if_iff (all_step (P := bandAt R V r) (show i < 4 by omega))]
    change (if rVL i (rd R r) ≤ hv V (atI R r) i ∧ hv V (atI R r) i ≤ rVH i (rd R r) then _ else _) = _
    by_cases c1 : rVL i (rd R r) ≤ hv V (atI R r) i ∧ hv V (atI R r) i ≤ rVH i (rd R r)
    · rw [if_pos c1]
      by_cases c4 : ∀ q, i + 1 ≤ q → q < 4 → bandAt R V r q
      · rw [if_pos c4, if_pos ⟨c1, c4⟩]
      · rw [if_neg c4, if_neg (fun hh => c4 hh.2)]
    · rw [if_neg c1, if_neg (fun hh => c1 hh.1)]
theorem p35_l3_eq {k : Nat} (hk : 5000 ≤ k) {R : List (List Int)} {D P : List Int} {V : List (List Int)} (h : LogOk R D) (hP : P.length = lastN R + 1) (hV : V.length = lastN R + 1) (j : Option (Bool × Int)) : ∀ (d i n : Nat), i + d = R.length → d < n → p35_l3 k R P V j n (i : Int) = if ∀ q, i ≤ q → q < R.length → readAt R P V q then j else some (false, 0)
  | 0, i, n, h1, h2 => by
    obtain ⟨n, rfl⟩ : ∃ n', n = n' + 1 := ⟨n - 1, by omega⟩
    rw [p35_l3]
    simp only [lt_v, sp_d]
    rw [if_neg (by omega), if_pos (fun q _ _ => by omega)]
  | d + 1, i, n, h1, h2 => by
    obtain ⟨n, rfl⟩ : ∃ n', n = n' + 1 := ⟨n - 1, by omega⟩
    have hN := h.N
    have hn := h.n64
    have hsp := h.arg.span
    have hst := h.arg.st
    have hi : i < R.length := by omega
    have hg := h.arg.range hi
    have hw : wr .i64 ((i : Int) + 1) = ((i + 1 : Nat) : Int) := by rw [wr64 (by omega) (by omega)]; omega
    have hat : wr .i64 ((R.getD i []).getD 0 0 - (R.getD 0 []).getD 0 0) = (atI R i : Int) := by
      show wr .i64 (rA (rd R i) - stT R) = _
      rw [wr64 (by omega) (by omega)]; unfold atI; omega
    have ha : (atI R i : Int) ≤ lastI R := by unfold atI; omega
    have hl4 := p35_l4_eq (k := k) (D := D) h hi hV (p35_l3 k R P V j n ((i + 1 : Nat) : Int)) 4 0 k (by omega) (by omega)
    rw [show ((0 : Nat) : Int) = 0 from rfl] at hl4
    rw [p35_l3]
    simp only [lt_v, sp_d, Int.toNat_natCast, hw, hat, jn_v, p50_eq, cl_v]
    change (if (i : Int) < (R.length : Int) then gd _ (gd _ (gd _ (if _ then p35_l4 k V (p35_l3 k R P V j n ((i + 1 : Nat) : Int)) (rd R i) (atI R i : Int) k 0 else _))) else _) = _
    rw [hl4]
    rw [if_pos (by omega), gd_v (by omega), gd_v (by omega), gd_v (by omega)]
    rw [if_iff (all_step (P := readAt R P V) (show i < R.length by omega)), p35_l3_eq hk h hP hV j d (i + 1) n (by omega) (by omega)]
    change (if rPL (rd R i) ≤ P.getD (atI R i) 0 ∧ P.getD (atI R i) 0 ≤ rPH (rd R i) then _ else _) = _
    by_cases c1 : rPL (rd R i) ≤ P.getD (atI R i) 0 ∧ P.getD (atI R i) 0 ≤ rPH (rd R i)
    · rw [if_pos c1]
      by_cases c2 : ∀ q, q < 4 → bandAt R V i q
      · rw [if_pos (fun q _ h4 => c2 q h4)]
        by_cases c3 : ∀ q, i + 1 ≤ q → q < R.length → readAt R P V q
        · rw [if_pos c3, if_pos ⟨⟨c1, c2⟩, c3⟩]
        · rw [if_neg c3, if_neg (fun hh => c3 hh.2)]
      · rw [if_neg (fun hh => c2 (fun q h4 => hh q (Nat.zero_le _) h4)), if_neg (fun hh => c2 hh.1.2)]
    · rw [if_neg c1, if_neg (fun hh => c1 hh.1.1)]
theorem p62_eq {k : Nat} {R : List (List Int)} {D P : List Int} {V : List (List Int)} (h : LogOk R D) : p62 k R D P V = some (decide (P.length = lastN R + 1 ∧ V.length = lastN R + 1)) := by
  have hN := h.N
  have hsp := h.arg.span
  have hn := h.arg.n2
  unfold p62
  rw [p53_eq (by omega) h.n64 (by omega) (by omega)]
  simp only [jn_v, lt_v, cl_v, eq_zero_b, sp_d]
  rw [wr64 (by omega) (by omega)]
  by_cases c1 : P.length = lastN R + 1
  · rw [if_pos (by omega)]
    exact congrArg some (decide_eq_decide.2 ⟨fun h => ⟨c1, by omega⟩, fun h => by omega⟩)
  · rw [if_neg (by omega)]
    exact congrArg some (decide_eq_false (fun h => c1 h.1)).symm
structure RFits (R : List (List Int)) (D : List Int) (P : List Int) (V : List (List Int)) : Prop where
  lp : P.length = lastN R + 1
  lv : V.length = lastN R + 1
  step : ∀ m, 1 ≤ m → m < lastN R + 1 → stepOk D P V m
  read : ∀ i, i < R.length → readAt R P V i
theorem RFits.mono {R D P V} (h : RFits R D P V) : ∀ (d a : Nat), a + d < lastN R + 1 → P.getD a 0 ≤ P.getD (a + d) 0
  | 0, a, _ => Int.le_refl _
  | d + 1, a, hd => by
    have h1 := h.mono d a (by omega)
    have h2 := (h.step (a + d + 1) (by omega) (by omega)).1
    rw [show a + d + 1 - 1 = a + d from by omega] at h2
    rw [show a + (d + 1) = a + d + 1 from by omega]
    omega
theorem RFits.drift {R D P V} (h : RFits R D P V) {q : Nat} (hq : q < 4) : ∀ (d a : Nat), a + d < lastN R + 1 → hv V (a + d) q - D.getD q 0 * d ≤ hv V a q ∧ hv V a q ≤ hv V (a + d) q + D.getD q 0 * d
  | 0, a, _ => by simp
  | d + 1, a, hd => by
    have h1 := h.drift hq d a (by omega)
    have h2 := ((h.step (a + d + 1) (by omega) (by omega)).2 q hq).2
    rw [show a + d + 1 - 1 = a + d from by omega] at h2
    rw [show a + (d + 1) = a + d + 1 from by omega, show ((d + 1 : Nat) : Int) = (d : Int) + 1 from by omega, Int.mul_add, Int.mul_one]
    omega
theorem atI_le {R D} (h : LogOk R D) {i : Nat} (hi : i < R.length) : (atI R i : Int) = rA (rd R i) - stT R ∧ atI R i < lastN R + 1 := by
  have hg := h.arg.range hi
  have hN := h.N
  unfold atI
  omega
theorem RFits.fits {R D P V} (hL : LogOk R D) (h : RFits R D P V) : Fits R D P V := by
  have hN := hL.N
  have hn := hL.arg.n2
  have h00 : atI R 0 = 0 := by unfold atI stT; omega
  have h0 := h.read 0 (by omega)
  have hsp := hL.arg.span
  refine ⟨h.lp, h.lv, fun m hm => ⟨⟨?_, ?_⟩, fun h0 => (h.step m (by omega) hm).1⟩, fun m hm q hq => ⟨⟨?_, ?_⟩, fun h0 => ((h.step m (by omega) hm).2 q hq).2⟩⟩
  · unfold pl
    rw [PL_le]
    have hb := (hL.arg.read 0 (by omega)).2.2.1
    refine ⟨?_, fun r hr ht => ?_⟩
    · have := h.mono m 0 (by omega)
      unfold readAt at h0
      rw [h00] at h0
      have := h0.1.1
      have := hb.1
      rw [Nat.zero_add] at *
      omega
    · obtain ⟨i, hi, rfl⟩ := mem_rd hr
      have hai := atI_le hL hi
      have h1 := (h.read i hi).1.1
      have h2 := h.mono (m - atI R i) (atI R i) (by omega)
      rw [show atI R i + (m - atI R i) = m from by omega] at h2
      omega
  · unfold ph
    rw [le_PH]
    refine ⟨?_, fun r hr ht => ?_⟩
    · have hi : R.length - 1 < R.length := by omega
      have hai := atI_le hL hi
      have hb := (hL.arg.read _ hi).2.2.1
      have h1 := (h.read _ hi).1.2
      have : lastI R = rA (rd R (R.length - 1)) - stT R := rfl
      have h2 := h.mono (atI R (R.length - 1) - m) m (by omega)
      rw [show m + (atI R (R.length - 1) - m) = atI R (R.length - 1) from by omega] at h2
      have := hb.2.2
      omega
    · obtain ⟨i, hi, rfl⟩ := mem_rd hr
      have hai := atI_le hL hi
      have h1 := (h.read i hi).1.2
      have h2 := h.mono (atI R i - m) m (by omega)
      rw [show m + (atI R i - m) = atI R i from by omega] at h2
      omega
  all_goals
    have key : ∀ i, i < R.length → rVL q (rd R i) - D.getD q 0 * ab (rA (rd R i) - (stT R + m)) ≤ hv V m q ∧ hv V m q ≤ rVH q (rd R i) + D.getD q 0 * ab (rA (rd R i) - (stT R + m)) := by
      intro i hi
      have hai := atI_le hL hi
      have hb := (h.read i hi).2 q hq
      unfold bandAt at hb
      rcases Nat.le_total (atI R i) m with e | e
      · have h2 := h.drift hq (m - atI R i) (atI R i) (by omega)
        rw [show atI R i + (m - atI R i) = m from by omega] at h2
        have : ab (rA (rd R i) - (stT R + m)) = ((m - atI R i : Nat) : Int) := by unfold ab; omega
        rw [this]
        omega
      · have h2 := h.drift hq (atI R i - m) m (by omega)
        rw [show m + (atI R i - m) = atI R i from by omega] at h2
        have : ab (rA (rd R i) - (stT R + m)) = ((atI R i - m : Nat) : Int) := by unfold ab; omega
        rw [this]
        omega
    have hb := (hL.arg.read 0 (by omega)).2.2.2 q hq
    have hd := hL.arg.dr q hq
    have k0 := key 0 (by omega)
    have hai := atI_le hL (i := 0) (by omega)
    have hm2 := ab_mul hd.1 hd.2 (x := rA (rd R 0) - (stT R + m)) (by omega) (by omega)
    unfold bandOk at hb
  · unfold vl
    rw [VL_le]
    refine ⟨by omega, fun r hr => ?_⟩
    obtain ⟨i, hi, rfl⟩ := mem_rd hr
    exact (key i hi).1
  · unfold vh
    rw [le_VH]
    refine ⟨by omega, fun r hr => ?_⟩
    obtain ⟨i, hi, rfl⟩ := mem_rd hr
    exact (key i hi).2
theorem Fits.rfits {R D P V} (hL : LogOk R D) (h : Fits R D P V) : RFits R D P V := by
  refine ⟨h.lp, h.lv, fun m h1 hm => ⟨(h.plc m hm).2 (by omega), fun q hq => ⟨?_, (h.val m hm q hq).2 (by omega)⟩⟩, fun i hi => ?_⟩
  · have := (h.val (m - 1) (by omega) q hq).1
    have := vl_ge R D q (m - 1 : Nat)
    have := vh_le R D q (m - 1 : Nat)
    omega
  · have hai := atI_le hL hi
    have h1 := (h.plc _ hai.2).1
    have hpl := (PL_le.1 (Int.le_refl (pl R (atI R i : Int)))).2 (rd R i) (rd_mem hi) (by omega)
    have hph := (le_PH.1 (Int.le_refl (ph R (atI R i : Int)))).2 (rd R i) (rd_mem hi) (by omega)
    refine ⟨by omega, fun q hq => ?_⟩
    have h2 := (h.val _ hai.2 q hq).1
    have hvl := (VL_le.1 (Int.le_refl (vl R D q (atI R i : Int)))).2 (rd R i) (rd_mem hi)
    have hvh := (le_VH.1 (Int.le_refl (vh R D q (atI R i : Int)))).2 (rd R i) (rd_mem hi)
    have h0 : ab (rA (rd R i) - (stT R + (atI R i : Int))) = 0 := by unfold ab; omega
    rw [h0, Int.mul_zero] at hvl hvh
    unfold bandAt
    omega
theorem fits_iff {R D P V} (hL : LogOk R D) : RFits R D P V ↔ Fits R D P V := ⟨RFits.fits hL, Fits.rfits hL⟩
theorem p35_eq {k : Nat} (hk : 5000 ≤ k) {R : List (List Int)} {D P : List Int} {V : List (List Int)} (hD : D.length = 4) (hb : Wf64 R) : p35 k R D P V = some (if logE R D = 0 then (decide (Fits R D P V), 0) else (false, logE R D)) := by
  unfold p35
  rw [p21_eq hk hD hb]
  simp only [cl_v, lt_v, ne_zero_b, sp_nd]
  by_cases hl : logE R D = 0
  · have h := logE_zero.1 hl
    rw [if_pos hl, if_pos hl, p62_eq h, cl_v, sp_d, ← decide_eq_decide.2 (fits_iff h)]
    by_cases c : P.length = lastN R + 1 ∧ V.length = lastN R + 1
    · rw [if_pos c, jn_v, jn_v]
      have hN := h.N
      have hsp := h.arg.span
      have hn := h.n64
      have e1 := p35_l1_eq hk h c.1 c.2 (p35_l3 k R P V (some (true, (0 : Int))) k 0) (lastN R) 1 k (by omega) (by omega) (by omega)
      have e3 := p35_l3_eq hk h c.1 c.2 (some (true, (0 : Int))) R.length 0 k (by omega) (by omega)
      rw [show ((1 : Nat) : Int) = 1 from rfl] at e1
      rw [show ((0 : Nat) : Int) = 0 from rfl] at e3
      rw [e1, e3]
      by_cases f1 : ∀ q, 1 ≤ q → q < lastN R + 1 → stepOk D P V q
      · rw [if_pos f1]
        by_cases f2 : ∀ q, 0 ≤ q → q < R.length → readAt R P V q
        · rw [if_pos f2, decide_eq_true (⟨c.1, c.2, f1, fun i hi => f2 i (Nat.zero_le _) hi⟩ : RFits R D P V)]
        · rw [if_neg f2, decide_eq_false (fun f : RFits R D P V => f2 fun q _ hq => f.read q hq)]
      · rw [if_neg f1, decide_eq_false (fun f : RFits R D P V => f1 f.step)]
    · rw [if_neg c, decide_eq_false (fun f : RFits R D P V => c ⟨f.lp, f.lv⟩)]
  · rw [if_neg hl, if_neg hl]
end Go.Proofs.Ythjkejbgknemgaa
namespace Go.Proofs.Ythjkejbgknemgaa
open Go.RowKit Classical
def dmgAt (P : List Int) (V : List (List Int)) (u : List Int) (x : Int) : Prop := P.getD x.toNat 0 ≤ u.getD 1 0 ∧ u.getD 0 0 ≤ P.getD (x.toNat + 1) 0 ∧ u.getD 3 0 < max (hv V x.toNat (u.getD 2 0).toNat) (hv V (x.toNat + 1) (u.getD 2 0).toNat)
def Dmg (R : List (List Int)) (P : List Int) (V : List (List Int)) (u : List Int) : Prop := ∃ x ∈ steps R u, dmgAt P V u x
theorem p63_r1_eq {k : Nat} {N : Nat} {u P : List Int} {V : List (List Int)} (hN : N ≤ 2000) (hP : P.length = N + 1) (hV : V.length = N + 1) (hu0 : 0 ≤ u.getD 2 0) (hu1 : u.getD 2 0 < 4) (j6 j7 : Option Bool) : ∀ (S : List Int), (∀ x ∈ S, 0 ≤ x ∧ x < (N : Int)) → p63_r1 k j6 j7 u P V S = if ∃ x ∈ S, dmgAt P V u x then j7 else j6
  | [], _ => by rw [p63_r1, if_neg (fun ⟨x, hx, _⟩ => by cases hx)]
  | x :: S, hS => by
    have hx := hS x (List.mem_cons_self ..)
    have ih := p63_r1_eq (k := k) hN hP hV hu0 hu1 j6 j7 S (fun y hy => hS y (List.mem_cons_of_mem _ hy))
    have hw : wr .i64 (x + 1) = x + 1 := wr64 (by omega) (by omega)
    have ht : (x + 1).toNat = x.toNat + 1 := by omega
    have hex : (∃ y ∈ x :: S, dmgAt P V u y) ↔ dmgAt P V u x ∨ ∃ y ∈ S, dmgAt P V u y := by simp [List.mem_cons]
    rw [p63_r1]
    simp only [jn_v, lt_v, sp_d, hw, ht, Nat.zero_add, Nat.mul_one, mx_eq, sp_ff, ih]
    rw [gd_v (by omega), if_iff hex]
    by_cases c1 : P.getD x.toNat 0 ≤ u.getD 1 0
    · rw [if_pos c1, gd_v (by omega)]
      by_cases c2 : u.getD 0 0 ≤ P.getD (x.toNat + 1) 0
      · rw [if_pos c2, gd_v (by omega), gd_v (by omega), gd_v (by omega), gd_v (by omega)]
        change (if max (hv V x.toNat (u.getD 2 0).toNat) (hv V (x.toNat + 1) (u.getD 2 0).toNat) > u.getD 3 0 then _ else _) = _
        by_cases c3 : max (hv V x.toNat (u.getD 2 0).toNat) (hv V (x.toNat + 1) (u.getD 2 0).toNat) > u.getD 3 0
        · rw [if_pos c3, if_pos (.inl ⟨c1, c2, c3⟩)]
        · rw [if_neg c3]
          by_cases c4 : ∃ y ∈ S, dmgAt P V u y
          · rw [if_pos c4, if_pos (.inr c4)]
          · rw [if_neg c4, if_neg (fun h => h.elim (fun h => c3 h.2.2) c4)]
      · rw [if_neg c2]
        by_cases c4 : ∃ y ∈ S, dmgAt P V u y
        · rw [if_pos c4, if_pos (.inr c4)]
        · rw [if_neg c4, if_neg (fun h => h.elim (fun h => c2 h.2.1) c4)]
    · rw [if_neg c1]
      by_cases c4 : ∃ y ∈ S, dmgAt P V u y
      · rw [if_pos c4, if_pos (.inr c4)]
      · rw [if_neg c4, if_neg (fun h => h.elim (fun h => c1 h.1) c4)]
theorem lastN_le {R D} (h : LogOk R D) : lastN R ≤ 2000 := by have := h.N; have := h.arg.span; omega
theorem p63_eq {k : Nat} (hk : 5000 ≤ k) {R : List (List Int)} {D u P : List Int} {V : List (List Int)} (h : LogOk R D) (hu : ClaimOk u) (hP : P.length = lastN R + 1) (hV : V.length = lastN R + 1) : p63 k R D (stT R) (pls R (lastN R + 1)) (crs R D).2.2.2.2 u P V = some (decide (Dmg R P V u)) := by
  unfold p63
  rw [p77_eq hk h, cl_v, jn_v, jn_v]
  have h1 := hu.2.2.2.1
  have h2 := hu.2.2.2.2.1
  have e := p63_r1_eq (k := k) (lastN_le h) hP hV (u := u) (by omega) (by omega) (some false) (some true) (steps R u) (fun x hx => ⟨(steps_mem.1 hx).1, (steps_mem.1 hx).2.1⟩)
  refine (show _ = _ from e).trans ?_
  by_cases c : Dmg R P V u
  · rw [if_pos (show ∃ x ∈ steps R u, dmgAt P V u x from c), decide_eq_true c]
  · rw [if_neg (show ¬ ∃ x ∈ steps R u, dmgAt P V u x from c), decide_eq_false c]
theorem p64_l1_eq {k : Nat} (hk : 5000 ≤ k) {R : List (List Int)} {D u P : List Int} {V : List (List Int)} (h : LogOk R D) (hu : ClaimOk u) (hP : P.length = lastN R + 1) (hV : V.length = lastN R + 1) (j : Option Bool) : ∀ (d i n : Nat), i + d = lastN R → d < n → p64_l1 k R D u P V j n (i : Int) = if ∃ y : Nat, i ≤ y ∧ y < lastN R ∧ inC R u y ∧ dmgAt P V u y then some true else j
  | 0, i, n, h1, h2 => by
    obtain ⟨n, rfl⟩ : ∃ n', n = n' + 1 := ⟨n - 1, by omega⟩
    have hN := h.N
    have hsp := h.arg.span
    have hn := h.arg.n2
    rw [p64_l1, p53_eq (by omega) h.n64 (by omega) (by omega), cl_v]
    simp only [lt_v, sp_d]
    rw [if_neg (by omega), if_neg (fun ⟨y, h1, h2, _⟩ => by omega)]
  | d + 1, i, n, h1, h2 => by
    obtain ⟨n, rfl⟩ : ∃ n', n = n' + 1 := ⟨n - 1, by omega⟩
    have hN := h.N
    have hsp := h.arg.span
    have hn := h.arg.n2
    have hu1 := hu.2.2.2.1
    have hu2 := hu.2.2.2.2.1
    have hw : wr .i64 ((i : Int) + 1) = ((i + 1 : Nat) : Int) := by rw [wr64 (by omega) (by omega)]; omega
    have ih := p64_l1_eq hk h hu hP hV j d (i + 1) n (by omega) (by omega)
    have hex : (∃ y : Nat, i ≤ y ∧ y < lastN R ∧ inC R u y ∧ dmgAt P V u y) ↔ (inC R u i ∧ dmgAt P V u i) ∨ ∃ y : Nat, i + 1 ≤ y ∧ y < lastN R ∧ inC R u y ∧ dmgAt P V u y := by
      constructor
      · rintro ⟨y, a, b, c⟩
        rcases Nat.eq_or_lt_of_le a with e | e
        · subst e; exact .inl c
        · exact .inr ⟨y, e, b, c⟩
      · rintro (c | ⟨y, a, b, c⟩)
        · exact ⟨i, Nat.le_refl _, by omega, c⟩
        · exact ⟨y, by omega, b, c⟩
    rw [p64_l1, p53_eq (by omega) h.n64 (by omega) (by omega), cl_v]
    simp only [jn_v, lt_v, sp_d, hw, Int.toNat_natCast, Nat.zero_add, Nat.mul_one, mx_eq, sp_ff, ih]
    rw [if_pos (by omega), p80_eq h (by omega) (by omega), cl_v, sp_d, if_iff hex]
    have last : ∀ p : Prop, ¬ p → (p ↔ (inC R u i ∧ dmgAt P V u i)) → (if ∃ y : Nat, i + 1 ≤ y ∧ y < lastN R ∧ inC R u y ∧ dmgAt P V u y then some true else j) = if (inC R u i ∧ dmgAt P V u i) ∨ ∃ y : Nat, i + 1 ≤ y ∧ y < lastN R ∧ inC R u y ∧ dmgAt P V u y then some true else j := by
      intro p hp he
      by_cases c4 : ∃ y : Nat, i + 1 ≤ y ∧ y < lastN R ∧ inC R u y ∧ dmgAt P V u y
      · rw [if_pos c4, if_pos (.inr c4)]
      · rw [if_neg c4, if_neg (fun h => h.elim (fun h => hp (he.2 h)) c4)]
    have hd : dmgAt P V u i ↔ P.getD i 0 ≤ u.getD 1 0 ∧ u.getD 0 0 ≤ P.getD (i + 1) 0 ∧ u.getD 3 0 < max (hv V i (u.getD 2 0).toNat) (hv V (i + 1) (u.getD 2 0).toNat) := by unfold dmgAt; rw [Int.toNat_natCast]
    by_cases c0 : inC R u i
    · rw [if_pos c0, gd_v (by omega)]
      by_cases c1 : P.getD i 0 ≤ u.getD 1 0
      · rw [if_pos c1, gd_v (by omega)]
        by_cases c2 : u.getD 0 0 ≤ P.getD (i + 1) 0
        · rw [if_pos c2, gd_v (by omega), gd_v (by omega), gd_v (by omega), gd_v (by omega)]
          change (if max (hv V i (u.getD 2 0).toNat) (hv V (i + 1) (u.getD 2 0).toNat) > u.getD 3 0 then _ else _) = _
          by_cases c3 : max (hv V i (u.getD 2 0).toNat) (hv V (i + 1) (u.getD 2 0).toNat) > u.getD 3 0
          · rw [if_pos c3, if_pos (.inl ⟨c0, hd.2 ⟨c1, c2, c3⟩⟩)]
          · rw [if_neg c3]
            exact last _ c3 ⟨fun h => ⟨c0, hd.2 ⟨c1, c2, h⟩⟩, fun h => (hd.1 h.2).2.2⟩
        · rw [if_neg c2]
          exact last _ (show ¬ (inC R u i ∧ dmgAt P V u i) from fun h => c2 (hd.1 h.2).2.1) Iff.rfl
      · rw [if_neg c1]
        exact last _ (show ¬ (inC R u i ∧ dmgAt P V u i) from fun h => c1 (hd.1 h.2).1) Iff.rfl
    · rw [if_neg c0]
      exact last _ (show ¬ (inC R u i ∧ dmgAt P V u i) from fun h => c0 h.1) Iff.rfl
theorem p64_eq {k : Nat} (hk : 5000 ≤ k) {R : List (List Int)} {D u P : List Int} {V : List (List Int)} (h : LogOk R D) (hu : ClaimOk u) (hP : P.length = lastN R + 1) (hV : V.length = lastN R + 1) : p64 k R D u P V = some (decide (Dmg R P V u)) := by
  unfold p64
  rw [jn_v]
  have hl := lastN_le h
  have e := p64_l1_eq hk h hu hP hV (some false) (lastN R) 0 k (by omega) (by omega)
  rw [show ((0 : Nat) : Int) = 0 from rfl] at e
  rw [e]
  by_cases c : Dmg R P V u
  · obtain ⟨x, hx, hd⟩ := c
    have hm := steps_mem.1 hx
    have hxn : ((x.toNat : Nat) : Int) = x := by omega
    rw [if_pos ⟨x.toNat, by omega, by omega, by rw [hxn]; exact hm.2.2, by rw [hxn]; exact hd⟩, decide_eq_true (show Dmg R P V u from ⟨x, hx, hd⟩)]
  · rw [decide_eq_false c, if_neg (fun ⟨y, h1, h2, h3, h4⟩ => c ⟨y, steps_mem.2 ⟨by omega, by omega, h3⟩, h4⟩)]
noncomputable def dvE (R : List (List Int)) (D u P : List Int) (V : List (List Int)) : Bool × Int :=
  if logE R D = 0 then (if claimE u = 0 then (if P.length = lastN R + 1 ∧ V.length = lastN R + 1 then (decide (Dmg R P V u), 0) else (false, 17)) else (false, claimE u)) else (false, logE R D)
theorem p36_eq {k : Nat} (hk : 5000 ≤ k) {R : List (List Int)} {D u P : List Int} {V : List (List Int)} (hD : D.length = 4) : p36 k R D u P V = some (dvE R D u P V) := by
  unfold p36 dvE
  rw [p43_eq hk hD]
  simp only [cl2_v, lt_v, ne_zero_b, sp_nd]
  by_cases hl : logE R D = 0
  · have h := logE_zero.1 hl
    rw [if_pos hl, if_pos hl, if_pos hl]
    by_cases hc : claimE u = 0
    · have hu := claimE_zero.1 hc
      have e54 : p54 k (crs R D).1 (crs R D).2.1 (crs R D).2.2.1 (crs R D).2.2.2.1 (crs R D).2.2.2.2 P V = some (decide (P.length = lastN R + 1 ∧ V.length = lastN R + 1)) := p54_eq (D := D)
      rw [if_pos hc, if_pos hc, cl_v, e54, cl_v, sp_d]
      by_cases c : P.length = lastN R + 1 ∧ V.length = lastN R + 1
      · have e63 : p63 k (crs R D).1 (crs R D).2.1 (crs R D).2.2.1 (crs R D).2.2.2.1 (crs R D).2.2.2.2 u P V = some (decide (Dmg R P V u)) := p63_eq hk h hu c.1 c.2
        rw [if_pos c, if_pos c, e63, cl_v]
      · rw [if_neg c, if_neg c]
    · rw [if_neg hc, if_neg hc]
  · rw [if_neg hl, if_neg hl, if_neg hl]
theorem p37_eq {k : Nat} (hk : 5000 ≤ k) {R : List (List Int)} {D u P : List Int} {V : List (List Int)} (hD : D.length = 4) (hb : Wf64 R) : p37 k R D u P V = some (dvE R D u P V) := by
  unfold p37 dvE
  rw [p55_eq hk hD hb]
  simp only [cl_v, lt_v, ne_zero_b, sp_nd]
  by_cases hl : logE R D = 0
  · have h := logE_zero.1 hl
    rw [if_pos hl, if_pos hl]
    by_cases hc : claimE u = 0
    · have hu := claimE_zero.1 hc
      rw [if_pos hc, if_pos hc, p62_eq h, cl_v, sp_d]
      by_cases c : P.length = lastN R + 1 ∧ V.length = lastN R + 1
      · rw [if_pos c, if_pos c, p64_eq hk h hu c.1 c.2, cl_v]
      · rw [if_neg c, if_neg c]
    · rw [if_neg hc, if_neg hc]
  · rw [if_neg hl, if_neg hl, if_neg hl]
def spn (R : List (List Int)) (D : List Int) (m : Int) : List Int := [vl R D 0 m, vh R D 0 m, vl R D 1 m, vh R D 1 m, vl R D 2 m, vh R D 2 m, vl R D 3 m, vh R D 3 m]
noncomputable def spE (R : List (List Int)) (D : List Int) (m : Int) : List Int × List Int × Int :=
  if logE R D = 0 then (if 0 ≤ m ∧ m ≤ lastI R then ([pl R m, ph R m], spn R D m, 0) else ([0, 0], [0, 0, 0, 0, 0, 0, 0, 0], 3)) else ([0, 0], [0, 0, 0, 0, 0, 0, 0, 0], logE R D)
theorem p24_eq {k : Nat} (hk : 5000 ≤ k) {R : List (List Int)} {D : List Int} {m : Int} (hD : D.length = 4) : p24 k R D m = some (spE R D m) := by
  unfold p24 spE
  rw [p46_eq hk hD]
  simp only [cl2_v, lt_v, ne_zero_b, sp_nd]
  by_cases hl : logE R D = 0
  · have h := logE_zero.1 hl
    have hN := h.N
    have hcl : ((crs R D).2.2.2.1.length : Int) = lastI R + 1 := by
      show ((pls R (lastN R + 1)).length : Int) = _
      rw [pls_len]; exact hN
    rw [if_pos hl, if_pos hl, if_pos hl, cl_v]
    simp only [jn_v, sp_d, hcl, sp_tt]
    by_cases c1 : m < 0
    · rw [if_pos c1, if_neg (show ¬ (0 ≤ m ∧ m ≤ lastI R) from fun hh => by omega)]
    · rw [if_neg c1]
      by_cases c2 : m ≤ lastI R
      · rw [if_neg (show ¬ m ≥ lastI R + 1 by omega), if_pos (show 0 ≤ m ∧ m ≤ lastI R from ⟨by omega, c2⟩)]
        obtain ⟨n, rfl⟩ : ∃ n, k = n + 1 + 1 + 1 + 1 + 1 := ⟨k - 5, by omega⟩
        have hg := fun kk => vls_get (R := R) (D := D) (kk := kk) (N := lastN R + 1) (x := m) (by omega) (by omega)
        have hp := pls_get (R := R) (N := lastN R + 1) (x := m) (by omega) (by omega)
        have hq : (crs R D).2.2.2.1.getD m.toNat [] = [pl R m, ph R m] := hp
        have hs : ∀ kk, kk < 4 → (0 ≤ m ∧ m < ((List.getD (crs R D).2.2.2.2 kk []).length : Int)) := by
          intro kk hkk
          rw [show (crs R D).2.2.2.2.getD kk [] = vls R D kk (lastN R + 1) from crsV_get R D kk hkk, vls_len]
          omega
        have hr : ∀ kk, kk < 4 → ((crs R D).2.2.2.2.getD kk []).getD m.toNat [] = [vl R D kk m, vh R D kk m] := by
          intro kk hkk
          rw [show (crs R D).2.2.2.2.getD kk [] = vls R D kk (lastN R + 1) from crsV_get R D kk hkk]
          exact hg kk
        have w0 : wr .i64 ((0 : Int) + 1) = 1 := rfl
        have w1 : wr .i64 ((1 : Int) + 1) = 2 := rfl
        have w2 : wr .i64 ((2 : Int) + 1) = 3 := rfl
        have w3 : wr .i64 ((3 : Int) + 1) = 4 := rfl
        have t0 : ((0 : Int)).toNat = 0 := rfl
        have t1 : ((1 : Int)).toNat = 1 := rfl
        have t2 : ((2 : Int)).toNat = 2 := rfl
        have t3 : ((3 : Int)).toNat = 3 := rfl
        rw [p24_l1]
        simp only [lt_v, sp_d]
        rw [if_pos (by omega), gd_v (by omega), t0, gd_v (hs 0 (by omega)), hr 0 (by omega), w0, p24_l1]
        simp only [lt_v, sp_d]
        rw [if_pos (by omega), gd_v (by omega), gd_v (by omega), t1, gd_v (hs 1 (by omega)), hr 1 (by omega), w1, gd_v (by omega), p24_l1]
        simp only [lt_v, sp_d]
        rw [if_pos (by omega), gd_v (by omega), t2, gd_v (hs 2 (by omega)), hr 2 (by omega), w2, gd_v (by omega), p24_l1]
        simp only [lt_v, sp_d]
        rw [if_pos (by omega), gd_v (by omega), t3, gd_v (hs 3 (by omega)), hr 3 (by omega), w3, gd_v (by omega), p24_l1]
        simp only [lt_v, sp_d]
        rw [if_neg (by omega), gd_v (by omega), hq]
        rfl
      · rw [if_pos (show m ≥ lastI R + 1 by omega), if_neg (show ¬ (0 ≤ m ∧ m ≤ lastI R) from fun hh => c2 hh.2)]
  · rw [if_neg hl, if_neg hl]
theorem p34_eq {k : Nat} (hk : 5000 ≤ k) {R : List (List Int)} {D : List Int} {m : Int} (hD : D.length = 4) (hb : Wf64 R) : p34 k R D m = some (spE R D m) := by
  unfold p34 spE
  rw [p21_eq hk hD hb]
  simp only [cl_v, lt_v, ne_zero_b, sp_nd]
  by_cases hl : logE R D = 0
  · have h := logE_zero.1 hl
    have hN := h.N
    have hsp := h.arg.span
    have hst := h.arg.st
    have hn := h.arg.n2
    rw [if_pos hl, if_pos hl]
    rw [p53_eq (by omega) h.n64 (by omega) (by omega)]
    simp only [jn_v, sp_d, cl_v, sp_tt]
    by_cases c1 : m < 0
    · rw [if_pos c1, if_neg (show ¬ (0 ≤ m ∧ m ≤ lastI R) from fun hh => by omega)]
    · rw [if_neg c1]
      by_cases c2 : m ≤ lastI R
      · rw [if_neg (show ¬ m > lastI R by omega), if_pos (show 0 ≤ m ∧ m ≤ lastI R from ⟨by omega, c2⟩)]
        have e16 := p16_eq hk (R := R) (D := D) (m := m) (by omega) h.n64 (by omega) (by omega)
        rw [e16]
        obtain ⟨n, rfl⟩ : ∃ n, k = n + 1 + 1 + 1 + 1 + 1 := ⟨k - 5, by omega⟩
        have e0 := p17_eq hk h.n64 h.arg (m := m) (kk := 0) (by omega) c2 (by omega)
        have e1 := p17_eq hk h.n64 h.arg (m := m) (kk := 1) (by omega) c2 (by omega)
        have e2 := p17_eq hk h.n64 h.arg (m := m) (kk := 2) (by omega) c2 (by omega)
        have e3 := p17_eq hk h.n64 h.arg (m := m) (kk := 3) (by omega) c2 (by omega)
        rw [show ((0 : Nat) : Int) = 0 from rfl] at e0
        rw [show ((1 : Nat) : Int) = 1 from rfl] at e1
        rw [show ((2 : Nat) : Int) = 2 from rfl] at e2
        rw [show ((3 : Nat) : Int) = 3 from rfl] at e3
        have w0 : wr .i64 ((0 : Int) + 1) = 1 := rfl
        have w1 : wr .i64 ((1 : Int) + 1) = 2 := rfl
        have w2 : wr .i64 ((2 : Int) + 1) = 3 := rfl
        have w3 : wr .i64 ((3 : Int) + 1) = 4 := rfl
        have t0 : ((0 : Int)).toNat = 0 := rfl
        have t1 : ((1 : Int)).toNat = 1 := rfl
        have t2 : ((2 : Int)).toNat = 2 := rfl
        have t3 : ((3 : Int)).toNat = 3 := rfl
        have hg : ∀ {α : Type} (a b : Int) (x : Option α), gd ([a, b].length = 2) x = x := fun _ _ _ => rfl
        rw [p34_l1]
        simp only [lt_v, sp_d, e0, cl_v, hg, w0, t0]
        rw [if_pos (by omega), gd_v (by omega), p34_l1]
        simp only [lt_v, sp_d, e1, cl_v, hg, w1, t1]
        rw [if_pos (by omega), gd_v (by omega), p34_l1]
        simp only [lt_v, sp_d, e2, cl_v, hg, w2, t2]
        rw [if_pos (by omega), gd_v (by omega), p34_l1]
        simp only [lt_v, sp_d, e3, cl_v, hg, w3, t3]
        rw [if_pos (by omega), gd_v (by omega), p34_l1]
        simp only [lt_v, sp_d]
        rw [if_neg (by omega)]
        rfl
      · rw [if_pos (show m > lastI R by omega), if_neg (show ¬ (0 ≤ m ∧ m ≤ lastI R) from fun hh => c2 hh.2)]
  · rw [if_neg hl, if_neg hl]
theorem spE_len (R : List (List Int)) (D : List Int) (m : Int) : (spE R D m).1.length = 2 ∧ (spE R D m).2.1.length = 8 := by
  unfold spE
  split
  · split
    · exact ⟨rfl, rfl⟩
    · exact ⟨rfl, rfl⟩
  · exact ⟨rfl, rfl⟩
noncomputable def mnE (R : List (List Int)) (D : List Int) : Int × Int := if logE R D = 0 then (lastI R + 1, 0) else (0, logE R D)
theorem p23_eq {k : Nat} (hk : 5000 ≤ k) {R : List (List Int)} {D : List Int} (hD : D.length = 4) : p23 k R D = some (mnE R D) := by
  unfold p23 mnE
  rw [p46_eq hk hD]
  simp only [cl2_v, lt_v, ne_zero_b, sp_nd]
  by_cases hl : logE R D = 0
  · have h := logE_zero.1 hl
    have hcl : ((crs R D).2.2.2.1.length : Int) = lastI R + 1 := by
      show ((pls R (lastN R + 1)).length : Int) = _
      rw [pls_len]; exact h.N
    rw [if_pos hl, if_pos hl, if_pos hl, cl_v, hcl]
  · rw [if_neg hl, if_neg hl]
theorem p30_eq {k : Nat} (hk : 5000 ≤ k) {R : List (List Int)} {D : List Int} (hD : D.length = 4) (hb : Wf64 R) : p30 k R D = some (mnE R D) := by
  unfold p30 mnE
  rw [p21_eq hk hD hb]
  simp only [cl_v, lt_v, ne_zero_b, sp_nd]
  by_cases hl : logE R D = 0
  · have h := logE_zero.1 hl
    have hsp := h.arg.span
    have hn := h.arg.n2
    have hla := h.arg.last
    rw [if_pos hl, if_pos hl, p53_eq (by omega) h.n64 (by omega) (by omega), cl_v, wr64 (by omega) (by omega)]
  · rw [if_neg hl, if_neg hl]
theorem p31_eq {k : Nat} (hk : 5000 ≤ k) {R : List (List Int)} {D : List Int} (hD : D.length = 4) : p31 k R D = some (logE R D) := by
  unfold p31
  rw [p46_eq hk hD, cl2_v]
theorem p29_some {k : Nat} {P : List Int} {V : List (List Int)} : p29 k P V = some (decide (300 < P.length ∨ 300 < V.length)) := by
  unfold p29
  simp only [jn_v, lt_v, sp_d]
  by_cases c : (P.length : Int) > 300
  · rw [if_pos c, decide_eq_true (Or.inl (by omega))]
  · rw [if_neg c]
    exact congrArg some (decide_eq_decide.2 ⟨fun h => .inr (by omega), fun h => by omega⟩)
end Go.Proofs.Ythjkejbgknemgaa
namespace Go.Proofs.Ythjkejbgknemgaa
open Go.ChangeShapes Go.WideShapes Go.ChangeAt Go.RowKit
def PlainClaimLogs : Prop := ∀ (u0_0 : List (List Int)) (u0_1 : List Int) (u1 : List Int) (u2 : Int) (u3_0 : List Int) (u3_1 : List (List Int)), u0_0.length ≤ maxLen → (∀ r ∈ u0_0, r.length = 11) → (∀ r ∈ u0_0, ∀ z ∈ r, Wfi .i64 z) → u0_1.length = 4 → (∀ z ∈ u0_1, Wfi .i64 z) → u1.length = 7 → (∀ z ∈ u1, Wfi .i64 z) → Wfi .i64 u2 → u3_0.length ≤ maxLen → (∀ z ∈ u3_0, Wfi .i64 z) → u3_1.length ≤ maxLen → (∀ r ∈ u3_1, r.length = 4) → (∀ r ∈ u3_1, ∀ z ∈ r, Wfi .i64 z) → ∃ k, p9 k u0_0 u0_1 u1 u2 u3_0 u3_1 = some true
theorem own9 : ownKnob Try.prog.godebug = none := by kernel_rfl
theorem laid9 : laidOutB Try.prog = true := by kernel_rfl
set_option maxRecDepth 100000 in
theorem lifted9 (plain : PlainClaimLogs) (os : Os) (started : os.Started) (H : Type) (enc : TypeId × Value → H) :
    ReturnsInHanded {} Try.checked os 9 .any (Rows.claimLogsSpec.pre6 enc Try.prog Try.f9 Rows.claimLogsRow.domain false) (Rows.claimLogsSpec.post enc Try.prog Try.f9 false true false false) := by
  refine returnsInHanded_of_change (C := Try.checked) own9 started (by kernel_rfl) Try.func9
    (ChangeSpec.witness6 (enc := enc) (C := Try.checked) false ⟨#[], #[.agg #[.slice none 0 0, .int .i64 0, .int .i64 0, .int .i64 0, .int .i64 0], .agg #[.int .i64 0, .int .i64 0, .int .i64 0, .int .i64 0, .int .i64 0, .int .i64 0, .int .i64 0], .int .i64 0, .agg #[.slice none 0 0, .slice none 0 0]], []⟩ 12 (by kernel_rfl) (by kernel_rfl) (by kernel_rfl) (by kernel_rfl)) ?_
  intro W base args ds gs before hval0 hW hcnd _
  have hval : ∀ (j : Nat) t v, Try.f9.params[j]? = some t → args[j]? = some v → Value.okWide Try.prog W .any base t v := hval0
  have hW' := hW
  obtain ⟨p, q, hA0, hV, rfl, hfz, hnd⟩ := hW
  have hA : DataW.TrodAll enc Try.prog W 0 (fun _ => true) true Try.f9.params.toList args.toList ds p := hA0
  rw [Try.params9] at hA hval
  obtain ⟨v0, vs0, d0, ds0, p0, q0, hargs, rfl, rfl, h0, r0⟩ := trodAll_cons hA
  obtain ⟨v1, vs1, d1, ds1, p1, q1, rfl, rfl, rfl, h1, r1⟩ := trodAll_cons r0
  obtain ⟨v2, vs2, d2, ds2, p2, q2, rfl, rfl, rfl, h2, r2⟩ := trodAll_cons r1
  obtain ⟨v3, vs3, d3, ds3, p3, q3, rfl, rfl, rfl, h3, r3⟩ := trodAll_cons r2
  obtain ⟨rfl, rfl, rfl⟩ := trodAll_nil r3
  obtain rfl : args = #[v0, v1, v2, v3] := by cases args; simp_all
  obtain ⟨rfl, rfl⟩ := trodVars_none hV
  have k0 := h0
  have lt0 : ∀ x ∈ p0, x.block < W.heap.size := by obtain ⟨m, hm⟩ := k0; exact DataW.trod_lt m _ _ _ hm
  obtain ⟨cs0, fu0, rfl, hx0⟩ := open_agg Try.underlying25 rfl (hval 0 25 v0 rfl rfl) h0
  obtain ⟨c0a, c0b, fv0, y0a, y0b, rfl, hx0a, hx0b⟩ := open_two Try.underlying25 rfl (by kernel_rfl) (by kernel_rfl) hx0
  obtain ⟨Au0_0, u0_0, cu0_0, rfl, su0_0, mu0_0, zu0_0⟩ := open_rows (k := .i64) (d := 8) (m := 11) Try.underlying22 (by kernel_rfl) rfl (by kernel_rfl) hx0a
  obtain ⟨u0_1, rfl, lu0_1, zu0_1⟩ := open_ints' (k := .i64) (d := 8) (n := 4) (by kernel_rfl) hx0b
  have k1 := h1
  have lt1 : ∀ x ∈ p1, x.block < W.heap.size := by obtain ⟨m, hm⟩ := k1; exact DataW.trod_lt m _ _ _ hm
  obtain ⟨cs1, fu1, rfl, hx1⟩ := open_agg Try.underlying27 rfl (hval 1 27 v1 rfl rfl) h1
  obtain ⟨u1, rfl, lu1, zu1⟩ := open_ints' (k := .i64) (d := 8) (n := 7) (by kernel_rfl) hx1
  obtain ⟨u2, rfl, rfl, rfl, wu2⟩ := open_int Try.underlying3 (hval 2 3 v2 rfl rfl) h2
  have k3 := h3
  have lt3 : ∀ x ∈ p3, x.block < W.heap.size := by obtain ⟨m, hm⟩ := k3; exact DataW.trod_lt m _ _ _ hm
  obtain ⟨cs3, fu3, rfl, hx3⟩ := open_agg Try.underlying34 rfl (hval 3 34 v3 rfl rfl) h3
  obtain ⟨c3a, c3b, fv3, y3a, y3b, rfl, hx3a, hx3b⟩ := open_two Try.underlying34 rfl (by kernel_rfl) (by kernel_rfl) hx3
  obtain ⟨Au3_0, u3_0, cu3_0, rfl, su3_0, mu3_0, zu3_0⟩ := open_sint (k := .i64) (d := 8) Try.underlying31 (by kernel_rfl) (by kernel_rfl) hx3a
  obtain ⟨Au3_1, u3_1, cu3_1, rfl, su3_1, mu3_1, zu3_1⟩ := open_rows (k := .i64) (d := 8) (m := 4) Try.underlying32 (by kernel_rfl) rfl (by kernel_rfl) hx3b
  obtain ⟨k, hp⟩ := plain u0_0 u0_1 u1 u2 u3_0 u3_1 mu0_0 su0_0.1 zu0_0 lu0_1 zu0_1 lu1 zu1 wu2 mu3_0 zu3_0 mu3_1 su3_1.1 zu3_1
  have hc := Fn.calls (Mem.le_refl _) ((w9 k su0_0 lu0_1 lu1 su3_0 su3_1 hp).mono (R' := fun x _ => rval x = .bool true) (by rintro x M' _ rfl; rfl))
  clear hA0 hval0
  have hc2 : Calls Try.prog 9 #[.agg ([Value.slice Au0_0 (List.length u0_0) cu0_0] ++ ints .i64 u0_1).toArray, .agg (ints .i64 u1).toArray, .int .i64 u2, .agg ([Value.slice Au3_0 (List.length u3_0) cu3_0] ++ [Value.slice Au3_1 (List.length u3_1) cu3_1]).toArray] W fun e w' => e = .returned (.bool true) ∧ Below W.heap.size W w' := by
    simpa [rval, SV.val, sgCells, Sg.cells, Lf.val] using hc
  refine hc2.mono fun e W' ⟨he, bel⟩ => ?_
  subst he
  exact ⟨_, rfl, _, _, _, [], _, [], hW', trodAll_mk1 (shut_bool Try.underlying4 _), (trodAll_cons_mk (Below.trod laid9 (by kernel_rfl) (of_decide_eq_true (by kernel_rfl)) k0 bel lt0) (trodAll_cons_mk (Below.trod laid9 (by kernel_rfl) (of_decide_eq_true (by kernel_rfl)) k1 bel lt1) (trodAll_cons_mk (shut_int Try.underlying3 wu2) (trodAll_cons_mk (Below.trod laid9 (by kernel_rfl) (of_decide_eq_true (by kernel_rfl)) k3 bel lt3) trodAll_mk0)))), rfl, bel.frame _, fun h => by cases h⟩
theorem claimLogs_of (plain : PlainClaimLogs) : Rows.ClaimLogsSaid :=
  OpenClaim.holds_of_wide 9 Try.f9 rfl rfl rfl rfl rfl rfl rfl ⟨rfl, rfl, rfl, rfl, rfl⟩ rfl rfl rfl rfl rfl (by kernel_rfl) Try.func9 (by kernel_rfl)
    (of_decide_eq_true (by kernel_rfl)) (by unfold Func.isWrapper; first | (rw [if_pos (by decide +kernel)]; kernel_rfl) | (rw [if_neg (by decide +kernel)]; exact ⟨rfl, rfl⟩))
    (fun os started H enc _ => lifted9 plain os started H enc)
end Go.Proofs.Ythjkejbgknemgaa
namespace Go.Proofs.Ythjkejbgknemgaa
open Go.RowKit Classical
theorem plain9 : PlainClaimLogs := by
  intro R D u m P V hlen hrow hR hD hDz hul huz hm hPl hPz hVl hVr hVz
  obtain ⟨k, hk⟩ : ∃ k, 5000 ≤ k := ⟨5000, Nat.le_refl _⟩
  refine ⟨k, ?_⟩
  have hb : Wf64 R := fun r hr z hz => bounds_i64 (hR r hr z hz)
  have e1 : ∀ x : Int, (x != x) = false := fun x => by simp
  have e2 : ∀ x : List Int, (true != (x == x)) = false := fun x => by simp
  have e3 : ∀ x : Bool, (true != (x == x)) = false := fun x => by simp
  have e4 : ∀ x : Bool, (false != (x == x)) = true := fun x => by simp
  have e5 : ∀ x : Int, (x == x) = true := fun x => by simp
  have hs := spE_len R D m
  unfold p9
  obtain ⟨g, hg⟩ := p18_some (k := k) (R := R) (D := D)
  rw [hg, p29_some, p12_eq hk, p23_eq hk hD, p30_eq hk hD hb, p24_eq hk hD, p34_eq hk hD hb, p22_eq hk hD, p35_eq hk hD hb, p36_eq hk hD, p37_eq hk hD hb, p31_eq hk hD, p21_eq hk hD hb, p32_eq, p33_eq]
  generalize spE R D m = sE at hs ⊢
  generalize mnE R D = mE
  generalize dvE R D u P V = dE
  generalize (if logE R D = 0 then (decide (Fits R D P V), (0 : Int)) else (false, logE R D)) = fE
  obtain ⟨a1, a2, a3⟩ := sE
  obtain ⟨b1, b2⟩ := mE
  obtain ⟨c1, c2⟩ := dE
  obtain ⟨d1, d2⟩ := fE
  have h1 : a1.length = 2 := hs.1
  have h2 : a2.length = 8 := hs.2
  have hg1 : ∀ {α : Type} (x : Option α), gd (a1.length = 2) x = x := fun x => gd_v h1 x
  have hg2 : ∀ {α : Type} (x : Option α), gd (a2.length = 8) x = x := fun x => gd_v h2 x
  simp only [jn_v, cl_v, cl2_v, cl3_v, lt_v, e1, e2, e3, e4, e5, sp_ff, sp_tt, hg1, hg2]
  cases g with
  | true => rfl
  | false =>
    rw [sp_ff]
    cases decide (300 < P.length ∨ 300 < V.length) with
    | true => rfl
    | false => rfl
theorem claimLogs_holds : Rows.ClaimLogsSaid := claimLogs_of plain9
end Go.Proofs.Ythjkejbgknemgaa
