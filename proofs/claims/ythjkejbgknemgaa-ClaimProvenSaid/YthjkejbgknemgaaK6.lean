/- The law ClaimProven holds of every input. No condition: every theorem names its own hypotheses. -/
import Derived.Test.YthjkejbgknemgaaK5
import Derived.Test.YthjkejbgknemgaaRows
set_option linter.unusedVariables false
set_option linter.unusedSimpArgs false
set_option maxHeartbeats 4000000
namespace Go.Proofs.Ythjkejbgknemgaa
open Go.RowKit Classical
theorem drop_rd {R : List (List Int)} {i : Nat} (h : i < R.length) : R.drop i = rd R i :: R.drop (i + 1) := by
  rw [List.drop_eq_getElem_cons h]
  simp [rd, List.getD_eq_getElem?_getD, List.getElem?_eq_getElem h]
theorem rd_mem {R : List (List Int)} {i : Nat} (h : i < R.length) : rd R i ∈ R := by
  simp only [rd, List.getD_eq_getElem?_getD, List.getElem?_eq_getElem h, Option.getD_some]
  exact List.getElem_mem h
theorem asc_lt {R : List (List Int)} (ha : ∀ i, i + 1 < R.length → rA (rd R i) < rA (rd R (i + 1))) : ∀ {d i : Nat}, i + d + 1 < R.length → rA (rd R i) < rA (rd R (i + d + 1))
  | 0, i, h => ha i h
  | d + 1, i, h => by
    have h1 := asc_lt ha (d := d) (i := i) (by omega)
    have h2 := ha (i + d + 1) (by omega)
    have : i + (d + 1) + 1 = i + d + 1 + 1 := by omega
    rw [this]; omega
theorem asc_le {R : List (List Int)} (ha : ∀ i, i + 1 < R.length → rA (rd R i) < rA (rd R (i + 1))) {i j : Nat} (hij : i ≤ j) (hj : j < R.length) : rA (rd R i) ≤ rA (rd R j) := by
  rcases Nat.eq_or_lt_of_le hij with e | e
  · rw [e]; exact Int.le_refl _
  · have := asc_lt ha (d := j - i - 1) (i := i) (by omega)
    rw [show i + (j - i - 1) + 1 = j from by omega] at this
    omega
theorem ArgOk.range {R D} (h : ArgOk R D) {i : Nat} (hi : i < R.length) : stT R ≤ rA (rd R i) ∧ rA (rd R i) ≤ stT R + lastI R := by
  have := h.n2
  refine ⟨asc_le h.asc (Nat.zero_le _) hi, ?_⟩
  have := asc_le h.asc (i := i) (j := R.length - 1) (by omega) (by omega)
  unfold lastI
  omega
theorem ArgOk.st {R D} (h : ArgOk R D) : 0 ≤ stT R ∧ stT R ≤ 1099511627776 := by
  have := h.n2
  have := h.read 0 (by omega)
  exact ⟨this.1, this.2.1⟩
theorem ArgOk.last {R D} (h : ArgOk R D) : 1 ≤ lastI R := by
  have h2 := h.n2
  have := h.asc 0 (by omega)
  rw [Nat.zero_add] at this
  have h3 := asc_le h.asc (i := 1) (j := R.length - 1) (by omega) (by omega)
  unfold lastI stT
  omega
theorem p45_eq {k : Nat} {R : List (List Int)} {D : List Int} {m : Int} (h0 : 0 < R.length) (h1 : -9223372036854775808 ≤ stT R + m) (h2 : stT R + m ≤ 9223372036854775807) : p45 k R D m = some (stT R + m) := by
  unfold p45
  rw [gd_v (by omega)]
  simp only [lt_v]
  rw [show (R.getD 0 []).getD 0 0 + m = stT R + m from rfl, wr64 h1 h2]
theorem p53_eq {k : Nat} {R : List (List Int)} {D : List Int} (h0 : 0 < R.length) (hn : R.length ≤ 64) (h1 : -9223372036854775808 ≤ lastI R) (h2 : lastI R ≤ 9223372036854775807) : p53 k R D = some (lastI R) := by
  unfold p53
  simp only [lt_v]
  rw [wr64 (by omega) (by omega), gd_v (by omega), gd_v (by omega)]
  rw [show ((R.length : Int) - 1).toNat = R.length - 1 from by omega]
  rw [show (R.getD (R.length - 1) []).getD 0 0 - (R.getD 0 []).getD 0 0 = lastI R from rfl, wr64 h1 h2]
theorem p16_l1_eq {k : Nat} {R : List (List Int)} {D : List Int} {m t : Int} (hn : R.length ≤ 64) (ht : p45 k R D m = some t) (j : List Int → Option (List Int)) : ∀ (d i n : Nat) (a b : Int), i + d = R.length → d < n →
    p16_l1 k R D m j n (i : Int) [a, b] = j [PL t (R.drop i) a, PH t (R.drop i) b]
  | 0, i, n, a, b, h1, h2 => by
    obtain ⟨n, rfl⟩ : ∃ n', n = n' + 1 := ⟨n - 1, by omega⟩
    rw [p16_l1]
    simp only [lt_v, sp_d]
    rw [if_neg (by omega), List.drop_eq_nil_of_le (by omega)]
    rfl
  | d + 1, i, n, a, b, h1, h2 => by
    obtain ⟨n, rfl⟩ : ∃ n', n = n' + 1 := ⟨n - 1, by omega⟩
    rw [p16_l1]
    simp only [lt_v, sp_d, jn_v]
    rw [if_pos (by omega), gd_v (by omega)]
    simp only [ht, cl_v, mx_eq, mn_eq, Int.toNat_natCast]
    have hw : wr .i64 ((i : Int) + 1) = ((i + 1 : Nat) : Int) := by rw [wr64 (by omega) (by omega)]; omega
    rw [drop_rd (by omega : i < R.length)]
    simp only [PL, PH]
    have ih := fun a b => p16_l1_eq hn ht j d (i + 1) n a b (by omega) (by omega)
    show (if rA (rd R i) ≤ t then _ else _) = _
    have e1 : ∀ a b x : Int, List.set [a, b] 0 x = [x, b] := fun _ _ _ => rfl
    have e2 : ∀ a b x : Int, List.set [a, b] 1 x = [a, x] := fun _ _ _ => rfl
    simp only [e1, e2, List.getD_cons_zero, List.getD_cons_succ, hw, ih, ge_iff_le]
    show (if rA (rd R i) ≤ t then (if t ≤ rA (rd R i) then _ else _) else (if t ≤ rA (rd R i) then _ else _)) = _
    split <;> split <;> rfl
theorem p16_eq {k : Nat} (hk : 5000 ≤ k) {R : List (List Int)} {D : List Int} {m : Int} (h0 : 0 < R.length) (hn : R.length ≤ 64) (h1 : -9223372036854775808 ≤ stT R + m) (h2 : stT R + m ≤ 9223372036854775807) : p16 k R D m = some [pl R m, ph R m] := by
  unfold p16
  simp only [jn_v]
  have := p16_l1_eq hn (p45_eq (k := k) (D := D) h0 h1 h2) (fun L => some L) R.length 0 k (-1099511627776) 1099511627776 (by omega) (by omega)
  rw [List.drop_zero] at this
  exact this
theorem ab_mul {d x : Int} (h0 : 0 ≤ d) (h1 : d ≤ 1048576) (h2 : -2001 ≤ x) (h3 : x ≤ 2001) : 0 ≤ d * ab x ∧ d * ab x ≤ 2098200576 := by
  have : 0 ≤ ab x ∧ ab x ≤ 2001 := by unfold ab; omega
  constructor
  · exact Int.mul_nonneg h0 this.1
  · calc d * ab x ≤ 1048576 * 2001 := Int.mul_le_mul h1 this.2 this.1 (by omega)
      _ = 2098200576 := by rfl
theorem p17_l1_eq {k : Nat} {R : List (List Int)} {D : List Int} {m : Int} {kk : Nat} (hn : R.length ≤ 64) (ha : ArgOk R D) (hm0 : 0 ≤ m) (hm1 : m ≤ lastI R) (hk4 : kk < 4) (j : List Int → Option (List Int)) : ∀ (d i n : Nat) (a b : Int), i + d = R.length → d < n →
    p17_l1 k R D m (kk : Int) j n (i : Int) [a, b] = j [VL (D.getD kk 0) kk (stT R + m) (R.drop i) a, VH (D.getD kk 0) kk (stT R + m) (R.drop i) b]
  | 0, i, n, a, b, h1, h2 => by
    obtain ⟨n, rfl⟩ : ∃ n', n = n' + 1 := ⟨n - 1, by omega⟩
    rw [p17_l1]
    simp only [lt_v, sp_d]
    rw [if_neg (by omega), List.drop_eq_nil_of_le (by omega)]
    rfl
  | d + 1, i, n, a, b, h1, h2 => by
    obtain ⟨n, rfl⟩ : ∃ n', n = n' + 1 := ⟨n - 1, by omega⟩
    have hst := ha.st
    have hsp := ha.span
    have hrg := ha.range (i := i) (by omega)
    have hdr := ha.dr kk hk4
    have hrd := (ha.read i (by omega)).2.2.2 kk hk4
    have h45 : p45 k R D m = some (stT R + m) := p45_eq (by omega) (by omega) (by omega)
    have hmul := ab_mul hdr.1 hdr.2 (x := rA (rd R i) - (stT R + m)) (by omega) (by omega)
    have hw : wr .i64 ((i : Int) + 1) = ((i + 1 : Nat) : Int) := by rw [wr64 (by omega) (by omega)]; omega
    rw [p17_l1]
    simp only [lt_v, sp_d, h45, cl_v, Int.toNat_natCast]
    rw [if_pos (by omega), gd_v (by omega), gd_v (by omega), gd_v (by omega), gd_v (by omega), gd_v (by omega)]
    rw [show List.getD (List.getD R i []) 0 0 = rA (rd R i) from rfl]
    rw [wr64 (z := rA (rd R i) - (stT R + m)) (by omega) (by omega), wr64 (z := stT R + m - rA (rd R i)) (by omega) (by omega)]
    simp only [mx_eq, mn_eq]
    rw [show max (rA (rd R i) - (stT R + m)) (stT R + m - rA (rd R i)) = ab (rA (rd R i) - (stT R + m)) from by unfold ab; omega]
    rw [show D.getD (0 + kk * 1) 0 = D.getD kk 0 from by rw [Nat.zero_add, Nat.mul_one]]
    rw [wr64 (z := D.getD kk 0 * ab (rA (rd R i) - (stT R + m))) (by omega) (by omega)]
    rw [show List.getD (List.getD R i []) (3 + kk * 2 + 0) 0 = rVL kk (rd R i) from rfl, show List.getD (List.getD R i []) (3 + kk * 2 + 1) 0 = rVH kk (rd R i) from rfl]
    unfold bandOk at hrd
    rw [wr64 (z := rVL kk (rd R i) - _) (by omega) (by omega), wr64 (z := rVH kk (rd R i) + _) (by omega) (by omega), hw]
    have e1 : ∀ a b x : Int, List.set [a, b] 0 x = [x, b] := fun _ _ _ => rfl
    have e2 : ∀ a b x : Int, List.set [a, b] 1 x = [a, x] := fun _ _ _ => rfl
    simp only [e1, e2, List.getD_cons_zero, List.getD_cons_succ]
    rw [p17_l1_eq hn ha hm0 hm1 hk4 j d (i + 1) n _ _ (by omega) (by omega), drop_rd (by omega : i < R.length)]
    rfl
theorem p17_eq {k : Nat} (hk : 5000 ≤ k) {R : List (List Int)} {D : List Int} {m : Int} {kk : Nat} (hn : R.length ≤ 64) (ha : ArgOk R D) (hm0 : 0 ≤ m) (hm1 : m ≤ lastI R) (hk4 : kk < 4) : p17 k R D m (kk : Int) = some [vl R D kk m, vh R D kk m] := by
  unfold p17
  simp only [jn_v]
  have := p17_l1_eq (k := k) hn ha hm0 hm1 hk4 (fun L => some L) R.length 0 k (-1125899906842624) 1125899906842624 (by omega) (by omega)
  rw [List.drop_zero] at this
  exact this
theorem if_all {α : Type} {P Q S : Prop} [Decidable P] [Decidable Q] [Decidable S] (h : P ↔ Q ∧ S) (x y : α) : (if P then x else y) = if Q then (if S then x else y) else y := by
  by_cases hq : Q <;> by_cases hs : S <;> simp [h, hq, hs]
theorem if_row {α : Type} {c1 c2 c3 c4 P : Prop} [Decidable c1] [Decidable c2] [Decidable c3] [Decidable c4] [Decidable P] (h : P ↔ c1 ∧ ¬ c3 ∧ c2 ∧ c4) (X Z : α) : (if c1 then (if c3 then Z else (if c2 then (if c4 then X else Z) else Z)) else Z) = if P then X else Z := by
  by_cases h1 : c1 <;> by_cases h2 : c2 <;> by_cases h3 : c3 <;> by_cases h4 : c4 <;> simp [h, h1, h2, h3, h4]
theorem if_row' {α : Type} {c1 c2 c3 c4 P : Prop} [Decidable c1] [Decidable c2] [Decidable c3] [Decidable c4] [Decidable P] (h : P ↔ c1 ∧ ¬ c3 ∧ c2 ∧ c4) (X Z : α) : (if c1 then (if c2 then (if c3 then Z else (if c4 then X else Z)) else Z) else Z) = if P then X else Z := by
  by_cases h1 : c1 <;> by_cases h2 : c2 <;> by_cases h3 : c3 <;> by_cases h4 : c4 <;> simp [h, h1, h2, h3, h4]
theorem if_row0 {α : Type} {c1 c2 c4 P : Prop} [Decidable c1] [Decidable c2] [Decidable c4] [Decidable P] (h : P ↔ c1 ∧ c2 ∧ c4) (X Z : α) : (if c1 then (if c2 then (if c4 then X else Z) else Z) else Z) = if P then X else Z := by
  by_cases h1 : c1 <;> by_cases h2 : c2 <;> by_cases h4 : c4 <;> simp [h, h1, h2, h4]
theorem p21_l2_eq {k : Nat} {j : Option Int} {L : List Int} : ∀ (d i n : Nat), i + d = 4 → d < n → p21_l2 k j L n (i : Int) = if ∀ q, i ≤ q → q < 4 → bandOk (rVL q L) (rVH q L) then j else some 2
  | 0, i, n, h1, h2 => by
    obtain ⟨n, rfl⟩ : ∃ n', n = n' + 1 := ⟨n - 1, by omega⟩
    rw [p21_l2]
    simp only [lt_v, sp_d]
    rw [if_neg (by omega), if_pos (fun q h3 h4 => by omega)]
  | d + 1, i, n, h1, h2 => by
    obtain ⟨n, rfl⟩ : ∃ n', n = n' + 1 := ⟨n - 1, by omega⟩
    rw [p21_l2]
    simp only [lt_v, sp_d, p52_eq, cl_v, Int.toNat_natCast]
    rw [if_pos (by omega), gd_v (by omega)]
    have hw : wr .i64 ((i : Int) + 1) = ((i + 1 : Nat) : Int) := by rw [wr64 (by omega) (by omega)]; omega
    rw [hw, p21_l2_eq d (i + 1) n (by omega) (by omega)]
    have e0 : (List.take 2 (List.drop (3 + i * 2) L)).getD 0 0 = rVL i L := by simp [rVL, List.getD_eq_getElem?_getD]
    have e1 : (List.take 2 (List.drop (3 + i * 2) L)).getD 1 0 = rVH i L := by simp [rVH, List.getD_eq_getElem?_getD]
    rw [e0, e1]
    rw [if_all (P := ∀ q, i ≤ q → q < 4 → bandOk (rVL q L) (rVH q L)) (Q := bandOk (rVL i L) (rVH i L)) (S := ∀ q, i + 1 ≤ q → q < 4 → bandOk (rVL q L) (rVH q L)) ?_]
    constructor
    · intro h; exact ⟨h i (by omega) (by omega), fun q h3 h4 => h q (by omega) h4⟩
    · rintro ⟨h3, h4⟩ q h5 h6
      rcases Nat.eq_or_lt_of_le h5 with e | e
      · subst e; exact h3
      · exact h4 q e h6
def rowOkAt (R : List (List Int)) (i : Nat) : Prop := readOk (rd R i) ∧ (0 < i → rA (rd R (i - 1)) < rA (rd R i))
theorem p21_l1_eq {k : Nat} (hk : 5000 ≤ k) {R : List (List Int)} (hn : R.length ≤ 64) {j : Option Int} : ∀ (d i n : Nat), i + d = R.length → d < n → p21_l1 k R j n (i : Int) = if ∀ q, i ≤ q → q < R.length → rowOkAt R q then j else some 2
  | 0, i, n, h1, h2 => by
    obtain ⟨n, rfl⟩ : ∃ n', n = n' + 1 := ⟨n - 1, by omega⟩
    rw [p21_l1]
    simp only [lt_v, sp_d]
    rw [if_neg (by omega), if_pos (fun q h3 h4 => by omega)]
  | d + 1, i, n, h1, h2 => by
    obtain ⟨n, rfl⟩ : ∃ n', n = n' + 1 := ⟨n - 1, by omega⟩
    rw [p21_l1]
    simp only [lt_v, sp_d, p52_eq, p50_eq, cl_v, jn_v, Int.toNat_natCast]
    rw [if_pos (by omega), gd_v (by omega)]
    have hw : wr .i64 ((i : Int) + 1) = ((i + 1 : Nat) : Int) := by rw [wr64 (by omega) (by omega)]; omega
    rw [hw, p21_l1_eq hk hn d (i + 1) n (by omega) (by omega)]
    have h2' := p21_l2_eq (k := k) (j := if ∀ q, i + 1 ≤ q → q < R.length → rowOkAt R q then j else some 2) (L := rd R i) 4 0 k (by omega) (by omega)
    have hl2 : p21_l2 k (if ∀ q, i + 1 ≤ q → q < R.length → rowOkAt R q then j else some 2) (R.getD i []) k 0 = _ := h2'
    rw [hl2]
    have e0 : (List.take 2 (List.drop 1 (R.getD i []))).getD 0 0 = rPL (rd R i) := by simp [rPL, rd, List.getD_eq_getElem?_getD]
    have e1 : (List.take 2 (List.drop 1 (R.getD i []))).getD 1 0 = rPH (rd R i) := by simp [rPH, rd, List.getD_eq_getElem?_getD]
    rw [e0, e1]
    rw [if_all (P := ∀ q, i ≤ q → q < R.length → rowOkAt R q) (Q := rowOkAt R i) (S := ∀ q, i + 1 ≤ q → q < R.length → rowOkAt R q) (by
      constructor
      · intro h; exact ⟨h i (by omega) (by omega), fun q h3 h4 => h q (by omega) h4⟩
      · rintro ⟨h3, h4⟩ q h5 h6
        rcases Nat.eq_or_lt_of_le h5 with e | e
        · subst e; exact h3
        · exact h4 q e h6)]
    generalize hX : (if ∀ q, i + 1 ≤ q → q < R.length → rowOkAt R q then j else some 2) = X
    have hA : List.getD (R.getD i []) 0 0 = rA (rd R i) := rfl
    rw [hA]
    by_cases hi : 0 < i
    · have hw2 : wr .i64 ((i : Int) - 1) = ((i - 1 : Nat) : Int) := by rw [wr64 (by omega) (by omega)]; omega
      rw [if_pos (show (i : Int) > 0 by omega), hw2, gd_v (by omega)]
      simp only [Int.toNat_natCast, sp_tt, sp_nd]
      refine if_row (c3 := rA (rd R i) ≤ rA (rd R (i - 1))) ?_ _ _
      unfold rowOkAt readOk
      constructor
      · rintro ⟨⟨a1, a2, a3, a4⟩, a5⟩
        exact ⟨⟨a1, a2⟩, by have := a5 hi; omega, a3, fun q _ hq => a4 q hq⟩
      · rintro ⟨⟨a1, a2⟩, a3, a4, a5⟩
        exact ⟨⟨a1, a2, a4, fun q hq => a5 q (Nat.zero_le _) hq⟩, fun _ => by omega⟩
    · rw [if_neg (show ¬ (i : Int) > 0 by omega)]
      simp only [sp_tt, sp_nd]
      refine if_row0 ?_ _ _
      unfold rowOkAt readOk
      constructor
      · rintro ⟨⟨a1, a2, a3, a4⟩, a5⟩
        exact ⟨⟨a1, a2⟩, a3, fun q _ hq => a4 q hq⟩
      · rintro ⟨⟨a1, a2⟩, a4, a5⟩
        exact ⟨⟨a1, a2, a4, fun q hq => a5 q (Nat.zero_le _) hq⟩, fun h => absurd h hi⟩
theorem p21_l3_eq {k : Nat} {D : List Int} {j : Option Int} : ∀ (d i n : Nat), i + d = 4 → d < n → p21_l3 k D j n (i : Int) = if ∀ q, i ≤ q → q < 4 → 0 ≤ D.getD q 0 ∧ D.getD q 0 ≤ 1048576 then j else some 2
  | 0, i, n, h1, h2 => by
    obtain ⟨n, rfl⟩ : ∃ n', n = n' + 1 := ⟨n - 1, by omega⟩
    rw [p21_l3]
    simp only [lt_v, sp_d]
    rw [if_neg (by omega), if_pos (fun q h3 h4 => by omega)]
  | d + 1, i, n, h1, h2 => by
    obtain ⟨n, rfl⟩ : ∃ n', n = n' + 1 := ⟨n - 1, by omega⟩
    rw [p21_l3]
    simp only [lt_v, sp_d, p50_eq, cl_v, Int.toNat_natCast]
    rw [if_pos (by omega), gd_v (by omega)]
    have hw : wr .i64 ((i : Int) + 1) = ((i + 1 : Nat) : Int) := by rw [wr64 (by omega) (by omega)]; omega
    rw [hw, p21_l3_eq d (i + 1) n (by omega) (by omega)]
    rw [if_all (P := ∀ q, i ≤ q → q < 4 → 0 ≤ D.getD q 0 ∧ D.getD q 0 ≤ 1048576) (Q := 0 ≤ D.getD i 0 ∧ D.getD i 0 ≤ 1048576) (S := ∀ q, i + 1 ≤ q → q < 4 → 0 ≤ D.getD q 0 ∧ D.getD q 0 ≤ 1048576) ?_]
    · simp only [Nat.zero_add, Nat.mul_one]
    constructor
    · intro h; exact ⟨h i (by omega) (by omega), fun q h3 h4 => h q (by omega) h4⟩
    · rintro ⟨h3, h4⟩ q h5 h6
      rcases Nat.eq_or_lt_of_le h5 with e | e
      · subst e; exact h3
      · exact h4 q e h6
theorem p21_l5_eq {k : Nat} (hk : 5000 ≤ k) {R : List (List Int)} {D : List Int} (hn : R.length ≤ 64) (ha : ArgOk R D) {m : Int} (hm0 : 0 ≤ m) (hm1 : m ≤ lastI R) {j : Option Int} : ∀ (d i n : Nat), i + d = 4 → d < n → p21_l5 k R D m j n (i : Int) = if ∀ q, i ≤ q → q < 4 → vl R D q m ≤ vh R D q m then j else some 16
  | 0, i, n, h1, h2 => by
    obtain ⟨n, rfl⟩ : ∃ n', n = n' + 1 := ⟨n - 1, by omega⟩
    rw [p21_l5]
    simp only [lt_v, sp_d]
    rw [if_neg (by omega), if_pos (fun q h3 h4 => by omega)]
  | d + 1, i, n, h1, h2 => by
    obtain ⟨n, rfl⟩ : ∃ n', n = n' + 1 := ⟨n - 1, by omega⟩
    rw [p21_l5]
    simp only [lt_v, sp_d, p17_eq hk hn ha hm0 hm1 (show i < 4 by omega), cl_v]
    rw [if_pos (by omega), gd_v (c := [_, _].length = 2) rfl]
    have hw : wr .i64 ((i : Int) + 1) = ((i + 1 : Nat) : Int) := by rw [wr64 (by omega) (by omega)]; omega
    rw [hw, p21_l5_eq hk hn ha hm0 hm1 d (i + 1) n (by omega) (by omega)]
    simp only [List.getD_cons_zero, List.getD_cons_succ]
    rw [if_all (P := ∀ q, i ≤ q → q < 4 → vl R D q m ≤ vh R D q m) (Q := vl R D i m ≤ vh R D i m) (S := ∀ q, i + 1 ≤ q → q < 4 → vl R D q m ≤ vh R D q m) ?_]
    · by_cases c : vl R D i m ≤ vh R D i m
      · rw [if_pos c, if_neg (by omega)]
      · rw [if_neg c, if_pos (by omega)]
    constructor
    · intro h; exact ⟨h i (by omega) (by omega), fun q h3 h4 => h q (by omega) h4⟩
    · rintro ⟨h3, h4⟩ q h5 h6
      rcases Nat.eq_or_lt_of_le h5 with e | e
      · subst e; exact h3
      · exact h4 q e h6
theorem p21_l4_eq {k : Nat} (hk : 5000 ≤ k) {R : List (List Int)} {D : List Int} (hn : R.length ≤ 64) (ha : ArgOk R D) {j : Option Int} : ∀ (d n : Nat) (m : Int), 0 ≤ m → m + d = lastI R + 1 → d < n → p21_l4 k R D j n m = if ∀ q, m ≤ q → q ≤ lastI R → SumAt R D q then j else some 16
  | 0, n, m, h0, h1, h2 => by
    obtain ⟨n, rfl⟩ : ∃ n', n = n' + 1 := ⟨n - 1, by omega⟩
    have := ha.last
    have := ha.span
    have := ha.n2
    rw [p21_l4]
    simp only [lt_v, sp_d, p53_eq (k := k) (D := D) (by omega) hn (by omega) (by omega), cl_v]
    rw [if_neg (by omega), if_pos (fun q h3 h4 => by omega)]
  | d + 1, n, m, h0, h1, h2 => by
    obtain ⟨n, rfl⟩ : ∃ n', n = n' + 1 := ⟨n - 1, by omega⟩
    have := ha.last
    have := ha.span
    have := ha.n2
    have := ha.st
    rw [p21_l4]
    simp only [lt_v, sp_d, jn_v, p53_eq (k := k) (D := D) (by omega) hn (by omega) (by omega), p16_eq (D := D) hk (by omega) hn (show -9223372036854775808 ≤ stT R + m by omega) (by omega), cl_v]
    rw [if_pos (by omega), gd_v (c := [_, _].length = 2) rfl, wr64 (by omega) (by omega), p21_l4_eq hk hn ha d n (m + 1) (by omega) (by omega) (by omega)]
    have h5 := p21_l5_eq hk hn ha h0 (show m ≤ lastI R by omega) (j := if ∀ q, m + 1 ≤ q → q ≤ lastI R → SumAt R D q then j else some 16) 4 0 k (by omega) (by omega)
    rw [show (0 : Int) = ((0 : Nat) : Int) from rfl, h5]
    simp only [List.getD_cons_zero, List.getD_cons_succ]
    rw [if_all (P := ∀ q, m ≤ q → q ≤ lastI R → SumAt R D q) (Q := SumAt R D m) (S := ∀ q, m + 1 ≤ q → q ≤ lastI R → SumAt R D q) ?_]
    · by_cases c : pl R m ≤ ph R m <;> by_cases c2 : ∀ q, q < 4 → vl R D q m ≤ vh R D q m
      · rw [if_neg (by omega), if_pos (fun q _ => c2 q), if_pos (show SumAt R D m from ⟨c, c2⟩)]
      · rw [if_neg (by omega), if_neg (fun h => c2 fun q => h q (Nat.zero_le _)), if_neg (fun h : SumAt R D m => c2 h.2)]
      · rw [if_pos (by omega), if_neg (fun h : SumAt R D m => c h.1)]
      · rw [if_pos (by omega), if_neg (fun h : SumAt R D m => c h.1)]
    constructor
    · intro h; exact ⟨h m (by omega) (by omega), fun q h3 h4 => h q (by omega) h4⟩
    · rintro ⟨h3, h4⟩ q h5 h6
      by_cases e : q = m
      · subst e; exact h3
      · exact h4 q (by omega) h6
theorem p21_l1_eq0 {k : Nat} (hk : 5000 ≤ k) {R : List (List Int)} (hn : R.length ≤ 64) {j : Option Int} : p21_l1 k R j k 0 = if ∀ q, q < R.length → rowOkAt R q then j else some 2 := by
  have := p21_l1_eq hk hn (j := j) R.length 0 k (by omega) (by omega)
  simpa using this
theorem p21_l3_eq0 {k : Nat} (hk : 5 ≤ k) {D : List Int} {j : Option Int} : p21_l3 k D j k 0 = if ∀ q, q < 4 → 0 ≤ D.getD q 0 ∧ D.getD q 0 ≤ 1048576 then j else some 2 := by
  have := p21_l3_eq (k := k) (D := D) (j := j) 4 0 k (by omega) (by omega)
  simpa using this
theorem p21_eq {k : Nat} (hk : 5000 ≤ k) {R : List (List Int)} {D : List Int} (hD : D.length = 4) (hb : ∀ r ∈ R, ∀ z ∈ r, -9223372036854775808 ≤ z ∧ z ≤ 9223372036854775807) : p21 k R D = some (logE R D) := by
  unfold p21 logE
  simp only [lt_v, sp_d, jn_v]
  by_cases hn : 64 < R.length
  · rw [if_pos (by omega), if_pos hn]
  · rw [if_neg (by omega), if_neg hn]
    have hn' : R.length ≤ 64 := by omega
    by_cases h2 : R.length < 2
    · rw [if_pos (by omega), if_pos (fun h => by have := h.n2; omega)]
    · rw [if_neg (by omega)]
      rw [p21_l1_eq0 hk hn']
      by_cases hrow : ∀ q, q < R.length → rowOkAt R q
      · rw [if_pos hrow]
        have hasc : ∀ i, i + 1 < R.length → rA (rd R i) < rA (rd R (i + 1)) := fun i hi => by
          have := (hrow (i + 1) hi).2 (by omega)
          simpa using this
        have r0 := (hrow 0 (by omega)).1
        have r1 := (hrow (R.length - 1) (by omega)).1
        unfold readOk at r0 r1
        have hla : lastI R = rA (rd R (R.length - 1)) - rA (rd R 0) := rfl
        rw [wr64 (z := (R.length : Int) - 1) (by omega) (by omega), gd_v (by omega), gd_v (by omega), show ((R.length : Int) - 1).toNat = R.length - 1 from by omega]
        rw [show (R.getD (R.length - 1) []).getD 0 0 - (R.getD 0 []).getD 0 0 = lastI R from rfl, wr64 (z := lastI R) (by omega) (by omega)]
        by_cases hs : lastI R ≤ 2000
        · rw [if_neg (by omega), p21_l3_eq0 (by omega)]
          by_cases hd : ∀ q, q < 4 → 0 ≤ D.getD q 0 ∧ D.getD q 0 ≤ 1048576
          · have ha : ArgOk R D := ⟨by omega, fun i hi => (hrow i hi).1, hasc, hs, hd⟩
            rw [if_pos hd, if_neg (fun h => h ha)]
            have hla1 := ha.last
            rw [p21_l4_eq hk hn' ha (lastI R + 1).toNat k 0 (by omega) (by omega) (by omega)]
            by_cases hq : ∀ q, 0 ≤ q → q ≤ lastI R → SumAt R D q
            · rw [if_pos hq, if_neg (fun h : ¬ SumOk R D => h hq)]
            · rw [if_neg hq, if_pos (show ¬ SumOk R D from hq)]
          · rw [if_neg hd, if_pos (fun h => hd h.dr)]
        · rw [if_pos (by omega), if_pos (fun h => hs h.span)]
      · rw [if_neg hrow, if_pos]
        intro h
        refine hrow fun q hq => ⟨h.read q hq, fun h0 => ?_⟩
        have := h.asc (q - 1) (by omega)
        rw [show q - 1 + 1 = q from by omega] at this
        exact this
end Go.Proofs.Ythjkejbgknemgaa
namespace Go.Proofs.Ythjkejbgknemgaa
open Go.RowKit Classical
def ML : List (List Int) → Int → Int
  | [], a => a
  | r :: l, a => ML l (max a (r.getD 0 0))
def MH : List (List Int) → Int → Int
  | [], b => b
  | r :: l, b => MH l (min b (r.getD 1 0))
theorem p83_l1_eq {k : Nat} {P : List (List Int)} (hn : P.length ≤ 1000) (j : List Int → Option (List Int)) : ∀ (d i n : Nat) (a b : Int), i + d = P.length → d < n →
    p83_l1 k j P n (i : Int) [a, b] = j [ML (P.drop i) a, MH (P.drop i) b]
  | 0, i, n, a, b, h1, h2 => by
    obtain ⟨n, rfl⟩ : ∃ n', n = n' + 1 := ⟨n - 1, by omega⟩
    rw [p83_l1]
    simp only [lt_v, sp_d]
    rw [if_neg (by omega), List.drop_eq_nil_of_le (by omega)]
    rfl
  | d + 1, i, n, a, b, h1, h2 => by
    obtain ⟨n, rfl⟩ : ∃ n', n = n' + 1 := ⟨n - 1, by omega⟩
    rw [p83_l1]
    simp only [lt_v, sp_d, mx_eq, mn_eq, Int.toNat_natCast]
    have hw : wr .i64 ((i : Int) + 1) = ((i + 1 : Nat) : Int) := by rw [wr64 (by omega) (by omega)]; omega
    rw [if_pos (by omega), gd_v (by omega), hw]
    have e1 : ∀ a b x : Int, List.set [a, b] 0 x = [x, b] := fun _ _ _ => rfl
    have e2 : ∀ a b x : Int, List.set [a, b] 1 x = [a, x] := fun _ _ _ => rfl
    simp only [e1, e2, List.getD_cons_zero, List.getD_cons_succ]
    rw [p83_l1_eq hn j d (i + 1) n _ _ (by omega) (by omega), drop_rd (by omega : i < P.length)]
    rfl
theorem p83_eq {k : Nat} (hk : 5000 ≤ k) {a b : Int} {P : List (List Int)} (hn : P.length ≤ 100) : p83 k ([a, b] :: P) = some [ML P a, MH P b] := by
  unfold p83
  simp only [jn_v, lt_v]
  rw [gd_v (by simp), gd_v (by simp)]
  have hp : part ([a, b] :: P) ((1 : Int)).toNat ([a, b] :: P).length = P := by
    have : ((1 : Int)).toNat = 1 := rfl
    simp [part, this]
  rw [hp]
  have := p83_l1_eq (k := k) (P := P) (by omega) (fun L5 => some L5) P.length 0 k a b (by omega) (by omega)
  rw [List.drop_zero] at this
  exact this
theorem p83_two {k : Nat} (hk : 5000 ≤ k) {a b c d : Int} : p83 k [[a, b], [c, d]] = some [max a c, min b d] := by
  rw [p83_eq hk (by simp)]
  rfl
theorem PL_base {t b b' : Int} {l : List (List Int)} {r : List Int} (hr : r ∈ l) (ht : rA r ≤ t) (h1 : b ≤ rPL r) (h2 : b' ≤ rPL r) : PL t l b = PL t l b' := by
  have h3 : PL t l b ≤ PL t l b' := PL_le.2 ⟨Int.le_trans h1 ((PL_le.1 (Int.le_refl _)).2 r hr ht), fun q hq hqt => (PL_le.1 (Int.le_refl (PL t l b'))).2 q hq hqt⟩
  have h4 : PL t l b' ≤ PL t l b := PL_le.2 ⟨Int.le_trans h2 ((PL_le.1 (Int.le_refl _)).2 r hr ht), fun q hq hqt => (PL_le.1 (Int.le_refl (PL t l b))).2 q hq hqt⟩
  omega
theorem PH_base {t b b' : Int} {l : List (List Int)} {r : List Int} (hr : r ∈ l) (ht : t ≤ rA r) (h1 : rPH r ≤ b) (h2 : rPH r ≤ b') : PH t l b = PH t l b' := by
  have h3 : PH t l b ≤ PH t l b' := le_PH.2 ⟨Int.le_trans ((le_PH.1 (Int.le_refl _)).2 r hr ht) h2, fun q hq hqt => (le_PH.1 (Int.le_refl (PH t l b))).2 q hq hqt⟩
  have h4 : PH t l b' ≤ PH t l b := le_PH.2 ⟨Int.le_trans ((le_PH.1 (Int.le_refl _)).2 r hr ht) h1, fun q hq hqt => (le_PH.1 (Int.le_refl (PH t l b'))).2 q hq hqt⟩
  omega
theorem p73_l1_eq {k : Nat} (hk : 5000 ≤ k) {R : List (List Int)} {t : Int} (hn : R.length ≤ 64) (j : List Int → Option (List Int)) (hr : ∀ i, i < R.length → readOk (rd R i)) : ∀ (d i n : Nat) (a b : Int), i + d = R.length → d < n → -1073741824 ≤ a → b ≤ 1073741824 →
    p73_l1 k R t j n (i : Int) [a, b] = j [PL t (R.drop i) a, PH t (R.drop i) b]
  | 0, i, n, a, b, h1, h2, ha, hb => by
    obtain ⟨n, rfl⟩ : ∃ n', n = n' + 1 := ⟨n - 1, by omega⟩
    rw [p73_l1]
    simp only [lt_v, sp_d]
    rw [if_neg (by omega), List.drop_eq_nil_of_le (by omega)]
    rfl
  | d + 1, i, n, a, b, h1, h2, ha, hb => by
    obtain ⟨n, rfl⟩ : ∃ n', n = n' + 1 := ⟨n - 1, by omega⟩
    have hri := (hr i (by omega)).2.2.1
    unfold bandOk at hri
    rw [p73_l1]
    simp only [lt_v, sp_d, jn_v, Int.toNat_natCast]
    have hw : wr .i64 ((i : Int) + 1) = ((i + 1 : Nat) : Int) := by rw [wr64 (by omega) (by omega)]; omega
    rw [if_pos (by omega), gd_v (by omega), hw]
    rw [drop_rd (by omega : i < R.length)]
    simp only [PL, PH]
    have hg : ∀ (a b : Int) (x : Option (List Int)), gd ([a, b].length = 2) x = x := fun _ _ _ => rfl
    have ih := fun a b ha hb => p73_l1_eq (t := t) hk hn j hr d (i + 1) n a b (by omega) (by omega) ha hb
    simp only [p83_two hk, cl_v, hg, ge_iff_le]
    show (if rA (rd R i) ≤ t then (if t ≤ rA (rd R i) then p73_l1 k R t j n ((i + 1 : Nat) : Int) [max (max a (rPL (rd R i))) (-1073741824), min (min b 1073741824) (rPH (rd R i))] else p73_l1 k R t j n ((i + 1 : Nat) : Int) [max a (rPL (rd R i)), min b 1073741824]) else
      (if t ≤ rA (rd R i) then p73_l1 k R t j n ((i + 1 : Nat) : Int) [max a (-1073741824), min b (rPH (rd R i))] else p73_l1 k R t j n ((i + 1 : Nat) : Int) [a, b])) = _
    split <;> split
    · rw [show max (max a (rPL (rd R i))) (-1073741824) = max a (rPL (rd R i)) from by omega, show min (min b 1073741824) (rPH (rd R i)) = min b (rPH (rd R i)) from by omega]
      exact ih _ _ (by omega) (by omega)
    · rw [show min b 1073741824 = b from by omega]
      exact ih _ _ (by omega) (by omega)
    · rw [show max a (-1073741824) = a from by omega]
      exact ih _ _ (by omega) (by omega)
    · exact ih _ _ (by omega) (by omega)
theorem pl_base {R : List (List Int)} {D : List Int} (ha : ArgOk R D) {m : Int} (h0 : 0 ≤ m) : PL (stT R + m) R (-1073741824) = pl R m := by
  have h2 := ha.n2
  have hb := (ha.read 0 (by omega)).2.2.1
  unfold bandOk at hb
  exact PL_base (rd_mem (i := 0) (by omega)) (by have : stT R = rA (rd R 0) := rfl; omega) (by omega) (by omega)
theorem ph_base {R : List (List Int)} {D : List Int} (ha : ArgOk R D) {m : Int} (h1 : m ≤ lastI R) : PH (stT R + m) R 1073741824 = ph R m := by
  have h2 := ha.n2
  have hb := (ha.read (R.length - 1) (by omega)).2.2.1
  unfold bandOk at hb
  exact PH_base (rd_mem (i := R.length - 1) (by omega)) (by have : lastI R = rA (rd R (R.length - 1)) - stT R := rfl; omega) (by omega) (by omega)
theorem p73_eq {k : Nat} (hk : 5000 ≤ k) {R : List (List Int)} {D D' : List Int} {st : Int} {P V} (hn : R.length ≤ 64) (ha : ArgOk R D) {m : Int} (h0 : 0 ≤ m) (h1 : m ≤ lastI R) : p73 k R D' st P V (stT R + m) = some [pl R m, ph R m] := by
  unfold p73
  simp only [jn_v]
  have := p73_l1_eq hk (t := stT R + m) hn (fun L => some L) ha.read R.length 0 k (-1073741824) 1073741824 (by omega) (by omega) (by omega) (by omega)
  rw [List.drop_zero, pl_base ha h0, ph_base ha h1] at this
  exact this
def vrow (d : Int) (kk : Nat) (t : Int) (r : List Int) : List Int := [rVL kk r - d * ab (rA r - t), rVH kk r + d * ab (rA r - t)]
theorem p84_l1_eq {k : Nat} {R : List (List Int)} {D : List Int} {m : Int} {kk : Nat} (hn : R.length ≤ 64) (ha : ArgOk R D) (hm0 : 0 ≤ m) (hm1 : m ≤ lastI R) (hk4 : kk < 4) (j : List (List Int) → Option (List Int)) : ∀ (d i n : Nat) (W : List (List Int)), i + d = R.length → d < n → W.length = i →
    p84_l1 k (stT R + m) R D (kk : Int) j n (i : Int) W = j (W ++ (R.drop i).map (vrow (D.getD kk 0) kk (stT R + m)))
  | 0, i, n, W, h1, h2, hW => by
    obtain ⟨n, rfl⟩ : ∃ n', n = n' + 1 := ⟨n - 1, by omega⟩
    rw [p84_l1]
    simp only [lt_v, sp_d]
    rw [if_neg (by omega), List.drop_eq_nil_of_le (by omega)]
    simp
  | d + 1, i, n, W, h1, h2, hW => by
    obtain ⟨n, rfl⟩ : ∃ n', n = n' + 1 := ⟨n - 1, by omega⟩
    have hst := ha.st
    have hsp := ha.span
    have hrg := ha.range (i := i) (by omega)
    have hdr := ha.dr kk hk4
    have hrd := (ha.read i (by omega)).2.2.2 kk hk4
    have hmul := ab_mul hdr.1 hdr.2 (x := rA (rd R i) - (stT R + m)) (by omega) (by omega)
    have hw : wr .i64 ((i : Int) + 1) = ((i + 1 : Nat) : Int) := by rw [wr64 (by omega) (by omega)]; omega
    unfold bandOk at hrd
    rw [p84_l1]
    simp only [lt_v, sp_d, Int.toNat_natCast]
    rw [if_pos (by omega), gd_v (by omega), gd_v (by omega), gd_v (by omega), gd_v (by omega)]
    rw [show List.getD (List.getD R i []) 0 0 = rA (rd R i) from rfl]
    rw [wr64 (z := rA (rd R i) - (stT R + m)) (by omega) (by omega), wr64 (z := stT R + m - rA (rd R i)) (by omega) (by omega)]
    simp only [mx_eq]
    rw [show max (rA (rd R i) - (stT R + m)) (stT R + m - rA (rd R i)) = ab (rA (rd R i) - (stT R + m)) from by unfold ab; omega]
    rw [show D.getD (kk * 1) 0 = D.getD kk 0 from by rw [Nat.mul_one]]
    rw [wr64 (z := D.getD kk 0 * ab (rA (rd R i) - (stT R + m))) (by omega) (by omega)]
    rw [show List.getD (List.getD R i []) (3 + kk * 2 + 0) 0 = rVL kk (rd R i) from rfl, show List.getD (List.getD R i []) (3 + kk * 2 + 1) 0 = rVH kk (rd R i) from rfl]
    rw [wr64 (z := rVL kk (rd R i) - _) (by omega) (by omega), wr64 (z := rVH kk (rd R i) + _) (by omega) (by omega), hw]
    rw [gd_v (by simp; omega)]
    rw [p84_l1_eq hn ha hm0 hm1 hk4 j d (i + 1) n _ (by omega) (by omega) (by simp [hW]), drop_rd (by omega : i < R.length)]
    simp [vrow]
theorem ML_vrow {d t : Int} {kk : Nat} : ∀ {l : List (List Int)} {a : Int}, ML (l.map (vrow d kk t)) a = VL d kk t l a
  | [], a => rfl
  | r :: l, a => by
    simp only [List.map_cons, ML, VL]
    rw [ML_vrow]
    rfl
theorem MH_vrow {d t : Int} {kk : Nat} : ∀ {l : List (List Int)} {a : Int}, MH (l.map (vrow d kk t)) a = VH d kk t l a
  | [], a => rfl
  | r :: l, a => by
    simp only [List.map_cons, MH, VH]
    rw [MH_vrow]
    rfl
theorem p84_eq {k : Nat} (hk : 5000 ≤ k) {R : List (List Int)} {D : List Int} {st : Int} {P V} {m : Int} {kk : Nat} (hn : R.length ≤ 64) (ha : ArgOk R D) (hm0 : 0 ≤ m) (hm1 : m ≤ lastI R) (hk4 : kk < 4) : p84 k (stT R + m) R D st P V (kk : Int) = some [vl R D kk m, vh R D kk m] := by
  unfold p84
  simp only [jn_v]
  have := p84_l1_eq (k := k) hn ha hm0 hm1 hk4 (fun R2 => cl (p83 k R2) fun v30 => gd ((v30).length = 2) <| some v30) R.length 0 k [] (by omega) (by omega) rfl
  rw [show ((0 : Nat) : Int) = 0 from rfl] at this
  rw [this, List.drop_zero, List.nil_append]
  have h2 := ha.n2
  obtain ⟨r, l, rfl⟩ : ∃ r l, R = r :: l := by
    cases R with
    | nil => simp at h2
    | cons r l => exact ⟨r, l, rfl⟩
  have hst := ha.st
  have hsp := ha.span
  have hrg := ha.range (i := 0) (by simp)
  have hdr := ha.dr kk hk4
  have hrd := (ha.read 0 (by simp)).2.2.2 kk hk4
  have hmul := ab_mul hdr.1 hdr.2 (x := rA (rd (r :: l) 0) - (stT (r :: l) + m)) (by omega) (by omega)
  have hr0 : rd (r :: l) 0 = r := rfl
  rw [hr0] at hrd hmul
  unfold bandOk at hrd
  simp only [List.map_cons]
  rw [show vrow (D.getD kk 0) kk (stT (r :: l) + m) r = [rVL kk r - D.getD kk 0 * ab (rA r - (stT (r :: l) + m)), rVH kk r + D.getD kk 0 * ab (rA r - (stT (r :: l) + m))] from rfl]
  rw [p83_eq hk (by simp at hn ⊢; omega), cl_v, ML_vrow, MH_vrow]
  simp only [vl, vh, VL, VH]
  rw [show max (-1125899906842624) (rVL kk r - D.getD kk 0 * ab (rA r - (stT (r :: l) + m))) = rVL kk r - D.getD kk 0 * ab (rA r - (stT (r :: l) + m)) from by omega]
  rw [show min 1125899906842624 (rVH kk r + D.getD kk 0 * ab (rA r - (stT (r :: l) + m))) = rVH kk r + D.getD kk 0 * ab (rA r - (stT (r :: l) + m)) from by omega]
  rfl
end Go.Proofs.Ythjkejbgknemgaa
namespace Go.Proofs.Ythjkejbgknemgaa
open Go.RowKit Classical
theorem set_fill {α : Type} (g : Nat → α) (z : α) (i d : Nat) (x : α) (hx : x = g i) : ((List.range i).map g ++ List.replicate (d + 1) z).set i x = (List.range (i + 1)).map g ++ List.replicate d z := by
  subst hx
  rw [List.set_append_right _ _ (by simp)]
  simp [List.range_succ, List.replicate_succ]
theorem getD_fill {α : Type} (g : Nat → α) (z y : α) (i d : Nat) : ((List.range (i + 1)).map g ++ List.replicate d z).getD i y = g i := by
  simp [List.getD_eq_getElem?_getD, List.getElem?_append_left]
def pls (R : List (List Int)) (N : Nat) : List (List Int) := (List.range N).map fun m : Nat => [pl R (m : Int), ph R (m : Int)]
def vls (R : List (List Int)) (D : List Int) (kk N : Nat) : List (List Int) := (List.range N).map fun m : Nat => [vl R D kk (m : Int), vh R D kk (m : Int)]
theorem p72a_l1_eq {k : Nat} (hk : 5000 ≤ k) {R : List (List Int)} {D D' : List Int} {P V} (hn : R.length ≤ 64) (ha : ArgOk R D) {N : Nat} (hN : (N : Int) = lastI R + 1) (j : List (List Int) → Option (List (List Int) × Bool)) : ∀ (d i n : Nat), i + d = N → d < n →
    p72a_l1 k R D' (stT R) P V (N : Int) j n (i : Int) ((List.range i).map (fun m : Nat => [pl R (m : Int), ph R (m : Int)]) ++ List.replicate d [0, 0]) = if ∀ q : Nat, i ≤ q → q < N → pl R q ≤ ph R q then j (pls R N) else some ([], false)
  | 0, i, n, h1, h2 => by
    obtain ⟨n, rfl⟩ : ∃ n', n = n' + 1 := ⟨n - 1, by omega⟩
    rw [p72a_l1]
    simp only [lt_v, sp_d]
    rw [if_neg (by omega), if_pos (fun q h3 h4 => by omega), show i = N from by omega]
    simp [pls]
  | d + 1, i, n, h1, h2 => by
    obtain ⟨n, rfl⟩ : ∃ n', n = n' + 1 := ⟨n - 1, by omega⟩
    have hst := ha.st
    have hsp := ha.span
    have hw : wr .i64 ((i : Int) + 1) = ((i + 1 : Nat) : Int) := by rw [wr64 (by omega) (by omega)]; omega
    rw [p72a_l1]
    simp only [lt_v, sp_d, Int.toNat_natCast]
    rw [if_pos (by omega), wr64 (z := stT R + (i : Int)) (by omega) (by omega), p73_eq hk hn ha (by omega) (by omega), cl_v]
    rw [gd_v (c := [_, _].length = 2) rfl, gd_v (by simp; omega), set_fill (fun m : Nat => [pl R (m : Int), ph R (m : Int)]) [0, 0] i d _ rfl]
    rw [gd_v (by simp; omega), gd_v (by simp; omega), getD_fill (fun m : Nat => [pl R (m : Int), ph R (m : Int)]), hw]
    simp only [List.getD_cons_zero, List.getD_cons_succ]
    rw [p72a_l1_eq hk hn ha hN j d (i + 1) n (by omega) (by omega)]
    rw [if_all (P := ∀ q : Nat, i ≤ q → q < N → pl R q ≤ ph R q) (Q := pl R i ≤ ph R i) (S := ∀ q : Nat, i + 1 ≤ q → q < N → pl R q ≤ ph R q) ?_]
    · by_cases c : pl R i ≤ ph R i
      · rw [if_pos c, if_neg (by omega)]
      · rw [if_neg c, if_pos (by omega)]
    constructor
    · intro h; exact ⟨h i (by omega) (by omega), fun q h3 h4 => h q (by omega) h4⟩
    · rintro ⟨h3, h4⟩ q h5 h6
      rcases Nat.eq_or_lt_of_le h5 with e | e
      · subst e; exact h3
      · exact h4 q e h6
theorem p72a_eq {k : Nat} (hk : 5000 ≤ k) {R : List (List Int)} {D D' : List Int} {P V} (hn : R.length ≤ 64) (ha : ArgOk R D) {N : Nat} (hN : (N : Int) = lastI R + 1) : p72a k R D' (stT R) P V (N : Int) = if ∀ q : Nat, q < N → pl R q ≤ ph R q then some (pls R N, true) else some ([], false) := by
  have hsp := ha.span
  unfold p72a
  simp only [lt_v, jn_v, Int.toNat_natCast]
  rw [gd_v (by omega)]
  have := p72a_l1_eq (k := k) hk hn ha hN (D' := D') (P := P) (V := V) (fun R5 => some (R5, true)) N 0 k (by omega) (by omega)
  simpa using this
theorem p72b_l1_eq {k : Nat} (hk : 5000 ≤ k) {R : List (List Int)} {D : List Int} {P V} {kk : Nat} (hk4 : kk < 4) (hn : R.length ≤ 64) (ha : ArgOk R D) {N : Nat} (hN : (N : Int) = lastI R + 1) (j : List (List Int) → Option (List (List Int) × Bool)) : ∀ (d i n : Nat), i + d = N → d < n →
    p72b_l1 k R D (stT R) P V (N : Int) (kk : Int) j n (i : Int) ((List.range i).map (fun m : Nat => [vl R D kk (m : Int), vh R D kk (m : Int)]) ++ List.replicate d [0, 0]) = if ∀ q : Nat, i ≤ q → q < N → vl R D kk q ≤ vh R D kk q then j (vls R D kk N) else some ([], false)
  | 0, i, n, h1, h2 => by
    obtain ⟨n, rfl⟩ : ∃ n', n = n' + 1 := ⟨n - 1, by omega⟩
    rw [p72b_l1]
    simp only [lt_v, sp_d]
    rw [if_neg (by omega), if_pos (fun q h3 h4 => by omega), show i = N from by omega]
    simp [vls]
  | d + 1, i, n, h1, h2 => by
    obtain ⟨n, rfl⟩ : ∃ n', n = n' + 1 := ⟨n - 1, by omega⟩
    have hst := ha.st
    have hsp := ha.span
    have hw : wr .i64 ((i : Int) + 1) = ((i + 1 : Nat) : Int) := by rw [wr64 (by omega) (by omega)]; omega
    rw [p72b_l1]
    simp only [lt_v, sp_d, Int.toNat_natCast]
    rw [if_pos (by omega), wr64 (z := stT R + (i : Int)) (by omega) (by omega), p84_eq hk hn ha (by omega) (by omega) hk4, cl_v]
    rw [gd_v (c := [_, _].length = 2) rfl, gd_v (by simp; omega), set_fill (fun m : Nat => [vl R D kk (m : Int), vh R D kk (m : Int)]) [0, 0] i d _ rfl]
    rw [gd_v (by simp; omega), gd_v (by simp; omega), getD_fill (fun m : Nat => [vl R D kk (m : Int), vh R D kk (m : Int)]), hw]
    simp only [List.getD_cons_zero, List.getD_cons_succ]
    rw [p72b_l1_eq hk hk4 hn ha hN j d (i + 1) n (by omega) (by omega)]
    rw [if_all (P := ∀ q : Nat, i ≤ q → q < N → vl R D kk q ≤ vh R D kk q) (Q := vl R D kk i ≤ vh R D kk i) (S := ∀ q : Nat, i + 1 ≤ q → q < N → vl R D kk q ≤ vh R D kk q) ?_]
    · by_cases c : vl R D kk i ≤ vh R D kk i
      · rw [if_pos c, if_neg (by omega)]
      · rw [if_neg c, if_pos (by omega)]
    constructor
    · intro h; exact ⟨h i (by omega) (by omega), fun q h3 h4 => h q (by omega) h4⟩
    · rintro ⟨h3, h4⟩ q h5 h6
      rcases Nat.eq_or_lt_of_le h5 with e | e
      · subst e; exact h3
      · exact h4 q e h6
theorem p72b_eq {k : Nat} (hk : 5000 ≤ k) {R : List (List Int)} {D : List Int} {P V} {kk : Nat} (hk4 : kk < 4) (hn : R.length ≤ 64) (ha : ArgOk R D) {N : Nat} (hN : (N : Int) = lastI R + 1) : p72b k R D (stT R) P V (N : Int) (kk : Int) = if ∀ q : Nat, q < N → vl R D kk q ≤ vh R D kk q then some (vls R D kk N, true) else some ([], false) := by
  have hsp := ha.span
  unfold p72b
  simp only [lt_v, jn_v, Int.toNat_natCast]
  rw [gd_v (by omega)]
  have := p72b_l1_eq (k := k) hk hk4 hn ha hN (P := P) (V := V) (fun R5 => some (R5, true)) N 0 k (by omega) (by omega)
  simpa using this
theorem p81_l1_eq {k : Nat} {L : List Int} {j : Int} (hL : L.length ≤ 1000) (hj : j < 0) : ∀ (d i n : Nat), i + d = L.length → d < n → ∃ v, p81_l1 k L (some j) n (i : Int) = some v ∧ (0 ≤ v ↔ ∃ q, i ≤ q ∧ q < L.length ∧ ¬ (0 ≤ L.getD q 0 ∧ L.getD q 0 ≤ 1048576))
  | 0, i, n, h1, h2 => by
    obtain ⟨n, rfl⟩ : ∃ n', n = n' + 1 := ⟨n - 1, by omega⟩
    refine ⟨j, ?_, fun h => by omega, fun ⟨q, h3, h4, _⟩ => by omega⟩
    rw [p81_l1]
    simp only [lt_v, sp_d]
    rw [if_neg (by omega)]
  | d + 1, i, n, h1, h2 => by
    obtain ⟨n, rfl⟩ : ∃ n', n = n' + 1 := ⟨n - 1, by omega⟩
    rw [p81_l1]
    simp only [lt_v, sp_d, p69, p49_eq, cl_v, sp_nd, Int.toNat_natCast]
    have hw : wr .i64 ((i : Int) + 1) = ((i + 1 : Nat) : Int) := by rw [wr64 (by omega) (by omega)]; omega
    rw [if_pos (by omega), gd_v (by omega), hw]
    obtain ⟨v, h3, h4⟩ := p81_l1_eq (k := k) hL hj d (i + 1) n (by omega) (by omega)
    by_cases c : 0 ≤ L.getD i 0 ∧ L.getD i 0 ≤ 1048576
    · rw [if_pos c]
      refine ⟨v, h3, h4.trans ⟨fun ⟨q, a1, a2, a3⟩ => ⟨q, by omega, a2, a3⟩, fun ⟨q, a1, a2, a3⟩ => ⟨q, ?_, a2, a3⟩⟩⟩
      rcases Nat.eq_or_lt_of_le a1 with e | e
      · subst e; exact absurd c a3
      · exact e
    · rw [if_neg c]
      exact ⟨(i : Int), rfl, fun _ => ⟨i, Nat.le_refl _, by omega, c⟩, fun _ => by omega⟩
theorem p68_eq {k : Nat} (hk : 5000 ≤ k) {L : List Int} (hL : L.length ≤ 1000) : p68 k L = some (decide (∃ q, q < L.length ∧ ¬ (0 ≤ L.getD q 0 ∧ L.getD q 0 ≤ 1048576))) := by
  unfold p68 p81
  simp only [jn_v, lt_v]
  obtain ⟨v, h1, h2⟩ := p81_l1_eq (k := k) hL (show (-1 : Int) < 0 by omega) L.length 0 k (by omega) (by omega)
  rw [show ((0 : Nat) : Int) = 0 from rfl] at h1
  rw [h1, cl_v]
  refine congrArg some (decide_eq_decide.2 (h2.trans ?_))
  simp
theorem p82_l1_eq {k : Nat} {L : List (List Int)} {j : Int} (hL : L.length ≤ 1000) (hj : j < 0) : ∀ (d i n : Nat), i + d = L.length → d < n → ∃ v, p82_l1 k L (some j) n (i : Int) = some v ∧ (0 ≤ v ↔ ∃ q, i ≤ q ∧ q < L.length ∧ ¬ bandOk ((L.getD q []).getD 0 0) ((L.getD q []).getD 1 0))
  | 0, i, n, h1, h2 => by
    obtain ⟨n, rfl⟩ : ∃ n', n = n' + 1 := ⟨n - 1, by omega⟩
    refine ⟨j, ?_, fun h => by omega, fun ⟨q, h3, h4, _⟩ => by omega⟩
    rw [p82_l1]
    simp only [lt_v, sp_d]
    rw [if_neg (by omega)]
  | d + 1, i, n, h1, h2 => by
    obtain ⟨n, rfl⟩ : ∃ n', n = n' + 1 := ⟨n - 1, by omega⟩
    rw [p82_l1]
    simp only [lt_v, sp_d, p71, p61_eq, cl_v, sp_nd, Int.toNat_natCast]
    have hw : wr .i64 ((i : Int) + 1) = ((i + 1 : Nat) : Int) := by rw [wr64 (by omega) (by omega)]; omega
    rw [if_pos (by omega), gd_v (by omega), hw]
    obtain ⟨v, h3, h4⟩ := p82_l1_eq (k := k) hL hj d (i + 1) n (by omega) (by omega)
    by_cases c : bandOk ((L.getD i []).getD 0 0) ((L.getD i []).getD 1 0)
    · rw [if_pos c]
      refine ⟨v, h3, h4.trans ⟨fun ⟨q, a1, a2, a3⟩ => ⟨q, by omega, a2, a3⟩, fun ⟨q, a1, a2, a3⟩ => ⟨q, ?_, a2, a3⟩⟩⟩
      rcases Nat.eq_or_lt_of_le a1 with e | e
      · subst e; exact absurd c a3
      · exact e
    · rw [if_neg c]
      exact ⟨(i : Int), rfl, fun _ => ⟨i, Nat.le_refl _, by omega, c⟩, fun _ => by omega⟩
theorem p70_eq {k : Nat} (hk : 5000 ≤ k) {L : List (List Int)} (hL : L.length ≤ 1000) : p70 k L = some (decide (∃ q, q < L.length ∧ ¬ bandOk ((L.getD q []).getD 0 0) ((L.getD q []).getD 1 0))) := by
  unfold p70 p82
  simp only [jn_v, lt_v]
  obtain ⟨v, h1, h2⟩ := p82_l1_eq (k := k) hL (show (-1 : Int) < 0 by omega) L.length 0 k (by omega) (by omega)
  rw [show ((0 : Nat) : Int) = 0 from rfl] at h1
  rw [h1, cl_v]
  refine congrArg some (decide_eq_decide.2 (h2.trans ?_))
  simp
theorem bands4_get (L : List Int) : ∀ q, q < 4 → ((bands4 L).getD q []).getD 0 0 = rVL q L ∧ ((bands4 L).getD q []).getD 1 0 = rVH q L
  | 0, _ => by simp [bands4, rVL, rVH, List.getD_eq_getElem?_getD]
  | 1, _ => by simp [bands4, rVL, rVH, List.getD_eq_getElem?_getD]
  | 2, _ => by simp [bands4, rVL, rVH, List.getD_eq_getElem?_getD]
  | 3, _ => by simp [bands4, rVL, rVH, List.getD_eq_getElem?_getD]
  | q + 4, h => by omega
def valsOk (L : List Int) : Prop := ∀ q, q < 4 → bandOk (rVL q L) (rVH q L)
theorem p70_bands {k : Nat} (hk : 5000 ≤ k) (L : List Int) : p70 k (bands4 L) = some (!decide (valsOk L)) := by
  rw [p70_eq hk (show (bands4 L).length ≤ 1000 from (by show 4 ≤ 1000; omega)), ← decide_not]
  refine congrArg some (decide_eq_decide.2 ?_)
  unfold valsOk
  rw [Classical.not_forall]
  constructor
  · rintro ⟨q, h1, h2⟩
    have h1' : q < 4 := h1
    rw [(bands4_get L q h1').1, (bands4_get L q h1').2] at h2
    exact ⟨q, fun h => h2 (h h1')⟩
  · rintro ⟨q, h1⟩
    rw [Classical.not_imp] at h1
    refine ⟨q, h1.1, ?_⟩
    rw [(bands4_get L q h1.1).1, (bands4_get L q h1.1).2]
    exact h1.2
theorem p46_l1_eq {k : Nat} (hk : 5000 ≤ k) {R : List (List Int)} (hn : R.length ≤ 64) {j : Option (Option CT × Int)} : ∀ (d i n : Nat), i + d = R.length → d < n → p46_l1 k R j n (i : Int) = if ∀ q, i ≤ q → q < R.length → rowOkAt R q then j else some (none, 2)
  | 0, i, n, h1, h2 => by
    obtain ⟨n, rfl⟩ : ∃ n', n = n' + 1 := ⟨n - 1, by omega⟩
    rw [p46_l1]
    simp only [lt_v, sp_d]
    rw [if_neg (by omega), if_pos (fun q h3 h4 => by omega)]
  | d + 1, i, n, h1, h2 => by
    obtain ⟨n, rfl⟩ : ∃ n', n = n' + 1 := ⟨n - 1, by omega⟩
    have e0 : (List.take 2 (List.drop 1 (R.getD i []))).getD 0 0 = rPL (rd R i) := by simp [rPL, rd, List.getD_eq_getElem?_getD]
    have e1 : (List.take 2 (List.drop 1 (R.getD i []))).getD 1 0 = rPH (rd R i) := by simp [rPH, rd, List.getD_eq_getElem?_getD]
    have hA : List.getD (R.getD i []) 0 0 = rA (rd R i) := rfl
    have hw : wr .i64 ((i : Int) + 1) = ((i + 1 : Nat) : Int) := by rw [wr64 (by omega) (by omega)]; omega
    rw [p46_l1]
    simp only [lt_v, sp_d, p61_eq, p49_eq, p70_bands hk, cl_v, jn_v, sp_tt, sp_ff, sp_nd, Int.toNat_natCast, e0, e1, hA, hw]
    rw [if_pos (by omega), gd_v (by omega)]
    rw [p46_l1_eq hk hn d (i + 1) n (by omega) (by omega)]
    rw [if_all (P := ∀ q, i ≤ q → q < R.length → rowOkAt R q) (Q := rowOkAt R i) (S := ∀ q, i + 1 ≤ q → q < R.length → rowOkAt R q) (by
      constructor
      · intro h; exact ⟨h i (by omega) (by omega), fun q h3 h4 => h q (by omega) h4⟩
      · rintro ⟨h3, h4⟩ q h5 h6
        rcases Nat.eq_or_lt_of_le h5 with e | e
        · subst e; exact h3
        · exact h4 q e h6)]
    generalize hX : (if ∀ q, i + 1 ≤ q → q < R.length → rowOkAt R q then j else some (none, 2)) = X
    have hrd : R.getD i [] = rd R i := rfl
    rw [hrd]
    by_cases hi : 0 < i
    · have hw2 : wr .i64 ((i : Int) - 1) = ((i - 1 : Nat) : Int) := by rw [wr64 (by omega) (by omega)]; omega
      rw [if_pos (show (i : Int) > 0 by omega), hw2, gd_v (by omega)]
      simp only [Int.toNat_natCast]
      refine @if_row' _ _ _ (rA (rd R i) ≤ rA (rd R (i - 1))) _ _ _ _ _ _ _ ?_ _ _
      unfold rowOkAt readOk valsOk
      constructor
      · rintro ⟨⟨a1, a2, a3, a4⟩, a5⟩
        exact ⟨⟨a1, a2⟩, by have := a5 hi; omega, a3, a4⟩
      · rintro ⟨⟨a1, a2⟩, a3, a4, a5⟩
        exact ⟨⟨a1, a2, a4, a5⟩, fun _ => by omega⟩
    · rw [if_neg (show ¬ (i : Int) > 0 by omega)]
      refine @if_row0 _ _ _ _ _ _ _ _ _ ?_ _ _
      unfold rowOkAt readOk valsOk
      constructor
      · rintro ⟨⟨a1, a2, a3, a4⟩, a5⟩
        exact ⟨⟨a1, a2⟩, a3, a4⟩
      · rintro ⟨⟨a1, a2⟩, a4, a5⟩
        exact ⟨⟨a1, a2, a4, a5⟩, fun h => absurd h hi⟩
theorem p46_l1_eq0 {k : Nat} (hk : 5000 ≤ k) {R : List (List Int)} (hn : R.length ≤ 64) {j : Option (Option CT × Int)} : p46_l1 k R j k 0 = if ∀ q, q < R.length → rowOkAt R q then j else some (none, 2) := by
  have := p46_l1_eq hk hn (j := j) R.length 0 k (by omega) (by omega)
  simpa using this
def lastN (R : List (List Int)) : Nat := (lastI R).toNat
def crs (R : List (List Int)) (D : List Int) : CT := (R, D, stT R, pls R (lastN R + 1), [vls R D 0 (lastN R + 1), vls R D 1 (lastN R + 1), vls R D 2 (lastN R + 1), vls R D 3 (lastN R + 1)])
theorem p46_eq {k : Nat} (hk : 5000 ≤ k) {R : List (List Int)} {D : List Int} (hD : D.length = 4) : p46 k R D = some (if logE R D = 0 then some (crs R D) else none, logE R D) := by
  have hb : ∀ {x : Int} {y : Option CT}, logE R D = x → x ≠ 0 → some ((none : Option CT), x) = some (if logE R D = 0 then y else none, logE R D) := fun h h0 => by rw [h, if_neg h0]
  unfold p46
  simp only [lt_v, sp_d, jn_v]
  by_cases hn : 64 < R.length
  · rw [if_pos (by omega)]
    exact hb (by unfold logE; rw [if_pos hn]) (by omega)
  · rw [if_neg (by omega)]
    have hn' : R.length ≤ 64 := by omega
    by_cases h2 : R.length < 2
    · rw [if_pos (by omega)]
      exact hb (by unfold logE; rw [if_neg hn, if_pos (fun h => by have := h.n2; omega)]) (by omega)
    · rw [if_neg (by omega), p68_eq hk (by omega), cl_v, sp_d]
      by_cases hd : ∃ q, q < D.length ∧ ¬ (0 ≤ D.getD q 0 ∧ D.getD q 0 ≤ 1048576)
      · rw [if_pos hd]
        obtain ⟨q, q1, q2⟩ := hd
        exact hb (by unfold logE; rw [if_neg hn, if_pos (fun h => q2 (h.dr q (by omega)))]) (by omega)
      · rw [if_neg hd]
        have hdr : ∀ q, q < 4 → 0 ≤ D.getD q 0 ∧ D.getD q 0 ≤ 1048576 := fun q hq => Classical.byContradiction fun h => hd ⟨q, by omega, h⟩
        rw [p46_l1_eq0 hk hn']
        by_cases hrow : ∀ q, q < R.length → rowOkAt R q
        · rw [if_pos hrow]
          have hasc : ∀ i, i + 1 < R.length → rA (rd R i) < rA (rd R (i + 1)) := fun i hi => by
            have := (hrow (i + 1) hi).2 (by omega)
            simpa using this
          have r0 := (hrow 0 (by omega)).1
          have r1 := (hrow (R.length - 1) (by omega)).1
          unfold readOk at r0 r1
          have hla : lastI R = rA (rd R (R.length - 1)) - rA (rd R 0) := rfl
          rw [wr64 (z := (R.length : Int) - 1) (by omega) (by omega), gd_v (by omega), gd_v (by omega), show ((R.length : Int) - 1).toNat = R.length - 1 from by omega]
          rw [show (R.getD (R.length - 1) []).getD 0 0 - (R.getD 0 []).getD 0 0 = lastI R from rfl, wr64 (z := lastI R) (by omega) (by omega)]
          by_cases hs : lastI R ≤ 2000
          · have ha : ArgOk R D := ⟨by omega, fun i hi => (hrow i hi).1, hasc, hs, hdr⟩
            have hla1 := ha.last
            have hN : ((lastN R + 1 : Nat) : Int) = lastI R + 1 := by unfold lastN; omega
            rw [if_neg (by omega), wr64 (z := lastI R + 1) (by omega) (by omega), ← hN, show (R.getD 0 []).getD 0 0 = stT R from rfl]
            have hsum : ∀ {e : Int}, ¬ SumOk R D → logE R D = 16 := fun h => by unfold logE; rw [if_neg hn, if_neg (fun h => h ha), if_pos h]
            have hno : ¬ SumOk R D → some ((none : Option CT), (16 : Int)) = some (if logE R D = 0 then some (crs R D) else none, logE R D) := fun h => hb (hsum (e := 0) h) (by omega)
            have hin : ∀ q : Nat, q < lastN R + 1 → (0 : Int) ≤ q ∧ (q : Int) ≤ lastI R := fun q hq => by unfold lastN at hq; omega
            rw [p72a_eq hk hn' ha hN]
            by_cases c : ∀ q : Nat, q < lastN R + 1 → pl R q ≤ ph R q
            · rw [if_pos c, cl2_v, sp_tt]
              have key : ∀ kk, kk < 4 → ¬ (∀ q : Nat, q < lastN R + 1 → vl R D kk q ≤ vh R D kk q) → ¬ SumOk R D := fun kk hkk h hs => h fun q hq => (hs q (hin q hq).1 (hin q hq).2).2 kk hkk
              have b0 := fun P V => p72b_eq (k := k) (P := P) (V := V) hk (show 0 < 4 by omega) hn' ha hN
              have b1 := fun P V => p72b_eq (k := k) (P := P) (V := V) hk (show 1 < 4 by omega) hn' ha hN
              have b2 := fun P V => p72b_eq (k := k) (P := P) (V := V) hk (show 2 < 4 by omega) hn' ha hN
              have b3 := fun P V => p72b_eq (k := k) (P := P) (V := V) hk (show 3 < 4 by omega) hn' ha hN
              simp only [show ((0 : Nat) : Int) = 0 from rfl, show ((1 : Nat) : Int) = 1 from rfl, show ((2 : Nat) : Int) = 2 from rfl, show ((3 : Nat) : Int) = 3 from rfl] at b0 b1 b2 b3
              rw [b0]
              by_cases c0 : ∀ q : Nat, q < lastN R + 1 → vl R D 0 q ≤ vh R D 0 q
              · rw [if_pos c0, cl2_v, sp_tt, b1]
                by_cases c1 : ∀ q : Nat, q < lastN R + 1 → vl R D 1 q ≤ vh R D 1 q
                · rw [if_pos c1, cl2_v, sp_tt, b2]
                  by_cases c2 : ∀ q : Nat, q < lastN R + 1 → vl R D 2 q ≤ vh R D 2 q
                  · rw [if_pos c2, cl2_v, sp_tt, b3]
                    by_cases c3 : ∀ q : Nat, q < lastN R + 1 → vl R D 3 q ≤ vh R D 3 q
                    · rw [if_pos c3, cl2_v, sp_tt]
                      have hso : SumOk R D := fun m h0 h1 => by
                        obtain ⟨q, rfl⟩ : ∃ q : Nat, m = q := ⟨m.toNat, by omega⟩
                        have hq : q < lastN R + 1 := by unfold lastN; omega
                        refine ⟨c q hq, fun kk hkk => ?_⟩
                        match kk, hkk with
                        | 0, _ => exact c0 q hq
                        | 1, _ => exact c1 q hq
                        | 2, _ => exact c2 q hq
                        | 3, _ => exact c3 q hq
                      rw [show logE R D = 0 from logE_zero.2 ⟨hn', ha, hso⟩, if_pos rfl]
                      rfl
                    · rw [if_neg c3, cl2_v, sp_ff]; exact hno (key 3 (by omega) c3)
                  · rw [if_neg c2, cl2_v, sp_ff]; exact hno (key 2 (by omega) c2)
                · rw [if_neg c1, cl2_v, sp_ff]; exact hno (key 1 (by omega) c1)
              · rw [if_neg c0, cl2_v, sp_ff]; exact hno (key 0 (by omega) c0)
            · rw [if_neg c, cl2_v, sp_ff]
              exact hno fun hs => c fun q hq => (hs q (hin q hq).1 (hin q hq).2).1
          · rw [if_pos (by omega)]
            exact hb (by unfold logE; rw [if_neg hn, if_pos (fun h => hs h.span)]) (by omega)
        · rw [if_neg hrow]
          refine hb ?_ (by omega)
          unfold logE
          rw [if_neg hn, if_pos]
          intro h
          refine hrow fun q hq => ⟨h.read q hq, fun h0 => ?_⟩
          have := h.asc (q - 1) (by omega)
          rw [show q - 1 + 1 = q from by omega] at this
          exact this
end Go.Proofs.Ythjkejbgknemgaa
namespace Go.Proofs.Ythjkejbgknemgaa
open Go.RowKit Classical
theorem LogOk.N {R D} (h : LogOk R D) : ((lastN R + 1 : Nat) : Int) = lastI R + 1 := by
  have := h.arg.last
  unfold lastN; omega
theorem getD_map_range {α : Type} (f : Nat → α) (N i : Nat) (y : α) (h : i < N) : ((List.range N).map f).getD i y = f i := by
  simp [List.getD_eq_getElem?_getD, h]
theorem pls_get {R : List (List Int)} {N : Nat} {x : Int} (h0 : 0 ≤ x) (h1 : x < N) : (pls R N).getD x.toNat [] = [pl R x, ph R x] := by
  unfold pls
  rw [getD_map_range _ _ _ _ (by omega), show ((x.toNat : Nat) : Int) = x from by omega]
theorem vls_get {R : List (List Int)} {D : List Int} {kk N : Nat} {x : Int} (h0 : 0 ≤ x) (h1 : x < N) : (vls R D kk N).getD x.toNat [] = [vl R D kk x, vh R D kk x] := by
  unfold vls
  rw [getD_map_range _ _ _ _ (by omega), show ((x.toNat : Nat) : Int) = x from by omega]
theorem pls_len (R : List (List Int)) (N : Nat) : (pls R N).length = N := by simp [pls]
theorem vls_len (R : List (List Int)) (D : List Int) (kk N : Nat) : (vls R D kk N).length = N := by simp [vls]
theorem crsV_get (R : List (List Int)) (D : List Int) : ∀ kk, kk < 4 → ([vls R D 0 (lastN R + 1), vls R D 1 (lastN R + 1), vls R D 2 (lastN R + 1), vls R D 3 (lastN R + 1)]).getD kk [] = vls R D kk (lastN R + 1)
  | 0, _ => rfl
  | 1, _ => rfl
  | 2, _ => rfl
  | 3, _ => rfl
  | q + 4, h => by omega
def inC (R : List (List Int)) (u : List Int) (x : Int) : Prop := u.getD 4 0 ≤ stT R + x ∧ stT R + x + 1 ≤ u.getD 5 0
noncomputable def stepsFrom (R : List (List Int)) (u : List Int) (i d : Nat) : List Int := ((List.range' i d).map fun q : Nat => (q : Int)).filter fun x => decide (inC R u x)
noncomputable def steps (R : List (List Int)) (u : List Int) : List Int := stepsFrom R u 0 (lastN R)
theorem steps_mem {R u x} : x ∈ steps R u ↔ 0 ≤ x ∧ x < (lastN R : Int) ∧ inC R u x := by
  unfold steps stepsFrom
  rw [List.mem_filter, List.mem_map]
  simp only [List.mem_range'_1, decide_eq_true_eq]
  constructor
  · rintro ⟨⟨q, ⟨_, hq⟩, rfl⟩, h⟩; exact ⟨by omega, by omega, h⟩
  · rintro ⟨h0, h1, h2⟩; exact ⟨⟨x.toNat, ⟨by omega, by omega⟩, by omega⟩, h2⟩
theorem p85_eq {R : List (List Int)} {D : List Int} {u : List Int} (h : LogOk R D) : ∀ (d i f : Nat), i + d = lastN R → d < f → p85_l (stT R) (u.getD 4 0) (u.getD 5 0) (lastN R : Int) f (i : Int) = some (stepsFrom R u i d)
  | 0, i, f, h1, h2 => by
    obtain ⟨f, rfl⟩ : ∃ f', f = f' + 1 := ⟨f - 1, by omega⟩
    rw [p85_l, sp_d, if_neg (by omega)]
    rfl
  | d + 1, i, f, h1, h2 => by
    obtain ⟨f, rfl⟩ : ∃ f', f = f' + 1 := ⟨f - 1, by omega⟩
    have hst := h.arg.st
    have hsp := h.arg.span
    have hN := h.N
    have hw : wr .i64 ((i : Int) + 1) = ((i + 1 : Nat) : Int) := by rw [wr64 (by omega) (by omega)]; omega
    rw [p85_l]
    simp only [sp_d, lt_v]
    rw [if_pos (by omega), wr64 (z := stT R + (i : Int)) (by omega) (by omega), wr64 (z := stT R + (i : Int) + 1) (by omega) (by omega), hw, p85_eq h d (i + 1) f (by omega) (by omega), cl_v]
    have e : stepsFrom R u i (d + 1) = if inC R u i then (i : Int) :: stepsFrom R u (i + 1) d else stepsFrom R u (i + 1) d := by
      unfold stepsFrom
      rw [List.range'_succ, List.map_cons, List.filter_cons]
      simp only [decide_eq_true_eq]
    rw [e]
    unfold inC
    by_cases c1 : u.getD 4 0 ≤ stT R + i <;> by_cases c2 : stT R + i + 1 ≤ u.getD 5 0
    · rw [if_pos (by omega), if_pos c2, if_pos ⟨c1, c2⟩]
    · rw [if_pos (by omega), if_neg c2, if_neg (fun h => c2 h.2)]
    · rw [if_neg (by omega), if_neg (fun h => c1 h.1)]
    · rw [if_neg (by omega), if_neg (fun h => c1 h.1)]
theorem p77_eq {k : Nat} (hk : 5000 ≤ k) {R : List (List Int)} {D : List Int} {u : List Int} {V} (h : LogOk R D) : p77 k R D (stT R) (pls R (lastN R + 1)) V u = some (steps R u) := by
  have hsp := h.arg.span
  have hN := h.N
  unfold p77 p86
  rw [pls_len]
  simp only [lt_v]
  rw [wr64 (by omega) (by omega), cl_v, show ((lastN R + 1 : Nat) : Int) - 1 = (lastN R : Int) from by omega]
  exact p85_eq h (lastN R) 0 k (by omega) (by omega)
def mustP (R : List (List Int)) (D : List Int) (u : List Int) (x : Int) : Prop := u.getD 3 0 < max (vl R D (u.getD 2 0).toNat x) (vl R D (u.getD 2 0).toNat (x + 1))
noncomputable def must (R : List (List Int)) (D : List Int) (u : List Int) : List Int := (steps R u).filter fun x => decide (mustP R D u x)
theorem p56_r1_eq {k : Nat} {R : List (List Int)} {D : List Int} {u : List Int} {j : List Int → Option (List Int)} (hl : lastN R ≤ 2000) : ∀ (S W : List Int), (∀ x ∈ S, 0 ≤ x ∧ x < (lastN R : Int)) → W.length + S.length ≤ 100000 →
    p56_r1 k j u (vls R D (u.getD 2 0).toNat (lastN R + 1)) S W = j (W ++ S.filter fun x => decide (mustP R D u x))
  | [], W, _, _ => by rw [p56_r1]; simp
  | x :: S, W, hS, hW => by
    obtain ⟨h0, h1⟩ := hS x (List.mem_cons_self ..)
    simp only [List.length_cons] at hW
    rw [p56_r1]
    simp only [lt_v, sp_d, vls_len, mx_eq]
    rw [gd_v (by omega), wr64 (z := x + 1) (by omega) (by omega), gd_v (by omega), vls_get h0 (by omega), vls_get (by omega) (by omega)]
    simp only [List.getD_cons_zero]
    have ih := fun W hW => p56_r1_eq (k := k) (D := D) (u := u) (j := j) hl S W (fun y hy => hS y (List.mem_cons_of_mem _ hy)) hW
    rw [List.filter_cons]
    simp only [decide_eq_true_eq]
    unfold mustP at ih ⊢
    by_cases c : u.getD 3 0 < max (vl R D (u.getD 2 0).toNat x) (vl R D (u.getD 2 0).toNat (x + 1))
    · rw [if_pos c, if_pos c, gd_v (by simp; omega), ih _ (by simp; omega)]
      simp
    · rw [if_neg c, if_neg c, ih _ (by omega)]
theorem steps_len (R u) : (steps R u).length ≤ lastN R := by
  unfold steps stepsFrom
  refine Nat.le_trans (List.length_filter_le _ _) ?_
  simp
theorem p56_eq {k : Nat} (hk : 5000 ≤ k) {R : List (List Int)} {D : List Int} {u : List Int} (h : LogOk R D) (hu : ClaimOk u) : p56 k R D (stT R) (pls R (lastN R + 1)) (crs R D).2.2.2.2 u = some (must R D u) := by
  have hsp := h.arg.span
  have hN := h.N
  have hk1 := hu.2.2.2.1
  have hk2 := hu.2.2.2.2.1
  unfold p56
  simp only [lt_v, jn_v]
  rw [gd_v (by omega), p77_eq hk h, cl_v]
  rw [show (crs R D).2.2.2.2 = [vls R D 0 (lastN R + 1), vls R D 1 (lastN R + 1), vls R D 2 (lastN R + 1), vls R D 3 (lastN R + 1)] from rfl, Nat.mul_one, crsV_get R D _ (by omega)]
  have hl := steps_len R u
  rw [p56_r1_eq (by omega) (steps R u) [] (fun x hx => ⟨(steps_mem.1 hx).1, (steps_mem.1 hx).2.1⟩) (by simp; omega)]
  rfl
theorem must_mem {R D u x} : x ∈ must R D u ↔ 0 ≤ x ∧ x < (lastN R : Int) ∧ inC R u x ∧ mustP R D u x := by
  unfold must
  rw [List.mem_filter, steps_mem, decide_eq_true_eq]
  exact ⟨fun ⟨⟨a, b, c⟩, d⟩ => ⟨a, b, c, d⟩, fun ⟨a, b, c, d⟩ => ⟨⟨a, b, c⟩, d⟩⟩
theorem must_len (R D u) : (must R D u).length ≤ lastN R := Nat.le_trans (List.length_filter_le _ _) (steps_len R u)
theorem asc_steps (R u) : (steps R u).Pairwise (· < ·) := by
  unfold steps stepsFrom
  refine List.Pairwise.filter _ ?_
  rw [List.pairwise_map]
  refine List.Pairwise.imp ?_ (List.pairwise_lt_range' (s := 0) (n := lastN R))
  intro a b hab; omega
theorem asc_must (R D u) : (must R D u).Pairwise (· < ·) := List.Pairwise.filter _ (asc_steps R u)
def canP (R : List (List Int)) (D : List Int) (u : List Int) (x : Int) : Prop := u.getD 3 0 < max (vh R D (u.getD 2 0).toNat x) (vh R D (u.getD 2 0).toNat (x + 1)) ∧ pl R x ≤ u.getD 1 0 ∧ u.getD 0 0 ≤ ph R (x + 1)
noncomputable def firstOr (p : Int → Prop) : List Int → Int
  | [] => -1
  | x :: l => if p x then x else firstOr p l
theorem firstOr_cons (p : Int → Prop) (x : Int) (l : List Int) : firstOr p (x :: l) = if p x then x else firstOr p l := by rw [firstOr]
theorem firstOr_neg {p : Int → Prop} : ∀ {l : List Int}, (∀ x ∈ l, 0 ≤ x) → (firstOr p l < 0 ↔ ∀ x ∈ l, ¬ p x)
  | [], _ => by simp [firstOr]
  | x :: l, h => by
    unfold firstOr
    split
    · rename_i hp
      have := h x (List.mem_cons_self ..)
      exact ⟨fun hh => by omega, fun hh => absurd hp (hh x (List.mem_cons_self ..))⟩
    · rename_i hp
      rw [firstOr_neg (fun y hy => h y (List.mem_cons_of_mem _ hy))]
      simp [hp]
theorem firstOr_pos {p : Int → Prop} : ∀ {l : List Int}, 0 ≤ firstOr p l → firstOr p l ∈ l ∧ p (firstOr p l)
  | [], h => by simp [firstOr] at h
  | x :: l, h => by
    unfold firstOr at h ⊢
    split
    · rename_i hp; exact ⟨List.mem_cons_self .., hp⟩
    · rename_i hp
      rw [if_neg hp] at h
      have := firstOr_pos h
      exact ⟨List.mem_cons_of_mem _ this.1, this.2⟩
noncomputable def canI (R : List (List Int)) (D : List Int) (u : List Int) : Int := firstOr (canP R D u) (steps R u)
theorem p65_r1_eq {k : Nat} {R : List (List Int)} {D : List Int} {u : List Int} (hl : lastN R ≤ 2000) : ∀ (S : List Int), (∀ x ∈ S, 0 ≤ x ∧ x < (lastN R : Int)) →
    p65_r1 k (some (-1)) (fun x => some x) (pls R (lastN R + 1)) u (vls R D (u.getD 2 0).toNat (lastN R + 1)) S = some (firstOr (canP R D u) S)
  | [], _ => by rw [p65_r1]; rfl
  | x :: S, hS => by
    obtain ⟨h0, h1⟩ := hS x (List.mem_cons_self ..)
    rw [p65_r1]
    simp only [lt_v, jn_v, sp_d, sp_ff, vls_len, pls_len, mx_eq]
    rw [gd_v (by omega), wr64 (z := x + 1) (by omega) (by omega), gd_v (by omega), vls_get h0 (by omega), vls_get (by omega) (by omega), gd_v (by omega), gd_v (by omega), pls_get h0 (by omega), pls_get (by omega) (by omega)]
    simp only [List.getD_cons_zero, List.getD_cons_succ]
    rw [p65_r1_eq hl S (fun y hy => hS y (List.mem_cons_of_mem _ hy))]
    rw [firstOr_cons]
    by_cases c1 : u.getD 3 0 < max (vh R D (u.getD 2 0).toNat x) (vh R D (u.getD 2 0).toNat (x + 1)) <;> by_cases c2 : pl R x ≤ u.getD 1 0 <;> by_cases c3 : u.getD 0 0 ≤ ph R (x + 1)
    · rw [if_pos c1, if_pos c2, if_pos c3, if_pos (show canP R D u x from ⟨c1, c2, c3⟩)]
    · rw [if_pos c1, if_pos c2, if_neg c3, if_neg (fun h : canP R D u x => c3 h.2.2)]
    · rw [if_pos c1, if_neg c2, if_neg (fun h : canP R D u x => c2 h.2.1)]
    · rw [if_pos c1, if_neg c2, if_neg (fun h : canP R D u x => c2 h.2.1)]
    · rw [if_neg c1, if_neg (fun h : canP R D u x => c1 h.1)]
    · rw [if_neg c1, if_neg (fun h : canP R D u x => c1 h.1)]
    · rw [if_neg c1, if_neg (fun h : canP R D u x => c1 h.1)]
    · rw [if_neg c1, if_neg (fun h : canP R D u x => c1 h.1)]
theorem p65_eq {k : Nat} (hk : 5000 ≤ k) {R : List (List Int)} {D : List Int} {u : List Int} (h : LogOk R D) (hu : ClaimOk u) : p65 k R D (stT R) (pls R (lastN R + 1)) (crs R D).2.2.2.2 u = some (canI R D u) := by
  have hsp := h.arg.span
  have hN := h.N
  have hk1 := hu.2.2.2.1
  have hk2 := hu.2.2.2.2.1
  unfold p65
  simp only [lt_v, jn_v]
  rw [gd_v (by omega), p77_eq hk h, cl_v]
  rw [show (crs R D).2.2.2.2 = [vls R D 0 (lastN R + 1), vls R D 1 (lastN R + 1), vls R D 2 (lastN R + 1), vls R D 3 (lastN R + 1)] from rfl, Nat.mul_one, crsV_get R D _ (by omega)]
  exact p65_r1_eq (by omega) (steps R u) (fun x hx => ⟨(steps_mem.1 hx).1, (steps_mem.1 hx).2.1⟩)
def pastAt (R : List (List Int)) (u S : List Int) (i : Nat) : Prop :=
  (i = 0 ∨ pl R (S.getD (i - 1) 0 + 1) < u.getD 0 0) ∧ (i = S.length ∨ u.getD 1 0 < ph R (S.getD i 0)) ∧ (i = 0 ∨ i = S.length ∨ S.getD (i - 1) 0 + 1 < S.getD i 0)
noncomputable def pastFrom (R : List (List Int)) (u S : List Int) (i d : Nat) : Int := firstOr (fun x => pastAt R u S x.toNat) ((List.range' i d).map fun q : Nat => (q : Int))
noncomputable def pastI (R : List (List Int)) (u S : List Int) : Int := pastFrom R u S 0 (S.length + 1)
theorem pastFrom_succ (R u S i d) : pastFrom R u S i (d + 1) = if pastAt R u S i then (i : Int) else pastFrom R u S (i + 1) d := by
  unfold pastFrom
  rw [List.range'_succ, List.map_cons]
  simp only [firstOr, Int.toNat_natCast]
theorem p58_l1_eq {k : Nat} {R : List (List Int)} {u S : List Int} (hl : lastN R ≤ 2000) (hS : ∀ x ∈ S, 0 ≤ x ∧ x < (lastN R : Int)) (hL : S.length ≤ 100000) : ∀ (d i n : Nat), i + d = S.length + 1 → d < n →
    p58_l1 k (pls R (lastN R + 1)) u S (some (-1)) ((S.length : Int) + 1) n (i : Int) = some (pastFrom R u S i d)
  | 0, i, n, h1, h2 => by
    obtain ⟨n, rfl⟩ : ∃ n', n = n' + 1 := ⟨n - 1, by omega⟩
    rw [p58_l1]
    simp only [lt_v, sp_d]
    rw [if_neg (by omega)]
    rfl
  | d + 1, i, n, h1, h2 => by
    obtain ⟨n, rfl⟩ : ∃ n', n = n' + 1 := ⟨n - 1, by omega⟩
    have hw : wr .i64 ((i : Int) + 1) = ((i + 1 : Nat) : Int) := by rw [wr64 (by omega) (by omega)]; omega
    have hin : ∀ q, q < S.length → 0 ≤ S.getD q 0 ∧ S.getD q 0 < (lastN R : Int) := fun q hq => by
      have : S.getD q 0 ∈ S := by simp [List.getD_eq_getElem?_getD, List.getElem?_eq_getElem hq]
      exact hS _ this
    rw [p58_l1, pastFrom_succ]
    simp only [lt_v, jn_v, sp_tt, sp_ff, sp_d, Int.toNat_natCast, pls_len]
    rw [if_pos (by omega), hw, p58_l1_eq hl hS hL d (i + 1) n (by omega) (by omega)]
    have e0 : ((i : Int) == 0) = decide (i = 0) := by by_cases h : i = 0 <;> simp [h]
    have e1 : ((i : Int) == (S.length : Int)) = decide (i = S.length) := by by_cases h : i = S.length <;> simp [h]; omega
    simp only [e0, e1, sp_d]
    generalize hX : some (pastFrom R u S (i + 1) d) = X
    have fin : ∀ {P : Prop} {y : Option Int}, (P → y = some (i : Int)) → (¬ P → y = X) → (P ↔ pastAt R u S i) → y = some (if pastAt R u S i then (i : Int) else pastFrom R u S (i + 1) d) := by
      intro P y h3 h4 h5
      by_cases hP : P
      · rw [if_pos (h5.1 hP)]; exact h3 hP
      · rw [if_neg (fun h => hP (h5.2 h)), hX]; exact h4 hP
    by_cases c0 : i = 0
    · by_cases c1 : i = S.length
      · refine fin (P := True) (fun _ => ?_) (fun h => absurd trivial h) ⟨fun _ => ⟨.inl c0, .inl c1, .inl c0⟩, fun _ => trivial⟩
        simp only [if_pos c0, if_pos c1]
      · have hi := hin i (by omega)
        simp only [if_pos c0, if_neg c1]
        rw [gd_v (by omega), gd_v (by omega), pls_get hi.1 (by omega)]
        simp only [List.getD_cons_zero, List.getD_cons_succ]
        by_cases a2 : u.getD 1 0 < ph R (S.getD i 0)
        · refine fin (P := True) (fun _ => ?_) (fun h => absurd trivial h) ⟨fun _ => ⟨.inl c0, .inr a2, .inl c0⟩, fun _ => trivial⟩
          rw [if_pos a2]
        · refine fin (P := False) (fun h => h.elim) (fun _ => ?_) ⟨fun h => h.elim, fun h => h.2.1.elim c1 a2⟩
          rw [if_neg a2]
    · have hw2 : wr .i64 ((i : Int) - 1) = ((i - 1 : Nat) : Int) := by rw [wr64 (by omega) (by omega)]; omega
      have hi1 := hin (i - 1) (by omega)
      simp only [if_neg c0, hw2]
      rw [gd_v (by omega)]
      have hw3 : wr .i64 (S.getD (i - 1) 0 + 1) = S.getD (i - 1) 0 + 1 := wr64 (by omega) (by omega)
      have hp1 : (pls R (lastN R + 1)).getD (S.getD (i - 1) 0 + 1).toNat [] = [pl R (S.getD (i - 1) 0 + 1), ph R (S.getD (i - 1) 0 + 1)] := pls_get (by omega) (by omega)
      simp only [Int.toNat_natCast, hw3, hp1, List.getD_cons_zero]
      rw [gd_v (by omega)]
      by_cases c1 : i = S.length
      · by_cases a1 : pl R (S.getD (i - 1) 0 + 1) < u.getD 0 0
        · refine fin (P := True) (fun _ => ?_) (fun h => absurd trivial h) ⟨fun _ => ⟨.inr a1, .inl c1, .inr (.inl c1)⟩, fun _ => trivial⟩
          simp only [if_pos a1, if_pos c1]
        · refine fin (P := False) (fun h => h.elim) (fun _ => ?_) ⟨fun h => h.elim, fun h => h.1.elim c0 a1⟩
          simp only [if_neg a1, if_pos c1, ite_self]
      · have hi := hin i (by omega)
        have hp2 : (pls R (lastN R + 1)).getD (S.getD i 0).toNat [] = [pl R (S.getD i 0), ph R (S.getD i 0)] := pls_get hi.1 (by omega)
        simp only [if_neg c1, hp2, List.getD_cons_zero, List.getD_cons_succ]
        rw [gd_v (by omega), gd_v (by omega), gd_v (by omega), gd_v (by omega)]
        by_cases a1 : pl R (S.getD (i - 1) 0 + 1) < u.getD 0 0 <;> by_cases a2 : u.getD 1 0 < ph R (S.getD i 0) <;> by_cases a3 : S.getD (i - 1) 0 + 1 < S.getD i 0
        · refine fin (P := True) (fun _ => ?_) (fun h => absurd trivial h) ⟨fun _ => ⟨.inr a1, .inr a2, .inr (.inr a3)⟩, fun _ => trivial⟩
          rw [if_pos a1, if_pos a2, if_pos a3]
        all_goals
          refine fin (P := False) (fun h => h.elim) (fun _ => ?_) ⟨fun h => h.elim, fun h => ?_⟩
        all_goals first
          | (rcases h with ⟨h1 | h1, h2 | h2, h3 | h3 | h3⟩ <;> first | exact c0 h1 | exact c1 h2 | exact c0 h3 | exact c1 h3 | exact a1 h1 | exact a2 h2 | exact a3 h3)
          | (simp only [a1, a2, a3, if_true, if_false, gt_iff_lt]; done)
          | (simp only [a1, a2, a3, if_true, if_false, gt_iff_lt, sp_tt, sp_ff, ite_self]; done)
theorem p58_eq {k : Nat} (hk : 5000 ≤ k) {R : List (List Int)} {D : List Int} {u S : List Int} {st V} (h : LogOk R D) (hS : ∀ x ∈ S, 0 ≤ x ∧ x < (lastN R : Int)) (hL : S.length ≤ 4000) : p58 k R D st (pls R (lastN R + 1)) V u S = some (pastI R u S) := by
  have hsp := h.arg.span
  have hN := h.N
  unfold p58
  simp only [lt_v, jn_v]
  rw [wr64 (by omega) (by omega)]
  exact p58_l1_eq (by omega) hS (by omega) (S.length + 1) 0 k (by omega) (by omega)
noncomputable def vdI (R : List (List Int)) (D u : List Int) : Int := if pastI R u (must R D u) < 0 then 1 else if canI R D u < 0 then 2 else 0
theorem p44_eq {k : Nat} (hk : 5000 ≤ k) {R : List (List Int)} {D : List Int} {u : List Int} (h : LogOk R D) (hu : ClaimOk u) : p44 k R D (stT R) (pls R (lastN R + 1)) (crs R D).2.2.2.2 u = some (vdI R D u) := by
  have hsp := h.arg.span
  have hN := h.N
  have hl := must_len R D u
  unfold p44 vdI
  rw [p56_eq hk h hu, cl_v, p58_eq hk h (fun x hx => ⟨(must_mem.1 hx).1, (must_mem.1 hx).2.1⟩) (by omega), cl_v, p65_eq hk h hu]
  simp only [lt_v, sp_d, cl_v]
  split
  · rfl
  · split <;> rfl
theorem ne_zero_b (x : Int) : (x != 0) = !decide (x = 0) := by by_cases h : x = 0 <;> simp [h]
theorem eq_zero_b (x y : Int) : (x == y) = decide (x = y) := by by_cases h : x = y <;> simp [h]
theorem p43_eq {k : Nat} (hk : 5000 ≤ k) {R : List (List Int)} {D u : List Int} (hD : D.length = 4) : p43 k R D u = some (if logE R D = 0 then some (crs R D) else none, if logE R D = 0 then claimE u else logE R D) := by
  unfold p43
  rw [p46_eq hk hD, cl2_v]
  simp only [lt_v, ne_zero_b, sp_nd, p32_eq, cl_v]
  by_cases h : logE R D = 0
  · rw [if_pos h, if_pos h, if_pos h]
  · rw [if_neg h, if_neg h, if_neg h]
theorem p14_eq {k : Nat} (hk : 5000 ≤ k) {R : List (List Int)} {D u : List Int} (hD : D.length = 4) : p14 k R D u = some (if logE R D = 0 then (if claimE u = 0 then (vdI R D u, 0) else (0, claimE u)) else (0, logE R D)) := by
  unfold p14
  rw [p43_eq hk hD, cl2_v]
  simp only [lt_v, ne_zero_b, sp_nd]
  by_cases h : logE R D = 0
  · rw [if_pos h, if_pos h, if_pos h]
    by_cases h2 : claimE u = 0
    · rw [if_pos h2, if_pos h2]
      simp only [cl_v]
      rw [show (crs R D).1 = R from rfl, show (crs R D).2.1 = D from rfl, show (crs R D).2.2.1 = stT R from rfl, show (crs R D).2.2.2.1 = pls R (lastN R + 1) from rfl, p44_eq hk (logE_zero.1 h) (claimE_zero.1 h2), cl_v]
    · rw [if_neg h2, if_neg h2]
  · rw [if_neg h, if_neg h, if_neg h]
theorem p12_eq {k : Nat} (hk : 5000 ≤ k) : p12 k = some true := by
  obtain ⟨j, rfl⟩ : ∃ j, k = j + 5000 := ⟨k - 5000, by omega⟩
  kernel_rfl
end Go.Proofs.Ythjkejbgknemgaa
namespace Go.Proofs.Ythjkejbgknemgaa
open Go.RowKit Classical
theorem pl_mono (R : List (List Int)) {a b : Int} (h : a ≤ b) : pl R a ≤ pl R b := by
  unfold pl
  rw [PL_le]
  have := PL_le.1 (Int.le_refl (PL (stT R + b) R (-1099511627776)))
  exact ⟨this.1, fun r hr ht => this.2 r hr (by omega)⟩
theorem ph_mono (R : List (List Int)) {a b : Int} (h : a ≤ b) : ph R a ≤ ph R b := by
  unfold ph
  rw [le_PH]
  have := le_PH.1 (Int.le_refl (PH (stT R + a) R 1099511627776))
  exact ⟨this.1, fun r hr ht => this.2 r hr (by omega)⟩
theorem ab_step (x : Int) : ab (x + 1) ≤ ab x + 1 ∧ ab (x - 1) ≤ ab x + 1 := by unfold ab; omega
theorem mul_step {d a b : Int} (hd : 0 ≤ d) (h : a ≤ b + 1) : d * a ≤ d * b + d := by
  have := Int.mul_le_mul_of_nonneg_left h hd
  rw [Int.mul_add, Int.mul_one] at this
  exact this
theorem vl_step (R : List (List Int)) (D : List Int) (k : Nat) (hd : 0 ≤ D.getD k 0) (a : Int) : vl R D k (a + 1) ≤ vl R D k a + D.getD k 0 ∧ vl R D k a ≤ vl R D k (a + 1) + D.getD k 0 := by
  unfold vl
  constructor
  · rw [VL_le]
    have := VL_le.1 (Int.le_refl (VL (D.getD k 0) k (stT R + a) R (-1125899906842624)))
    refine ⟨by omega, fun r hr => ?_⟩
    have h1 := this.2 r hr
    have h2 := mul_step hd (a := ab (rA r - (stT R + a))) (b := ab (rA r - (stT R + (a + 1)))) (by have := (ab_step (rA r - (stT R + (a + 1)))).1; rw [show rA r - (stT R + (a + 1)) + 1 = rA r - (stT R + a) from by omega] at this; exact this)
    omega
  · rw [VL_le]
    have := VL_le.1 (Int.le_refl (VL (D.getD k 0) k (stT R + (a + 1)) R (-1125899906842624)))
    refine ⟨by omega, fun r hr => ?_⟩
    have h1 := this.2 r hr
    have h2 := mul_step hd (a := ab (rA r - (stT R + (a + 1)))) (b := ab (rA r - (stT R + a))) (by have := (ab_step (rA r - (stT R + a))).2; rw [show rA r - (stT R + a) - 1 = rA r - (stT R + (a + 1)) from by omega] at this; exact this)
    omega
theorem vh_step (R : List (List Int)) (D : List Int) (k : Nat) (hd : 0 ≤ D.getD k 0) (a : Int) : vh R D k (a + 1) ≤ vh R D k a + D.getD k 0 ∧ vh R D k a ≤ vh R D k (a + 1) + D.getD k 0 := by
  unfold vh
  constructor
  · suffices h : VH (D.getD k 0) k (stT R + (a + 1)) R 1125899906842624 - D.getD k 0 ≤ VH (D.getD k 0) k (stT R + a) R 1125899906842624 by omega
    rw [le_VH]
    have := le_VH.1 (Int.le_refl (VH (D.getD k 0) k (stT R + (a + 1)) R 1125899906842624))
    refine ⟨by omega, fun r hr => ?_⟩
    have h1 := this.2 r hr
    have h2 := mul_step hd (a := ab (rA r - (stT R + (a + 1)))) (b := ab (rA r - (stT R + a))) (by have := (ab_step (rA r - (stT R + a))).2; rw [show rA r - (stT R + a) - 1 = rA r - (stT R + (a + 1)) from by omega] at this; exact this)
    omega
  · suffices h : VH (D.getD k 0) k (stT R + a) R 1125899906842624 - D.getD k 0 ≤ VH (D.getD k 0) k (stT R + (a + 1)) R 1125899906842624 by omega
    rw [le_VH]
    have := le_VH.1 (Int.le_refl (VH (D.getD k 0) k (stT R + a) R 1125899906842624))
    refine ⟨by omega, fun r hr => ?_⟩
    have h1 := this.2 r hr
    have h2 := mul_step hd (a := ab (rA r - (stT R + a))) (b := ab (rA r - (stT R + (a + 1)))) (by have := (ab_step (rA r - (stT R + (a + 1)))).1; rw [show rA r - (stT R + (a + 1)) + 1 = rA r - (stT R + a) from by omega] at this; exact this)
    omega
def PastP (R : List (List Int)) (u : List Int) (S : List Int) : Prop := ∃ a : Int, (∀ s ∈ S, s < a → pl R (s + 1) < u.getD 0 0) ∧ (∀ s ∈ S, a ≤ s → u.getD 1 0 < ph R s) ∧ ¬ (a - 1 ∈ S ∧ a ∈ S)
theorem getD_mem' {S : List Int} {i : Nat} (h : i < S.length) : S.getD i 0 ∈ S := by simp [List.getD_eq_getElem?_getD, List.getElem?_eq_getElem h]
theorem mem_getD {S : List Int} {s : Int} (h : s ∈ S) : ∃ i, i < S.length ∧ S.getD i 0 = s := by
  obtain ⟨i, hi, rfl⟩ := List.getElem_of_mem h
  exact ⟨i, hi, by simp [List.getD_eq_getElem?_getD, List.getElem?_eq_getElem hi]⟩
theorem asc_getD {S : List Int} (h : S.Pairwise (· < ·)) {i j : Nat} (hij : i < j) (hj : j < S.length) : S.getD i 0 < S.getD j 0 := by
  have := List.pairwise_iff_getElem.1 h i j (by omega) hj hij
  simpa [List.getD_eq_getElem?_getD, List.getElem?_eq_getElem hj, List.getElem?_eq_getElem (show i < S.length by omega)] using this
theorem asc_getD_le {S : List Int} (h : S.Pairwise (· < ·)) {i j : Nat} (hij : i ≤ j) (hj : j < S.length) : S.getD i 0 ≤ S.getD j 0 := by
  rcases Nat.eq_or_lt_of_le hij with e | e
  · subst e; exact Int.le_refl _
  · exact Int.le_of_lt (asc_getD h e hj)
theorem pastAt_P {R : List (List Int)} {u S : List Int} (hS : S.Pairwise (· < ·)) {i : Nat} (hi : i ≤ S.length) (h : pastAt R u S i) : PastP R u S := by
  obtain ⟨h1, h2, h3⟩ := h
  have before : ∀ s ∈ S, ∀ q, S.getD q 0 = s → q < i → pl R (s + 1) < u.getD 0 0 := by
    intro s hs q hq hqi
    rcases h1 with e | e
    · omega
    · have := asc_getD_le hS (i := q) (j := i - 1) (by omega) (by omega)
      exact Int.lt_of_le_of_lt (pl_mono R (by omega)) e
  have behind : ∀ s ∈ S, ∀ q, S.getD q 0 = s → q < S.length → i ≤ q → u.getD 1 0 < ph R s := by
    intro s hs q hq hql hqi
    rcases h2 with e | e
    · omega
    · have := asc_getD_le hS (i := i) (j := q) hqi hql
      exact Int.lt_of_lt_of_le e (ph_mono R (by omega))
  by_cases hil : i = S.length
  · refine ⟨S.getD (i - 1) 0 + 2, fun s hs _ => ?_, fun s hs hle => ?_, fun ⟨h4, h5⟩ => ?_⟩
    · obtain ⟨q, hq, hqs⟩ := mem_getD hs
      exact before s hs q hqs (by omega)
    · obtain ⟨q, hq, hqs⟩ := mem_getD hs
      have := asc_getD_le hS (i := q) (j := i - 1) (by omega) (by omega)
      omega
    · obtain ⟨q, hq, hqs⟩ := mem_getD h5
      have := asc_getD_le hS (i := q) (j := i - 1) (by omega) (by omega)
      omega
  · have hlt : i < S.length := by omega
    refine ⟨S.getD i 0, fun s hs hl => ?_, fun s hs hle => ?_, fun ⟨h4, h5⟩ => ?_⟩
    · obtain ⟨q, hq, hqs⟩ := mem_getD hs
      refine before s hs q hqs ?_
      refine Classical.byContradiction fun hn => ?_
      have := asc_getD_le hS (i := i) (j := q) (by omega) hq
      omega
    · obtain ⟨q, hq, hqs⟩ := mem_getD hs
      refine behind s hs q hqs hq ?_
      refine Classical.byContradiction fun hn => ?_
      have := asc_getD hS (i := q) (j := i) (by omega) hlt
      omega
    · obtain ⟨q, hq, hqs⟩ := mem_getD h4
      have hqi : q < i := Classical.byContradiction fun hn => by
        have := asc_getD_le hS (i := i) (j := q) (by omega) hq
        omega
      rcases h3 with e | e | e
      · omega
      · omega
      · have := asc_getD_le hS (i := q) (j := i - 1) (by omega) (by omega)
        omega
theorem P_pastAt {R : List (List Int)} {u S : List Int} (hS : S.Pairwise (· < ·)) (h : PastP R u S) : ∃ i, i ≤ S.length ∧ pastAt R u S i := by
  obtain ⟨a, h1, h2, h3⟩ := h
  -- the first one that is not below a
  have : ∃ i, i ≤ S.length ∧ (∀ q, q < i → S.getD q 0 < a) ∧ (i < S.length → a ≤ S.getD i 0) := by
    have key : ∀ d i, i + d = S.length → (∀ q, q < i → S.getD q 0 < a) → ∃ i, i ≤ S.length ∧ (∀ q, q < i → S.getD q 0 < a) ∧ (i < S.length → a ≤ S.getD i 0) := by
      intro d
      induction d with
      | zero => intro i hi hq; exact ⟨i, by omega, hq, fun h => by omega⟩
      | succ d ih =>
        intro i hi hq
        by_cases c : S.getD i 0 < a
        · exact ih (i + 1) (by omega) (fun q hqi => by
            rcases Nat.eq_or_lt_of_le (Nat.le_of_lt_succ hqi) with e | e
            · subst e; exact c
            · exact hq q e)
        · exact ⟨i, by omega, hq, fun _ => by omega⟩
    exact key S.length 0 (by omega) (fun q hq => by omega)
  obtain ⟨i, hi, hb, ha⟩ := this
  refine ⟨i, hi, ?_, ?_, ?_⟩
  · by_cases e : i = 0
    · exact .inl e
    · exact .inr (h1 _ (getD_mem' (by omega)) (hb _ (by omega)))
  · by_cases e : i = S.length
    · exact .inl e
    · exact .inr (h2 _ (getD_mem' (by omega)) (ha (by omega)))
  · by_cases e : i = 0
    · exact .inl e
    · by_cases e2 : i = S.length
      · exact .inr (.inl e2)
      · refine .inr (.inr ?_)
        have h4 := hb (i - 1) (by omega)
        have h5 := ha (by omega)
        have h6 := asc_getD hS (i := i - 1) (j := i) (by omega) (by omega)
        refine Classical.byContradiction fun hn => h3 ⟨?_, ?_⟩
        · rw [show a - 1 = S.getD (i - 1) 0 from by omega]; exact getD_mem' (by omega)
        · rw [show a = S.getD i 0 from by omega]; exact getD_mem' (by omega)
theorem pastI_iff {R : List (List Int)} {u S : List Int} (hS : S.Pairwise (· < ·)) : 0 ≤ pastI R u S ↔ PastP R u S := by
  unfold pastI pastFrom
  have hnn : ∀ x ∈ (List.range' 0 (S.length + 1)).map (fun q : Nat => (q : Int)), 0 ≤ x := by
    intro x hx
    obtain ⟨q, _, rfl⟩ := List.mem_map.1 hx
    omega
  constructor
  · intro h
    obtain ⟨h1, h2⟩ := firstOr_pos h
    obtain ⟨q, hq, he⟩ := List.mem_map.1 h1
    rw [← he] at h2
    rw [List.mem_range'_1] at hq
    exact pastAt_P hS (i := q) (by omega) h2
  · intro h
    obtain ⟨i, hi, h2⟩ := P_pastAt hS h
    refine Classical.byContradiction fun hn => ?_
    have := (firstOr_neg (p := fun x => pastAt R u S x.toNat) hnn).1 (by omega) (i : Int) (List.mem_map.2 ⟨i, by rw [List.mem_range'_1]; omega, rfl⟩)
    exact this h2
theorem PastP.sub {R R' : List (List Int)} {u u' S S' : List Int} (h : PastP R' u' S') (hS : ∀ x ∈ S, x ∈ S') (h1 : ∀ x ∈ S, pl R (x + 1) ≤ pl R' (x + 1)) (h2 : ∀ x ∈ S, ph R' x ≤ ph R x) (h3 : u'.getD 0 0 ≤ u.getD 0 0) (h4 : u.getD 1 0 ≤ u'.getD 1 0) : PastP R u S := by
  obtain ⟨a, a1, a2, a3⟩ := h
  refine ⟨a, fun s hs hl => ?_, fun s hs hl => ?_, fun ⟨h5, h6⟩ => a3 ⟨hS _ h5, hS _ h6⟩⟩
  · have := a1 s (hS s hs) hl
    have := h1 s hs
    omega
  · have := a2 s (hS s hs) hl
    have := h2 s hs
    omega
theorem canI_neg {R : List (List Int)} {D u : List Int} : canI R D u < 0 ↔ ∀ x ∈ steps R u, ¬ canP R D u x := firstOr_neg fun x hx => (steps_mem.1 hx).1
theorem vd_proven {R : List (List Int)} {D u : List Int} : vdI R D u = 1 ↔ ¬ PastP R u (must R D u) := by
  unfold vdI
  rw [← pastI_iff (asc_must R D u)]
  split
  · rename_i h; exact ⟨fun _ => by omega, fun _ => rfl⟩
  · rename_i h
    split
    · exact ⟨fun hh => by omega, fun hh => by omega⟩
    · exact ⟨fun hh => by omega, fun hh => by omega⟩
theorem vd_excluded {R : List (List Int)} {D u : List Int} : vdI R D u = 2 ↔ PastP R u (must R D u) ∧ canI R D u < 0 := by
  unfold vdI
  rw [← pastI_iff (asc_must R D u)]
  split
  · rename_i h; exact ⟨fun hh => by omega, fun hh => by omega⟩
  · rename_i h
    split
    · rename_i h2; exact ⟨fun _ => ⟨by omega, h2⟩, fun _ => rfl⟩
    · rename_i h2; exact ⟨fun hh => by omega, fun hh => absurd hh.2 h2⟩
theorem p18_some {k : Nat} {R : List (List Int)} {D : List Int} : ∃ b, p18 k R D = some b := by
  unfold p18
  simp only [jn_v, lt_v, sp_d]
  have tail : ∀ b : Bool, R.length ≤ 100 → ∃ c, sp b (some true) (if (R.length : Int) > 1 then gd ((0 : Int) ≤ wr .i64 ((R.length : Int) - 1) ∧ wr .i64 ((R.length : Int) - 1) < (R.length : Int)) (gd ((0 : Int) ≤ 0 ∧ (0 : Int) < (R.length : Int)) (if (R.getD (wr .i64 ((R.length : Int) - 1)).toNat []).getD 0 0 > (R.getD 0 []).getD 0 0 then gd ((0 : Int) ≤ wr .i64 ((R.length : Int) - 1) ∧ wr .i64 ((R.length : Int) - 1) < (R.length : Int)) (gd ((0 : Int) ≤ 0 ∧ (0 : Int) < (R.length : Int)) (if wr .i64 ((R.getD (wr .i64 ((R.length : Int) - 1)).toNat []).getD 0 0 - (R.getD 0 []).getD 0 0) > 120 then gd ((0 : Int) ≤ wr .i64 ((R.length : Int) - 1) ∧ wr .i64 ((R.length : Int) - 1) < (R.length : Int)) (gd ((0 : Int) ≤ 0 ∧ (0 : Int) < (R.length : Int)) (some (decide (wr .i64 ((R.getD (wr .i64 ((R.length : Int) - 1)).toNat []).getD 0 0 - (R.getD 0 []).getD 0 0) ≤ 2000)))) else some false)) else some false)) else some false) = some c := by
    intro b hb
    cases b with
    | true => exact ⟨true, rfl⟩
    | false =>
      rw [sp_ff]
      split
      · rename_i h1
        rw [wr64 (z := (R.length : Int) - 1) (by omega) (by omega), gd_v (by omega), gd_v (by omega)]
        split
        · rw [gd_v (by omega), gd_v (by omega)]
          split
          · rw [gd_v (by omega), gd_v (by omega)]; exact ⟨_, rfl⟩
          · exact ⟨_, rfl⟩
        · exact ⟨_, rfl⟩
      · exact ⟨_, rfl⟩
  by_cases h1 : (R.length : Int) > 100
  · rw [if_pos h1]; exact ⟨true, rfl⟩
  · rw [if_neg h1]
    by_cases h2 : (R.length : Int) > 20
    · rw [if_pos h2]
      by_cases h3 : (R.length : Int) ≤ 64
      · rw [if_pos h3]; exact ⟨true, rfl⟩
      · rw [if_neg h3]; exact tail false (by omega)
    · rw [if_neg h2]; exact tail false (by omega)
theorem p11_eq {k : Nat} (hk : 5000 ≤ k) {R : List (List Int)} {D u : List Int} (hD : D.length = 4) (hb : ∀ r ∈ R, ∀ z ∈ r, -9223372036854775808 ≤ z ∧ z ≤ 9223372036854775807) : ∃ b, p11 k R D u = some b ∧ (b = true → LogOk R D ∧ ClaimOk u) := by
  unfold p11
  obtain ⟨g, hg⟩ := p18_some (k := k) (R := R) (D := D)
  rw [hg, p21_eq hk hD hb, p33_eq]
  simp only [jn_v, lt_v, cl_v, eq_zero_b, sp_d]
  cases g with
  | true => exact ⟨false, rfl, fun h => by cases h⟩
  | false =>
    rw [sp_ff]
    by_cases h1 : logE R D = 0
    · rw [if_pos h1]
      refine ⟨_, rfl, fun h => ⟨logE_zero.1 h1, claimE_zero.1 (by simpa using h)⟩⟩
    · rw [if_neg h1]; exact ⟨false, rfl, fun h => by cases h⟩
def Wf64 (R : List (List Int)) : Prop := ∀ r ∈ R, ∀ z ∈ r, -9223372036854775808 ≤ z ∧ z ≤ 9223372036854775807
end Go.Proofs.Ythjkejbgknemgaa
namespace Go.Proofs.Ythjkejbgknemgaa
open Go.RowKit Classical
end Go.Proofs.Ythjkejbgknemgaa
namespace Go.Proofs.Ythjkejbgknemgaa
open Go.RowKit Classical
theorem all_step {P : Nat → Prop} {i N : Nat} (h : i < N) : (∀ q, i ≤ q → q < N → P q) ↔ P i ∧ ∀ q, i + 1 ≤ q → q < N → P q :=
  ⟨fun hh => ⟨hh i (Nat.le_refl _) h, fun q h1 h2 => hh q (by omega) h2⟩, fun hh q h1 h2 => by
    rcases Nat.eq_or_lt_of_le h1 with e | e
    · subst e; exact hh.1
    · exact hh.2 q e h2⟩
theorem if_iff {α : Type} {P Q : Prop} [Decidable P] [Decidable Q] (h : P ↔ Q) (x y : α) : (if P then x else y) = if Q then x else y := by
  by_cases c : P
  · rw [if_pos c, if_pos (h.1 c)]
  · rw [if_neg c, if_neg (fun hh => c (h.2 hh))]
def hv (V : List (List Int)) (m q : Nat) : Int := (V.getD m []).getD q 0
def valOk (R : List (List Int)) (D : List Int) (V : List (List Int)) (m q : Nat) : Prop := (vl R D q m ≤ hv V m q ∧ hv V m q ≤ vh R D q m) ∧ (0 < m → hv V (m - 1) q - D.getD q 0 ≤ hv V m q ∧ hv V m q ≤ hv V (m - 1) q + D.getD q 0)
def plcOk (R : List (List Int)) (P : List Int) (m : Nat) : Prop := (pl R m ≤ P.getD m 0 ∧ P.getD m 0 ≤ ph R m) ∧ (0 < m → P.getD (m - 1) 0 ≤ P.getD m 0)
structure Fits (R : List (List Int)) (D : List Int) (P : List Int) (V : List (List Int)) : Prop where
  lp : P.length = lastN R + 1
  lv : V.length = lastN R + 1
  plc : ∀ m, m < lastN R + 1 → plcOk R P m
  val : ∀ m, m < lastN R + 1 → ∀ q, q < 4 → valOk R D V m q
theorem vl_ge (R : List (List Int)) (D : List Int) (q : Nat) (m : Int) : -1125899906842624 ≤ vl R D q m := (VL_le.1 (Int.le_refl (vl R D q m))).1
theorem vh_le (R : List (List Int)) (D : List Int) (q : Nat) (m : Int) : vh R D q m ≤ 1125899906842624 := (le_VH.1 (Int.le_refl (vh R D q m))).1
theorem pl_ge (R : List (List Int)) (m : Int) : -1099511627776 ≤ pl R m := (PL_le.1 (Int.le_refl (pl R m))).1
theorem ph_le (R : List (List Int)) (m : Int) : ph R m ≤ 1099511627776 := (le_PH.1 (Int.le_refl (ph R m))).1
theorem p22_l2_eq {k : Nat} {R : List (List Int)} {D : List Int} {V : List (List Int)} (h : LogOk R D) {m : Nat} (hm : m < lastN R + 1) (hV : V.length = lastN R + 1) (hp : 0 < m → ∀ q, q < 4 → -1125899906842624 ≤ hv V (m - 1) q ∧ hv V (m - 1) q ≤ 1125899906842624) (j : Option (Bool × Int)) : ∀ (d i n : Nat), i + d = 4 → d < n → p22_l2 k D V (m : Int) j (crs R D) (V.getD m []) n (i : Int) = if ∀ q, i ≤ q → q < 4 → valOk R D V m q then j else some (false, 0)
  | 0, i, n, h1, h2 => by
    obtain ⟨n, rfl⟩ : ∃ n', n = n' + 1 := ⟨n - 1, by omega⟩
    rw [p22_l2]
    simp only [lt_v, sp_d]
    rw [if_neg (by omega), if_pos (fun q _ _ => by omega)]
  | d + 1, i, n, h1, h2 => by
    obtain ⟨n, rfl⟩ : ∃ n', n = n' + 1 := ⟨n - 1, by omega⟩
    have hN := h.N
    have hsp := h.arg.span
    have hdr := h.arg.dr i (by omega)
    have hw : wr .i64 ((i : Int) + 1) = ((i + 1 : Nat) : Int) := by rw [wr64 (by omega) (by omega)]; omega
    have hcr : (crs R D).2.2.2.2.getD i [] = vls R D i (lastN R + 1) := crsV_get R D i (by omega)
    rw [p22_l2]
    simp only [lt_v, sp_d, Int.toNat_natCast, Nat.zero_add, Nat.mul_one, hw, hcr, jn_v]
    have hg : (vls R D i (lastN R + 1)).getD m [] = [vl R D i m, vh R D i m] := by
      have := vls_get (R := R) (D := D) (kk := i) (N := lastN R + 1) (x := (m : Int)) (by omega) (by omega)
      simpa using this
    rw [if_pos (by omega), gd_v (by omega), gd_v (by omega), gd_v (by rw [vls_len]; omega), hg]
    simp only [List.getD_cons_zero, List.getD_cons_succ, p49_eq, cl_v, sp_d, sp_ff]
    rw [p22_l2_eq h hm hV hp j d (i + 1) n (by omega) (by omega)]
    rw [if_iff (all_step (P := valOk R D V m) (show i < 4 by omega))]
    change (if vl R D i m ≤ hv V m i ∧ hv V m i ≤ vh R D i m then _ else _) = _
    by_cases c1 : vl R D i m ≤ hv V m i ∧ hv V m i ≤ vh R D i m
    · rw [if_pos c1]
      by_cases c2 : 0 < m
      · have hb := hp c2 i (by omega)
        have hw2 : wr .i64 ((m : Int) - 1) = ((m - 1 : Nat) : Int) := by rw [wr64 (by omega) (by omega)]; omega
        rw [if_pos (by omega), hw2, Int.toNat_natCast, gd_v (by omega), gd_v (by omega), gd_v (by omega), gd_v (by omega), gd_v (by omega), gd_v (by omega)]
        change sp (!decide (wr .i64 (hv V (m - 1) i - D.getD i 0) ≤ hv V m i ∧ hv V m i ≤ wr .i64 (hv V (m - 1) i + D.getD i 0))) _ _ = _
        rw [wr64 (by omega) (by omega), wr64 (by omega) (by omega), sp_nd]
        by_cases c3 : hv V (m - 1) i - D.getD i 0 ≤ hv V m i ∧ hv V m i ≤ hv V (m - 1) i + D.getD i 0
        · rw [if_pos c3]
          by_cases c4 : ∀ q, i + 1 ≤ q → q < 4 → valOk R D V m q
          · rw [if_pos c4, if_pos ⟨⟨c1, fun _ => c3⟩, c4⟩]
          · rw [if_neg c4, if_neg (fun hh => c4 hh.2)]
        · rw [if_neg c3, if_neg (fun hh => c3 (hh.1.2 c2))]
      · rw [if_neg (by omega)]
        by_cases c4 : ∀ q, i + 1 ≤ q → q < 4 → valOk R D V m q
        · rw [if_pos c4, if_pos ⟨⟨c1, fun hh => absurd hh c2⟩, c4⟩]
        · rw [if_neg c4, if_neg (fun hh => c4 hh.2)]
    · rw [if_neg c1, if_neg (fun hh => c1 hh.1.1)]
def minOk (R : List (List Int)) (D : List Int) (P : List Int) (V : List (List Int)) (m : Nat) : Prop := plcOk R P m ∧ ∀ q, q < 4 → valOk R D V m q
theorem p22_l1_eq {k : Nat} (hk : 5000 ≤ k) {R : List (List Int)} {D P : List Int} {V : List (List Int)} (h : LogOk R D) (hP : P.length = lastN R + 1) (hV : V.length = lastN R + 1) (j : Option (Bool × Int)) : ∀ (d m n : Nat), m + d = lastN R + 1 → d < n → (0 < m → ∀ q, q < 4 → -1125899906842624 ≤ hv V (m - 1) q ∧ hv V (m - 1) q ≤ 1125899906842624) → p22_l1 k D P V j (crs R D) n (m : Int) = if ∀ q, m ≤ q → q < lastN R + 1 → minOk R D P V q then j else some (false, 0)
  | 0, m, n, h1, h2, hp => by
    obtain ⟨n, rfl⟩ : ∃ n', n = n' + 1 := ⟨n - 1, by omega⟩
    rw [p22_l1]
    simp only [lt_v, sp_d]
    rw [if_neg (by omega), if_pos (fun q _ _ => by omega)]
  | d + 1, m, n, h1, h2, hp => by
    obtain ⟨n, rfl⟩ : ∃ n', n = n' + 1 := ⟨n - 1, by omega⟩
    have hN := h.N
    have hsp := h.arg.span
    have hw : wr .i64 ((m : Int) + 1) = ((m + 1 : Nat) : Int) := by rw [wr64 (by omega) (by omega)]; omega
    have hcl : ((crs R D).2.2.2.1.length : Int) = lastI R + 1 := by
      show ((pls R (lastN R + 1)).length : Int) = _
      rw [pls_len]; exact hN
    have hg : (crs R D).2.2.2.1.getD m [] = [pl R m, ph R m] := by
      have := pls_get (R := R) (N := lastN R + 1) (x := (m : Int)) (by omega) (by omega)
      rw [Int.toNat_natCast] at this
      exact this
    have hl2 := p22_l2_eq (k := k) h (m := m) (by omega) hV hp (p22_l1 k D P V j (crs R D) n ((m + 1 : Nat) : Int)) 4 0 k (by omega) (by omega)
    rw [show ((0 : Nat) : Int) = 0 from rfl] at hl2
    rw [p22_l1]
    simp only [lt_v, sp_d, Int.toNat_natCast, hw, jn_v, hg, p49_eq, cl_v, List.getD_cons_zero, List.getD_cons_succ, sp_ff, sp_tt, hl2]
    rw [if_pos (by omega), gd_v (c := 0 ≤ (m : Int) ∧ (m : Int) < (V.length : Int)) (by omega), gd_v (by omega), gd_v (by omega), gd_v (by omega)]
    rw [if_iff (all_step (P := minOk R D P V) (show m < lastN R + 1 by omega))]
    have tail : (if ∀ q, 0 ≤ q → q < 4 → valOk R D V m q then p22_l1 k D P V j (crs R D) n ((m + 1 : Nat) : Int) else some (false, 0)) = if (∀ q, q < 4 → valOk R D V m q) ∧ (∀ q, m + 1 ≤ q → q < lastN R + 1 → minOk R D P V q) then j else some (false, 0) := by
      by_cases c : ∀ q, q < 4 → valOk R D V m q
      · rw [if_pos (fun q _ h4 => c q h4), p22_l1_eq hk h hP hV j d (m + 1) n (by omega) (by omega) (fun _ q h4 => by
          have := (c q h4).1
          have := vl_ge R D q m
          have := vh_le R D q m
          rw [Nat.add_sub_cancel]; omega)]
        by_cases c2 : ∀ q, m + 1 ≤ q → q < lastN R + 1 → minOk R D P V q
        · rw [if_pos c2, if_pos ⟨c, c2⟩]
        · rw [if_neg c2, if_neg (fun hh => c2 hh.2)]
      · rw [if_neg (fun hh => c (fun q h4 => hh q (Nat.zero_le _) h4)), if_neg (fun hh => c hh.1)]
    rw [tail]
    by_cases c1 : pl R m ≤ P.getD m 0 ∧ P.getD m 0 ≤ ph R m
    · rw [if_pos c1]
      by_cases c2 : 0 < m
      · have hw2 : wr .i64 ((m : Int) - 1) = ((m - 1 : Nat) : Int) := by rw [wr64 (by omega) (by omega)]; omega
        rw [if_pos (by omega), hw2, Int.toNat_natCast, gd_v (by omega)]
        by_cases c3 : P.getD m 0 < P.getD (m - 1) 0
        · rw [if_pos c3, if_neg (fun hh => by have := hh.1.1.2 c2; omega)]
        · rw [if_neg c3]
          by_cases c4 : (∀ q, q < 4 → valOk R D V m q) ∧ (∀ q, m + 1 ≤ q → q < lastN R + 1 → minOk R D P V q)
          · rw [if_pos c4, if_pos ⟨⟨⟨c1, fun _ => by omega⟩, c4.1⟩, c4.2⟩]
          · rw [if_neg c4, if_neg (fun hh => c4 ⟨hh.1.2, hh.2⟩)]
      · rw [if_neg (by omega)]
        by_cases c4 : (∀ q, q < 4 → valOk R D V m q) ∧ (∀ q, m + 1 ≤ q → q < lastN R + 1 → minOk R D P V q)
        · rw [if_pos c4, if_pos ⟨⟨⟨c1, fun hh => absurd hh c2⟩, c4.1⟩, c4.2⟩]
        · rw [if_neg c4, if_neg (fun hh => c4 ⟨hh.1.2, hh.2⟩)]
    · rw [if_neg c1, if_neg (fun hh => c1 hh.1.1.1)]
theorem p54_eq {k : Nat} {R : List (List Int)} {D P : List Int} {V : List (List Int)} {D' W st} : p54 k R D' st (pls R (lastN R + 1)) W P V = some (decide (P.length = lastN R + 1 ∧ V.length = lastN R + 1)) := by
  unfold p54
  simp only [jn_v, lt_v, pls_len, eq_zero_b, sp_d]
  by_cases c1 : P.length = lastN R + 1
  · rw [if_pos (by omega)]
    exact congrArg some (decide_eq_decide.2 ⟨fun h => ⟨c1, by omega⟩, fun h => by omega⟩)
  · rw [if_neg (by omega)]
    exact congrArg some (decide_eq_false (fun h => c1 h.1)).symm
theorem p22_eq {k : Nat} (hk : 5000 ≤ k) {R : List (List Int)} {D P : List Int} {V : List (List Int)} (hD : D.length = 4) : p22 k R D P V = some (if logE R D = 0 then (decide (Fits R D P V), 0) else (false, logE R D)) := by
  unfold p22
  rw [p46_eq hk hD]
  simp only [cl2_v, lt_v, ne_zero_b, sp_nd]
  by_cases hl : logE R D = 0
  · have h := logE_zero.1 hl
    have e54 : p54 k (crs R D).1 (crs R D).2.1 (crs R D).2.2.1 (crs R D).2.2.2.1 (crs R D).2.2.2.2 P V = some (decide (P.length = lastN R + 1 ∧ V.length = lastN R + 1)) := p54_eq (D := D)
    rw [if_pos hl, if_pos hl, if_pos hl, cl_v, e54, cl_v, sp_d]
    by_cases c : P.length = lastN R + 1 ∧ V.length = lastN R + 1
    · rw [if_pos c, jn_v]
      have e := p22_l1_eq hk h c.1 c.2 (some (true, (0 : Int))) (lastN R + 1) 0 k (by omega) (by have := h.N; have := h.arg.span; omega) (fun hh => by omega)
      rw [show ((0 : Nat) : Int) = 0 from rfl] at e
      rw [e]
      by_cases f : Fits R D P V
      · rw [if_pos (fun q _ hq => ⟨f.plc q hq, f.val q hq⟩), decide_eq_true f]
      · rw [if_neg (fun hh => f ⟨c.1, c.2, fun m hm => (hh m (Nat.zero_le _) hm).1, fun m hm => (hh m (Nat.zero_le _) hm).2⟩), decide_eq_false f]
    · rw [if_neg c, decide_eq_false (fun f : Fits R D P V => c ⟨f.lp, f.lv⟩)]
  · rw [if_neg hl, if_neg hl]
end Go.Proofs.Ythjkejbgknemgaa
namespace Go.Proofs.Ythjkejbgknemgaa
open Go.RowKit Classical
def drOk (D : List Int) (V : List (List Int)) (m q : Nat) : Prop := (-1152921504606846976 ≤ hv V (m - 1) q ∧ hv V (m - 1) q ≤ 1152921504606846976) ∧ hv V (m - 1) q - D.getD q 0 ≤ hv V m q ∧ hv V m q ≤ hv V (m - 1) q + D.getD q 0
def stepOk (D P : List Int) (V : List (List Int)) (m : Nat) : Prop := P.getD (m - 1) 0 ≤ P.getD m 0 ∧ ∀ q, q < 4 → drOk D V m q
def atI (R : List (List Int)) (i : Nat) : Nat := (rA (rd R i) - stT R).toNat
def bandAt (R : List (List Int)) (V : List (List Int)) (i q : Nat) : Prop := rVL q (rd R i) ≤ hv V (atI R i) q ∧ hv V (atI R i) q ≤ rVH q (rd R i)
def readAt (R : List (List Int)) (P : List Int) (V : List (List Int)) (i : Nat) : Prop := (rPL (rd R i) ≤ P.getD (atI R i) 0 ∧ P.getD (atI R i) 0 ≤ rPH (rd R i)) ∧ ∀ q, q < 4 → bandAt R V i q
structure RFits (R : List (List Int)) (D : List Int) (P : List Int) (V : List (List Int)) : Prop where
  lp : P.length = lastN R + 1
  lv : V.length = lastN R + 1
  step : ∀ m, 1 ≤ m → m < lastN R + 1 → stepOk D P V m
  read : ∀ i, i < R.length → readAt R P V i
theorem RFits.mono {R D P V} (h : RFits R D P V) : ∀ (d a : Nat), a + d < lastN R + 1 → P.getD a 0 ≤ P.getD (a + d) 0
  | 0, a, _ => Int.le_refl _
  | d + 1, a, hd => by
    have h1 := h.mono d a (by omega)
    have h2 := (h.step (a + d + 1) (by omega) (by omega)).1
    rw [show a + d + 1 - 1 = a + d from by omega] at h2
    rw [show a + (d + 1) = a + d + 1 from by omega]
    omega
theorem ArgOk.N {R D} (h : ArgOk R D) : ((lastN R + 1 : Nat) : Int) = lastI R + 1 := by
  have := h.last
  unfold lastN; omega
end Go.Proofs.Ythjkejbgknemgaa
namespace Go.Proofs.Ythjkejbgknemgaa
open Go.RowKit Classical
def dmgAt (P : List Int) (V : List (List Int)) (u : List Int) (x : Int) : Prop := P.getD x.toNat 0 ≤ u.getD 1 0 ∧ u.getD 0 0 ≤ P.getD (x.toNat + 1) 0 ∧ u.getD 3 0 < max (hv V x.toNat (u.getD 2 0).toNat) (hv V (x.toNat + 1) (u.getD 2 0).toNat)
def Dmg (R : List (List Int)) (P : List Int) (V : List (List Int)) (u : List Int) : Prop := ∃ x ∈ steps R u, dmgAt P V u x
theorem p63_r1_eq {k : Nat} {N : Nat} {u P : List Int} {V : List (List Int)} (hN : N ≤ 2000) (hP : P.length = N + 1) (hV : V.length = N + 1) (hu0 : 0 ≤ u.getD 2 0) (hu1 : u.getD 2 0 < 4) (j6 j7 : Option Bool) : ∀ (S : List Int), (∀ x ∈ S, 0 ≤ x ∧ x < (N : Int)) → p63_r1 k j6 j7 u P V S = if ∃ x ∈ S, dmgAt P V u x then j7 else j6
  | [], _ => by rw [p63_r1, if_neg (fun ⟨x, hx, _⟩ => by cases hx)]
  | x :: S, hS => by
    have hx := hS x (List.mem_cons_self ..)
    have ih := p63_r1_eq (k := k) hN hP hV hu0 hu1 j6 j7 S (fun y hy => hS y (List.mem_cons_of_mem _ hy))
    have hw : wr .i64 (x + 1) = x + 1 := wr64 (by omega) (by omega)
    have ht : (x + 1).toNat = x.toNat + 1 := by omega
    have hex : (∃ y ∈ x :: S, dmgAt P V u y) ↔ dmgAt P V u x ∨ ∃ y ∈ S, dmgAt P V u y := by simp [List.mem_cons]
    rw [p63_r1]
    simp only [jn_v, lt_v, sp_d, hw, ht, Nat.zero_add, Nat.mul_one, mx_eq, sp_ff, ih]
    rw [gd_v (by omega), if_iff hex]
    by_cases c1 : P.getD x.toNat 0 ≤ u.getD 1 0
    · rw [if_pos c1, gd_v (by omega)]
      by_cases c2 : u.getD 0 0 ≤ P.getD (x.toNat + 1) 0
      · rw [if_pos c2, gd_v (by omega), gd_v (by omega), gd_v (by omega), gd_v (by omega)]
        change (if max (hv V x.toNat (u.getD 2 0).toNat) (hv V (x.toNat + 1) (u.getD 2 0).toNat) > u.getD 3 0 then _ else _) = _
        by_cases c3 : max (hv V x.toNat (u.getD 2 0).toNat) (hv V (x.toNat + 1) (u.getD 2 0).toNat) > u.getD 3 0
        · rw [if_pos c3, if_pos (.inl ⟨c1, c2, c3⟩)]
        · rw [if_neg c3]
          by_cases c4 : ∃ y ∈ S, dmgAt P V u y
          · rw [if_pos c4, if_pos (.inr c4)]
          · rw [if_neg c4, if_neg (fun h => h.elim (fun h => c3 h.2.2) c4)]
      · rw [if_neg c2]
        by_cases c4 : ∃ y ∈ S, dmgAt P V u y
        · rw [if_pos c4, if_pos (.inr c4)]
        · rw [if_neg c4, if_neg (fun h => h.elim (fun h => c2 h.2.1) c4)]
    · rw [if_neg c1]
      by_cases c4 : ∃ y ∈ S, dmgAt P V u y
      · rw [if_pos c4, if_pos (.inr c4)]
      · rw [if_neg c4, if_neg (fun h => h.elim (fun h => c1 h.1) c4)]
theorem lastN_le {R D} (h : LogOk R D) : lastN R ≤ 2000 := by have := h.N; have := h.arg.span; omega
theorem p63_eq {k : Nat} (hk : 5000 ≤ k) {R : List (List Int)} {D u P : List Int} {V : List (List Int)} (h : LogOk R D) (hu : ClaimOk u) (hP : P.length = lastN R + 1) (hV : V.length = lastN R + 1) : p63 k R D (stT R) (pls R (lastN R + 1)) (crs R D).2.2.2.2 u P V = some (decide (Dmg R P V u)) := by
  unfold p63
  rw [p77_eq hk h, cl_v, jn_v, jn_v]
  have h1 := hu.2.2.2.1
  have h2 := hu.2.2.2.2.1
  have e := p63_r1_eq (k := k) (lastN_le h) hP hV (u := u) (by omega) (by omega) (some false) (some true) (steps R u) (fun x hx => ⟨(steps_mem.1 hx).1, (steps_mem.1 hx).2.1⟩)
  refine (show _ = _ from e).trans ?_
  by_cases c : Dmg R P V u
  · rw [if_pos (show ∃ x ∈ steps R u, dmgAt P V u x from c), decide_eq_true c]
  · rw [if_neg (show ¬ ∃ x ∈ steps R u, dmgAt P V u x from c), decide_eq_false c]
noncomputable def dvE (R : List (List Int)) (D u P : List Int) (V : List (List Int)) : Bool × Int :=
  if logE R D = 0 then (if claimE u = 0 then (if P.length = lastN R + 1 ∧ V.length = lastN R + 1 then (decide (Dmg R P V u), 0) else (false, 17)) else (false, claimE u)) else (false, logE R D)
theorem p36_eq {k : Nat} (hk : 5000 ≤ k) {R : List (List Int)} {D u P : List Int} {V : List (List Int)} (hD : D.length = 4) : p36 k R D u P V = some (dvE R D u P V) := by
  unfold p36 dvE
  rw [p43_eq hk hD]
  simp only [cl2_v, lt_v, ne_zero_b, sp_nd]
  by_cases hl : logE R D = 0
  · have h := logE_zero.1 hl
    rw [if_pos hl, if_pos hl, if_pos hl]
    by_cases hc : claimE u = 0
    · have hu := claimE_zero.1 hc
      have e54 : p54 k (crs R D).1 (crs R D).2.1 (crs R D).2.2.1 (crs R D).2.2.2.1 (crs R D).2.2.2.2 P V = some (decide (P.length = lastN R + 1 ∧ V.length = lastN R + 1)) := p54_eq (D := D)
      rw [if_pos hc, if_pos hc, cl_v, e54, cl_v, sp_d]
      by_cases c : P.length = lastN R + 1 ∧ V.length = lastN R + 1
      · have e63 : p63 k (crs R D).1 (crs R D).2.1 (crs R D).2.2.1 (crs R D).2.2.2.1 (crs R D).2.2.2.2 u P V = some (decide (Dmg R P V u)) := p63_eq hk h hu c.1 c.2
        rw [if_pos c, if_pos c, e63, cl_v]
      · rw [if_neg c, if_neg c]
    · rw [if_neg hc, if_neg hc]
  · rw [if_neg hl, if_neg hl, if_neg hl]
noncomputable def mnE (R : List (List Int)) (D : List Int) : Int × Int := if logE R D = 0 then (lastI R + 1, 0) else (0, logE R D)
theorem p30_eq {k : Nat} (hk : 5000 ≤ k) {R : List (List Int)} {D : List Int} (hD : D.length = 4) (hb : Wf64 R) : p30 k R D = some (mnE R D) := by
  unfold p30 mnE
  rw [p21_eq hk hD hb]
  simp only [cl_v, lt_v, ne_zero_b, sp_nd]
  by_cases hl : logE R D = 0
  · have h := logE_zero.1 hl
    have hsp := h.arg.span
    have hn := h.arg.n2
    have hla := h.arg.last
    rw [if_pos hl, if_pos hl, p53_eq (by omega) h.n64 (by omega) (by omega), cl_v, wr64 (by omega) (by omega)]
  · rw [if_neg hl, if_neg hl]
end Go.Proofs.Ythjkejbgknemgaa
namespace Go.Proofs.Ythjkejbgknemgaa
open Go.RowKit Classical
theorem take_set {α : Type} (v : α) : ∀ (i : Nat) (L : List α), i < L.length → L.take i ++ (v :: []) ++ L.drop (i + 1) = L.set i v
  | _, [], h => by simp at h
  | 0, a :: L, _ => by simp
  | i + 1, a :: L, h => by
    have := take_set v i L (by simpa using h)
    simpa using this
theorem getDset {α : Type} (L : List α) (i q : Nat) (v y : α) (h : i < L.length) : (L.set i v).getD q y = if q = i then v else L.getD q y := by
  by_cases c : q = i
  · subst c; simp [List.getD_eq_getElem?_getD, h]
  · rw [if_neg c]
    simp only [List.getD_eq_getElem?_getD]
    rw [List.getElem?_set_ne (fun hh => c hh.symm)]
theorem getD_app {α : Type} (L : List α) (v y : α) (q : Nat) : (L ++ [v]).getD q y = if q = L.length then v else L.getD q y := by
  simp only [List.getD_eq_getElem?_getD]
  by_cases c : q = L.length
  · subst c; simp
  · rw [if_neg c]
    by_cases c2 : q < L.length
    · rw [List.getElem?_append_left c2]
    · rw [List.getElem?_append_right (by omega), List.getElem?_eq_none (l := L) (by omega), List.getElem?_eq_none (by simp; omega)]
theorem p41_eq {k : Nat} {a b v : Int} (h : a ≤ b) (ha : -2251799813685248 ≤ a) (hb : b ≤ 2251799813685248) (h0 : 0 ≤ v) (h1 : v ≤ 255) : ∃ z, p41 k [a, b] v = some z ∧ a ≤ z ∧ z ≤ b := by
  have hm0 : 0 ≤ (b - a) * v := Int.mul_nonneg (by omega) h0
  have hm1 : (b - a) * v ≤ (b - a) * 255 := Int.mul_le_mul_of_nonneg_left h1 (by omega)
  have hd : Int.tdiv ((b - a) * v) 255 = (b - a) * v / 255 := Int.tdiv_eq_ediv_of_nonneg hm0
  refine ⟨a + (b - a) * v / 255, ?_, ?_, ?_⟩
  · unfold p41
    simp only [lt_v, List.getD_cons_zero, List.getD_cons_succ]
    rw [wr64 (z := b - a) (by omega) (by omega), wr64 (z := v) (by omega) (by omega), wr64 (z := (b - a) * v) (by omega) (by omega), hd, wr64 (z := (b - a) * v / 255) (by omega) (by omega), wr64 (by omega) (by omega)]
  · omega
  · omega
theorem p42_eq {k : Nat} {S : List Int} {i : Int} (hS : ∀ z ∈ S, 0 ≤ z ∧ z ≤ 255) (h0 : 0 ≤ i) : ∃ v, p42 k S i = some v ∧ 0 ≤ v ∧ v ≤ 255 := by
  unfold p42
  simp only [lt_v, sp_d]
  by_cases c : i < (S.length : Int)
  · rw [if_pos c, gd_v (by omega)]
    have := hS _ (getD_mem' (S := S) (i := i.toNat) (by omega))
    exact ⟨_, rfl, this⟩
  · rw [if_neg c]; exact ⟨0, rfl, by omega, by omega⟩
theorem p13_l2_eq {k : Nat} (hk : 5000 ≤ k) {R : List (List Int)} {D S : List Int} {W : List (List Int)} (h : LogOk R D) (hS : ∀ z ∈ S, 0 ≤ z ∧ z ≤ 255) {m : Nat} (hm : m < lastN R + 1) (hW : W.length = m) (hp : 0 < m → ∀ q, q < 4 → vl R D q (m - 1 : Nat) ≤ hv W (m - 1) q ∧ hv W (m - 1) q ≤ vh R D q (m - 1 : Nat)) (j : List Int → Option (List Int × List (List Int))) : ∀ (d i n : Nat) (L : List Int), i + d = 4 → d < n → L.length = 4 → (∀ q, q < i → (vl R D q m ≤ L.getD q 0 ∧ L.getD q 0 ≤ vh R D q m) ∧ (0 < m → hv W (m - 1) q - D.getD q 0 ≤ L.getD q 0 ∧ L.getD q 0 ≤ hv W (m - 1) q + D.getD q 0)) → ∃ L' : List Int, L'.length = 4 ∧ (∀ q, q < 4 → (vl R D q m ≤ L'.getD q 0 ∧ L'.getD q 0 ≤ vh R D q m) ∧ (0 < m → hv W (m - 1) q - D.getD q 0 ≤ L'.getD q 0 ∧ L'.getD q 0 ≤ hv W (m - 1) q + D.getD q 0)) ∧ p13_l2 k R D S (m : Int) W j n (i : Int) L = j L'
  | 0, i, n, L, h1, h2, hL, hq => by
    obtain ⟨n, rfl⟩ : ∃ n', n = n' + 1 := ⟨n - 1, by omega⟩
    refine ⟨L, hL, fun q h4 => hq q (by omega), ?_⟩
    rw [p13_l2]
    simp only [lt_v, sp_d]
    rw [if_neg (by omega)]
  | d + 1, i, n, L, h1, h2, hL, hq => by
    obtain ⟨n, rfl⟩ : ∃ n', n = n' + 1 := ⟨n - 1, by omega⟩
    have hN := h.N
    have hsp := h.arg.span
    have hdr := h.arg.dr i (by omega)
    have hsum := (h.sum m (by omega) (by omega)).2 i (by omega)
    have hw : wr .i64 ((i : Int) + 1) = ((i + 1 : Nat) : Int) := by rw [wr64 (by omega) (by omega)]; omega
    have e17 := p17_eq hk h.n64 h.arg (m := (m : Int)) (kk := i) (by omega) (by omega) (by omega)
    have hw5 : wr .i64 (5 * (m : Int)) = 5 * (m : Int) := wr64 (by omega) (by omega)
    have hw6 : wr .i64 (5 * (m : Int) + (i : Int)) = 5 * (m : Int) + (i : Int) := wr64 (by omega) (by omega)
    obtain ⟨v, hv42, hv0, hv1⟩ := p42_eq (k := k) (S := S) (i := 5 * (m : Int) + (i : Int)) hS (by omega)
    have hg : ∀ {α : Type} (a b : Int) (x : Option α), gd ([a, b].length = 2) x = x := fun _ _ _ => rfl
    have hb1 := vl_ge R D i (m : Int)
    have hb2 := vh_le R D i (m : Int)
    rw [p13_l2]
    simp only [lt_v, sp_d, e17, cl_v, hg, jn_v, hw5, hw6, hv42, Int.toNat_natCast, Nat.zero_add, Nat.mul_one, hw, List.getD_cons_zero, List.getD_cons_succ, mx_eq, mn_eq]
    rw [if_pos (by omega)]
    have fin : ∀ z : Int, ((vl R D i m ≤ z ∧ z ≤ vh R D i m) ∧ (0 < m → hv W (m - 1) i - D.getD i 0 ≤ z ∧ z ≤ hv W (m - 1) i + D.getD i 0)) → ∃ L' : List Int, L'.length = 4 ∧ (∀ q, q < 4 → (vl R D q m ≤ L'.getD q 0 ∧ L'.getD q 0 ≤ vh R D q m) ∧ (0 < m → hv W (m - 1) q - D.getD q 0 ≤ L'.getD q 0 ∧ L'.getD q 0 ≤ hv W (m - 1) q + D.getD q 0)) ∧ gd ((0 : Int) ≤ (i : Int) ∧ (i : Int) < ((4 : Nat) : Int)) (p13_l2 k R D S (m : Int) W j n ((i + 1 : Nat) : Int) (List.take i L ++ (z :: []) ++ List.drop (i + 1) L)) = j L' := by
      intro z hz
      rw [gd_v (by omega), take_set z i L (by omega)]
      refine p13_l2_eq hk h hS hm hW hp j d (i + 1) n (L.set i z) (by omega) (by omega) (by simpa using hL) (fun q hqi => ?_)
      rw [getDset L i q z 0 (by omega)]
      by_cases c : q = i
      · subst c; rw [if_pos rfl]; exact hz
      · rw [if_neg c]; exact hq q (by omega)
    by_cases c2 : 0 < m
    · have hp' := hp c2 i (by omega)
      have hw2 : wr .i64 ((m : Int) - 1) = ((m - 1 : Nat) : Int) := by rw [wr64 (by omega) (by omega)]; omega
      have hb3 := vl_ge R D i (m - 1 : Nat)
      have hb4 := vh_le R D i (m - 1 : Nat)
      have hs1 := vl_step R D i hdr.1 (m - 1 : Nat)
      have hs2 := vh_step R D i hdr.1 (m - 1 : Nat)
      rw [show ((m - 1 : Nat) : Int) + 1 = (m : Int) from by omega] at hs1 hs2
      have hx := hp' ; unfold hv at hx
      rw [if_pos (by omega), hw2, Int.toNat_natCast, gd_v (by omega), gd_v (by omega), gd_v (by omega), gd_v (by omega), gd_v (by omega), gd_v (by omega)]
      rw [wr64 (z := (W.getD (m - 1) []).getD i 0 - D.getD i 0) (by omega) (by omega), wr64 (z := (W.getD (m - 1) []).getD i 0 + D.getD i 0) (by omega) (by omega)]
      have hz : ((([vl R D i m, vh R D i m].set 0 (max (vl R D i m) ((W.getD (m - 1) []).getD i 0 - D.getD i 0))).set 1 (min (([vl R D i m, vh R D i m].set 0 (max (vl R D i m) ((W.getD (m - 1) []).getD i 0 - D.getD i 0))).getD 1 0) ((W.getD (m - 1) []).getD i 0 + D.getD i 0)))) = [max (vl R D i m) (hv W (m - 1) i - D.getD i 0), min (vh R D i m) (hv W (m - 1) i + D.getD i 0)] := rfl
      rw [hz]
      obtain ⟨z, hz1, hz2, hz3⟩ := p41_eq (k := k) (v := v) (a := max (vl R D i m) (hv W (m - 1) i - D.getD i 0)) (b := min (vh R D i m) (hv W (m - 1) i + D.getD i 0)) (by omega) (by omega) (by omega) hv0 hv1
      rw [hz1, cl_v]
      exact fin z ⟨by omega, fun _ => by omega⟩
    · rw [if_neg (by omega)]
      obtain ⟨z, hz1, hz2, hz3⟩ := p41_eq (k := k) (v := v) (a := vl R D i m) (b := vh R D i m) hsum (by omega) (by omega) hv0 hv1
      rw [hz1, cl_v]
      exact fin z ⟨⟨hz2, hz3⟩, fun hh => absurd hh c2⟩
theorem p13_l1_eq {k : Nat} (hk : 5000 ≤ k) {R : List (List Int)} {D S : List Int} (h : LogOk R D) (hS : ∀ z ∈ S, 0 ≤ z ∧ z ≤ 255) (j : List Int → List (List Int) → Option (List Int × List (List Int))) : ∀ (d m n : Nat) (P : List Int) (V : List (List Int)), m + d = lastN R + 1 → d < n → P.length = m → V.length = m → (∀ x, x < m → minOk R D P V x) → ∃ P' V', Fits R D P' V' ∧ p13_l1 k R D S j (lastI R + 1) n (m : Int) P V = j P' V'
  | 0, m, n, P, V, h1, h2, hP, hV, hq => by
    obtain ⟨n, rfl⟩ : ∃ n', n = n' + 1 := ⟨n - 1, by omega⟩
    have hN := h.N
    refine ⟨P, V, ⟨by omega, by omega, fun m hm => (hq m (by omega)).1, fun m hm => (hq m (by omega)).2⟩, ?_⟩
    rw [p13_l1]
    simp only [lt_v, sp_d]
    rw [if_neg (by omega)]
  | d + 1, m, n, P, V, h1, h2, hP, hV, hq => by
    obtain ⟨n, rfl⟩ : ∃ n', n = n' + 1 := ⟨n - 1, by omega⟩
    have hN := h.N
    have hsp := h.arg.span
    have hst := h.arg.st
    have hn := h.arg.n2
    have hsum := (h.sum m (by omega) (by omega)).1
    have hw : wr .i64 ((m : Int) + 1) = ((m + 1 : Nat) : Int) := by rw [wr64 (by omega) (by omega)]; omega
    have e16 := p16_eq hk (R := R) (D := D) (m := (m : Int)) (by omega) h.n64 (by omega) (by omega)
    have hw5 : wr .i64 (5 * (m : Int)) = 5 * (m : Int) := wr64 (by omega) (by omega)
    have hw6 : wr .i64 (5 * (m : Int) + 4) = 5 * (m : Int) + 4 := wr64 (by omega) (by omega)
    obtain ⟨v, hv42, hv0, hv1⟩ := p42_eq (k := k) (S := S) (i := 5 * (m : Int) + 4) hS (by omega)
    have hg : ∀ {α : Type} (a b : Int) (x : Option α), gd ([a, b].length = 2) x = x := fun _ _ _ => rfl
    have hb1 := pl_ge R (m : Int)
    have hb2 := ph_le R (m : Int)
    rw [p13_l1]
    simp only [lt_v, sp_d, e16, cl_v, hg, jn_v, hw5, hw6, hv42, Int.toNat_natCast, Nat.zero_add, Nat.mul_one, hw, List.getD_cons_zero, List.getD_cons_succ, mx_eq, mn_eq]
    rw [if_pos (by omega)]
    obtain ⟨L', hL', hok, heq⟩ := p13_l2_eq hk h hS (m := m) (by omega) hV (fun h0 q hq4 => (((hq (m - 1) (by omega)).2) q hq4).1) (fun L21 => if (m : Int) > 0 then gd ((0 : Int) ≤ wr .i64 ((m : Int) - 1) ∧ wr .i64 ((m : Int) - 1) < (P.length : Int)) (cl (p41 k ([pl R m, ph R m].set 0 (max (pl R m) (P.getD (wr .i64 ((m : Int) - 1)).toNat 0))) v) fun v71 => gd (((P.length + [v71].length) * 8) ≤ 140737488355328) (gd (((V.length + [L21].length) * 32) ≤ 140737488355328) (p13_l1 k R D S j (lastI R + 1) n ((m + 1 : Nat) : Int) (P ++ [v71]) (V ++ [L21])))) else cl (p41 k [pl R m, ph R m] v) fun v71 => gd (((P.length + [v71].length) * 8) ≤ 140737488355328) (gd (((V.length + [L21].length) * 32) ≤ 140737488355328) (p13_l1 k R D S j (lastI R + 1) n ((m + 1 : Nat) : Int) (P ++ [v71]) (V ++ [L21])))) 4 0 k [0, 0, 0, 0] (by omega) (by omega) rfl (fun q hq0 => by omega)
    rw [show ((0 : Nat) : Int) = 0 from rfl] at heq
    rw [heq]
    have fin : ∀ z : Int, ((pl R m ≤ z ∧ z ≤ ph R m) ∧ (0 < m → P.getD (m - 1) 0 ≤ z)) → ∃ P' V', Fits R D P' V' ∧ gd (((P.length + [z].length) * 8) ≤ 140737488355328) (gd (((V.length + [L'].length) * 32) ≤ 140737488355328) (p13_l1 k R D S j (lastI R + 1) n ((m + 1 : Nat) : Int) (P ++ [z]) (V ++ [L']))) = j P' V' := by
      intro z hz
      rw [gd_v (by simp only [List.length_cons, List.length_nil]; omega), gd_v (by simp only [List.length_cons, List.length_nil]; omega)]
      refine p13_l1_eq hk h hS j d (m + 1) n (P ++ [z]) (V ++ [L']) (by omega) (by omega) (by simp; omega) (by simp; omega) (fun x hx => ?_)
      have gP : ∀ q, (P ++ [z]).getD q 0 = if q = m then z else P.getD q 0 := fun q => by rw [getD_app, hP]
      have gV : ∀ q, (V ++ [L']).getD q [] = if q = m then L' else V.getD q [] := fun q => by rw [getD_app, hV]
      unfold minOk plcOk valOk hv
      simp only [gP, gV]
      by_cases c : x = m
      · subst c
        rw [if_pos rfl, if_pos rfl]
        refine ⟨⟨hz.1, fun h0 => ?_⟩, fun q hq4 => ⟨(hok q hq4).1, fun h0 => ?_⟩⟩
        · rw [if_neg (by omega)]; exact hz.2 h0
        · rw [if_neg (by omega)]; exact (hok q hq4).2 h0
      · rw [if_neg c, if_neg c, if_neg (by omega), if_neg (by omega)]
        exact hq x (by omega)
    by_cases c2 : 0 < m
    · have hq' := (hq (m - 1) (by omega)).1
      have hw2 : wr .i64 ((m : Int) - 1) = ((m - 1 : Nat) : Int) := by rw [wr64 (by omega) (by omega)]; omega
      have hmo := ph_mono R (a := ((m - 1 : Nat) : Int)) (b := (m : Int)) (by omega)
      have hx := hq'.1
      rw [if_pos (by omega), hw2, Int.toNat_natCast, gd_v (by omega)]
      obtain ⟨z, hz1, hz2, hz3⟩ := p41_eq (k := k) (v := v) (a := max (pl R m) (P.getD (m - 1) 0)) (b := ph R m) (by omega) (by omega) (by omega) hv0 hv1
      rw [show ([pl R m, ph R m].set 0 (max (pl R m) (P.getD (m - 1) 0))) = [max (pl R m) (P.getD (m - 1) 0), ph R m] from rfl, hz1, cl_v]
      exact fin z ⟨by omega, fun _ => by omega⟩
    · rw [if_neg (by omega)]
      obtain ⟨z, hz1, hz2, hz3⟩ := p41_eq (k := k) (v := v) (a := pl R m) (b := ph R m) hsum (by omega) (by omega) hv0 hv1
      rw [hz1, cl_v]
      exact fin z ⟨⟨hz2, hz3⟩, fun hh => absurd hh c2⟩
theorem p13_eq {k : Nat} (hk : 5000 ≤ k) {R : List (List Int)} {D S : List Int} (hD : D.length = 4) (hb : Wf64 R) (h : LogOk R D) (hS : ∀ z ∈ S, 0 ≤ z ∧ z ≤ 255) : ∃ P V, Fits R D P V ∧ p13 k R D S = some (P, V) := by
  unfold p13
  rw [p30_eq hk hD hb, cl2_v, jn_v]
  have hl := lastN_le h
  have e : (mnE R D).1 = lastI R + 1 := by unfold mnE; rw [if_pos (logE_zero.2 h)]
  rw [e]
  obtain ⟨P, V, hf, he⟩ := p13_l1_eq hk h hS (fun L11 R12 => some (L11, R12)) (lastN R + 1) 0 k [] [] (by omega) (by omega) rfl rfl (fun x hx => by omega)
  exact ⟨P, V, hf, he⟩
def eRow (R : List (List Int)) (D : List Int) (b : Bool) (m : Int) : List Int := if b then [vh R D 0 m, vh R D 1 m, vh R D 2 m, vh R D 3 m] else [vl R D 0 m, vl R D 1 m, vl R D 2 m, vl R D 3 m]
def ePl (R : List (List Int)) (b : Bool) (m : Int) : Int := if b then ph R m else pl R m
theorem eRow_get (R : List (List Int)) (D : List Int) (b : Bool) (m : Int) : ∀ q, q < 4 → (eRow R D b m).getD q 0 = if b then vh R D q m else vl R D q m := by
  cases b
  · intro q hq
    match q, hq with
    | 0, _ => rfl
    | 1, _ => rfl
    | 2, _ => rfl
    | 3, _ => rfl
  · intro q hq
    match q, hq with
    | 0, _ => rfl
    | 1, _ => rfl
    | 2, _ => rfl
    | 3, _ => rfl
def eP (R : List (List Int)) (b : Bool) (N : Nat) : List Int := (List.range N).map fun x : Nat => ePl R b x
def eV (R : List (List Int)) (D : List Int) (b : Bool) (N : Nat) : List (List Int) := (List.range N).map fun x : Nat => eRow R D b x
theorem eVal {R : List (List Int)} {D : List Int} (h : LogOk R D) (b : Bool) {m : Nat} (hm : m < lastN R + 1) {q : Nat} (hq : q < 4) : valOk R D (eV R D b (lastN R + 1)) m q := by
  have hN := h.N
  have hs := (h.sum m (by omega) (by omega)).2 q hq
  have hd := (h.arg.dr q hq).1
  have g : ∀ x, x < lastN R + 1 → hv (eV R D b (lastN R + 1)) x q = if b then vh R D q x else vl R D q x := fun x hx => by
    unfold hv eV
    rw [getD_map_range _ _ _ _ hx, eRow_get R D b x q hq]
  unfold valOk
  rw [g m hm, g (m - 1) (by omega)]
  have h1 := vl_step R D q hd (m - 1 : Nat)
  have h2 := vh_step R D q hd (m - 1 : Nat)
  refine ⟨?_, fun h0 => ?_⟩
  · cases b
    · exact ⟨Int.le_refl _, hs⟩
    · exact ⟨hs, Int.le_refl _⟩
  · rw [show ((m - 1 : Nat) : Int) + 1 = (m : Int) from by omega] at h1 h2
    cases b
    · show vl R D q _ - _ ≤ vl R D q _ ∧ vl R D q _ ≤ vl R D q _ + _
      omega
    · show vh R D q _ - _ ≤ vh R D q _ ∧ vh R D q _ ≤ vh R D q _ + _
      omega
theorem eFits {R : List (List Int)} {D : List Int} (h : LogOk R D) (b : Bool) : Fits R D (eP R b (lastN R + 1)) (eV R D b (lastN R + 1)) := by
  have hN := h.N
  refine ⟨by simp [eP], by simp [eV], fun m hm => ?_, fun m hm q hq => eVal h b hm hq⟩
  have hs := (h.sum m (by omega) (by omega)).1
  have g : ∀ x, x < lastN R + 1 → (eP R b (lastN R + 1)).getD x 0 = ePl R b x := fun x hx => getD_map_range _ _ _ _ hx
  unfold plcOk
  rw [g m hm, g (m - 1) (by omega)]
  have h1 := pl_mono R (a := ((m - 1 : Nat) : Int)) (b := (m : Int)) (by omega)
  have h2 := ph_mono R (a := ((m - 1 : Nat) : Int)) (b := (m : Int)) (by omega)
  cases b
  · exact ⟨⟨Int.le_refl _, hs⟩, fun _ => h1⟩
  · exact ⟨⟨hs, Int.le_refl _⟩, fun _ => h2⟩
end Go.Proofs.Ythjkejbgknemgaa
namespace Go.Proofs.Ythjkejbgknemgaa
open Go.RowKit Classical
theorem p78_eq (k : Nat) (x y : Int) : p78 k x y = some (decide (x < y)) := by
  have e : ∀ x : Int, (x != x) = false := fun x => by simp
  unfold p78 p87
  simp only [jn_v, lt_v, e, cl_v, sp_ff]
theorem p57_l1_eq {k : Nat} {S : List Int} {t : Int} (hS : S.Pairwise (· < ·)) (hl : S.length ≤ 4000) (j : Int → Option (Int × Bool)) : ∀ (n lo hi : Nat), hi - lo < n → lo ≤ hi → hi ≤ S.length → (∀ q, q < lo → S.getD q 0 < t) → (∀ q, hi ≤ q → q < S.length → t ≤ S.getD q 0) → ∃ p : Nat, p ≤ S.length ∧ (∀ q, q < p → S.getD q 0 < t) ∧ (∀ q, p ≤ q → q < S.length → t ≤ S.getD q 0) ∧ p57_l1 k S t j n (lo : Int) (hi : Int) = j (p : Int)
  | 0, lo, hi, h1, _, _, _, _ => by omega
  | n + 1, lo, hi, h1, h2, h3, h4, h5 => by
    rw [p57_l1]
    simp only [lt_v, sp_d]
    by_cases c : lo < hi
    · have hu : wr .u64 ((lo : Int) + (hi : Int)) = (lo : Int) + (hi : Int) := by
        simp only [wr, IntKind.wrap, IntKind.signed, IntKind.bits]
        simp
        omega
      have hd : Int.fdiv ((lo : Int) + (hi : Int)) (2 ^ (min (1 : Int).toNat (IntKind.bits .u64))) = (((lo + hi) / 2 : Nat) : Int) := by
        rw [show (2 : Int) ^ (min (1 : Int).toNat (IntKind.bits .u64)) = 2 from rfl, Int.fdiv_eq_ediv_of_nonneg _ (by omega)]
        omega
      rw [if_pos (by omega), wr64 (z := (lo : Int) + (hi : Int)) (by omega) (by omega), hu, hd, wr64 (z := (((lo + hi) / 2 : Nat) : Int)) (by omega) (by omega), gd_v (by omega), Int.toNat_natCast, p78_eq, cl_v, sp_d]
      by_cases c2 : S.getD ((lo + hi) / 2) 0 < t
      · rw [if_pos c2, wr64 (by omega) (by omega)]
        have := p57_l1_eq (k := k) hS hl j n ((lo + hi) / 2 + 1) hi (by omega) (by omega) h3 (fun q hq => by
          have := asc_getD_le hS (i := q) (j := (lo + hi) / 2) (by omega) (by omega)
          omega) h5
        exact this
      · rw [if_neg c2]
        exact p57_l1_eq hS hl j n lo ((lo + hi) / 2) (by omega) (by omega) (by omega) h4 (fun q hq hql => by
          have := asc_getD_le hS (i := (lo + hi) / 2) (j := q) (by omega) (by omega)
          omega)
    · rw [if_neg (by omega)]
      have : lo = hi := by omega
      subst this
      exact ⟨lo, h3, h4, h5, rfl⟩
theorem p57_eq {k : Nat} (hk : 5000 ≤ k) {S : List Int} {t : Int} (hS : S.Pairwise (· < ·)) (hl : S.length ≤ 4000) : ∃ p : Int, p57 k S t = some (p, decide (t ∈ S)) := by
  obtain ⟨p, hp, h1, h2, h3⟩ := p57_l1_eq (k := k) (t := t) hS hl (fun x1 => jn (fun (b15 : Bool) => some (x1, b15)) fun j16 => lt' (decide (x1 < (List.length S : Int))) fun b17 => sp b17 (gd ((0 : Int) ≤ x1 ∧ x1 < (List.length S : Int)) <| lt' (List.getD S ((x1).toNat) 0) fun x19 => lt' (x19 == t) fun b20 => sp b20 (j16 true) (gd ((0 : Int) ≤ x1 ∧ x1 < (List.length S : Int)) <| lt' (List.getD S ((x1).toNat) 0) fun x22 => cl (p79 k x22) fun v23 => sp v23 (cl (p79 k t) fun v24 => j16 v24) (j16 false))) (j16 false)) k 0 S.length (by omega) (by omega) (Nat.le_refl _) (fun q hq => by omega) (fun q hq hq2 => by omega)
  refine ⟨(p : Int), ?_⟩
  unfold p57
  rw [jn_v]
  refine (show _ = _ from h3).trans ?_
  have e : ∀ x : Int, (x != x) = false := fun x => by simp
  unfold p79
  simp only [jn_v, lt_v, sp_d, eq_zero_b, e, cl_v, sp_ff, Int.toNat_natCast]
  by_cases c : p < S.length
  · rw [if_pos (by omega), gd_v (by omega)]
    by_cases c2 : S.getD p 0 = t
    · rw [if_pos c2, decide_eq_true (show t ∈ S from c2 ▸ getD_mem' c)]
    · rw [if_neg c2, gd_v (by omega), decide_eq_false (fun hm : t ∈ S => by
        obtain ⟨q, hq, hqt⟩ := mem_getD hm
        rcases Nat.lt_or_ge q p with e1 | e1
        · have := h1 q e1; omega
        · rcases Nat.eq_or_lt_of_le e1 with e2 | e2
          · subst e2; exact c2 hqt
          · have := h2 p (Nat.le_refl _) c
            have := asc_getD hS e2 hq
            omega)]
  · rw [if_neg (by omega), decide_eq_false (fun hm : t ∈ S => by
      obtain ⟨q, hq, hqt⟩ := mem_getD hm
      have := h1 q (by omega)
      omega)]
def ascAt (T M : List Int) (i : Nat) : Prop := T.getD i 0 ∈ M ∧ (0 < i → T.getD (i - 1) 0 < T.getD i 0)
def proofOk (T M : List Int) : Prop := ∀ i, i < T.length → ascAt T M i
theorem p26_l1_eq {k : Nat} (hk : 5000 ≤ k) {T M : List Int} (hM : M.Pairwise (· < ·)) (hl : M.length ≤ 4000) (h0 : ∀ x ∈ M, 0 ≤ x) (hT : T.length ≤ 4000) (j : Option Int) : ∀ (d i n : Nat) (y : Int), i + d = T.length → d < n → (i = 0 → y = -1) → (0 < i → y = T.getD (i - 1) 0) → p26_l1 k T j M n y (i : Int) = if ∀ q, i ≤ q → q < T.length → ascAt T M q then j else some 16
  | 0, i, n, y, h1, h2, _, _ => by
    obtain ⟨n, rfl⟩ : ∃ n', n = n' + 1 := ⟨n - 1, by omega⟩
    rw [p26_l1]
    simp only [lt_v, sp_d]
    rw [if_neg (by omega), if_pos (fun q _ _ => by omega)]
  | d + 1, i, n, y, h1, h2, hy0, hy => by
    obtain ⟨n, rfl⟩ : ∃ n', n = n' + 1 := ⟨n - 1, by omega⟩
    have hw : wr .i64 ((i : Int) + 1) = ((i + 1 : Nat) : Int) := by rw [wr64 (by omega) (by omega)]; omega
    obtain ⟨p, hp⟩ := p57_eq hk (t := T.getD i 0) hM hl
    have ih := p26_l1_eq hk hM hl h0 hT j d (i + 1) n (T.getD i 0) (by omega) (by omega) (fun hh => by omega) (fun _ => by rw [Nat.add_sub_cancel])
    rw [p26_l1]
    simp only [lt_v, sp_d, Int.toNat_natCast, hp, cl2_v, jn_v, hw, ih, sp_tt]
    rw [if_pos (by omega), gd_v (by omega), if_iff (all_step (P := ascAt T M) (show i < T.length by omega))]
    by_cases c1 : T.getD i 0 ∈ M
    · rw [if_pos c1]
      by_cases c2 : T.getD i 0 ≤ y
      · rw [if_pos c2, if_neg (fun hh => by
          by_cases c3 : i = 0
          · have := h0 _ c1
            have := hy0 c3
            omega
          · have := hh.1.2 (by omega)
            have := hy (by omega)
            omega)]
      · rw [if_neg c2]
        have ha : ascAt T M i := ⟨c1, fun h3 => by have := hy h3; omega⟩
        by_cases c4 : ∀ q, i + 1 ≤ q → q < T.length → ascAt T M q
        · rw [if_pos c4, if_pos ⟨ha, c4⟩]
        · rw [if_neg c4, if_neg (fun hh => c4 hh.2)]
    · rw [if_neg c1, if_neg (fun hh => c1 hh.1.1)]
noncomputable def chk (R : List (List Int)) (D u T : List Int) : Int :=
  if logE R D = 0 then (if claimE u = 0 then (if 2000 < T.length then 6 else if proofOk T (must R D u) then (if 0 ≤ pastI R u T then 16 else 0) else 16) else claimE u) else logE R D
theorem proofOk_asc {T M : List Int} (h : proofOk T M) : T.Pairwise (· < ·) ∧ ∀ x ∈ T, x ∈ M := by
  constructor
  · rw [List.pairwise_iff_getElem]
    intro i j hi hj hij
    have key : ∀ d, i + d + 1 < T.length → T.getD i 0 < T.getD (i + d + 1) 0 := by
      intro d
      induction d with
      | zero => intro hd; have := (h (i + 1) hd).2 (by omega); rwa [Nat.add_sub_cancel] at this
      | succ d ih =>
        intro hd
        have h1 := ih (by omega)
        have h2 := (h (i + d + 1 + 1) hd).2 (by omega)
        rw [Nat.add_sub_cancel] at h2
        rw [show i + (d + 1) + 1 = i + d + 1 + 1 from by omega]
        omega
    have := key (j - i - 1) (by omega)
    rw [show i + (j - i - 1) + 1 = j from by omega] at this
    simpa [List.getD_eq_getElem?_getD, List.getElem?_eq_getElem hi, List.getElem?_eq_getElem hj] using this
  · intro x hx
    obtain ⟨i, hi, rfl⟩ := mem_getD hx
    exact (h i hi).1
theorem p26_eq {k : Nat} (hk : 5000 ≤ k) {R : List (List Int)} {D u T : List Int} (hD : D.length = 4) : p26 k R D u T = some (chk R D u T) := by
  unfold p26 chk
  rw [p43_eq hk hD]
  simp only [cl2_v, lt_v, ne_zero_b, sp_nd, sp_d]
  by_cases hl : logE R D = 0
  · have h := logE_zero.1 hl
    rw [if_pos hl, if_pos hl, if_pos hl]
    by_cases hc : claimE u = 0
    · have hu := claimE_zero.1 hc
      rw [if_pos hc, if_pos hc]
      by_cases ht : 2000 < T.length
      · rw [if_pos (by omega), if_pos ht]
      · rw [if_neg (by omega), if_neg ht, cl_v]
        have e56 : p56 k (crs R D).1 (crs R D).2.1 (crs R D).2.2.1 (crs R D).2.2.2.1 (crs R D).2.2.2.2 u = some (must R D u) := p56_eq hk h hu
        rw [e56, cl_v, jn_v]
        have hml := must_len R D u
        have hln : lastN R ≤ 2000 := by have := h.N; have := h.arg.span; omega
        have e := p26_l1_eq hk (asc_must R D u) (T := T) (by omega) (fun x hx => (must_mem.1 hx).1) (by omega) (cl (p58 k (crs R D).1 (crs R D).2.1 (crs R D).2.2.1 (crs R D).2.2.2.1 (crs R D).2.2.2.2 u T) fun v25 => if v25 ≥ 0 then some 16 else some 0) T.length 0 k (-1) (by omega) (by omega) (fun _ => rfl) (fun hh => by omega)
        rw [show ((0 : Nat) : Int) = 0 from rfl] at e
        refine (show _ = _ from e).trans ?_
        by_cases c : proofOk T (must R D u)
        · have hm := (proofOk_asc c).2
          have e58 : p58 k (crs R D).1 (crs R D).2.1 (crs R D).2.2.1 (crs R D).2.2.2.1 (crs R D).2.2.2.2 u T = some (pastI R u T) := p58_eq hk h (fun x hx => ⟨(must_mem.1 (hm x hx)).1, (must_mem.1 (hm x hx)).2.1⟩) (by omega)
          rw [if_pos (fun q _ hq => c q hq), if_pos c, e58, cl_v]
          by_cases c2 : 0 ≤ pastI R u T
          · rw [if_pos c2, if_pos (by omega)]
          · rw [if_neg c2, if_neg (by omega)]
        · rw [if_neg (fun hh => c (fun q hq => hh q (Nat.zero_le _) hq)), if_neg c]
    · rw [if_neg hc, if_neg hc]
  · rw [if_neg hl, if_neg hl, if_neg hl]
end Go.Proofs.Ythjkejbgknemgaa
namespace Go.Proofs.Ythjkejbgknemgaa
open Go.RowKit Classical
theorem Fits.mono {R D P V} (h : Fits R D P V) : ∀ (d a : Nat), a + d < lastN R + 1 → P.getD a 0 ≤ P.getD (a + d) 0
  | 0, a, _ => Int.le_refl _
  | d + 1, a, hd => by
    have h1 := h.mono d a (by omega)
    have h2 := (h.plc (a + d + 1) (by omega)).2 (by omega)
    rw [show a + d + 1 - 1 = a + d from by omega] at h2
    rw [show a + (d + 1) = a + d + 1 from by omega]
    omega
theorem proven_dmg {R : List (List Int)} {D u P : List Int} {V : List (List Int)} (h : LogOk R D) (hu : ClaimOk u) (hf : Fits R D P V) (hp : ¬ PastP R u (must R D u)) : Dmg R P V u := by
  refine Classical.byContradiction fun hn => hp ?_
  have hq0 := hu.2.2.2.1
  have hq1 := hu.2.2.2.2.1
  have hft := hu.2.1
  -- the first minute behind the water
  have : ∃ a : Nat, a ≤ lastN R + 1 ∧ (∀ m, m < a → P.getD m 0 ≤ u.getD 1 0) ∧ (a < lastN R + 1 → u.getD 1 0 < P.getD a 0) := by
    have key : ∀ d a, a + d = lastN R + 1 → (∀ m, m < a → P.getD m 0 ≤ u.getD 1 0) → ∃ a : Nat, a ≤ lastN R + 1 ∧ (∀ m, m < a → P.getD m 0 ≤ u.getD 1 0) ∧ (a < lastN R + 1 → u.getD 1 0 < P.getD a 0) := by
      intro d
      induction d with
      | zero => intro a ha hm; exact ⟨a, by omega, hm, fun h => by omega⟩
      | succ d ih =>
        intro a ha hm
        by_cases c : u.getD 1 0 < P.getD a 0
        · exact ⟨a, by omega, hm, fun _ => c⟩
        · exact ih (a + 1) (by omega) (fun m hma => by
            rcases Nat.eq_or_lt_of_le (Nat.le_of_lt_succ hma) with e | e
            · subst e; omega
            · exact hm m e)
    exact key (lastN R + 1) 0 (by omega) (fun m hm => by omega)
  obtain ⟨a, ha, hb, hc⟩ := this
  have near : ∀ s ∈ must R D u, s < (a : Int) → P.getD (s.toNat + 1) 0 < u.getD 0 0 := by
    intro s hs hsa
    have hm := must_mem.1 hs
    refine Classical.byContradiction fun hge => hn ⟨s, steps_mem.2 ⟨hm.1, hm.2.1, hm.2.2.1⟩, hb s.toNat (by omega), by omega, ?_⟩
    have h1 := (hf.val s.toNat (by omega) (u.getD 2 0).toNat (by omega)).1.1
    have h2 := (hf.val (s.toNat + 1) (by omega) (u.getD 2 0).toNat (by omega)).1.1
    have hmu := hm.2.2.2
    unfold mustP at hmu
    rw [show ((s.toNat : Nat) : Int) = s from by omega] at h1
    rw [show ((s.toNat + 1 : Nat) : Int) = s + 1 from by omega] at h2
    omega
  refine ⟨a, fun s hs hsa => ?_, fun s hs hsa => ?_, fun ⟨h1, h2⟩ => ?_⟩
  · have hm := must_mem.1 hs
    have h1 := near s hs hsa
    have h2 := (hf.plc (s.toNat + 1) (by omega)).1.1
    rw [show ((s.toNat + 1 : Nat) : Int) = s + 1 from by omega] at h2
    omega
  · have hm := must_mem.1 hs
    have h1 := hc (by omega)
    have h2 := (hf.plc s.toNat (by omega)).1.2
    have h3 := hf.mono (s.toNat - a) a (by omega)
    rw [show a + (s.toNat - a) = s.toNat from by omega] at h3
    rw [show ((s.toNat : Nat) : Int) = s from by omega] at h2
    omega
  · have hm := must_mem.1 h1
    have hm2 := must_mem.1 h2
    have h3 := near _ h1 (by omega)
    have h4 := hc (by omega)
    rw [show ((a : Int) - 1).toNat + 1 = a from by omega] at h3
    omega
theorem dmg_can {R : List (List Int)} {D u P : List Int} {V : List (List Int)} (h : LogOk R D) (hu : ClaimOk u) (hf : Fits R D P V) (hd : Dmg R P V u) : 0 ≤ canI R D u := by
  refine Classical.byContradiction fun hn => ?_
  have hq0 := hu.2.2.2.1
  have hq1 := hu.2.2.2.2.1
  obtain ⟨x, hx, h1, h2, h3⟩ := hd
  have hm := steps_mem.1 hx
  refine (canI_neg (D := D)).1 (by omega) x hx ⟨?_, ?_, ?_⟩
  · have h4 := (hf.val x.toNat (by omega) (u.getD 2 0).toNat (by omega)).1.2
    have h5 := (hf.val (x.toNat + 1) (by omega) (u.getD 2 0).toNat (by omega)).1.2
    rw [show ((x.toNat : Nat) : Int) = x from by omega] at h4
    rw [show ((x.toNat + 1 : Nat) : Int) = x + 1 from by omega] at h5
    omega
  · have h4 := (hf.plc x.toNat (by omega)).1.1
    rw [show ((x.toNat : Nat) : Int) = x from by omega] at h4
    omega
  · have h4 := (hf.plc (x.toNat + 1) (by omega)).1.2
    rw [show ((x.toNat + 1 : Nat) : Int) = x + 1 from by omega] at h4
    omega
def tPl (R : List (List Int)) (cut at' m : Int) : Int := if m < cut then pl R m else max (pl R m) at'
def tP (R : List (List Int)) (cut at' : Int) (N : Nat) : List Int := (List.range N).map fun x : Nat => tPl R cut at' x
theorem tP_get {R : List (List Int)} {cut at' : Int} {N x : Nat} (hx : x < N) : (tP R cut at' N).getD x 0 = tPl R cut at' x := getD_map_range _ _ _ _ hx
theorem eV_get {R : List (List Int)} {D : List Int} {b : Bool} {N x q : Nat} (hx : x < N) (hq : q < 4) : hv (eV R D b N) x q = if b then vh R D q x else vl R D q x := by
  unfold hv eV
  rw [getD_map_range _ _ _ _ hx, eRow_get R D b x q hq]
theorem tFits {R : List (List Int)} {D : List Int} (h : LogOk R D) (b : Bool) {cut at' : Int} (hc : ∀ m : Nat, m < lastN R + 1 → cut ≤ m → at' ≤ ph R m) : Fits R D (tP R cut at' (lastN R + 1)) (eV R D b (lastN R + 1)) := by
  have hN := h.N
  refine ⟨by simp [tP], by simp [eV], fun m hm => ?_, fun m hm q hq => eVal h b hm hq⟩
  have hs := (h.sum m (by omega) (by omega)).1
  unfold plcOk
  rw [tP_get hm, tP_get (show m - 1 < lastN R + 1 by omega)]
  have h1 := pl_mono R (a := ((m - 1 : Nat) : Int)) (b := (m : Int)) (by omega)
  have h2 := hc m hm
  unfold tPl
  constructor
  · split
    · omega
    · have := h2 (by omega); omega
  · intro h0
    split
    · split
      · omega
      · omega
    · split
      · omega
      · omega
theorem without_fits {R : List (List Int)} {D u : List Int} (h : LogOk R D) (hu : ClaimOk u) {i : Nat} (hi : i ≤ (must R D u).length) (hp : pastAt R u (must R D u) i) (cut : Int) (hcut : cut = if i < (must R D u).length then (must R D u).getD i 0 else lastI R + 1) : Fits R D (tP R cut (u.getD 1 0 + 1) (lastN R + 1)) (eV R D false (lastN R + 1)) ∧ ¬ Dmg R (tP R cut (u.getD 1 0 + 1) (lastN R + 1)) (eV R D false (lastN R + 1)) u := by
  have hN := h.N
  have hq0 := hu.2.2.2.1
  have hq1 := hu.2.2.2.2.1
  obtain ⟨pa1, pa2, pa3⟩ := hp
  constructor
  · refine tFits h false (fun m hm hc => ?_)
    by_cases c : i < (must R D u).length
    · rw [if_pos c] at hcut
      rcases pa2 with e | e
      · omega
      · have := ph_mono R (a := (must R D u).getD i 0) (b := (m : Int)) (by omega)
        omega
    · rw [if_neg c] at hcut
      omega
  · rintro ⟨x, hx, h1, h2, h3⟩
    have hm := steps_mem.1 hx
    rw [tP_get (by omega)] at h1
    rw [tP_get (by omega)] at h2
    rw [eV_get (by omega) (by omega), eV_get (by omega) (by omega)] at h3
    rw [show ((x.toNat : Nat) : Int) = x from by omega] at h1 h3
    rw [show ((x.toNat + 1 : Nat) : Int) = x + 1 from by omega] at h2 h3
    have hmu : x ∈ must R D u := must_mem.2 ⟨hm.1, hm.2.1, hm.2.2, h3⟩
    obtain ⟨q, hq, hqx⟩ := mem_getD hmu
    have hxc : x < cut := by
      refine Classical.byContradiction fun hn => ?_
      unfold tPl at h1
      rw [if_neg hn] at h1
      omega
    have hqi : q < i := by
      refine Classical.byContradiction fun hn => ?_
      by_cases c : i < (must R D u).length
      · rw [if_pos c] at hcut
        have := asc_getD_le (asc_must R D u) (i := i) (j := q) (by omega) hq
        omega
      · omega
    have hle := asc_getD_le (asc_must R D u) (i := q) (j := i - 1) (by omega) (by omega)
    have hpl : pl R (x + 1) < u.getD 0 0 := by
      rcases pa1 with e | e
      · omega
      · have := pl_mono R (a := x + 1) (b := (must R D u).getD (i - 1) 0 + 1) (by omega)
        omega
    have hx1 : x + 1 < cut := by
      by_cases c : i < (must R D u).length
      · rw [if_pos c] at hcut
        rcases pa3 with e | e | e
        · omega
        · omega
        · omega
      · rw [if_neg c] at hcut
        omega
    unfold tPl at h2
    rw [if_pos hx1] at h2
    omega
theorem with_fits {R : List (List Int)} {D u : List Int} (h : LogOk R D) (hu : ClaimOk u) (hc : 0 ≤ canI R D u) : Fits R D (tP R (canI R D u + 1) (u.getD 0 0) (lastN R + 1)) (eV R D true (lastN R + 1)) ∧ Dmg R (tP R (canI R D u + 1) (u.getD 0 0) (lastN R + 1)) (eV R D true (lastN R + 1)) u := by
  have hN := h.N
  have hq0 := hu.2.2.2.1
  have hq1 := hu.2.2.2.2.1
  obtain ⟨h1, h2, h3, h4⟩ := firstOr_pos hc
  have h1 : canI R D u ∈ steps R u := h1
  have h2 : u.getD 3 0 < max (vh R D (u.getD 2 0).toNat (canI R D u)) (vh R D (u.getD 2 0).toNat (canI R D u + 1)) := h2
  have h3 : pl R (canI R D u) ≤ u.getD 1 0 := h3
  have h4 : u.getD 0 0 ≤ ph R (canI R D u + 1) := h4
  generalize canI R D u = x at *
  have hm := steps_mem.1 h1
  constructor
  · refine tFits h true (fun m hm hc => ?_)
    have := ph_mono R (a := x + 1) (b := (m : Int)) hc
    omega
  · refine ⟨x, h1, ?_, ?_, ?_⟩
    · rw [tP_get (by omega), show ((x.toNat : Nat) : Int) = x from by omega]
      unfold tPl
      rw [if_pos (by omega)]
      exact h3
    · rw [tP_get (by omega), show ((x.toNat + 1 : Nat) : Int) = x + 1 from by omega]
      unfold tPl
      rw [if_neg (by omega)]
      omega
    · rw [eV_get (by omega) (by omega), eV_get (by omega) (by omega), show ((x.toNat : Nat) : Int) = x from by omega, show ((x.toNat + 1 : Nat) : Int) = x + 1 from by omega]
      exact h2
theorem p67_eq {k : Nat} {R : List (List Int)} {D : List Int} {st V cut at'} {m : Nat} (hm : m < lastN R + 1) : p67 k R D st (pls R (lastN R + 1)) V cut at' (m : Int) = some (tPl R cut at' m) := by
  have hg := pls_get (R := R) (N := lastN R + 1) (x := (m : Int)) (by omega) (by omega)
  unfold p67 tPl
  simp only [lt_v, sp_d, hg, List.getD_cons_zero, mx_eq]
  rw [gd_v (by rw [pls_len]; omega), gd_v (by rw [pls_len]; omega)]
  split <;> rfl
theorem p66a_l2_eq {k : Nat} (hk : 5000 ≤ k) {R : List (List Int)} {D : List Int} {m : Nat} (hm : m < lastN R + 1) (b : Bool) (j : Bool → List Int → Option (List Int × List (List Int))) : p66a_l2 k (crs R D).2.2.2.2 (m : Int) j k b 0 [0, 0, 0, 0] = j b (eRow R D b m) := by
  obtain ⟨n, rfl⟩ : ∃ n, k = n + 1 + 1 + 1 + 1 + 1 := ⟨k - 5, by omega⟩
  have hr : ∀ kk, kk < 4 → ((crs R D).2.2.2.2.getD kk []).getD m [] = [vl R D kk m, vh R D kk m] := by
    intro kk hkk
    rw [show (crs R D).2.2.2.2.getD kk [] = vls R D kk (lastN R + 1) from crsV_get R D kk hkk]
    have := vls_get (R := R) (D := D) (kk := kk) (N := lastN R + 1) (x := (m : Int)) (by omega) (by omega)
    rwa [Int.toNat_natCast] at this
  have hl : ∀ kk, kk < 4 → ∀ x : Option (List Int × List (List Int)), gd ((0 : Int) ≤ (m : Int) ∧ (m : Int) < (((crs R D).2.2.2.2.getD kk []).length : Int)) x = x := by
    intro kk hkk x
    refine gd_v ?_ x
    rw [show (crs R D).2.2.2.2.getD kk [] = vls R D kk (lastN R + 1) from crsV_get R D kk hkk, vls_len]
    omega
  have w0 : wr .i64 ((0 : Int) + 1) = 1 := rfl
  have w1 : wr .i64 ((1 : Int) + 1) = 2 := rfl
  have w2 : wr .i64 ((2 : Int) + 1) = 3 := rfl
  have w3 : wr .i64 ((3 : Int) + 1) = 4 := rfl
  have t0 : (0 : Int).toNat * 1 = 0 := rfl
  have t1 : (1 : Int).toNat * 1 = 1 := rfl
  have t2 : (2 : Int).toNat * 1 = 2 := rfl
  have t3 : (3 : Int).toNat * 1 = 3 := rfl
  have d0 : decide ((0 : Int) < 4) = true := rfl
  have d1 : decide ((1 : Int) < 4) = true := rfl
  have d2 : decide ((2 : Int) < 4) = true := rfl
  have d3 : decide ((3 : Int) < 4) = true := rfl
  have d4 : decide ((4 : Int) < 4) = false := rfl
  have g0 : ∀ x : Option (List Int × List (List Int)), gd ((0 : Int) ≤ 0 ∧ (0 : Int) < ((4 : Nat) : Int)) x = x := fun x => gd_v (by omega) x
  have g1 : ∀ x : Option (List Int × List (List Int)), gd ((0 : Int) ≤ 1 ∧ (1 : Int) < ((4 : Nat) : Int)) x = x := fun x => gd_v (by omega) x
  have g2 : ∀ x : Option (List Int × List (List Int)), gd ((0 : Int) ≤ 2 ∧ (2 : Int) < ((4 : Nat) : Int)) x = x := fun x => gd_v (by omega) x
  have g3 : ∀ x : Option (List Int × List (List Int)), gd ((0 : Int) ≤ 3 ∧ (3 : Int) < ((4 : Nat) : Int)) x = x := fun x => gd_v (by omega) x
  cases b with
  | true =>
    rw [p66a_l2]
    simp only [lt_v, jn_v, d0, sp_tt, g0, w0, t0, hl 0 (by omega), Int.toNat_natCast, hr 0 (by omega), List.getD_cons_zero, List.getD_cons_succ]
    rw [p66a_l2]
    simp only [lt_v, jn_v, d1, sp_tt, g1, w1, t1, hl 1 (by omega), Int.toNat_natCast, hr 1 (by omega), List.getD_cons_zero, List.getD_cons_succ]
    rw [p66a_l2]
    simp only [lt_v, jn_v, d2, sp_tt, g2, w2, t2, hl 2 (by omega), Int.toNat_natCast, hr 2 (by omega), List.getD_cons_zero, List.getD_cons_succ]
    rw [p66a_l2]
    simp only [lt_v, jn_v, d3, sp_tt, g3, w3, t3, hl 3 (by omega), Int.toNat_natCast, hr 3 (by omega), List.getD_cons_zero, List.getD_cons_succ]
    rw [p66a_l2]
    simp only [lt_v, jn_v, d4, sp_ff]
    rfl
  | false =>
    rw [p66a_l2]
    simp only [lt_v, jn_v, d0, sp_tt, sp_ff, g0, w0, t0, hl 0 (by omega), Int.toNat_natCast, hr 0 (by omega), List.getD_cons_zero, List.getD_cons_succ]
    rw [p66a_l2]
    simp only [lt_v, jn_v, d1, sp_tt, sp_ff, g1, w1, t1, hl 1 (by omega), Int.toNat_natCast, hr 1 (by omega), List.getD_cons_zero, List.getD_cons_succ]
    rw [p66a_l2]
    simp only [lt_v, jn_v, d2, sp_tt, sp_ff, g2, w2, t2, hl 2 (by omega), Int.toNat_natCast, hr 2 (by omega), List.getD_cons_zero, List.getD_cons_succ]
    rw [p66a_l2]
    simp only [lt_v, jn_v, d3, sp_tt, sp_ff, g3, w3, t3, hl 3 (by omega), Int.toNat_natCast, hr 3 (by omega), List.getD_cons_zero, List.getD_cons_succ]
    rw [p66a_l2]
    simp only [lt_v, jn_v, d4, sp_ff]
    rfl
theorem p66a_l1_eq {k : Nat} (hk : 5000 ≤ k) {R : List (List Int)} {D : List Int} {st cut at'} (h : LogOk R D) (b : Bool) (j : List Int → List (List Int) → Option (List Int × List (List Int))) : ∀ (d m n : Nat), m + d = lastN R + 1 → d < n → p66a_l1 k R D st (pls R (lastN R + 1)) (crs R D).2.2.2.2 cut at' j n b (m : Int) (tP R cut at' m) (eV R D b m) = j (tP R cut at' (lastN R + 1)) (eV R D b (lastN R + 1))
  | 0, m, n, h1, h2 => by
    obtain ⟨n, rfl⟩ : ∃ n', n = n' + 1 := ⟨n - 1, by omega⟩
    rw [p66a_l1]
    simp only [lt_v, sp_d, pls_len]
    rw [if_neg (by omega), show m = lastN R + 1 from by omega]
  | d + 1, m, n, h1, h2 => by
    obtain ⟨n, rfl⟩ : ∃ n', n = n' + 1 := ⟨n - 1, by omega⟩
    have hN := h.N
    have hsp := h.arg.span
    have hw : wr .i64 ((m : Int) + 1) = ((m + 1 : Nat) : Int) := by rw [wr64 (by omega) (by omega)]; omega
    have hp1 : (tP R cut at' m).length = m := by simp [tP]
    have hp2 : (eV R D b m).length = m := by simp [eV]
    have hs1 : tP R cut at' m ++ [tPl R cut at' m] = tP R cut at' (m + 1) := by unfold tP; rw [List.range_succ, List.map_append]; rfl
    have hs2 : eV R D b m ++ [eRow R D b m] = eV R D b (m + 1) := by unfold eV; rw [List.range_succ, List.map_append]; rfl
    have ih := p66a_l1_eq hk (st := st) (cut := cut) (at' := at') h b j d (m + 1) n (by omega) (by omega)
    have hm : m < lastN R + 1 := by omega
    rw [p66a_l1]
    simp only [lt_v, sp_d, jn_v, p66a_l2_eq hk hm, p67_eq hm, cl_v, hw, pls_len, hs1, hs2]
    rw [if_pos (by omega), gd_v (by rw [hp1]; simp only [List.length_cons, List.length_nil]; omega), gd_v (by rw [hp2]; simp only [List.length_cons, List.length_nil]; omega)]
    exact ih
theorem p66a_eq {k : Nat} (hk : 5000 ≤ k) {R : List (List Int)} {D : List Int} {st cut at'} (h : LogOk R D) (b : Bool) : p66a k R D st (pls R (lastN R + 1)) (crs R D).2.2.2.2 cut at' b = some (tP R cut at' (lastN R + 1), eV R D b (lastN R + 1)) := by
  unfold p66a
  rw [jn_v]
  have hl := lastN_le h
  exact p66a_l1_eq hk h b (fun L9 R10 => some (L9, R10)) (lastN R + 1) 0 k (by omega) (by omega)
theorem p38_eq {k : Nat} (hk : 5000 ≤ k) {R : List (List Int)} {D u : List Int} (hD : D.length = 4) (h : LogOk R D) (hu : ClaimOk u) : p38 k R D u = if canI R D u < 0 then some ([], [], 15) else some (tP R (canI R D u + 1) (u.getD 0 0) (lastN R + 1), eV R D true (lastN R + 1), 0) := by
  unfold p38
  have hl := lastN_le h
  rw [p43_eq hk hD, if_pos (logE_zero.2 h), if_pos (logE_zero.2 h), claimE_zero.2 hu]
  have e0 : ((0 : Int) != 0) = false := rfl
  have e65 : p65 k (crs R D).1 (crs R D).2.1 (crs R D).2.2.1 (crs R D).2.2.2.1 (crs R D).2.2.2.2 u = some (canI R D u) := p65_eq hk h hu
  have e66 : ∀ cut at' b, p66a k (crs R D).1 (crs R D).2.1 (crs R D).2.2.1 (crs R D).2.2.2.1 (crs R D).2.2.2.2 cut at' b = some (tP R cut at' (lastN R + 1), eV R D b (lastN R + 1)) := fun cut at' b => p66a_eq hk h b
  simp only [cl2_v, lt_v, e0, sp_ff, cl_v, e65, e66, sp_d]
  by_cases c : canI R D u < 0
  · rw [if_pos c, if_pos c]
  · have hx : canI R D u ∈ steps R u := (firstOr_pos (p := canP R D u) (l := steps R u) (show 0 ≤ canI R D u by omega)).1
    have hm := steps_mem.1 hx
    rw [if_neg c, if_neg c, wr64 (by omega) (by omega)]
theorem pastI_at {R : List (List Int)} {u S : List Int} (h : 0 ≤ pastI R u S) : ∃ i : Nat, pastI R u S = i ∧ i ≤ S.length ∧ pastAt R u S i := by
  unfold pastI pastFrom at h ⊢
  obtain ⟨h1, h2⟩ := firstOr_pos h
  obtain ⟨q, hq, he⟩ := List.mem_map.1 h1
  rw [← he] at h2 ⊢
  rw [List.mem_range'_1] at hq
  rw [Int.toNat_natCast] at h2
  exact ⟨q, rfl, by omega, h2⟩
theorem p39_eq {k : Nat} (hk : 5000 ≤ k) {R : List (List Int)} {D u : List Int} (hD : D.length = 4) (h : LogOk R D) (hu : ClaimOk u) : (pastI R u (must R D u) < 0 → p39 k R D u = some ([], [], 15)) ∧ (0 ≤ pastI R u (must R D u) → ∃ P V, p39 k R D u = some (P, V, 0) ∧ Fits R D P V ∧ ¬ Dmg R P V u) := by
  unfold p39
  have hl := lastN_le h
  have hml := must_len R D u
  have hft := hu.2.1
  have hto := hu.2.2.1
  have hfr := hu.1
  rw [p43_eq hk hD, if_pos (logE_zero.2 h), if_pos (logE_zero.2 h), claimE_zero.2 hu]
  have e0 : ((0 : Int) != 0) = false := rfl
  have e56 : p56 k (crs R D).1 (crs R D).2.1 (crs R D).2.2.1 (crs R D).2.2.2.1 (crs R D).2.2.2.2 u = some (must R D u) := p56_eq hk h hu
  have e58 : p58 k (crs R D).1 (crs R D).2.1 (crs R D).2.2.1 (crs R D).2.2.2.1 (crs R D).2.2.2.2 u (must R D u) = some (pastI R u (must R D u)) := p58_eq hk h (fun x hx => ⟨(must_mem.1 hx).1, (must_mem.1 hx).2.1⟩) (by omega)
  have e66 : ∀ cut at' b, p66a k (crs R D).1 (crs R D).2.1 (crs R D).2.2.1 (crs R D).2.2.2.1 (crs R D).2.2.2.2 cut at' b = some (tP R cut at' (lastN R + 1), eV R D b (lastN R + 1)) := fun cut at' b => p66a_eq hk h b
  have hcl : ((crs R D).2.2.2.1.length : Int) = lastI R + 1 := by
    show ((pls R (lastN R + 1)).length : Int) = _
    rw [pls_len]; exact h.N
  simp only [cl2_v, lt_v, e0, sp_ff, cl_v, e56, e58, e66, sp_d, jn_v, hcl]
  rw [wr64 (z := u.getD 1 0 + 1) (by omega) (by omega)]
  constructor
  · intro c; rw [if_pos c]
  · intro c
    rw [if_neg (by omega)]
    obtain ⟨i, hi, hile, hpa⟩ := pastI_at c
    rw [hi, Int.toNat_natCast]
    by_cases c2 : i < (must R D u).length
    · rw [if_pos (by omega), gd_v (by omega)]
      exact ⟨_, _, rfl, without_fits h hu hile hpa _ (by rw [if_pos c2])⟩
    · rw [if_neg (by omega)]
      exact ⟨_, _, rfl, without_fits h hu hile hpa _ (by rw [if_neg c2])⟩
theorem can_of_proven {R : List (List Int)} {D u : List Int} (h : LogOk R D) (hu : ClaimOk u) (hc : canI R D u < 0) : vdI R D u = 2 := by
  refine vd_excluded.2 ⟨?_, hc⟩
  refine Classical.byContradiction fun hn => ?_
  have hd := proven_dmg h hu (eFits h true) hn
  have := dmg_can h hu (eFits h true) hd
  omega
theorem chk_proven {R : List (List Int)} {D u T : List Int} (h : LogOk R D) (hu : ClaimOk u) (hc : chk R D u T = 0) : vdI R D u = 1 := by
  unfold chk at hc
  rw [if_pos (logE_zero.2 h), if_pos (claimE_zero.2 hu)] at hc
  split at hc
  · omega
  · split at hc
    · rename_i hT
      obtain ⟨hasc, hsub⟩ := proofOk_asc hT
      split at hc
      · omega
      · rename_i hp
        refine vd_proven.2 (fun hh => hp ((pastI_iff hasc).2 ?_))
        exact hh.sub hsub (fun _ _ => Int.le_refl _) (fun _ _ => Int.le_refl _) (Int.le_refl _) (Int.le_refl _)
    · omega
end Go.Proofs.Ythjkejbgknemgaa
namespace Go.Proofs.Ythjkejbgknemgaa
open Go.ChangeShapes Go.WideShapes Go.ChangeAt Go.RowKit
def PlainClaimProven : Prop := ∀ (u0_0 : List (List Int)) (u0_1 : List Int) (u1 : List Int) (u2 : List Int) (u3 : List Int), u0_0.length ≤ maxLen → (∀ r ∈ u0_0, r.length = 11) → (∀ r ∈ u0_0, ∀ z ∈ r, Wfi .i64 z) → u0_1.length = 4 → (∀ z ∈ u0_1, Wfi .i64 z) → u1.length = 7 → (∀ z ∈ u1, Wfi .i64 z) → u2.length ≤ maxLen → (∀ z ∈ u2, Wfi .u8 z) → u3.length ≤ maxLen → (∀ z ∈ u3, Wfi .i64 z) → ∃ k, p10 k u0_0 u0_1 u1 u2 u3 = some true
theorem own10 : ownKnob Try.prog.godebug = none := by kernel_rfl
theorem laid10 : laidOutB Try.prog = true := by kernel_rfl
set_option maxRecDepth 100000 in
theorem lifted10 (plain : PlainClaimProven) (os : Os) (started : os.Started) (H : Type) (enc : TypeId × Value → H) :
    ReturnsInHanded {} Try.checked os 10 .any (Rows.claimProvenSpec.pre6 enc Try.prog Try.f10 Rows.claimProvenRow.domain false) (Rows.claimProvenSpec.post enc Try.prog Try.f10 false true false false) := by
  refine returnsInHanded_of_change (C := Try.checked) own10 started (by kernel_rfl) Try.func10
    (ChangeSpec.witness6 (enc := enc) (C := Try.checked) false ⟨#[], #[.agg #[.slice none 0 0, .int .i64 0, .int .i64 0, .int .i64 0, .int .i64 0], .agg #[.int .i64 0, .int .i64 0, .int .i64 0, .int .i64 0, .int .i64 0, .int .i64 0, .int .i64 0], .slice none 0 0, .slice none 0 0], []⟩ 12 (by kernel_rfl) (by kernel_rfl) (by kernel_rfl) (by kernel_rfl)) ?_
  intro W base args ds gs before hval0 hW hcnd _
  have hval : ∀ (j : Nat) t v, Try.f10.params[j]? = some t → args[j]? = some v → Value.okWide Try.prog W .any base t v := hval0
  have hW' := hW
  obtain ⟨p, q, hA0, hV, rfl, hfz, hnd⟩ := hW
  have hA : DataW.TrodAll enc Try.prog W 0 (fun _ => true) true Try.f10.params.toList args.toList ds p := hA0
  rw [Try.params10] at hA hval
  obtain ⟨v0, vs0, d0, ds0, p0, q0, hargs, rfl, rfl, h0, r0⟩ := trodAll_cons hA
  obtain ⟨v1, vs1, d1, ds1, p1, q1, rfl, rfl, rfl, h1, r1⟩ := trodAll_cons r0
  obtain ⟨v2, vs2, d2, ds2, p2, q2, rfl, rfl, rfl, h2, r2⟩ := trodAll_cons r1
  obtain ⟨v3, vs3, d3, ds3, p3, q3, rfl, rfl, rfl, h3, r3⟩ := trodAll_cons r2
  obtain ⟨rfl, rfl, rfl⟩ := trodAll_nil r3
  obtain rfl : args = #[v0, v1, v2, v3] := by cases args; simp_all
  obtain ⟨rfl, rfl⟩ := trodVars_none hV
  have k0 := h0
  have lt0 : ∀ x ∈ p0, x.block < W.heap.size := by obtain ⟨m, hm⟩ := k0; exact DataW.trod_lt m _ _ _ hm
  obtain ⟨cs0, fu0, rfl, hx0⟩ := open_agg Try.underlying25 rfl (hval 0 25 v0 rfl rfl) h0
  obtain ⟨c0a, c0b, fv0, y0a, y0b, rfl, hx0a, hx0b⟩ := open_two Try.underlying25 rfl (by kernel_rfl) (by kernel_rfl) hx0
  obtain ⟨Au0_0, u0_0, cu0_0, rfl, su0_0, mu0_0, zu0_0⟩ := open_rows (k := .i64) (d := 8) (m := 11) Try.underlying22 (by kernel_rfl) rfl (by kernel_rfl) hx0a
  obtain ⟨u0_1, rfl, lu0_1, zu0_1⟩ := open_ints' (k := .i64) (d := 8) (n := 4) (by kernel_rfl) hx0b
  have k1 := h1
  have lt1 : ∀ x ∈ p1, x.block < W.heap.size := by obtain ⟨m, hm⟩ := k1; exact DataW.trod_lt m _ _ _ hm
  obtain ⟨cs1, fu1, rfl, hx1⟩ := open_agg Try.underlying27 rfl (hval 1 27 v1 rfl rfl) h1
  obtain ⟨u1, rfl, lu1, zu1⟩ := open_ints' (k := .i64) (d := 8) (n := 7) (by kernel_rfl) hx1
  have k2 := h2
  have lt2 : ∀ x ∈ p2, x.block < W.heap.size := by obtain ⟨m, hm⟩ := k2; exact DataW.trod_lt m _ _ _ hm
  obtain ⟨cs2, fu2, hcs2, hx2⟩ := open_slice Try.underlying28 (hval 2 28 v2 rfl rfl) h2
  obtain ⟨Au2, u2, cu2, rfl, su2, mu2, zu2⟩ := open_sint (k := .u8) (d := 8) Try.underlying28 (by kernel_rfl) (by kernel_rfl) hx2
  injection hcs2 with hcs2 _
  subst hcs2
  have k3 := h3
  have lt3 : ∀ x ∈ p3, x.block < W.heap.size := by obtain ⟨m, hm⟩ := k3; exact DataW.trod_lt m _ _ _ hm
  obtain ⟨cs3, fu3, hcs3, hx3⟩ := open_slice Try.underlying64 (hval 3 64 v3 rfl rfl) h3
  obtain ⟨Au3, u3, cu3, rfl, su3, mu3, zu3⟩ := open_sint (k := .i64) (d := 8) Try.underlying64 (by kernel_rfl) (by kernel_rfl) hx3
  injection hcs3 with hcs3 _
  subst hcs3
  obtain ⟨k, hp⟩ := plain u0_0 u0_1 u1 u2 u3 mu0_0 su0_0.1 zu0_0 lu0_1 zu0_1 lu1 zu1 mu2 zu2 mu3 zu3
  have hc := Fn.calls (Mem.le_refl _) ((w10 k su0_0 lu0_1 lu1 su2 su3 hp).mono (R' := fun x _ => rval x = .bool true) (by rintro x M' _ rfl; rfl))
  clear hA0 hval0
  have hc2 : Calls Try.prog 10 #[.agg ([Value.slice Au0_0 (List.length u0_0) cu0_0] ++ ints .i64 u0_1).toArray, .agg (ints .i64 u1).toArray, .slice Au2 (List.length u2) cu2, .slice Au3 (List.length u3) cu3] W fun e w' => e = .returned (.bool true) ∧ Below W.heap.size W w' := by
    simpa [rval, SV.val, sgCells, Sg.cells, Lf.val] using hc
  refine hc2.mono fun e W' ⟨he, bel⟩ => ?_
  subst he
  exact ⟨_, rfl, _, _, _, [], _, [], hW', trodAll_mk1 (shut_bool Try.underlying4 _), (trodAll_cons_mk (Below.trod laid10 (by kernel_rfl) (of_decide_eq_true (by kernel_rfl)) k0 bel lt0) (trodAll_cons_mk (Below.trod laid10 (by kernel_rfl) (of_decide_eq_true (by kernel_rfl)) k1 bel lt1) (trodAll_cons_mk (Below.trod laid10 (by kernel_rfl) (of_decide_eq_true (by kernel_rfl)) k2 bel lt2) (trodAll_cons_mk (Below.trod laid10 (by kernel_rfl) (of_decide_eq_true (by kernel_rfl)) k3 bel lt3) trodAll_mk0)))), rfl, bel.frame _, fun h => by cases h⟩
theorem claimProven_of (plain : PlainClaimProven) : Rows.ClaimProvenSaid :=
  OpenClaim.holds_of_wide 10 Try.f10 rfl rfl rfl rfl rfl rfl rfl ⟨rfl, rfl, rfl, rfl, rfl⟩ rfl rfl rfl rfl rfl (by kernel_rfl) Try.func10 (by kernel_rfl)
    (of_decide_eq_true (by kernel_rfl)) (by unfold Func.isWrapper; first | (rw [if_pos (by decide +kernel)]; kernel_rfl) | (rw [if_neg (by decide +kernel)]; exact ⟨rfl, rfl⟩))
    (fun os started H enc _ => lifted10 plain os started H enc)
end Go.Proofs.Ythjkejbgknemgaa
namespace Go.Proofs.Ythjkejbgknemgaa
open Go.RowKit Classical
theorem plain10 : PlainClaimProven := by
  intro R D u S T hlen hrow hR hD hDz hul huz hSl hSz hTl hTz
  obtain ⟨k, hk⟩ : ∃ k, 5000 ≤ k := ⟨5000, Nat.le_refl _⟩
  refine ⟨k, ?_⟩
  have hb : Wf64 R := fun r hr z hz => bounds_i64 (hR r hr z hz)
  have hS : ∀ z ∈ S, 0 ≤ z ∧ z ≤ 255 := fun z hz => by
    have := bounds_u8 (hSz z hz)
    omega
  unfold p10
  obtain ⟨g, hg, hgo⟩ := p11_eq (u := u) hk hD hb
  simp only [hg, p12_eq hk, jn_v, cl_v, lt_v]
  cases g with
  | false => rfl
  | true =>
    obtain ⟨h, hu⟩ := hgo rfl
    have hl := logE_zero.2 h
    have hc := claimE_zero.2 hu
    obtain ⟨P, V, hf, h13⟩ := p13_eq (k := k) hk hD hb h hS
    have h14 : p14 k R D u = some (vdI R D u, 0) := by rw [p14_eq hk hD, if_pos hl, if_pos hc]
    have hdv : ∀ P V, Fits R D P V → p36 k R D u P V = some (decide (Dmg R P V u), 0) := fun P V hf => by
      rw [p36_eq hk hD]; unfold dvE; rw [if_pos hl, if_pos hc, if_pos ⟨hf.lp, hf.lv⟩]
    have h22 : ∀ P V, Fits R D P V → p22 k R D P V = some (true, 0) := fun P V hf => by
      rw [p22_eq hk hD, if_pos hl, decide_eq_true hf]
    have hbeq : ∀ x y : Int, (x == y) = decide (x = y) := fun x y => by by_cases h : x = y <;> simp [h]
    have hbne : ∀ x y : Int, (x != y) = !decide (x = y) := fun x y => by by_cases h : x = y <;> simp [h]
    -- the verdict
    have hp1 : vdI R D u = 1 → Dmg R P V u := fun hv => proven_dmg h hu hf (vd_proven.1 hv)
    have hp2 : vdI R D u = 2 → ¬ Dmg R P V u := fun hv hd => by
      have := dmg_can h hu hf hd
      have := (vd_excluded.1 hv).2
      omega
    have hp3 : chk R D u T = 0 → vdI R D u = 1 := chk_proven h hu
    obtain ⟨h39a, h39b⟩ := p39_eq (k := k) hk hD h hu
    have h38 := p38_eq (k := k) hk hD h hu
    -- the two histories
    have hW : ∃ P1 V1 c1, p38 k R D u = some (P1, V1, c1) ∧ ((c1 = 0 ∧ vdI R D u ≠ 2 ∧ Fits R D P1 V1 ∧ Dmg R P1 V1 u) ∨ (c1 = 15 ∧ vdI R D u = 2)) := by
      by_cases c : canI R D u < 0
      · rw [if_pos c] at h38
        exact ⟨_, _, _, h38, .inr ⟨rfl, can_of_proven h hu c⟩⟩
      · rw [if_neg c] at h38
        exact ⟨_, _, _, h38, .inl ⟨rfl, fun hv => c (vd_excluded.1 hv).2, with_fits h hu (by omega)⟩⟩
    have hO : ∃ P1 V1 c1, p39 k R D u = some (P1, V1, c1) ∧ ((c1 = 0 ∧ vdI R D u ≠ 1 ∧ Fits R D P1 V1 ∧ ¬ Dmg R P1 V1 u) ∨ (c1 = 15 ∧ vdI R D u = 1)) := by
      by_cases c : pastI R u (must R D u) < 0
      · exact ⟨_, _, _, h39a c, .inr ⟨rfl, vd_proven.2 fun hh => by have := (pastI_iff (asc_must R D u)).2 hh; omega⟩⟩
      · obtain ⟨P1, V1, h1, h2⟩ := h39b (by omega)
        exact ⟨_, _, _, h1, .inl ⟨rfl, fun hv => vd_proven.1 hv ((pastI_iff (asc_must R D u)).1 (by omega)), h2⟩⟩
    obtain ⟨P1, V1, c1, hw, hw'⟩ := hW
    obtain ⟨P2, V2, c2, ho, ho'⟩ := hO
    have tail : (cl3 (p38 k R D u) fun v33 v34 v35 => cl3 (p39 k R D u) fun v41 v42 v43 => jn (fun (b49 : Bool) => sp b49 (some false) (jn (jn (cl (p12 k ) fun v83 => some v83) fun j73 => lt' (v43 == (0 : Int)) fun b74 => sp b74 (cl2 (p22 k R D v41 v42) fun v75 v76 => cl2 (p36 k R D u v41 v42) fun v77 v78 => jn (fun (b79 : Bool) => sp b79 (some false) (j73)) fun j80 => lt' (v76 != (0 : Int)) fun b81 => sp b81 (j80 true) (lt' (v78 != (0 : Int)) fun b82 => sp b82 (j80 true) (sp v75 (j80 v77) (j80 true)))) (j73)) fun j63 => lt' (v35 == (0 : Int)) fun b64 => sp b64 (cl2 (p22 k R D v33 v34) fun v65 v66 => cl2 (p36 k R D u v33 v34) fun v67 v68 => jn (fun (b69 : Bool) => sp b69 (some false) (j63)) fun j70 => lt' (v66 != (0 : Int)) fun b71 => sp b71 (j70 true) (lt' (v68 != (0 : Int)) fun b72 => sp b72 (j70 true) (sp v65 (j70 (!v67)) (j70 true)))) (j63))) fun j50 => lt' (v35 == (0 : Int)) fun b51 => lt' (vdI R D u != (2 : Int)) fun b52 => lt' (true != (b51 == b52)) fun b53 => sp b53 (j50 true) (lt' (v43 == (0 : Int)) fun b54 => lt' (vdI R D u != (1 : Int)) fun b55 => lt' (true != (b54 == b55)) fun b56 => sp b56 (j50 true) (lt' (v35 != (0 : Int)) fun b57 => sp b57 (lt' (v35 != (15 : Int)) fun b58 => sp b58 (j50 true) (lt' (v43 != (0 : Int)) fun b59 => sp b59 (lt' (v43 != (15 : Int)) fun b60 => j50 b60) (j50 false))) (lt' (v43 != (0 : Int)) fun b61 => sp b61 (lt' (v43 != (15 : Int)) fun b62 => j50 b62) (j50 false))))) = some true := by
      rw [hw, ho, cl3_v, cl3_v, p12_eq hk]
      rcases hw' with ⟨rfl, e1, e2, e3⟩ | ⟨rfl, e1⟩
      · have n2 : (vdI R D u != 2) = true := by simpa using e1
        rcases ho' with ⟨rfl, f1, f2, f3⟩ | ⟨rfl, f1⟩
        · have n1 : (vdI R D u != 1) = true := by simpa using f1
          simp only [jn_v, lt_v, n1, n2, cl_v, h22 _ _ e2, h22 _ _ f2, hdv _ _ e2, hdv _ _ f2, cl2_v, decide_eq_true e3, decide_eq_false f3]
          rfl
        · have n1 : (vdI R D u != 1) = false := by simpa using f1
          simp only [jn_v, lt_v, n1, n2, cl_v, h22 _ _ e2, hdv _ _ e2, cl2_v, decide_eq_true e3]
          rfl
      · have n2 : (vdI R D u != 2) = false := by simpa using e1
        rcases ho' with ⟨rfl, f1, f2, f3⟩ | ⟨rfl, f1⟩
        · have n1 : (vdI R D u != 1) = true := by simpa using f1
          simp only [jn_v, lt_v, n1, n2, cl_v, h22 _ _ f2, hdv _ _ f2, cl2_v, decide_eq_false f3]
          rfl
        · rw [e1] at f1; omega
    simp only [jn_v, lt_v, cl_v, p12_eq hk] at tail
    rw [sp_tt]
    by_cases hlen2 : (S.length : Int) > 2000
    · rw [decide_eq_true hlen2]; rfl
    · rw [decide_eq_false hlen2, sp_ff]
      by_cases hlen3 : (T.length : Int) > 300
      · rw [decide_eq_true hlen3]; rfl
      · rw [decide_eq_false hlen3]
        simp only [sp_ff, h14, h13, cl2_v, hdv P V hf, p26_eq hk hD, cl_v]
        have e0 : ((0 : Int) != 0) = false := rfl
        simp only [e0, sp_ff, hbeq, hbne, sp_d, sp_nd]
        simp only [hbeq, hbne, sp_d, sp_nd] at tail
        by_cases v1 : vdI R D u = 1
        · have hd := hp1 v1
          rw [if_pos v1, if_pos hd, if_neg (show ¬ vdI R D u = 2 by omega)]
          by_cases ct : chk R D u T = 0
          · rw [if_pos ct, if_pos v1]; exact tail
          · rw [if_neg ct]; exact tail
        · have ct : ¬ chk R D u T = 0 := fun hh => v1 (hp3 hh)
          rw [if_neg v1]
          by_cases v2 : vdI R D u = 2
          · have hd := hp2 v2
            rw [if_pos v2, if_neg hd, if_neg ct]
            exact tail
          · rw [if_neg v2, if_neg ct]
            exact tail
theorem claimProven_holds : Rows.ClaimProvenSaid := claimProven_of plain10
end Go.Proofs.Ythjkejbgknemgaa
