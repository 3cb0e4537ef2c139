/- The law RoadMore holds of every input. No condition: every theorem names its own hypotheses. -/
import Derived.Test.YthniebmammmacaaK4
import Derived.Test.YthniebmammmacaaRows
set_option linter.unusedVariables false
set_option linter.unusedSimpArgs false
set_option maxHeartbeats 4000000
namespace Go.Proofs.Ythniebmammmacaa
open Go.RowKit Classical
theorem p67_eq {k : Nat} (hk : Fu k) {P : Int} {R : List (List Int)} {W : List WT} {L : List Int} (hL : L.length ≤ 256) : p67 k P R W L = some (if ∀ x ∈ L, 0 ≤ x ∧ x < P then 0 else 3) := by
  unfold Fu at hk
  unfold p67 p85a p125a
  simp only [jn_v]
  rw [srchI0 (F := p125a_l1 k L P R W (some (-1))) (len := L.length) (n := k) (fun i => ¬ (0 ≤ L.getD i 0 ∧ L.getD i 0 < P)) (by omega)]
  · simp only [cl_v, lt_v]
    rw [fst_pos]
    by_cases h : ∀ x ∈ L, 0 ≤ x ∧ x < P
    · rw [dF, sp_ff, iT h]
      rintro ⟨j, a, b⟩; exact b (h _ (getD_mem a))
    · rw [dT, sp_tt, iF h]
      refine Classical.byContradiction fun h2 => h fun x hx => ?_
      obtain ⟨i, hi, rfl⟩ := mem_getD hx
      exact Classical.byContradiction fun h3 => h2 ⟨i, hi, h3⟩
  · intro n; rw [p125a_l1]; simp only [lt_v, sp_d]; rw [iF (by omega)]
  · intro n i hi
    rw [p125a_l1]
    unfold p117
    simp only [lt_v, sp_d, cl_v, jn_v]
    rw [iT (by omega), gd_v (by omega), Int.toNat_natCast, wr_succ hi (by omega)]
    by_cases h : L.getD i 0 < 0
    · exact .inl ⟨by omega, by rw [iT h, cl_v, sp_tt]⟩
    rw [iF h, cl_v, sp_d]
    by_cases h2 : L.getD i 0 ≥ P
    · exact .inl ⟨by omega, by rw [iT h2]⟩
    · exact .inr ⟨by omega, by rw [iF h2]⟩
def bitsF (m : Nat) : Nat → Nat → List Int
  | 0, _ => []
  | d + 1, i => if m.testBit i then (i : Int) :: bitsF m d (i + 1) else bitsF m d (i + 1)
def bitsL (m n : Nat) : List Int := bitsF m n 0
theorem mem_bitsF {m : Nat} : ∀ {d i : Nat} {x : Int}, x ∈ bitsF m d i ↔ ∃ j : Nat, i ≤ j ∧ j < i + d ∧ m.testBit j = true ∧ x = (j : Int)
  | 0, i, x => ⟨fun h => (by cases h), fun ⟨j, a, b, _⟩ => (by omega)⟩
  | d + 1, i, x => by
    rw [bitsF]
    have ih := mem_bitsF (m := m) (d := d) (i := i + 1) (x := x)
    constructor
    · intro h
      split at h
      · rename_i hb
        rcases List.mem_cons.1 h with e | e
        · exact ⟨i, Nat.le_refl _, by omega, hb, e⟩
        · obtain ⟨j, a, b, c⟩ := ih.1 e; exact ⟨j, by omega, by omega, c⟩
      · obtain ⟨j, a, b, c⟩ := ih.1 h; exact ⟨j, by omega, by omega, c⟩
    · rintro ⟨j, a, b, c, e⟩
      rcases Nat.eq_or_lt_of_le a with g | g
      · subst g; rw [if_pos c]; exact List.mem_cons.2 (.inl e)
      · have h3 := ih.2 ⟨j, g, by omega, c, e⟩
        split
        · exact List.mem_cons.2 (.inr h3)
        · exact h3
theorem mem_bitsL {m n : Nat} {x : Int} : x ∈ bitsL m n ↔ ∃ j : Nat, j < n ∧ m.testBit j = true ∧ x = (j : Int) := by
  unfold bitsL
  rw [mem_bitsF]
  constructor
  · rintro ⟨j, _, b, c⟩; exact ⟨j, by omega, c⟩
  · rintro ⟨j, b, c⟩; exact ⟨j, Nat.zero_le _, by omega, c⟩
theorem bitsF_len {m : Nat} : ∀ {d i : Nat}, (bitsF m d i).length ≤ d
  | 0, i => Nat.le_refl _
  | d + 1, i => by
    rw [bitsF]
    have := bitsF_len (m := m) (d := d) (i := i + 1)
    split
    · simp only [List.length_cons]; omega
    · omega
theorem bitsL_len {m n : Nat} : (bitsL m n).length ≤ n := bitsF_len
theorem bitsF_nil {m : Nat} : ∀ {d i : Nat}, m < 2 ^ i → bitsF m d i = []
  | 0, i, h => rfl
  | d + 1, i, h => by
    rw [bitsF]
    rw [Nat.testBit_lt_two_pow h, if_neg (by decide)]
    exact bitsF_nil (Nat.lt_of_lt_of_le h (Nat.pow_le_pow_right (by omega) (by omega)))
theorem wruN {a : Nat} (h : a < 2 ^ 64) : wr .u64 (a : Int) = (a : Int) := wru (by omega) (by omega)
theorem shr_eq {m i : Nat} (hi : i ≤ 64) : Int.fdiv (m : Int) (2 ^ (min ((i : Int)).toNat (IntKind.bits .u64))) = ((m >>> i : Nat) : Int) := by
  rw [Int.toNat_natCast, show min i (IntKind.bits .u64) = i from Nat.min_eq_left hi, Nat.shiftRight_eq_div_pow]
  rw [Int.fdiv_eq_ediv_of_nonneg _ (by exact Int.le_of_lt (Int.pow_pos (by omega)))]
  simp
theorem ofInt_nat {a : Nat} (h : a < 2 ^ 64) : (BitVec.ofInt (IntKind.bits .u64) (a : Int)).toNat = a := by
  show (BitVec.ofInt 64 (a : Int)).toNat = a
  simp [BitVec.toNat_ofInt]
  omega
theorem bor_nat {a b : Nat} (ha : a < 2 ^ 64) (hb : b < 2 ^ 64) : bor .u64 (a : Int) (b : Int) = ((a ||| b : Nat) : Int) := by
  unfold bor
  rw [BitVec.toNat_or, ofInt_nat ha, ofInt_nat hb]
theorem band_one {a : Nat} (ha : a < 2 ^ 64) : band .u64 (a : Int) 1 = ((a % 2 : Nat) : Int) := by
  unfold band
  have h := ofInt_nat (a := 1) (by decide)
  rw [show ((1 : Nat) : Int) = 1 from rfl] at h
  rw [BitVec.toNat_and, ofInt_nat ha, h, Nat.and_one_is_mod]
theorem p124_l1_eq {k m n : Nat} (hn : n ≤ 63) (hm : m < 2 ^ n) : ∀ (d i f : Nat), i + d = n → d < f → p124_l1 k (m : Int) f (i : Int) = some (bitsF m d i)
  | d, i, f + 1, h1, h2 => by
    have h64 : m < 2 ^ 64 := Nat.lt_of_lt_of_le hm (Nat.pow_le_pow_right (by omega) (by omega))
    rw [p124_l1]
    simp only [lt_v]
    rw [gd_v (by omega), shr_eq (by omega), gd_v (by omega)]
    have hle : m >>> i ≤ m := by rw [Nat.shiftRight_eq_div_pow]; exact Nat.div_le_self _ _
    rw [band_one (Nat.lt_of_le_of_lt hle h64), wru (by omega) (by omega), wr64 (by omega) (by omega)]
    rw [bne_d, beq_d, sp_d, sp_d]
    by_cases h0 : m >>> i = 0
    · rw [iF (by omega)]
      have : m < 2 ^ i := by
        rw [Nat.shiftRight_eq_div_pow] at h0
        rcases Nat.lt_or_ge m (2 ^ i) with a | a
        · exact a
        · have := Nat.div_pos a (Nat.two_pow_pos i); omega
      rw [bitsF_nil this]
    · rw [iT (by omega)]
      have hd : d ≠ 0 := by
        rintro rfl
        apply h0
        rw [Nat.shiftRight_eq_div_pow, show i = n from by omega]
        exact Nat.div_eq_of_lt hm
      obtain ⟨d', rfl⟩ : ∃ d', d = d' + 1 := ⟨d - 1, by omega⟩
      have ih := p124_l1_eq (k := k) hn hm d' (i + 1) f (by omega) (by omega)
      have hi1 : (i : Int) + 1 = ((i + 1 : Nat) : Int) := by omega
      rw [hi1, ih, cl_v]
      have ht : m.testBit i = decide (m >>> i % 2 = 1) := by
        rw [Nat.testBit_eq_decide_div_mod_eq, Nat.shiftRight_eq_div_pow]
      rw [bitsF]
      rw [ht]
      by_cases h3 : m >>> i % 2 = 1
      · rw [iT (by omega), dT h3, if_pos rfl]
      · rw [iF (by omega), dF h3, if_neg (by decide)]
theorem p79_eq {k m n : Nat} (hk : Fu k) (hn : n ≤ 63) (hm : m < 2 ^ n) : p79 k (m : Int) = some (bitsL m n) := by
  unfold Fu at hk
  unfold p79 p124
  have := p124_l1_eq (k := k) hn hm n 0 k (by omega) (by omega)
  rw [show ((0 : Nat) : Int) = 0 from rfl] at this
  rw [this]; rfl
theorem p131_eq {k : Nat} (hk : Fu k) {L : List Int} {x : Int} (hL : L.length ≤ 1152921504606846975) : p131 k L x = some (decide (x ∈ L)) := by
  unfold Fu at hk
  unfold p131 p142
  simp only [jn_v]
  rw [srchI0 (F := p142_l1 k L x (some (-1))) (len := L.length) (n := k) (fun i => L.getD i 0 = x) (by omega)]
  · simp only [cl_v, lt_v]
    rw [fst_pos]
    refine congrArg some (dI ⟨fun ⟨j, a, b⟩ => by rw [← b]; exact getD_mem a, fun h => mem_getD h⟩)
  · intro n; rw [p142_l1]; simp only [lt_v, sp_d]; rw [iF (by omega)]
  · intro n i hi
    rw [p142_l1]
    simp only [lt_v, sp_d, beq_d]
    rw [iT (by omega), gd_v (by omega), Int.toNat_natCast, wr_succ hi (by omega)]
    by_cases h : L.getD i 0 = x
    · exact .inl ⟨h, by rw [iT h.symm]⟩
    · exact .inr ⟨h, by rw [iF (fun h2 => h h2.symm)]⟩
noncomputable def limL (W : List WT) (i k : Int) : List Int → Int → Int
  | [], a => a
  | x :: S, a => limL W i k S (if wM (wk W x.toNat) = k ∧ i ∈ (wk W x.toNat).1 then max a (wL (wk W x.toNat)) else a)
noncomputable def lim (R : List (List Int)) (W : List WT) (S : List Int) (i k : Nat) : Int := limL W (i : Int) (k : Int) S ((rd R i).getD (6 + k) 0)
def sOk (W : List WT) (S : List Int) : Prop := ∀ x ∈ S, 0 ≤ x ∧ x < (W.length : Int)
def wOk (W : List WT) : Prop := ∀ i, i < W.length → (wk W i).1.length ≤ 1152921504606846975
theorem p119_r1_eq {k : Nat} (hk : Fu k) {W : List WT} {i kk : Int} {j : Int → Option Int} (hw : wOk W) : ∀ {S : List Int} {a : Int}, sOk W S → p119_r1 k j W i kk S a = j (limL W i kk S a)
  | [], a, _ => rfl
  | x :: S, a, hs => by
    have hx := hs x List.mem_cons_self
    have ih := fun a => p119_r1_eq hk (W := W) (i := i) (kk := kk) (j := j) hw (S := S) (a := a) (fun y hy => hs y (List.mem_cons_of_mem _ hy))
    rw [p119_r1]
    simp only [lt_v, jn_v, beq_d, mx_eq]
    have hd : W.getD x.toNat ([], []) = wk W x.toNat := rfl
    rw [gd_v (by omega), hd, p131_eq hk (hw x.toNat (by omega))]
    simp only [sp_d, cl_v, ih, sp_ff]
    rw [limL]
    by_cases h1 : wM (wk W x.toNat) = kk
    · rw [show (wk W x.toNat).2.getD 0 0 = wM (wk W x.toNat) from rfl, iT h1]
      by_cases h2 : i ∈ (wk W x.toNat).1
      · rw [iT h2, iT ⟨h1, h2⟩]; rfl
      · rw [iF h2, iF (fun h => h2 h.2)]
    · rw [show (wk W x.toNat).2.getD 0 0 = wM (wk W x.toNat) from rfl, iF h1, iF (fun h => h1 h.1)]
theorem p119_eq {k m n : Nat} (hk : Fu k) {P : Int} {R : List (List Int)} {W : List WT} {z : List Int} {i kk : Nat} (hw : wOk W) (hn : n ≤ 63) (hm : m < 2 ^ n) (hnW : n ≤ W.length) (hi : i < R.length) (hkk : kk < 6) :
    p119 k P R W z (m : Int) (i : Int) (kk : Int) = some (lim R W (bitsL m n) i kk) := by
  unfold p119
  simp only [lt_v, jn_v]
  rw [gd_v (by omega), gd_v (by omega), p79_eq hk hn hm, cl_v, p119_r1_eq hk hw]
  · simp only [Int.toNat_natCast, Nat.mul_one]; rfl
  · intro x hx
    obtain ⟨j, a, _, rfl⟩ := mem_bitsL.1 hx
    omega
noncomputable def cau (R : List (List Int)) (W : List WT) (z S : List Int) (i : Nat) : Nat → Nat → List (List Int)
  | 0, _ => []
  | d + 1, k => if z.getD k 0 > lim R W S i k then [(i : Int), (k : Int), lim R W S i k, z.getD k 0] :: cau R W z S i d (k + 1) else cau R W z S i d (k + 1)
def us (R : List (List Int)) (W : List WT) (z S : List Int) (i : Nat) : Prop := ∀ k, k < 6 → z.getD k 0 ≤ lim R W S i k
theorem cau_nil {R W z S i} : ∀ {d k : Nat}, cau R W z S i d k = [] ↔ ∀ j, k ≤ j → j < k + d → z.getD j 0 ≤ lim R W S i j
  | 0, k => ⟨fun _ => by intros; omega, fun _ => rfl⟩
  | d + 1, k => by
    rw [cau]
    have ih := cau_nil (R := R) (W := W) (z := z) (S := S) (i := i) (d := d) (k := k + 1)
    split
    · rename_i h
      constructor
      · intro h; cases h
      · intro h2; have := h2 k (Nat.le_refl _) (by omega); omega
    · rename_i h
      rw [ih]
      constructor
      · intro h2 j a b
        rcases Nat.eq_or_lt_of_le a with e | e
        · subst e; omega
        · exact h2 j e (by omega)
      · intro h2 j a b; exact h2 j (by omega) (by omega)
theorem us_cau {R W z S i} : cau R W z S i 6 0 = [] ↔ us R W z S i := by
  rw [cau_nil]
  exact ⟨fun h k hk => h k (Nat.zero_le _) (by omega), fun h j _ b => h j (by omega)⟩
theorem p118_l1_eq {k m n : Nat} (hk : Fu k) {P : Int} {R : List (List Int)} {W : List WT} {z : List Int} {i : Nat} (hw : wOk W) (hn : n ≤ 63) (hm : m < 2 ^ n) (hnW : n ≤ W.length) (hi : i < R.length) : ∀ (d q f : Nat), q + d = 6 → d < f →
    p118_l1 k P R W z (m : Int) (i : Int) f (q : Int) = some (cau R W z (bitsL m n) i d q)
  | 0, q, f, h1, h2 => by
    obtain ⟨f, rfl⟩ : ∃ n', f = n' + 1 := ⟨f - 1, by omega⟩
    rw [p118_l1]
    simp only [lt_v, sp_d]
    rw [iF (by omega)]
    rfl
  | d + 1, q, f, h1, h2 => by
    obtain ⟨f, rfl⟩ : ∃ n', f = n' + 1 := ⟨f - 1, by omega⟩
    have ih := p118_l1_eq hk (P := P) (R := R) (W := W) (z := z) (i := i) hw hn hm hnW hi d (q + 1) f (by omega) (by omega)
    rw [p118_l1]
    simp only [lt_v, sp_d]
    rw [iT (by omega), gd_v (by omega), p119_eq hk hw hn hm hnW hi (by omega), cl_v, wr_succ (n := 6) (by omega) (by omega), ih, cl_v, Int.toNat_natCast]
    conv => rhs; rw [cau]
    by_cases h : z.getD q 0 > lim R W (bitsL m n) i q
    · rw [iT h, iT h]
    · rw [iF h, iF h]
theorem p71_eq {k m n : Nat} (hk : Fu k) {P : Int} {R : List (List Int)} {W : List WT} {z : List Int} {i : Nat} (hw : wOk W) (hn : n ≤ 63) (hm : m < 2 ^ n) (hnW : n ≤ W.length) (hi : i < R.length) :
    p71 k P R W z (m : Int) (i : Int) = some (cau R W z (bitsL m n) i 6 0) := by
  unfold p71 p118
  have := p118_l1_eq (k := k) hk (P := P) (R := R) (W := W) (z := z) (i := i) hw hn hm hnW hi 6 0 k (by omega) (by unfold Fu at hk; omega)
  rw [show ((0 : Nat) : Int) = 0 from rfl] at this
  rw [this]; rfl
theorem p55_eq {k m n : Nat} (hk : Fu k) {P : Int} {R : List (List Int)} {W : List WT} {z : List Int} {i : Nat} (hw : wOk W) (hn : n ≤ 63) (hm : m < 2 ^ n) (hnW : n ≤ W.length) (hi : i < R.length) :
    p55 k P R W z (m : Int) (i : Int) = some (decide (us R W z (bitsL m n) i)) := by
  unfold p55
  rw [p71_eq hk hw hn hm hnW hi]
  simp only [cl_v, jn_v]
  by_cases h : us R W z (bitsL m n) i
  · rw [us_cau.2 h, dT h]; rfl
  · rw [dF h]
    cases hc : cau R W z (bitsL m n) i 6 0 with
    | nil => exact absurd (us_cau.1 hc) h
    | cons a b => rfl
def costL (W : List WT) : List Int → Int
  | [] => 0
  | x :: S => wC (wk W x.toNat) + costL W S
def wcOk (W : List WT) : Prop := ∀ i, i < W.length → 1 ≤ wC (wk W i) ∧ wC (wk W i) ≤ 1073741824
theorem costL_le {W : List WT} (hc : wcOk W) : ∀ {S : List Int}, sOk W S → 0 ≤ costL W S ∧ costL W S ≤ 1073741824 * (S.length : Int)
  | [], _ => by simp [costL]
  | x :: S, hs => by
    have hx := hs x List.mem_cons_self
    have h1 := hc x.toNat (by omega)
    have := costL_le hc (S := S) (fun y hy => hs y (List.mem_cons_of_mem _ hy))
    simp only [costL, List.length_cons]
    omega
theorem p77_r1_eq {k : Nat} {W : List WT} {j : Int → Option Int} (hc : wcOk W) : ∀ {S : List Int} {a : Int}, sOk W S → 0 ≤ a → a + 1073741824 * (S.length : Int) ≤ 9223372036854775807 → p77_r1 k j W S a = j (a + costL W S)
  | [], a, _, _, _ => by simp [p77_r1, costL]
  | x :: S, a, hs, h0, h1 => by
    have hx := hs x List.mem_cons_self
    have h2 := hc x.toNat (by omega)
    have h3 : W.getD x.toNat ([], []) = wk W x.toNat := rfl
    have h4 : (wk W x.toNat).2.getD 2 0 = wC (wk W x.toNat) := rfl
    rw [List.length_cons] at h1
    rw [p77_r1]
    simp only [lt_v]
    rw [gd_v (by omega), h3, h4, wr64 (by omega) (by omega), p77_r1_eq hc (fun y hy => hs y (List.mem_cons_of_mem _ hy)) (by omega) (by omega)]
    simp only [costL]
    rw [Int.add_assoc]
theorem p77_eq {k m n : Nat} (hk : Fu k) {P : Int} {R : List (List Int)} {W : List WT} {z : List Int} (hc : wcOk W) (hn : n ≤ 63) (hm : m < 2 ^ n) (hnW : n ≤ W.length) : p77 k P R W z (m : Int) = some (costL W (bitsL m n)) := by
  unfold p77
  rw [p79_eq hk hn hm, cl_v, jn_v, p77_r1_eq hc, Int.zero_add]
  · intro x hx
    obtain ⟨j, a, _, rfl⟩ := mem_bitsL.1 hx
    omega
  · omega
  · have := bitsL_len (m := m) (n := n); omega
end Go.Proofs.Ythniebmammmacaa
namespace Go.Proofs.Ythniebmammmacaa
open Go.RowKit Classical
def far : Int := 1125899906842624
def sumN : List Int → Nat
  | [] => 0
  | x :: L => x.toNat + sumN L
theorem sumN_set : ∀ {L : List Int} {y : Nat} {v : Int}, y < L.length → sumN (L.set y v) + (L.getD y 0).toNat = sumN L + v.toNat
  | x :: L, 0, v, _ => by simp only [List.set_cons_zero, sumN, List.getD_cons_zero]; omega
  | x :: L, y + 1, v, h => by
    have := sumN_set (L := L) (y := y) (v := v) (by simpa using h)
    simp only [List.set_cons_succ, sumN, List.getD_cons_succ]; omega
theorem sumN_le {B : Nat} : ∀ {L : List Int}, (∀ i, i < L.length → L.getD i 0 ≤ (B : Int)) → sumN L ≤ L.length * B
  | [], _ => by simp [sumN]
  | x :: L, h => by
    have h0 := h 0 (by simp)
    have := sumN_le (L := L) (fun i hi => by have := h (i + 1) (by simpa using hi); simpa using this)
    simp only [List.getD_cons_zero] at h0
    simp only [sumN, List.length_cons, Nat.add_mul, Nat.one_mul]
    omega
theorem getD_setI {L : List Int} {i j : Nat} {v : Int} (hi : i < L.length) : (L.set i v).getD j 0 = if i = j then v else L.getD j 0 := by
  rw [List.getD_eq_getElem?_getD, List.getElem?_set, List.getD_eq_getElem?_getD]
  by_cases h : i = j
  · subst h; simp [hi]
  · simp [h]
noncomputable def cnt (p : Nat → Prop) : Nat → Nat
  | 0 => 0
  | n + 1 => cnt p n + if p n then 1 else 0
theorem cnt_le {p : Nat → Prop} : ∀ {n}, cnt p n ≤ n
  | 0 => Nat.le_refl _
  | n + 1 => by have := cnt_le (p := p) (n := n); unfold cnt; split <;> omega
theorem cnt_mono {p q : Nat → Prop} (h : ∀ i, p i → q i) : ∀ {n}, cnt p n ≤ cnt q n
  | 0 => Nat.le_refl _
  | n + 1 => by
    have := cnt_mono h (n := n)
    unfold cnt
    by_cases hp : p n
    · rw [if_pos hp, if_pos (h n hp)]; omega
    · rw [if_neg hp]; omega
theorem cnt_lt {p q : Nat → Prop} (h : ∀ i, p i → q i) {j : Nat} (hq : q j) (hp : ¬ p j) : ∀ {n}, j < n → cnt p n < cnt q n
  | n + 1, hj => by
    unfold cnt
    rcases Nat.eq_or_lt_of_le (Nat.le_of_lt_succ hj) with e | e
    · subst e
      have := cnt_mono h (n := j)
      rw [if_neg hp, if_pos hq]; omega
    · have := cnt_lt h hq hp e
      by_cases hp : p n
      · rw [if_pos hp, if_pos (h n hp)]; omega
      · rw [if_neg hp]; omega
structure Edges where
  n : Nat
  P : Nat
  st : Nat
  X : Nat → Nat
  Y : Nat → Nat
  C : Nat → Int
structure EOk (E : Edges) : Prop where
  pm : E.P ≤ 64
  st : E.st < E.P
  x : ∀ i, i < E.n → E.X i < E.P
  y : ∀ i, i < E.n → E.Y i < E.P
  ne : ∀ i, i < E.n → E.X i ≠ E.Y i
  c : ∀ i, i < E.n → 0 ≤ E.C i → 1 ≤ E.C i ∧ E.C i ≤ 17179869184
def Cond (E : Edges) (L : List Int) (i : Nat) : Prop := 0 ≤ E.C i ∧ L.getD (E.X i) 0 < far ∧ L.getD (E.X i) 0 + E.C i < L.getD (E.Y i) 0
structure DInv (E : Edges) (L : List Int) : Prop where
  len : L.length = E.P
  rng : ∀ v, v < E.P → 0 ≤ L.getD v 0 ∧ L.getD v 0 ≤ far
  zero : L.getD E.st 0 = 0
  pre : ∀ v, v < E.P → v ≠ E.st → L.getD v 0 < far → ∃ i, i < E.n ∧ 0 ≤ E.C i ∧ E.Y i = v ∧ L.getD (E.X i) 0 < far ∧ L.getD (E.X i) 0 + E.C i ≤ L.getD v 0
theorem DInv.step {E : Edges} (he : EOk E) {L : List Int} (h : DInv E L) {i : Nat} (hi : i < E.n) (hc : Cond E L i) :
    DInv E (L.set (E.Y i) (L.getD (E.X i) 0 + E.C i)) ∧ sumN (L.set (E.Y i) (L.getD (E.X i) 0 + E.C i)) < sumN L := by
  obtain ⟨c0, c1, c2⟩ := hc
  have hx := he.x i hi
  have hy := he.y i hi
  have hne := he.ne i hi
  have hC := he.c i hi c0
  have rx := h.rng _ hx
  have ry := h.rng _ hy
  have hyl : E.Y i < L.length := by rw [h.len]; exact hy
  have hst : E.Y i ≠ E.st := by intro e; rw [e, h.zero] at c2; omega
  have hs := sumN_set (L := L) (v := L.getD (E.X i) 0 + E.C i) hyl
  refine ⟨⟨by rw [List.length_set]; exact h.len, fun v hv => ?_, ?_, fun v hv hvs hvf => ?_⟩, by omega⟩
  · rw [getD_setI hyl]
    split
    · omega
    · exact h.rng v hv
  · rw [getD_setI hyl, if_neg hst]; exact h.zero
  · rw [getD_setI hyl] at hvf ⊢
    by_cases e : E.Y i = v
    · subst e
      rw [if_pos rfl]
      refine ⟨i, hi, c0, rfl, ?_, ?_⟩
      · rw [getD_setI hyl, if_neg (Ne.symm hne)]; exact c1
      · rw [getD_setI hyl, if_neg (Ne.symm hne)]; exact Int.le_refl _
    · rw [if_neg e] at hvf ⊢
      obtain ⟨j, a, b, c, d, f⟩ := h.pre v hv hvs hvf
      refine ⟨j, a, b, c, ?_, ?_⟩
      · rw [getD_setI hyl]; split
        · omega
        · exact d
      · rw [getD_setI hyl]; split
        · rename_i e2; rw [← e2] at f; omega
        · exact f
structure Dist (E : Edges) (L : List Int) : Prop extends DInv E L where
  fix : ∀ i, i < E.n → ¬ Cond E L i
inductive Wk (E : Edges) : Nat → Int → Prop
  | nil : Wk E E.st 0
  | cons {i : Nat} {a : Int} : i < E.n → 0 ≤ E.C i → Wk E (E.X i) a → Wk E (E.Y i) (a + E.C i)
theorem Wk.nn {E : Edges} (he : EOk E) {v : Nat} {a : Int} (h : Wk E v a) : 0 ≤ a := by
  induction h with
  | nil => exact Int.le_refl _
  | cons hi hc _ ih => have := he.c _ hi hc; omega
theorem Wk.lt {E : Edges} (he : EOk E) {v : Nat} {a : Int} (h : Wk E v a) : v < E.P := by
  cases h with
  | nil => exact he.st
  | cons hi hc _ => exact he.y _ hi
theorem Dist.edge {E : Edges} (he : EOk E) {L : List Int} (h : Dist E L) {i : Nat} (hi : i < E.n) (hc : 0 ≤ E.C i) (hf : L.getD (E.X i) 0 < far) : L.getD (E.Y i) 0 ≤ L.getD (E.X i) 0 + E.C i := by
  rcases Int.lt_or_le (L.getD (E.X i) 0 + E.C i) (L.getD (E.Y i) 0) with a | a
  · exact absurd ⟨hc, hf, a⟩ (h.fix i hi)
  · exact a
theorem Dist.low {E : Edges} (he : EOk E) {L : List Int} (h : Dist E L) {v : Nat} {a : Int} (hw : Wk E v a) : L.getD v 0 ≤ a := by
  induction hw with
  | nil => rw [h.zero]; exact Int.le_refl _
  | cons hi hc hw ih =>
    have r := h.rng _ (he.x _ hi)
    have r2 := h.rng _ (he.y _ hi)
    rcases Int.lt_or_le (L.getD (E.X _) 0) far with g | g
    · have := h.edge he hi hc g; omega
    · have := he.c _ hi hc; omega
theorem Dist.prev {E : Edges} (he : EOk E) {L : List Int} (h : Dist E L) {v : Nat} (hv : v < E.P) (hs : v ≠ E.st) (hf : L.getD v 0 < far) :
    ∃ i, i < E.n ∧ 0 ≤ E.C i ∧ E.Y i = v ∧ L.getD v 0 = E.C i + L.getD (E.X i) 0 := by
  obtain ⟨i, a, b, c, d, f⟩ := h.pre v hv hs hf
  have := h.edge he a b d
  rw [c] at this
  exact ⟨i, a, b, c, by omega⟩
theorem Dist.way {E : Edges} (he : EOk E) {L : List Int} (h : Dist E L) : ∀ (n : Nat) {v : Nat}, v < E.P → (L.getD v 0).toNat < n → L.getD v 0 < far → Wk E v (L.getD v 0)
  | n + 1, v, hv, hn, hf => by
    by_cases hs : v = E.st
    · subst hs; rw [h.zero]; exact .nil
    · obtain ⟨i, a, b, c, d⟩ := h.prev he hv hs hf
      have hC := he.c i a b
      have rx := h.rng _ (he.x i a)
      have := h.way he n (he.x i a) (by omega) (by omega)
      have := Wk.cons a b this
      rw [c] at this
      rw [d, Int.add_comm]
      exact this
theorem Dist.bound {E : Edges} (he : EOk E) {L : List Int} (h : Dist E L) : ∀ (n : Nat) {v : Nat}, v < E.P → (L.getD v 0).toNat < n → L.getD v 0 < far → L.getD v 0 ≤ 17179869184 * (cnt (fun u => L.getD u 0 < L.getD v 0) E.P : Int)
  | n + 1, v, hv, hn, hf => by
    by_cases hs : v = E.st
    · subst hs; rw [h.zero]; omega
    · obtain ⟨i, a, b, c, d⟩ := h.prev he hv hs hf
      have hC := he.c i a b
      have rx := h.rng _ (he.x i a)
      have h1 := h.bound he n (he.x i a) (by omega) (by omega)
      have h2 := cnt_lt (p := fun u => L.getD u 0 < L.getD (E.X i) 0) (q := fun u => L.getD u 0 < L.getD v 0) (fun u (hu : L.getD u 0 < L.getD (E.X i) 0) => by show L.getD u 0 < L.getD v 0; omega) (j := E.X i) (by show L.getD (E.X i) 0 < L.getD v 0; omega) (by show ¬ L.getD (E.X i) 0 < L.getD (E.X i) 0; omega) (he.x i a)
      omega
theorem Dist.fin {E : Edges} (he : EOk E) {L : List Int} (h : Dist E L) {v : Nat} (hv : v < E.P) (hf : L.getD v 0 < far) : L.getD v 0 ≤ 1099511627776 := by
  have h1 := h.bound he _ hv (Nat.lt_succ_self _) hf
  have h2 := cnt_le (p := fun u => L.getD u 0 < L.getD v 0) (n := E.P)
  have := he.pm
  omega
theorem Dist.reach {E : Edges} (he : EOk E) {L : List Int} (h : Dist E L) {v : Nat} {a : Int} (hw : Wk E v a) : L.getD v 0 < far := by
  induction hw with
  | nil => rw [h.zero]; decide
  | cons hi hc hw ih =>
    have h1 := h.fin he (he.x _ hi) ih
    have h2 := h.edge he hi hc ih
    have h3 := he.c _ hi hc
    unfold far; omega
theorem Dist.unique {E : Edges} (he : EOk E) {L L' : List Int} (h : Dist E L) (h' : Dist E L') : L = L' := by
  apply List.ext_getElem
  · rw [h.len, h'.len]
  · intro v h1 h2
    have hv : v < E.P := by rw [← h.len]; exact h1
    have e1 : L.getD v 0 = L[v] := by simp [List.getD_eq_getElem?_getD, h1]
    have e2 : L'.getD v 0 = L'[v] := by simp [List.getD_eq_getElem?_getD, h2]
    rw [← e1, ← e2]
    have r := h.rng v hv
    have r' := h'.rng v hv
    rcases Int.lt_or_le (L.getD v 0) far with g | g
    · have w := h.way he _ hv (Nat.lt_succ_self _) g
      have g' := h'.reach he w
      have w' := h'.way he _ hv (Nat.lt_succ_self _) g'
      have := h.low he w'
      have := h'.low he w
      omega
    · rcases Int.lt_or_le (L'.getD v 0) far with g' | g'
      · have w' := h'.way he _ hv (Nat.lt_succ_self _) g'
        have := h.reach he w'
        omega
      · omega
theorem DInv.start {E : Edges} (he : EOk E) {L : List Int} (hl : L.length = E.P) (hz : L.getD E.st 0 = 0) (hf : ∀ v, v < E.P → v ≠ E.st → L.getD v 0 = far) : DInv E L := by
  refine ⟨hl, fun v hv => ?_, hz, fun v hv hs hlt => ?_⟩
  · by_cases e : v = E.st
    · subst e; rw [hz]; decide
    · rw [hf v hv e]; decide
  · rw [hf v hv hs] at hlt; exact absurd hlt (by omega)
structure Pass (E : Edges) (L0 : List Int) (i : Nat) (b : Bool) (L : List Int) : Prop where
  inv : DInv E L
  t : b = true → sumN L < sumN L0
  f : b = false → L = L0 ∧ ∀ j, j < i → ¬ Cond E L0 j
theorem Pass.hit {E : Edges} (he : EOk E) {L0 L : List Int} {i : Nat} {b : Bool} (h : Pass E L0 i b L) (hi : i < E.n) (hc : Cond E L i) : Pass E L0 (i + 1) true (L.set (E.Y i) (L.getD (E.X i) 0 + E.C i)) := by
  obtain ⟨h1, h2⟩ := h.inv.step he hi hc
  refine ⟨h1, fun _ => ?_, fun e => (by cases e)⟩
  cases b with
  | true => have := h.t rfl; omega
  | false => have := (h.f rfl).1; subst this; exact h2
theorem Pass.miss {E : Edges} {L0 L : List Int} {i : Nat} {b : Bool} (h : Pass E L0 i b L) (hc : ¬ Cond E L i) : Pass E L0 (i + 1) b L := by
  refine ⟨h.inv, h.t, fun e => ?_⟩
  obtain ⟨h1, h2⟩ := h.f e
  refine ⟨h1, fun j hj => ?_⟩
  rcases Nat.eq_or_lt_of_le (Nat.le_of_lt_succ hj) with e | e
  · subst e; subst h1; exact hc
  · exact h2 j e
end Go.Proofs.Ythniebmammmacaa
namespace Go.Proofs.Ythniebmammmacaa
open Go.RowKit Classical
theorem MapOk.wOk {P R W} (h : MapOk P R W) : wOk W := fun i hi => by have := h.w16 i hi; omega
theorem MapOk.wcOk {P R W} (h : MapOk P R W) : wcOk W := fun i hi => (h.work i hi).co
inductive Pth (R : List (List Int)) (U : Nat → Prop) : Nat → Nat → Int → Prop
  | nil (v : Nat) : Pth R U v v 0
  | cons {i v : Nat} {a : Int} : i < R.length → U i → Pth R U (rT (rd R i)).toNat v a → Pth R U (rF (rd R i)).toNat v (a + rC (rd R i))
theorem Pth.mono {R U U'} (h : ∀ i, i < R.length → U i → U' i) {u v a} (hp : Pth R U u v a) : Pth R U' u v a := by
  induction hp with
  | nil v => exact .nil v
  | cons hi hu _ ih => exact .cons hi (h _ hi hu) ih
def EG (P : Int) (R : List (List Int)) (c : Nat → Int) (st : Nat) (bw : Bool) : Edges :=
  { n := R.length, P := P.toNat, st := st, X := fun i => if bw then (rT (rd R i)).toNat else (rF (rd R i)).toNat, Y := fun i => if bw then (rF (rd R i)).toNat else (rT (rd R i)).toNat, C := c }
structure COk (R : List (List Int)) (c : Nat → Int) : Prop where
  b : ∀ i, i < R.length → 0 ≤ c i → 1 ≤ c i ∧ c i ≤ 17179869184
  l : ∀ i, i < R.length → -1 ≤ c i
theorem EG_ok {P R W} (h : MapOk P R W) {c : Nat → Int} (hc : COk R c) {st : Nat} (hs : st < P.toNat) {bw : Bool} : EOk (EG P R c st bw) := by
  have hp := h.places
  have key : ∀ i, i < R.length → (rF (rd R i)).toNat < P.toNat ∧ (rT (rd R i)).toNat < P.toNat ∧ (rF (rd R i)).toNat ≠ (rT (rd R i)).toNat := by
    intro i hi
    have := (h.road i hi).ar
    unfold RoadA at this
    omega
  refine ⟨by show P.toNat ≤ 64; omega, hs, fun i hi => ?_, fun i hi => ?_, fun i hi => ?_, fun i hi h0 => hc.b i hi h0⟩
  · have := key i hi
    cases bw
    · exact this.1
    · exact this.2.1
  · have := key i hi
    cases bw
    · exact this.2.1
    · exact this.1
  · have := key i hi
    cases bw
    · exact this.2.2
    · exact Ne.symm this.2.2
noncomputable def cst (R : List (List Int)) (U : Nat → Prop) (i : Nat) : Int := if U i then rC (rd R i) else -1
theorem cst_ok {P R W} (h : MapOk P R W) {U : Nat → Prop} : COk R (cst R U) := by
  constructor
  · intro i hi h0
    unfold cst at h0 ⊢
    have := (h.road i hi).ar
    unfold RoadA at this
    by_cases hu : U i
    · rw [if_pos hu]; omega
    · rw [if_neg hu] at h0; omega
  · intro i hi
    unfold cst
    have := (h.road i hi).ar
    unfold RoadA at this
    split <;> omega
theorem cst_nn {R : List (List Int)} {U : Nat → Prop} {i : Nat} (h : 0 ≤ cst R U i) : U i ∧ cst R U i = rC (rd R i) := by
  unfold cst at h ⊢
  by_cases hu : U i
  · exact ⟨hu, if_pos hu⟩
  · rw [if_neg hu] at h; exact absurd h (by decide)
theorem cst_us {P R W} (h : MapOk P R W) {U : Nat → Prop} {i : Nat} (hi : i < R.length) (hu : U i) : 0 ≤ cst R U i ∧ cst R U i = rC (rd R i) := by
  have := (h.road i hi).ar
  unfold RoadA at this
  unfold cst
  rw [if_pos hu]
  exact ⟨by omega, rfl⟩
theorem Wk_bw {P R W} (h : MapOk P R W) {U : Nat → Prop} {st v : Nat} {a : Int} : Wk (EG P R (cst R U) st true) v a ↔ Pth R U v st a := by
  constructor
  · intro hw
    induction hw with
    | nil => exact .nil _
    | @cons i a hi hc _ ih =>
      obtain ⟨hu, e⟩ := cst_nn hc
      show Pth R U (rF (rd R i)).toNat st (a + cst R U i)
      rw [e]
      exact .cons hi hu ih
  · intro hp
    induction hp with
    | nil v => exact .nil
    | @cons i v a hi hu _ ih =>
      obtain ⟨h0, e⟩ := cst_us h hi hu
      have := Wk.cons (E := EG P R (cst R U) v true) (i := i) hi h0 ih
      rw [← e]
      exact this
theorem p122_eq {k m n : Nat} (hk : Fu k) {P : Int} {R : List (List Int)} {W : List WT} {z : List Int} {i : Nat} (hw : wOk W) (hn : n ≤ 63) (hm : m < 2 ^ n) (hnW : n ≤ W.length) (hi : i < R.length) :
    p122 k (i : Int) P R W z (m : Int) = some (cst R (us R W z (bitsL m n)) i) := by
  unfold p122 cst
  rw [p55_eq hk hw hn hm hnW hi, cl_v, sp_d, gd_v (by omega)]
  simp only [lt_v, Int.toNat_natCast]
  by_cases h : us R W z (bitsL m n) i
  · rw [iT h, iT h]; rfl
  · rw [iF h, iF h]
theorem p75a_l1_eq {k n : Nat} {W4 L : List Int} {j : List Int → Option (List Int)} (hn : W4.length < n) (hl : W4.length ≤ 1000000) (hL : L.length = W4.length) : p75a_l1 k j W4 n 0 L = j (List.replicate W4.length far) := by
  have hx := loop0 (F := fun n x s => p75a_l1 k j W4 n x s) (len := W4.length) (n := n) (J := j) (fun i L => L.length = W4.length ∧ ∀ v, v < i → L.getD v 0 = far) L hn ⟨hL, by intros; omega⟩ ?_ ?_
  · obtain ⟨s', h1, h2⟩ := hx
    rw [h2]
    congr 1
    apply List.ext_getElem
    · rw [h1.1, List.length_replicate]
    · intro v a b
      have := h1.2 v (by omega)
      rw [List.getD_eq_getElem?_getD, List.getElem?_eq_getElem a] at this
      rw [List.getElem_replicate]; exact this
  · intro n s _
    show p75a_l1 k j W4 (n + 1) (W4.length : Int) s = j s
    rw [p75a_l1]; simp only [lt_v, sp_d]; rw [iF (by omega)]
  · intro n i s hi hs
    refine ⟨s.set i far, ⟨by rw [List.length_set]; exact hs.1, fun v hv => ?_⟩, ?_⟩
    · rw [getD_setI (by omega)]
      split
      · rfl
      · exact hs.2 v (by omega)
    · show p75a_l1 k j W4 (n + 1) (i : Int) s = p75a_l1 k j W4 n ((i + 1 : Nat) : Int) (s.set i far)
      rw [p75a_l1]; simp only [lt_v, sp_d]; rw [iT (by omega), gd_v (by omega), wr_succ hi (by omega), Int.toNat_natCast]; rfl
theorem p75a_l2_eq {k n : Nat} {P : Int} {R : List (List Int)} {W : List WT} {z : List Int} {m : Int} {W17 : List Int} {c : Nat → Int} {j : List Int → Option (List Int)} (hn : W17.length < n) (hl : W17.length ≤ 1000000) (hc : ∀ i : Nat, i < W17.length → p122 k (i : Int) P R W z m = some (c i)) :
    ∃ C : List Int, (C.length = W17.length ∧ ∀ i, i < W17.length → C.getD i 0 = c i) ∧ p75a_l2 k P R W z m j W17 n 0 W17 = j C := by
  refine loop0 (F := fun n x s => p75a_l2 k P R W z m j W17 n x s) (len := W17.length) (n := n) (J := j) (fun i L => L.length = W17.length ∧ ∀ v, v < i → L.getD v 0 = c v) W17 hn ⟨rfl, by intros; omega⟩ ?_ ?_
  · intro n s _
    show p75a_l2 k P R W z m j W17 (n + 1) (W17.length : Int) s = j s
    rw [p75a_l2]; simp only [lt_v, sp_d]; rw [iF (by omega)]
  · intro n i s hi hs
    refine ⟨s.set i (c i), ⟨by rw [List.length_set]; exact hs.1, fun v hv => ?_⟩, ?_⟩
    · rw [getD_setI (by omega)]
      split
      · rename_i e; rw [e]
      · exact hs.2 v (by omega)
    · show p75a_l2 k P R W z m j W17 (n + 1) (i : Int) s = p75a_l2 k P R W z m j W17 n ((i + 1 : Nat) : Int) (s.set i (c i))
      rw [p75a_l2]; simp only [lt_v, sp_d]; rw [iT (by omega), hc i hi, cl_v, gd_v (by omega), wr_succ hi (by omega), Int.toNat_natCast]
theorem p75a_l4_eq {k n : Nat} {P : Int} {R : List (List Int)} {W : List WT} (h : MapOk P R W) {c : Nat → Int} (hc : COk R c) {C L0 : List Int} (hC : C.length = R.length) (hCc : ∀ i, i < R.length → C.getD i 0 = c i)
    {st : Nat} (hs : st < P.toNat) {bw : Bool} {j : Bool → Bool → List Int → Option (List Int)} (hn : R.length < n) (hI : DInv (EG P R c st bw) L0) :
    ∃ s : Bool × List Int, Pass (EG P R c st bw) L0 R.length s.1 s.2 ∧ p75a_l4 k R C j n bw false 0 L0 = j bw s.1 s.2 := by
  have he := EG_ok h hc hs (bw := bw)
  have h256 := h.r256
  refine loop0 (F := fun n x (s : Bool × List Int) => p75a_l4 k R C j n bw s.1 x s.2) (len := R.length) (n := n) (J := fun s => j bw s.1 s.2) (fun i s => Pass (EG P R c st bw) L0 i s.1 s.2) (false, L0) hn ⟨hI, fun e => (by cases e), fun _ => ⟨rfl, by intros; omega⟩⟩ ?_ ?_
  · intro n s _
    show p75a_l4 k R C j (n + 1) bw s.1 (R.length : Int) s.2 = j bw s.1 s.2
    rw [p75a_l4]; simp only [lt_v, sp_d]; rw [iF (by omega)]
  · rintro n i ⟨b, L⟩ hi hp
    show ∃ s' : Bool × List Int, _ ∧ p75a_l4 k R C j (n + 1) bw b (i : Int) L = p75a_l4 k R C j n bw s'.1 ((i + 1 : Nat) : Int) s'.2
    have hp' : Pass (EG P R c st bw) L0 i b L := hp
    have hlen : L.length = P.toNat := hp'.inv.len
    have hx : (EG P R c st bw).X i < L.length := by rw [hlen]; exact he.x i hi
    have hy : (EG P R c st bw).Y i < L.length := by rw [hlen]; exact he.y i hi
    have rx := hp'.inv.rng _ (he.x i hi)
    have hr := (h.road i hi).ar
    unfold RoadA at hr
    have hcb := hc.b i hi
    have hcl := hc.l i hi
    have hfar : far = 1125899906842624 := rfl
    -- the step, told by the edge's ends
    have key : ∀ (x y : Int), x.toNat = (EG P R c st bw).X i → y.toNat = (EG P R c st bw).Y i → 0 ≤ x → 0 ≤ y → 0 ≤ c i →
        (gd ((0 : Int) ≤ x ∧ x < (List.length L : Int)) <| lt' (List.getD L ((x).toNat) 0) fun x64 => gd ((0 : Int) ≤ (i : Int) ∧ (i : Int) < (List.length C : Int)) <| lt' (List.getD C (((i : Int)).toNat) 0) fun x66 => lt' (wr .i64 (x64 + x66)) fun x67 => jn (fun (b68 : Bool) => sp b68 (gd ((0 : Int) ≤ y ∧ y < (List.length L : Int)) <| lt' (List.set L ((y).toNat) x67) fun L77 => (lt' (wr .i64 ((i : Int) + (1 : Int))) fun x78 => p75a_l4 k R C j n bw true x78 L77)) (lt' (wr .i64 ((i : Int) + (1 : Int))) fun x78 => p75a_l4 k R C j n bw b x78 L)) fun j69 => gd ((0 : Int) ≤ x ∧ x < (List.length L : Int)) <| lt' (List.getD L ((x).toNat) 0) fun x71 => lt' (decide (x71 < (1125899906842624 : Int))) fun b72 => sp b72 (gd ((0 : Int) ≤ y ∧ y < (List.length L : Int)) <| lt' (List.getD L ((y).toNat) 0) fun x74 => lt' (decide (x67 < x74)) fun b75 => j69 b75) (j69 false))
        = if Cond (EG P R c st bw) L i then p75a_l4 k R C j n bw true ((i + 1 : Nat) : Int) (L.set ((EG P R c st bw).Y i) (L.getD ((EG P R c st bw).X i) 0 + c i)) else p75a_l4 k R C j n bw b ((i + 1 : Nat) : Int) L := by
      intro x y ex ey x0 y0 c0
      have hcb := hcb c0
      have ex' : L.getD x.toNat 0 = L.getD ((EG P R c st bw).X i) 0 := by rw [ex]
      have ey' : L.getD y.toNat 0 = L.getD ((EG P R c st bw).Y i) 0 := by rw [ey]
      have e1 : gd ((0 : Int) ≤ x ∧ x < (List.length L : Int)) = fun (z : Option (List Int)) => z := by funext z; exact gd_v (by omega) z
      have e2 : gd ((0 : Int) ≤ y ∧ y < (List.length L : Int)) = fun (z : Option (List Int)) => z := by funext z; exact gd_v (by omega) z
      have e3 : gd ((0 : Int) ≤ (i : Int) ∧ (i : Int) < (List.length C : Int)) = fun (z : Option (List Int)) => z := by funext z; exact gd_v (by omega) z
      simp only [lt_v, jn_v, e1, e2, e3, Int.toNat_natCast, sp_d, sp_ff, ex', ey', hCc i hi]
      rw [wr_succ hi (by omega), wr64 (by omega) (by omega), ey]
      by_cases g : L.getD ((EG P R c st bw).X i) 0 < 1125899906842624
      · rw [iT g]
        by_cases g2 : L.getD ((EG P R c st bw).X i) 0 + c i < L.getD ((EG P R c st bw).Y i) 0
        · rw [iT g2, iT (p := Cond (EG P R c st bw) L i) ⟨c0, g, g2⟩]
        · rw [iF g2, iF (p := Cond (EG P R c st bw) L i) (fun h => g2 h.2.2)]
      · rw [iF g, iF (p := Cond (EG P R c st bw) L i) (fun h => g h.2.1)]
    by_cases hcon : Cond (EG P R c st bw) L i
    · refine ⟨(true, L.set ((EG P R c st bw).Y i) (L.getD ((EG P R c st bw).X i) 0 + c i)), hp'.hit he hi hcon, ?_⟩
      have c0 : 0 ≤ c i := hcon.1
      rw [p75a_l4]
      cases bw with
      | true =>
        have k1 := key (rT (rd R i)) (rF (rd R i)) rfl rfl (by omega) (by omega) c0
        rw [iT hcon] at k1
        rw [← k1]
        simp only [lt_v, sp_d, jn_v, sp_tt, Int.toNat_natCast, hCc i hi]
        rw [iT (by omega), gd_v (by omega), gd_v (by omega), iF (by omega)]
        rfl
      | false =>
        have k1 := key (rF (rd R i)) (rT (rd R i)) rfl rfl (by omega) (by omega) c0
        rw [iT hcon] at k1
        rw [← k1]
        simp only [lt_v, sp_d, jn_v, sp_ff, Int.toNat_natCast, hCc i hi]
        rw [iT (by omega), gd_v (by omega), gd_v (by omega), iF (by omega)]
        rfl
    · refine ⟨(b, L), hp'.miss hcon, ?_⟩
      by_cases c0 : c i < 0
      · rw [p75a_l4]
        simp only [lt_v, sp_d, jn_v, Int.toNat_natCast, hCc i hi]
        rw [iT (by omega), gd_v (by omega), gd_v (by omega), iT c0, wr_succ hi (by omega)]
      · have c0' : 0 ≤ c i := by omega
        rw [p75a_l4]
        cases bw with
        | true =>
          have k1 := key (rT (rd R i)) (rF (rd R i)) rfl rfl (by omega) (by omega) c0'
          rw [iF hcon] at k1
          rw [← k1]
          simp only [lt_v, sp_d, jn_v, sp_tt, Int.toNat_natCast, hCc i hi]
          rw [iT (by omega), gd_v (by omega), gd_v (by omega), iF (by omega)]
          rfl
        | false =>
          have k1 := key (rF (rd R i)) (rT (rd R i)) rfl rfl (by omega) (by omega) c0'
          rw [iF hcon] at k1
          rw [← k1]
          simp only [lt_v, sp_d, jn_v, sp_ff, Int.toNat_natCast, hCc i hi]
          rw [iT (by omega), gd_v (by omega), gd_v (by omega), iF (by omega)]
          rfl
theorem p75a_l3_eq {k : Nat} (hk : Fu k) {P : Int} {R : List (List Int)} {W : List WT} (h : MapOk P R W) {c : Nat → Int} (hc : COk R c) {C L0 : List Int} (hC : C.length = R.length) (hCc : ∀ i, i < R.length → C.getD i 0 = c i)
    {st : Nat} (hs : st < P.toNat) {bw : Bool} {j : List Int → Option (List Int)} (hI : DInv (EG P R c st bw) L0) :
    ∃ L : List Int, Dist (EG P R c st bw) L ∧ p75a_l3 k R C j k bw true L0 = j L := by
  have hk' := hk
  unfold Fu at hk'
  have h256 := h.r256
  have hP := h.places
  have hb : ∀ L, DInv (EG P R c st bw) L → sumN L ≤ 64 * 1125899906842624 := by
    intro L hL
    have := sumN_le (L := L) (B := 1125899906842624) (fun i hi => (hL.rng i (by rw [← hL.len]; exact hi)).2)
    have hl : L.length = P.toNat := hL.len
    have : L.length * 1125899906842624 ≤ 64 * 1125899906842624 := Nat.mul_le_mul_right _ (by omega)
    exact Nat.le_trans ‹_› this
  have hx := whileI (F := fun n (s : Bool × List Int) => p75a_l3 k R C j n bw s.1 s.2) (J := fun s => j s.2) (fun s => 2 * sumN s.2 + if s.1 = true then 1 else 0) (fun s => DInv (EG P R c st bw) s.2 ∧ (s.1 = false → Dist (EG P R c st bw) s.2)) (fun s => Dist (EG P R c st bw) s.2) ?_ k (true, L0) ⟨hI, fun e => (by cases e)⟩ (by
    have := hb L0 hI
    show 2 * sumN L0 + (if true = true then 1 else 0) < k
    rw [if_pos rfl]; omega)
  · obtain ⟨s', h1, h2⟩ := hx
    exact ⟨s'.2, h1, h2⟩
  · rintro n ⟨b, L⟩ ⟨g1, g2⟩
    cases b with
    | false =>
      refine .inl ⟨(false, L), g2 rfl, ?_⟩
      show p75a_l3 k R C j (n + 1) bw false L = j L
      rw [p75a_l3, sp_ff]
    | true =>
      obtain ⟨⟨b', L'⟩, q1, q2⟩ := p75a_l4_eq (k := k) (n := k) h hc hC hCc hs (bw := bw) (L0 := L) (j := fun b34 b35 L36 => p75a_l3 k R C j n b34 b35 L36) (by omega) g1
      have q1' : Pass (EG P R c st bw) L R.length b' L' := q1
      refine .inr ⟨(b', L'), ⟨q1'.inv, fun e => ?_⟩, ?_, ?_⟩
      · obtain ⟨e1, e2⟩ := q1'.f e
        have e1 : L' = L := e1
        subst e1
        exact { toDInv := g1, fix := e2 }
      · show 2 * sumN L' + (if b' = true then 1 else 0) < 2 * sumN L + (if true = true then 1 else 0)
        rw [if_pos rfl]
        cases b' with
        | true => have := q1'.t rfl; rw [if_pos rfl]; omega
        | false => have := (q1'.f rfl).1; rw [this, if_neg (by decide)]; omega
      · show p75a_l3 k R C j (n + 1) bw true L = p75a_l3 k R C j n bw b' L'
        rw [p75a_l3, sp_tt]
        simp only [jn_v]
        exact q2
theorem p75a_eq {k m n : Nat} (hk : Fu k) {P : Int} {R : List (List Int)} {W : List WT} {z z' : List Int} (h : MapOk P R W) (hn : n ≤ 63) (hm : m < 2 ^ n) (hnW : n ≤ W.length) {st : Nat} (hs : st < P.toNat) {bw : Bool} :
    ∃ L, Dist (EG P R (cst R (us R W z (bitsL m n))) st bw) L ∧ p75a k P R W z' (st : Int) bw P R W z (m : Int) = some L := by
  have hk' := hk
  unfold Fu at hk'
  have h256 := h.r256
  have hP := h.places
  have hc := cst_ok h (U := us R W z (bitsL m n))
  unfold p75a
  simp only [lt_v, jn_v]
  rw [gd_v (by omega), p75a_l1_eq (by rw [List.length_replicate]; omega) (by rw [List.length_replicate]; omega) rfl]
  simp only [List.length_replicate, Int.toNat_natCast]
  rw [gd_v (by omega), gd_v (by omega)]
  obtain ⟨C, ⟨c1, c2⟩, c3⟩ := p75a_l2_eq (k := k) (n := k) (P := P) (R := R) (W := W) (z := z) (m := (m : Int)) (W17 := List.replicate R.length 0) (c := cst R (us R W z (bitsL m n)))
    (j := fun L18 => p75a_l3 k R L18 (fun L28 => some L28) k bw true (List.set (List.replicate P.toNat far) st 0)) (by rw [List.length_replicate]; omega) (by rw [List.length_replicate]; omega)
    (fun i hi => p122_eq hk h.wOk hn hm hnW (by rw [List.length_replicate] at hi; exact hi))
  rw [List.length_replicate] at c1 c2
  rw [c3]
  refine p75a_l3_eq hk h hc c1 c2 hs (DInv.start (EG_ok h hc hs) ?_ ?_ ?_)
  · rw [List.length_set, List.length_replicate]; rfl
  · show (List.set (List.replicate P.toNat far) st 0).getD st 0 = 0
    rw [getD_setI (by rw [List.length_replicate]; exact hs), if_pos rfl]
  · intro v hv hne
    have hv' : v < P.toNat := hv
    have hne' : v ≠ st := hne
    rw [getD_setI (by rw [List.length_replicate]; exact hs), if_neg (Ne.symm hne')]
    simp [List.getD_eq_getElem?_getD, hv']
end Go.Proofs.Ythniebmammmacaa
namespace Go.Proofs.Ythniebmammmacaa
open Go.RowKit Classical
def setT : Nat → Nat → Nat → List Nat
  | 0, _, _ => []
  | d + 1, i, s => (s ||| 2 ^ i) :: setT d (i + 1) (s ||| 2 ^ i) ++ setT d (i + 1) s
def setsL (n : Nat) : List Nat := 0 :: setT n 0 0
def natL (L : List Nat) : List Int := L.map Int.ofNat
theorem p121_eq {k n : Nat} (hk : Fu k) (hn : n ≤ 63) : ∀ (d : Nat),
    (∀ (f i s : Nat), i + d = n → d < f → s < 2 ^ n → p121 k (n : Int) f (s : Int) (i : Int) = some (natL (s :: setT d i s))) ∧
    (∀ (f g i s : Nat), i + d = n → d ≤ f → d < g → s < 2 ^ n → p121L (p121 k (n : Int) f) (n : Int) (s : Int) g (i : Int) = some (natL (setT d i s)))
  | 0 => by
    have hB : ∀ (f g i s : Nat), i + 0 = n → 0 ≤ f → 0 < g → s < 2 ^ n → p121L (p121 k (n : Int) f) (n : Int) (s : Int) g (i : Int) = some (natL (setT 0 i s)) := by
      intro f g i s h1 h2 h3 h4
      obtain ⟨g, rfl⟩ : ∃ g', g = g' + 1 := ⟨g - 1, by omega⟩
      rw [p121L]
      simp only [lt_v, sp_d]
      rw [iF (by omega)]
      rfl
    refine ⟨?_, hB⟩
    intro f i s h1 h2 h3
    obtain ⟨f, rfl⟩ : ∃ g', f = g' + 1 := ⟨f - 1, by omega⟩
    rw [p121, hB f k i s h1 (by omega) (by unfold Fu at hk; omega) h3]
    rfl
  | d + 1 => by
    obtain ⟨ihA, ihB⟩ := p121_eq hk hn d
    have hB : ∀ (f g i s : Nat), i + (d + 1) = n → d + 1 ≤ f → d + 1 < g → s < 2 ^ n → p121L (p121 k (n : Int) f) (n : Int) (s : Int) g (i : Int) = some (natL (setT (d + 1) i s)) := by
      intro f g i s h1 h2 h3 h4
      obtain ⟨g, rfl⟩ : ∃ g', g = g' + 1 := ⟨g - 1, by omega⟩
      have h2i : (2 : Nat) ^ i < 2 ^ n := Nat.pow_lt_pow_right (by omega) (by omega)
      have hn64 : (2 : Nat) ^ n < 2 ^ 64 := Nat.pow_lt_pow_right (by omega) (by omega)
      have hor : s ||| 2 ^ i < 2 ^ n := Nat.or_lt_two_pow h4 h2i
      have e1 : (1 : Int) * 2 ^ min ((i : Int)).toNat (IntKind.bits .u64) = ((2 ^ i : Nat) : Int) := by
        rw [Int.toNat_natCast, show min i (IntKind.bits .u64) = i from Nat.min_eq_left (by show i ≤ 64; omega)]
        simp
      rw [p121L]
      simp only [lt_v, sp_d]
      rw [iT (by omega), gd_v (by omega), e1, wruN (Nat.lt_trans h2i hn64), bor_nat (Nat.lt_trans h4 hn64) (Nat.lt_trans h2i hn64), wruN (Nat.lt_trans hor hn64), wr_succ (n := n) (by omega) (by omega),
        ihA f (i + 1) _ (by omega) (by omega) hor, cl_v, ihB f g (i + 1) s (by omega) (by omega) (by omega) h4, cl_v]
      rw [setT]
      simp [natL]
    refine ⟨?_, hB⟩
    intro f i s h1 h2 h3
    obtain ⟨f, rfl⟩ : ∃ g', f = g' + 1 := ⟨f - 1, by omega⟩
    rw [p121, hB f k i s h1 (by omega) (by unfold Fu at hk; omega) h3]
    rfl
theorem p73_eq {k n : Nat} (hk : Fu k) (hn : n ≤ 63) : p73 k (n : Int) = some (natL (setsL n)) := by
  unfold p73 p120
  have := (p121_eq hk hn n).1 k 0 0 (by omega) (by unfold Fu at hk; omega) (Nat.two_pow_pos n)
  rw [show ((0 : Nat) : Int) = 0 from rfl] at this
  rw [this]; rfl
theorem mem_setT {x : Nat} : ∀ {d i s : Nat}, s < 2 ^ i → (x ∈ s :: setT d i s ↔ (∀ j, j < i → x.testBit j = s.testBit j) ∧ x < 2 ^ (i + d))
  | 0, i, s, hs => by
    rw [setT, List.mem_singleton, Nat.add_zero]
    constructor
    · rintro rfl; exact ⟨fun _ _ => rfl, hs⟩
    · rintro ⟨h1, h2⟩
      refine Nat.eq_of_testBit_eq fun j => ?_
      rcases Nat.lt_or_ge j i with g | g
      · exact h1 j g
      · rw [Nat.testBit_lt_two_pow (Nat.lt_of_lt_of_le h2 (Nat.pow_le_pow_right (by omega) g)), Nat.testBit_lt_two_pow (Nat.lt_of_lt_of_le hs (Nat.pow_le_pow_right (by omega) g))]
  | d + 1, i, s, hs => by
    have h2i : (2 : Nat) ^ i < 2 ^ (i + 1) := Nat.pow_lt_pow_right (by omega) (by omega)
    have hs1 : s < 2 ^ (i + 1) := Nat.lt_trans hs h2i
    have hs' : s ||| 2 ^ i < 2 ^ (i + 1) := Nat.or_lt_two_pow hs1 h2i
    have A := mem_setT (x := x) (d := d) (i := i + 1) hs'
    have B := mem_setT (x := x) (d := d) (i := i + 1) hs1
    have hb0 : s.testBit i = false := Nat.testBit_lt_two_pow hs
    have e : i + 1 + d = i + (d + 1) := by omega
    rw [e] at A B
    have hm : x ∈ s :: setT (d + 1) i s ↔ x ∈ (s ||| 2 ^ i) :: setT d (i + 1) (s ||| 2 ^ i) ∨ x ∈ s :: setT d (i + 1) s := by
      rw [setT]
      simp only [List.mem_cons, List.mem_append]
      constructor
      · rintro (a | a | a)
        · exact .inr (.inl a)
        · exact .inl a
        · exact .inr (.inr a)
      · rintro (a | a | a)
        · exact .inr (.inl a)
        · exact .inl a
        · exact .inr (.inr a)
    rw [hm, A, B]
    constructor
    · rintro (⟨h1, h2⟩ | ⟨h1, h2⟩)
      · refine ⟨fun j hj => ?_, h2⟩
        rw [h1 j (by omega), Nat.testBit_or, Nat.testBit_two_pow, dF (by omega), Bool.or_false]
      · exact ⟨fun j hj => h1 j (by omega), h2⟩
    · rintro ⟨h1, h2⟩
      by_cases hb : x.testBit i = true
      · refine .inl ⟨fun j hj => ?_, h2⟩
        rw [Nat.testBit_or, Nat.testBit_two_pow]
        rcases Nat.eq_or_lt_of_le (Nat.le_of_lt_succ hj) with g | g
        · subst g; rw [hb, dT rfl, Bool.or_true]
        · rw [h1 j g, dF (by omega), Bool.or_false]
      · refine .inr ⟨fun j hj => ?_, h2⟩
        rcases Nat.eq_or_lt_of_le (Nat.le_of_lt_succ hj) with g | g
        · subst g; rw [hb0]; cases hx : x.testBit j
          · rfl
          · exact absurd hx hb
        · exact h1 j g
theorem mem_setsL {n x : Nat} : x ∈ setsL n ↔ x < 2 ^ n := by
  unfold setsL
  rw [mem_setT (Nat.two_pow_pos 0), Nat.zero_add]
  exact ⟨fun h => h.2, fun h => ⟨fun j hj => absurd hj (Nat.not_lt_zero j), h⟩⟩
noncomputable def least (ok : Nat → Prop) (f : Nat → Int) : List Nat → Int × Int × Bool → Int × Int × Bool
  | [], a => a
  | s :: L, a => if ok s ∧ (a.2.2 = false ∨ f s < a.2.1) then least ok f L ((s : Int), f s, true) else least ok f L a
theorem least_spec {ok : Nat → Prop} {f : Nat → Int} : ∀ {L : List Nat} {a : Int × Int × Bool},
    ((∀ s ∈ L, ¬ ok s) ∧ least ok f L a = a) ∨ ((least ok f L a = a ∧ a.2.2 = true ∨ ∃ s ∈ L, ok s ∧ least ok f L a = ((s : Int), f s, true)) ∧ (∀ s ∈ L, ok s → (least ok f L a).2.1 ≤ f s) ∧ (a.2.2 = true → (least ok f L a).2.1 ≤ a.2.1))
  | [], a => .inl ⟨by simp, rfl⟩
  | s :: L, a => by
    rw [least]
    by_cases h : ok s ∧ (a.2.2 = false ∨ f s < a.2.1)
    · rw [iT h]
      rcases least_spec (ok := ok) (f := f) (L := L) (a := ((s : Int), f s, true)) with ⟨h1, h2⟩ | ⟨h1, h2, h3⟩
      · refine .inr ⟨.inr ⟨s, List.mem_cons_self, h.1, h2⟩, fun t ht hok => ?_, fun ha => ?_⟩
        · rcases List.mem_cons.1 ht with e | e
          · subst e; rw [h2]; exact Int.le_refl _
          · exact absurd hok (h1 t e)
        · rw [h2]
          rcases h.2 with g | g
          · rw [ha] at g; cases g
          · exact Int.le_of_lt g
      · refine .inr ⟨?_, fun t ht hok => ?_, fun ha => ?_⟩
        · rcases h1 with ⟨g, _⟩ | ⟨t, g1, g2, g3⟩
          · exact .inr ⟨s, List.mem_cons_self, h.1, g⟩
          · exact .inr ⟨t, List.mem_cons_of_mem _ g1, g2, g3⟩
        · rcases List.mem_cons.1 ht with e | e
          · subst e; exact h3 rfl
          · exact h2 t e hok
        · have h4 := h3 rfl
          rcases h.2 with g | g
          · rw [ha] at g; cases g
          · exact Int.le_trans h4 (Int.le_of_lt g)
    · rw [iF h]
      rcases least_spec (ok := ok) (f := f) (L := L) (a := a) with ⟨h1, h2⟩ | ⟨h1, h2, h3⟩
      · by_cases hok : ok s
        · have ha : a.2.2 = true := by
            cases hb : a.2.2 with
            | true => rfl
            | false => exact absurd ⟨hok, .inl hb⟩ h
          refine .inr ⟨.inl ⟨h2, ha⟩, fun t ht hk => ?_, fun _ => by rw [h2]; exact Int.le_refl _⟩
          rcases List.mem_cons.1 ht with e | e
          · subst e; rw [h2]
            rcases Int.lt_or_le (f t) a.2.1 with g | g
            · exact absurd ⟨hok, .inr g⟩ h
            · exact g
          · exact absurd hk (h1 t e)
        · refine .inl ⟨fun t ht => ?_, h2⟩
          rcases List.mem_cons.1 ht with e | e
          · subst e; exact hok
          · exact h1 t e
      · refine .inr ⟨?_, fun t ht hok => ?_, h3⟩
        · rcases h1 with g | ⟨t, g1, g2⟩
          · exact .inl g
          · exact .inr ⟨t, List.mem_cons_of_mem _ g1, g2⟩
        · rcases List.mem_cons.1 ht with e | e
          · subst e
            cases hb : a.2.2 with
            | false => exact absurd ⟨hok, .inl hb⟩ h
            | true =>
              have := h3 hb
              rcases Int.lt_or_le (f t) a.2.1 with g | g
              · exact absurd ⟨hok, .inr g⟩ h
              · exact Int.le_trans this g
          · exact h2 t e hok
theorem least_from {ok : Nat → Prop} {f : Nat → Int} {L : List Nat} {x y : Int} :
    ((∀ s ∈ L, ¬ ok s) ∧ least ok f L (x, y, false) = (x, y, false)) ∨ (∃ s ∈ L, ok s ∧ least ok f L (x, y, false) = ((s : Int), f s, true) ∧ ∀ t ∈ L, ok t → f s ≤ f t) := by
  rcases least_spec (ok := ok) (f := f) (L := L) (a := (x, y, false)) with h | ⟨h1, h2, _⟩
  · exact .inl h
  · rcases h1 with ⟨_, h⟩ | ⟨s, a, b, c⟩
    · cases h
    · refine .inr ⟨s, a, b, c, fun t ht hok => ?_⟩
      have := h2 t ht hok
      rw [c] at this
      exact this
theorem p72a_r1_eq {k : Nat} {P : Int} {R : List (List Int)} {W : List WT} {z : List Int} {to fr : Int} {ok : Nat → Prop} {f : Nat → Int} {j : Int → Int → Bool → Option (Int × Int × Bool)} : ∀ {L : List Nat} {x y : Int} {b : Bool},
    (∀ s ∈ L, ∃ b : Bool, (b = true ↔ ok s) ∧ p74 k (s : Int) P R W z to fr = some (f s, b)) → p72a_r1 k j P R W z to fr (natL L) x y b = j (least ok f L (x, y, b)).1 (least ok f L (x, y, b)).2.1 (least ok f L (x, y, b)).2.2
  | [], x, y, b, _ => rfl
  | s :: L, x, y, b, h => by
    obtain ⟨b0, hb0, h0⟩ := h s List.mem_cons_self
    have ih := fun x y b => p72a_r1_eq (k := k) (P := P) (R := R) (W := W) (z := z) (to := to) (fr := fr) (ok := ok) (f := f) (j := j) (L := L) (x := x) (y := y) (b := b) (fun t ht => h t (List.mem_cons_of_mem _ ht))
    show p72a_r1 k j P R W z to fr ((s : Int) :: natL L) x y b = _
    rw [p72a_r1, h0, cl2_v]
    simp only [jn_v, lt_v, ih]
    rw [least]
    by_cases hok : ok s
    · rw [hb0.2 hok, sp_tt]
      cases b with
      | false => rw [sp_ff, sp_tt, iT ⟨hok, .inl rfl⟩]
      | true =>
        rw [sp_tt, sp_d]
        by_cases g : f s < y
        · rw [iT g, iT ⟨hok, .inr g⟩]
        · rw [iF g, iF]
          rintro ⟨_, e | e⟩
          · cases e
          · exact g e
    · have : b0 = false := by cases b0 with
        | false => rfl
        | true => exact absurd (hb0.1 rfl) hok
      rw [this, sp_ff, sp_ff, iF (fun h => hok h.1)]
theorem p68_eq {k : Nat} (hk : Fu k) {P : Int} {R : List (List Int)} {W : List WT} {z : List Int} (hr : ∀ r ∈ R, r.length = 12) (hz : z.length = 6) :
    p68 k P R W z = if MapOk P R W then some (P, R, W, z, szE z) else some (0, [], [], [0, 0, 0, 0, 0, 0], chkE P R W) := by
  unfold p68
  rw [p38_eq hk hr, cl_v, lt_v, chkE_ne, p39_eq hk hz, cl_v, sp_d]
  by_cases h : MapOk P R W
  · rw [iF (not_not_intro h), iT h]
  · rw [iT h, iF h]
def On (R : List (List Int)) (L : List Int) (at' : Nat) (i : Nat) : Prop := rF (rd R i) = (at' : Int) ∧ L.getD at' 0 = rC (rd R i) + L.getD (rT (rd R i)).toNat 0
theorem p81_eq {k : Nat} {r L : List Int} {a : Nat} (ha : a < L.length) (ht : 0 ≤ rT r ∧ rT r < (L.length : Int)) (hc : 0 ≤ rC r ∧ rC r ≤ 1073741824) (hL : ∀ i, i < L.length → 0 ≤ L.getD i 0 ∧ L.getD i 0 ≤ far) :
    p81 k r (a : Int) L = some (decide (rF r = (a : Int) ∧ L.getD a 0 = rC r + L.getD (rT r).toNat 0)) := by
  unfold p81
  have h1 := hL (rT r).toNat (by omega)
  have hf : far = 1125899906842624 := rfl
  simp only [jn_v, lt_v, beq_d, sp_d, show r.getD 0 0 = rF r from rfl, show r.getD 1 0 = rT r from rfl, show r.getD 2 0 = rC r from rfl]
  rw [gd_v (by omega), gd_v (by omega), wr64 (by omega) (by omega), Int.toNat_natCast]
  by_cases h : rF r = (a : Int)
  · rw [iT h]; congr 1; exact dI ⟨fun g => ⟨h, g⟩, fun g => g.2⟩
  · rw [iF h, dF (fun g => h g.1)]
theorem p82_eq {k : Nat} {r L : List Int} {a : Nat} (ha : a < L.length) (ht : 0 ≤ rT r ∧ rT r < (L.length : Int)) (hc : 0 ≤ rC r ∧ rC r ≤ 1073741824) (hL : ∀ i, i < L.length → 0 ≤ L.getD i 0 ∧ L.getD i 0 ≤ far) :
    p82 k r (a : Int) L = some (decide (rF r = (a : Int) ∧ L.getD a 0 = rC r + L.getD (rT r).toNat 0)) := p81_eq (k := k) ha ht hc hL
structure LOk (P : Int) (R : List (List Int)) (L : List Int) : Prop where
  len : L.length = P.toNat
  rng : ∀ i, i < L.length → 0 ≤ L.getD i 0 ∧ L.getD i 0 ≤ far
  t : ∀ i, i < R.length → 0 ≤ rT (rd R i) ∧ rT (rd R i) < (L.length : Int)
  c : ∀ i, i < R.length → 0 ≤ rC (rd R i) ∧ rC (rd R i) ≤ 1073741824
  r256 : R.length ≤ 256
theorem LOk.of {P R W L} (h : MapOk P R W) {c st bw} (hd : DInv (EG P R c st bw) L) : LOk P R L := by
  have hl : L.length = P.toNat := hd.len
  have hp := h.places
  refine ⟨hl, fun i hi => hd.rng i (by show i < P.toNat; omega), fun i hi => ?_, fun i hi => ?_, h.r256⟩
  · have := (h.road i hi).ar; unfold RoadA at this; omega
  · have := (h.road i hi).ar; unfold RoadA at this; omega
theorem p80a_eq {k : Nat} (hk : Fu k) {P : Int} {R : List (List Int)} {L : List Int} (h : LOk P R L) {a : Nat} (ha : a < L.length) : p80a k R (a : Int) L = some (fst (On R L a) R.length 0) := by
  have := h.r256
  unfold Fu at hk
  unfold p80a
  simp only [jn_v]
  refine srchI0 (F := p80a_l1 k R (a : Int) L (some (-1))) (len := R.length) (n := k) (On R L a) (by omega) ?_ ?_
  · intro n; rw [p80a_l1]; simp only [lt_v, sp_d]; rw [iF (by omega)]
  · intro n i hi
    rw [p80a_l1]
    simp only [lt_v, sp_d]
    have hd : R.getD i [] = rd R i := rfl
    rw [iT (by omega), gd_v (by omega), Int.toNat_natCast, hd, p81_eq ha (h.t i hi) (h.c i hi) h.rng, cl_v, wr_succ hi (by omega), sp_d]
    by_cases g : On R L a i
    · exact .inl ⟨g, iT g⟩
    · exact .inr ⟨g, iF g⟩
theorem p80b_eq {k : Nat} (hk : Fu k) {P : Int} {R : List (List Int)} {L : List Int} (h : LOk P R L) {a q : Nat} (ha : a < L.length) (hq : q ≤ R.length) :
    p80b k (part R q R.length) (a : Int) L = some (fst (fun i => On R L a (q + i)) (R.length - q) 0) := by
  have := h.r256
  unfold Fu at hk
  have hl : (part R q R.length).length = R.length - q := by unfold part; simp
  have hg : ∀ i, i < R.length - q → (part R q R.length).getD i [] = rd R (q + i) := by
    intro i hi
    unfold part rd
    rw [List.getD_eq_getElem?_getD, List.getElem?_take, if_pos hi, List.getElem?_drop, List.getD_eq_getElem?_getD]
  unfold p80b
  simp only [jn_v]
  refine srchI0 (F := p80b_l1 k (part R q R.length) (a : Int) L (some (-1))) (len := R.length - q) (n := k) (fun i => On R L a (q + i)) (by omega) ?_ ?_
  · intro n; rw [p80b_l1]; simp only [lt_v, sp_d, hl]; rw [iF (by omega)]
  · intro n i hi
    rw [p80b_l1]
    simp only [lt_v, sp_d, hl]
    rw [iT (by omega), gd_v (by omega), Int.toNat_natCast, hg i hi, p82_eq ha (h.t _ (by omega)) (h.c _ (by omega)) h.rng, cl_v, wr_succ hi (by omega), sp_d]
    by_cases g : On R L a (q + i)
    · exact .inl ⟨g, iT g⟩
    · exact .inr ⟨g, iF g⟩
inductive Rt (R : List (List Int)) (U : Nat → Prop) (L : List Int) (to : Nat) : Nat → List Int → Int → Prop
  | nil : Rt R U L to to [] 0
  | cons {a i : Nat} {rs : List Int} {m : Int} : a ≠ to → i < R.length → On R L a i → U i → (∀ j, j < i → On R L a j → ¬ U j) → Rt R U L to (rT (rd R i)).toNat rs m → Rt R U L to a ((i : Int) :: rs) (rM (rd R i) + m)
theorem Rt.unique {R U L to} : ∀ {rs a m rs' m'}, Rt R U L to a rs m → Rt R U L to a rs' m' → rs = rs' ∧ m = m' := by
  intro rs a m rs' m' h
  induction h generalizing rs' m' with
  | nil =>
    intro h'
    cases h' with
    | nil => exact ⟨rfl, rfl⟩
    | cons h1 => exact absurd rfl h1
  | @cons a i rs m h1 h2 h3 h4 h5 h6 ih =>
    intro h'
    cases h' with
    | nil => exact absurd rfl h1
    | @cons _ i' rs2 m2 g1 g2 g3 g4 g5 g6 =>
      have : i = i' := by
        rcases Nat.lt_trichotomy i i' with g | g | g
        · exact absurd h4 (g5 i g h3)
        · exact g
        · exact absurd g4 (h5 i' g g3)
      subst this
      obtain ⟨e1, e2⟩ := ih g6
      exact ⟨by rw [e1], by rw [e2]⟩
theorem p28_l2_eq {k m n : Nat} (hk : Fu k) {P : Int} {R : List (List Int)} {W : List WT} {z L : List Int} (h : MapOk P R W) (hL : LOk P R L) (hn : n ≤ 63) (hm : m < 2 ^ n) (hnW : n ≤ W.length) {a : Nat} (ha : a < L.length)
    {j : Int → Option (List Int × List Int × Int × Int × Int)} {t : Nat} (ht : t < R.length) (ht1 : On R L a t) (ht2 : us R W z (bitsL m n) t) (ht3 : ∀ i, i < t → On R L a i → ¬ us R W z (bitsL m n) i) :
    ∀ (d q f : Nat), q + d = t → d < f → On R L a q → p28_l2 k R (a : Int) j P R W z (m : Int) L f (q : Int) = j (t : Int)
  | d, q, f + 1, h1, h2, h3 => by
    have h256 := hL.r256
    rw [p28_l2, p55_eq hk h.wOk hn hm hnW (by omega), cl_v, sp_d]
    rcases Nat.eq_zero_or_pos d with e | e
    · subst e
      obtain rfl : q = t := by omega
      rw [iT ht2]
    · rw [iF (ht3 q (by omega) h3)]
      simp only [lt_v]
      rw [wr_succ (n := R.length) (by omega) (by omega), gd_v (by omega), Int.toNat_natCast, p80b_eq hk hL ha (by omega), cl_v]
      rcases fst_spec (fun i => On R L a (q + 1 + i)) (R.length - (q + 1)) 0 with ⟨_, g⟩ | ⟨q', g1, _, g2, g3, g4⟩
      · exact absurd (show On R L a (q + 1 + (t - (q + 1))) by rw [show q + 1 + (t - (q + 1)) = t from by omega]; exact ht1) (g (t - (q + 1)) (Nat.zero_le _) (by omega))
      · have hqt : q + 1 + q' ≤ t := by
          rcases Nat.lt_or_ge t (q + 1 + q') with g | g
          · exact absurd (show On R L a (q + 1 + (t - (q + 1))) by rw [show q + 1 + (t - (q + 1)) = t from by omega]; exact ht1) (g4 (t - (q + 1)) (Nat.zero_le _) (by omega))
          · exact g
        rw [g1, wr64 (z := 1 + (q' : Int)) (by omega) (by omega), wr64 (by omega) (by omega), show (q : Int) + (1 + (q' : Int)) = ((q + 1 + q' : Nat) : Int) from by omega]
        exact p28_l2_eq hk h hL hn hm hnW ha ht ht1 ht2 ht3 (t - (q + 1 + q')) (q + 1 + q') f (by omega) (by omega) g3
theorem min_ex {p : Nat → Prop} : ∀ {n : Nat}, p n → ∃ m, m ≤ n ∧ p m ∧ ∀ j, j < m → ¬ p j
  | 0, h => ⟨0, Nat.le_refl _, h, by intros; omega⟩
  | n + 1, h => by
    by_cases hx : ∃ m, m ≤ n ∧ p m
    · obtain ⟨m, a, b⟩ := hx
      obtain ⟨m', c, d, e⟩ := min_lt (n := n) ⟨m, a, b⟩
      exact ⟨m', by omega, d, e⟩
    · exact ⟨n + 1, Nat.le_refl _, h, fun j hj hp => hx ⟨j, by omega, hp⟩⟩
where
  min_lt {p : Nat → Prop} : ∀ {n : Nat}, (∃ m, m ≤ n ∧ p m) → ∃ m, m ≤ n ∧ p m ∧ ∀ j, j < m → ¬ p j
    | 0, ⟨m, a, b⟩ => ⟨m, a, b, by intros; omega⟩
    | n + 1, ⟨m, a, b⟩ => by
      by_cases hx : ∃ m, m ≤ n ∧ p m
      · obtain ⟨m', c, d, e⟩ := min_lt hx
        exact ⟨m', by omega, d, e⟩
      · exact ⟨m, a, b, fun j hj hp => hx ⟨j, by omega, hp⟩⟩
theorem p28_l1_eq {k m n : Nat} (hk : Fu k) {P : Int} {R : List (List Int)} {W : List WT} {z L : List Int} (h : MapOk P R W) (hn : n ≤ 63) (hm : m < 2 ^ n) (hnW : n ≤ W.length) {to : Nat} (hto : to < P.toNat)
    (hD : Dist (EG P R (cst R (us R W z (bitsL m n))) to true) L) {j : Int → List Int → Option (List Int × List Int × Int × Int × Int)} : ∀ (d f : Nat) (a : Nat) (mi : Int) (A : List Int), a < P.toNat → L.getD a 0 < far → (L.getD a 0).toNat ≤ d → d < f →
    A.length + d ≤ 8796093022208 → 0 ≤ mi → mi ≤ 1440 * (A.length : Int) →
    ∃ rs m', Rt R (us R W z (bitsL m n)) L to a rs m' ∧ p28_l1 k R (to : Int) j P R W z (m : Int) L f (a : Int) mi A = j (mi + m') (A ++ rs)
  | d, f + 1, a, mi, A, ha, hf, hd, hdf, hA, hm0, hm1 => by
    have he := EG_ok h (cst_ok h (U := us R W z (bitsL m n))) hto (bw := true)
    have hl : LOk P R L := LOk.of h hD.toDInv
    have hp := h.places
    have h256 := h.r256
    have hfar : far = 1125899906842624 := rfl
    rw [p28_l1]
    simp only [lt_v, bne_d, sp_d]
    by_cases e : a = to
    · subst e
      refine ⟨[], 0, .nil, ?_⟩
      rw [iF (by omega), Int.add_zero, List.append_nil]
    · rw [iT (by omega)]
      obtain ⟨i0, o1, o2, o3, o4⟩ := hD.prev he (v := a) ha e hf
      obtain ⟨hu, ec⟩ := cst_nn o2
      have o3' : (rF (rd R i0)).toNat = a := o3
      have o4' : L.getD a 0 = cst R (us R W z (bitsL m n)) i0 + L.getD (rT (rd R i0)).toNat 0 := o4
      have hr0 := (h.road i0 o1).ar
      unfold RoadA at hr0
      have hon : On R L a i0 := ⟨by omega, by rw [o4', ec]⟩
      obtain ⟨t, t1, ⟨t2, t3⟩, t4⟩ := min_ex (p := fun i => On R L a i ∧ us R W z (bitsL m n) i) (n := i0) ⟨hon, hu⟩
      have o1' : i0 < R.length := o1
      have hr := (h.road t (by omega)).ar
      unfold RoadA at hr
      have hal : a < L.length := by rw [hl.len]; exact ha
      rw [p80a_eq hk hl hal, cl_v]
      simp only [jn_v]
      rcases fst_spec (On R L a) R.length 0 with ⟨_, g⟩ | ⟨q, g1, _, g2, g3, g4⟩
      · exact absurd t2 (g t (Nat.zero_le _) (by omega))
      · have hqt : q ≤ t := by
          rcases Nat.lt_or_ge t q with g | g
          · exact absurd t2 (g4 t (Nat.zero_le _) g)
          · exact g
        have ht2 := t2.2
        have hrt := hl.rng (rT (rd R t)).toNat (by have := hl.len; omega)
        rw [g1, p28_l2_eq hk h hl hn hm hnW hal (t := t) (by omega) t2 t3 (fun i hi a b => t4 i hi ⟨a, b⟩) (t - q) q k (by omega) (by unfold Fu at hk; omega) g3]
        have hd2 : R.getD t [] = rd R t := rfl
        simp only [Int.toNat_natCast, hd2, show (rd R t).getD 3 0 = rM (rd R t) from rfl, show (rd R t).getD 1 0 = rT (rd R t) from rfl]
        rw [gd_v (by simp only [List.length_cons, List.length_nil]; omega), gd_v (by omega), gd_v (by omega), wr64 (by omega) (by omega)]
        obtain ⟨rs, m', q1, q2⟩ := p28_l1_eq hk h hn hm hnW hto hD (j := j) (d - 1) f (rT (rd R t)).toNat (mi + rM (rd R t)) (A ++ [(t : Int)]) (by omega) (by omega) (by omega) (by omega) (by simp only [List.length_append, List.length_cons, List.length_nil]; omega) (by omega)
          (by simp only [List.length_append, List.length_cons, List.length_nil]; omega)
        refine ⟨(t : Int) :: rs, rM (rd R t) + m', .cons e (by omega) t2 t3 (fun i hi a b => t4 i hi ⟨a, b⟩) q1, ?_⟩
        rw [show ((rT (rd R t)).toNat : Int) = rT (rd R t) from by omega] at q2
        rw [q2]
        rw [List.append_assoc, Int.add_assoc]
        rfl
theorem p78_eq {k : Nat} {L : List Int} (hL : L.length ≤ 1000000) : p78 k L = some L := by
  have key : ∀ (L A : List Int), A.length + L.length ≤ 1000000 → p123_r1 k (fun L4 => some L4) L A = some (A ++ L) := by
    intro L
    induction L with
    | nil => intro A _; rw [p123_r1, List.append_nil]
    | cons x L ih =>
      intro A hA
      rw [p123_r1]
      simp only [List.length_cons] at hA
      rw [gd_v (by simp only [List.length_cons, List.length_nil]; omega)]
      simp only [lt_v]
      rw [ih _ (by simp only [List.length_append, List.length_cons, List.length_nil]; omega), List.append_assoc]
      rfl
  unfold p78 p123
  simp only [jn_v]
  rw [key L [] (by simpa using hL), cl_v]
  rfl
noncomputable def dst (P : Int) (R : List (List Int)) (U : Nat → Prop) (fr to : Nat) : Int := if h : ∃ L, Dist (EG P R (cst R U) to true) L then (Classical.choose h).getD fr 0 else 0
theorem dst_eq {P R W} (h : MapOk P R W) {U : Nat → Prop} {fr to : Nat} (hto : to < P.toNat) {L : List Int} (hD : Dist (EG P R (cst R U) to true) L) : dst P R U fr to = L.getD fr 0 := by
  have hx : ∃ L, Dist (EG P R (cst R U) to true) L := ⟨L, hD⟩
  unfold dst
  rw [dif_pos hx, (Classical.choose_spec hx).unique (EG_ok h (cst_ok h) hto) hD]
structure Cheap (P : Int) (R : List (List Int)) (W : List WT) (z : List Int) (fr to s : Nat) (rs ws : List Int) (c mi : Int) : Prop where
  ms : s < 2 ^ W.length
  fin : dst P R (us R W z (bitsL s W.length)) fr to < far
  wse : ws = bitsL s W.length
  co : c = dst P R (us R W z (bitsL s W.length)) fr to + costL W ws
  best : (s : Int) = (least (fun s => dst P R (us R W z (bitsL s W.length)) fr to < far) (fun s => dst P R (us R W z (bitsL s W.length)) fr to + costL W (bitsL s W.length)) (setsL W.length) (0, 0, false)).1
  le : ∀ t, t < 2 ^ W.length → dst P R (us R W z (bitsL t W.length)) fr to < far → c ≤ dst P R (us R W z (bitsL t W.length)) fr to + costL W (bitsL t W.length)
  rt : ∃ L, Dist (EG P R (cst R (us R W z ws)) to true) L ∧ Rt R (us R W z ws) L to fr rs mi
theorem p74_eq {k s : Nat} (hk : Fu k) {P : Int} {R : List (List Int)} {W : List WT} {z : List Int} (h : MapOk P R W) {fr to : Nat} (hfr : fr < P.toNat) (hto : to < P.toNat) (hs : s < 2 ^ W.length) :
    p74 k (s : Int) P R W z (to : Int) (fr : Int) = some (dst P R (us R W z (bitsL s W.length)) fr to + costL W (bitsL s W.length), decide (dst P R (us R W z (bitsL s W.length)) fr to < far)) := by
  have hw10 := h.w10
  have hp := h.places
  obtain ⟨L, hD, e⟩ := p75a_eq hk (z := z) (z' := z) h (n := W.length) (by omega) hs (Nat.le_refl _) hto (bw := true)
  unfold p74
  rw [show p76 k P R W z (s : Int) = some () from rfl, cl_v, e, cl_v]
  have hl : L.length = P.toNat := hD.len
  have hr := hD.rng fr hfr
  have hcl := costL_le h.wcOk (S := bitsL s W.length) (by intro x hx; obtain ⟨j, a, _, rfl⟩ := mem_bitsL.1 hx; omega)
  have hbl := bitsL_len (m := s) (n := W.length)
  have hfar : far = 1125899906842624 := rfl
  rw [gd_v (by omega), p77_eq hk h.wcOk (by omega) hs (Nat.le_refl _)]
  simp only [lt_v, cl_v, Int.toNat_natCast]
  rw [dst_eq h hto hD, wr64 (by omega) (by omega)]
  rfl
theorem p28_eq {k : Nat} (hk : Fu k) {P : Int} {R : List (List Int)} {W : List WT} {z : List Int} (h : MapOk P R W) (hz : SzOk z) (hz6 : z.length = 6) (hr : ∀ r ∈ R, r.length = 12) {fr to : Nat} (hfr : fr < P.toNat) (hto : to < P.toNat) :
    ((∀ s, s < 2 ^ W.length → ¬ dst P R (us R W z (bitsL s W.length)) fr to < far) ∧ p28 k P R W z (fr : Int) (to : Int) = some ([], [], 0, 0, 15)) ∨
    (∃ s rs ws c mi, Cheap P R W z fr to s rs ws c mi ∧ p28 k P R W z (fr : Int) (to : Int) = some (rs, ws, c, mi, 0)) := by
  have hw10 := h.w10
  have hp := h.places
  unfold p28
  rw [p68_eq hk hr hz6, if_pos h, cl5_v, gd_v hz6, szE_zero.2 hz]
  simp only [lt_v, bne_d, sp_d]
  rw [iF (by simp), p67_eq hk (by simp), iT (by
    intro x hx
    simp only [List.mem_cons, List.mem_nil_iff, or_false] at hx
    rcases hx with e | e <;> omega), cl_v, iF (by simp), p73_eq hk (by omega), cl_v]
  have h72 : p72a k (natL (setsL W.length)) P R W z (to : Int) (fr : Int) = some (least (fun s => dst P R (us R W z (bitsL s W.length)) fr to < far) (fun s => dst P R (us R W z (bitsL s W.length)) fr to + costL W (bitsL s W.length)) (setsL W.length) (0, 0, false)) := by
    unfold p72a
    simp only [jn_v]
    rw [p72a_r1_eq (ok := fun s => dst P R (us R W z (bitsL s W.length)) fr to < far) (fun s hs => ⟨_, decide_eq_true_iff, p74_eq hk h hfr hto (mem_setsL.1 hs)⟩)]
  rw [h72]
  have hl := least_from (ok := fun s => dst P R (us R W z (bitsL s W.length)) fr to < far) (f := fun s => dst P R (us R W z (bitsL s W.length)) fr to + costL W (bitsL s W.length)) (L := setsL W.length) (x := 0) (y := 0)
  rcases hl with ⟨h1, h2⟩ | ⟨s, h1, h2, h3, h4⟩
  · refine .inl ⟨fun s hs => h1 s (mem_setsL.2 hs), ?_⟩
    rw [h2, cl3_v, sp_ff]
  · refine .inr ?_
    have hs := mem_setsL.1 h1
    obtain ⟨L, hD, e⟩ := p75a_eq hk (z := z) (z' := z) h (n := W.length) (by omega) hs (Nat.le_refl _) hto (bw := true)
    have hdf : L.getD fr 0 < far := by rw [← dst_eq h hto hD]; exact h2
    have hbl := bitsL_len (m := s) (n := W.length)
    have hrg := hD.rng fr hfr
    have hfar : far = 1125899906842624 := rfl
    have hfin := hD.fin (EG_ok h (cst_ok h) hto) (v := fr) hfr hdf
    obtain ⟨rs, m', q1, q2⟩ := p28_l1_eq hk h (n := W.length) (by omega) hs (Nat.le_refl _) hto hD (j := fun x73 L74 => some (L74, bitsL s W.length, dst P R (us R W z (bitsL s W.length)) fr to + costL W (bitsL s W.length), x73, 0)) (L.getD fr 0).toNat k fr 0 [] hfr hdf (Nat.le_refl _)
      (by unfold Fu at hk; omega) (by simp only [List.length_nil]; omega) (by omega) (by simp)
    refine ⟨s, rs, bitsL s W.length, _, m', ⟨hs, h2, rfl, rfl, by rw [h3], fun t ht hok => h4 t (mem_setsL.2 ht) hok, L, hD, q1⟩, ?_⟩
    rw [h3, cl3_v, sp_tt, p79_eq hk (by omega) hs, cl_v, p78_eq (by omega), cl_v, show p76 k P R W z (s : Int) = some () from rfl, cl_v, e, cl_v]
    simp only [jn_v]
    rw [q2]
    simp
end Go.Proofs.Ythniebmammmacaa
namespace Go.Proofs.Ythniebmammmacaa
open Go.RowKit Classical
def K0 : Nat := 1152921504606846976
theorem fuK0 : Fu K0 := Nat.le_refl _
theorem p14_eq : p14 K0 = some true := by kernel_rfl
structure Valid (P : Int) (R : List (List Int)) (W : List WT) (z : List Int) (fr to : Int) : Prop where
  map : MapOk P R W
  pl12 : P ≤ 12
  r30 : R.length ≤ 30
  w5 : W.length ≤ 5
  sz : SzOk z
  fr0 : 0 ≤ fr ∧ fr < P
  to0 : 0 ≤ to ∧ to < P
theorem p13_some {k : Nat} (hk : Fu k) {P : Int} {R : List (List Int)} {W : List WT} : ∃ b, p13 k P R W = some b ∧ (b = false → R.length ≤ 300 ∧ W.length ≤ 20 ∧ (∀ i, i < W.length → (wk W i).1.length ≤ 40) ∧ (MapOk P R W → P ≤ 12 ∧ R.length ≤ 30 ∧ W.length ≤ 5)) := by
  have hk' := hk
  unfold Fu at hk'
  unfold p13
  simp only [jn_v, lt_v, sp_d, sp_tt, sp_ff, p29_eq hk, cl_v, chkE_eq]
  by_cases h1 : (R.length : Int) > 300
  · exact ⟨true, by rw [iT h1], fun h => (by cases h)⟩
  rw [iF h1]
  by_cases h2 : (W.length : Int) > 20
  · exact ⟨true, by rw [iT h2], fun h => (by cases h)⟩
  rw [iF h2]
  have hs : ∀ j, ((∃ i, i < W.length ∧ 40 < (wk W i).1.length) ∧ p13_l1 k W j k 0 = some true) ∨ ((∀ i, i < W.length → ¬ 40 < (wk W i).1.length) ∧ p13_l1 k W j k 0 = j) := by
    intro j
    refine srch0 (F := p13_l1 k W j) (len := W.length) (n := k) (A := some true) (J := j) (fun i => 40 < (wk W i).1.length) (by omega) ?_ ?_
    · intro n; rw [p13_l1]; simp only [lt_v, sp_d]; rw [iF (by omega)]
    · intro n i hi
      rw [p13_l1]
      simp only [lt_v, sp_d]
      rw [iT (by omega), gd_v (by omega), Int.toNat_natCast, wr_succ hi (by omega)]
      by_cases h : 40 < (wk W i).1.length
      · exact .inl ⟨h, by unfold wk at h; rw [iT (by omega)]⟩
      · exact .inr ⟨h, by unfold wk at h; rw [iF (by omega)]⟩
  rcases hs _ with ⟨_, e⟩ | ⟨h, e⟩
  · exact ⟨true, by rw [e], fun h => (by cases h)⟩
  rw [e]
  by_cases hm : MapOk P R W
  · rw [iT hm]
    by_cases h3 : P > 12
    · exact ⟨true, by rw [iT h3], fun h => (by cases h)⟩
    rw [iF h3]
    by_cases h4 : (R.length : Int) > 30
    · exact ⟨true, by rw [iT h4], fun h => (by cases h)⟩
    rw [iF h4]
    by_cases h5 : (W.length : Int) > 5
    · exact ⟨true, by rw [dT h5], fun h => (by cases h)⟩
    · exact ⟨false, by rw [dF h5], fun _ => ⟨by omega, by omega, fun i hi => by have := h i hi; omega, fun _ => by omega⟩⟩
  · rw [iF hm]
    exact ⟨false, rfl, fun _ => ⟨by omega, by omega, fun i hi => by have := h i hi; omega, fun h => absurd h hm⟩⟩
theorem p23_some {k : Nat} (hk : Fu k) {P : Int} {R : List (List Int)} {W : List WT} {z : List Int} {fr to : Int} : ∃ b, p23 k P R W z fr to = some b ∧ (b = true → Valid P R W z fr to) := by
  unfold p23
  obtain ⟨g, e, hg⟩ := p13_some hk (P := P) (R := R) (W := W)
  simp only [jn_v, lt_v, sp_d, e, cl_v, p29_eq hk, chkE_eq, p40_eq hk, szE_eq]
  cases g with
  | true => exact ⟨false, rfl, fun h => (by cases h)⟩
  | false =>
    rw [sp_ff]
    by_cases hm : MapOk P R W
    · rw [iT hm]
      obtain ⟨g1, g2, g3⟩ := (hg rfl).2.2.2 hm
      by_cases hs : SzOk z
      · rw [iT hs]
        by_cases h1 : fr ≥ 0
        · rw [iT h1]
          by_cases h2 : fr < P
          · rw [iT h2]
            by_cases h3 : to ≥ 0
            · rw [iT h3]
              exact ⟨_, rfl, fun h => ⟨hm, g1, g2, g3, hs, ⟨h1, h2⟩, ⟨h3, of_decide_eq_true h⟩⟩⟩
            · rw [iF h3]; exact ⟨false, rfl, fun h => (by cases h)⟩
          · rw [iF h2]; exact ⟨false, rfl, fun h => (by cases h)⟩
        · rw [iF h1]; exact ⟨false, rfl, fun h => (by cases h)⟩
      · rw [iF hs]; exact ⟨false, rfl, fun h => (by cases h)⟩
    · rw [iF hm]; exact ⟨false, rfl, fun h => (by cases h)⟩
end Go.Proofs.Ythniebmammmacaa
namespace Go.Proofs.Ythniebmammmacaa
open Go.RowKit Classical
theorem dist_ex {P : Int} {R : List (List Int)} {W : List WT} {z : List Int} (h : MapOk P R W) {s : Nat} (hs : s < 2 ^ W.length) {to : Nat} (hto : to < P.toNat) {bw : Bool} : ∃ L, Dist (EG P R (cst R (us R W z (bitsL s W.length))) to bw) L := by
  have := h.w10
  obtain ⟨L, hD, _⟩ := p75a_eq fuK0 (z := z) (z' := z) h (n := W.length) (by omega) hs (Nat.le_refl _) hto (bw := bw)
  exact ⟨L, hD⟩
section
variable {P : Int} {R : List (List Int)} {W : List WT} {z : List Int} {s fr to : Nat} {a : Int}
theorem dst_le (h : MapOk P R W) (hs : s < 2 ^ W.length) (hto : to < P.toNat) (hp : Pth R (us R W z (bitsL s W.length)) fr to a) : dst P R (us R W z (bitsL s W.length)) fr to ≤ a ∧ dst P R (us R W z (bitsL s W.length)) fr to < far := by
  obtain ⟨L, hD⟩ := dist_ex (z := z) h hs hto (bw := true)
  rw [dst_eq h hto hD]
  have he := EG_ok h (cst_ok h (U := us R W z (bitsL s W.length))) hto (bw := true)
  have hw := (Wk_bw h).2 hp
  exact ⟨hD.low he hw, hD.reach he hw⟩
theorem dst_pth (h : MapOk P R W) (hs : s < 2 ^ W.length) (hfr : fr < P.toNat) (hto : to < P.toNat) (hf : dst P R (us R W z (bitsL s W.length)) fr to < far) : Pth R (us R W z (bitsL s W.length)) fr to (dst P R (us R W z (bitsL s W.length)) fr to) := by
  obtain ⟨L, hD⟩ := dist_ex (z := z) h hs hto (bw := true)
  rw [dst_eq h hto hD] at hf ⊢
  have he := EG_ok h (cst_ok h (U := us R W z (bitsL s W.length))) hto (bw := true)
  exact (Wk_bw h).1 (hD.way he _ hfr (Nat.lt_succ_self _) hf)
end
theorem Pth.keep {R : List (List Int)} {U : Nat → Prop} {S : Int → Prop} (hc : ∀ i, i < R.length → U i → S (rF (rd R i)) → S (rT (rd R i))) (hn : ∀ i, i < R.length → 0 ≤ rF (rd R i) ∧ 0 ≤ rT (rd R i)) {u v : Nat} {a : Int} (hp : Pth R U u v a) (hu : S (u : Int)) : S (v : Int) := by
  induction hp with
  | nil v => exact hu
  | @cons i v a hi hui _ ih =>
    have h := hn i hi
    apply ih
    rw [show (((rT (rd R i)).toNat : Nat) : Int) = rT (rd R i) from by omega]
    apply hc i hi hui
    rw [show (((rF (rd R i)).toNat : Nat) : Int) = rF (rd R i) from by omega] at hu
    exact hu
end Go.Proofs.Ythniebmammmacaa
namespace Go.Proofs.Ythniebmammmacaa
open Go.ChangeShapes Go.WideShapes Go.ChangeAt Go.RowKit
def PlainRoadMore : Prop := ∀ (u0_0 : Int) (u0_1 : List (List Int)) (u0_2 : List WT) (u1 : List Int) (u2 : Int) (u3 : Int) (u4 : Int) (u5 : Int) (u6_0 : List Int) (u6_1 : Int) (u6_2 : Int) (u6_3 : Int), Wfi .i64 u0_0 → u0_1.length ≤ maxLen → (∀ r ∈ u0_1, r.length = 12) → (∀ r ∈ u0_1, ∀ z ∈ r, Wfi .i64 z) → u0_2.length ≤ maxLen → (∀ x ∈ u0_2, okWT 3 x) → u1.length = 6 → (∀ z ∈ u1, Wfi .i64 z) → Wfi .i64 u2 → Wfi .i64 u3 → Wfi .u8 u4 → Wfi .i64 u5 → u6_0.length ≤ maxLen → (∀ z ∈ u6_0, Wfi .i64 z) → Wfi .i64 u6_1 → Wfi .i64 u6_2 → Wfi .i64 u6_3 → ∃ k, p5 k u0_0 u0_1 u0_2 u1 u2 u3 u4 u5 u6_0 u6_1 u6_2 u6_3 = some true
theorem own5 : ownKnob Try.prog.godebug = none := by kernel_rfl
theorem laid5 : laidOutB Try.prog = true := by kernel_rfl
set_option maxRecDepth 100000 in
theorem lifted5 (plain : PlainRoadMore) (os : Os) (started : os.Started) (H : Type) (enc : TypeId × Value → H) :
    ReturnsInHanded {} Try.checked os 5 .any (Rows.roadMoreSpec.pre6 enc Try.prog Try.f5 Rows.roadMoreRow.domain false) (Rows.roadMoreSpec.post enc Try.prog Try.f5 false true false false) := by
  refine returnsInHanded_of_change (C := Try.checked) own5 started (by kernel_rfl) Try.func5
    (ChangeSpec.witness6 (enc := enc) (C := Try.checked) false ⟨#[], #[.agg #[.int .i64 0, .slice none 0 0, .slice none 0 0], .agg #[.int .i64 0, .int .i64 0, .int .i64 0, .int .i64 0, .int .i64 0, .int .i64 0], .int .i64 0, .int .i64 0, .int .u8 0, .int .i64 0, .agg #[.slice none 0 0, .int .i64 0, .int .i64 0, .int .i64 0]], []⟩ 12 (by kernel_rfl) (by kernel_rfl) (by kernel_rfl) (by kernel_rfl)) ?_
  intro W base args ds gs before hval0 hW hcnd _
  have hval : ∀ (j : Nat) t v, Try.f5.params[j]? = some t → args[j]? = some v → Value.okWide Try.prog W .any base t v := hval0
  have hW' := hW
  obtain ⟨p, q, hA0, hV, rfl, hfz, hnd⟩ := hW
  have hA : DataW.TrodAll enc Try.prog W 0 (fun _ => true) true Try.f5.params.toList args.toList ds p := hA0
  rw [Try.params5] at hA hval
  obtain ⟨v0, vs0, d0, ds0, p0, q0, hargs, rfl, rfl, h0, r0⟩ := trodAll_cons hA
  obtain ⟨v1, vs1, d1, ds1, p1, q1, rfl, rfl, rfl, h1, r1⟩ := trodAll_cons r0
  obtain ⟨v2, vs2, d2, ds2, p2, q2, rfl, rfl, rfl, h2, r2⟩ := trodAll_cons r1
  obtain ⟨v3, vs3, d3, ds3, p3, q3, rfl, rfl, rfl, h3, r3⟩ := trodAll_cons r2
  obtain ⟨v4, vs4, d4, ds4, p4, q4, rfl, rfl, rfl, h4, r4⟩ := trodAll_cons r3
  obtain ⟨v5, vs5, d5, ds5, p5, q5, rfl, rfl, rfl, h5, r5⟩ := trodAll_cons r4
  obtain ⟨v6, vs6, d6, ds6, p6, q6, rfl, rfl, rfl, h6, r6⟩ := trodAll_cons r5
  obtain ⟨rfl, rfl, rfl⟩ := trodAll_nil r6
  obtain rfl : args = #[v0, v1, v2, v3, v4, v5, v6] := by cases args; simp_all
  obtain ⟨rfl, rfl⟩ := trodVars_none hV
  have k0 := h0
  have lt0 : ∀ x ∈ p0, x.block < W.heap.size := by obtain ⟨m, hm⟩ := k0; exact DataW.trod_lt m _ _ _ hm
  obtain ⟨cs0, fu0, rfl, hx0⟩ := open_agg Try.underlying25 rfl (hval 0 25 v0 rfl rfl) h0
  obtain ⟨c0a, c0b, c0c, fv0, y0a, y0b, y0c, rfl, hx0a, hx0b, hx0c⟩ := open_three Try.underlying25 rfl (by kernel_rfl) (by kernel_rfl) (by kernel_rfl) hx0
  obtain ⟨u0_0, rfl, wu0_0⟩ := open_i1 (k := .i64) (d := 8) (by kernel_rfl) hx0a
  obtain ⟨Au0_1, u0_1, cu0_1, rfl, su0_1, mu0_1, zu0_1⟩ := open_rows (k := .i64) (d := 8) (m := 12) Try.underlying22 (by kernel_rfl) rfl (by kernel_rfl) hx0b
  obtain ⟨Au0_2, u0_2, cu0_2, Hu0_2, Cu0_2, rfl, su0_2, mu0_2, zu0_2⟩ := open_works (m := 3) Try.underlying23 (by kernel_rfl) (fun h => open_workB 3 (by kernel_rfl) h) hx0c
  have k1 := h1
  have lt1 : ∀ x ∈ p1, x.block < W.heap.size := by obtain ⟨m, hm⟩ := k1; exact DataW.trod_lt m _ _ _ hm
  obtain ⟨cs1, fu1, rfl, hx1⟩ := open_agg Try.underlying26 rfl (hval 1 26 v1 rfl rfl) h1
  obtain ⟨u1, rfl, lu1, zu1⟩ := open_ints' (k := .i64) (d := 8) (n := 6) (by kernel_rfl) hx1
  obtain ⟨u2, rfl, rfl, rfl, wu2⟩ := open_int Try.underlying3 (hval 2 3 v2 rfl rfl) h2
  obtain ⟨u3, rfl, rfl, rfl, wu3⟩ := open_int Try.underlying3 (hval 3 3 v3 rfl rfl) h3
  obtain ⟨u4, rfl, rfl, rfl, wu4⟩ := open_int Try.underlying5 (hval 4 5 v4 rfl rfl) h4
  obtain ⟨u5, rfl, rfl, rfl, wu5⟩ := open_int Try.underlying2 (hval 5 2 v5 rfl rfl) h5
  have k6 := h6
  have lt6 : ∀ x ∈ p6, x.block < W.heap.size := by obtain ⟨m, hm⟩ := k6; exact DataW.trod_lt m _ _ _ hm
  obtain ⟨cs6, fu6, rfl, hx6⟩ := open_agg Try.underlying54 rfl (hval 6 54 v6 rfl rfl) h6
  obtain ⟨c6a, c6b, c6c, c6d, fv6, y6a, y6b, y6c, y6d, rfl, hx6a, hx6b, hx6c, hx6d⟩ := open_four Try.underlying54 rfl (by kernel_rfl) (by kernel_rfl) hx6
  obtain ⟨Au6_0, u6_0, cu6_0, rfl, su6_0, mu6_0, zu6_0⟩ := open_sint (k := .i64) (d := 8) Try.underlying27 (by kernel_rfl) (by kernel_rfl) hx6a
  obtain ⟨u6_1, rfl, wu6_1⟩ := open_i1 (k := .i64) (d := 8) (by kernel_rfl) hx6b
  obtain ⟨u6_2, rfl, wu6_2⟩ := open_i1 (k := .i64) (d := 8) (by kernel_rfl) hx6c
  obtain ⟨u6_3, rfl, wu6_3⟩ := open_i1 (k := .i64) (d := 8) (by kernel_rfl) hx6d
  obtain ⟨k, hp⟩ := plain u0_0 u0_1 u0_2 u1 u2 u3 u4 u5 u6_0 u6_1 u6_2 u6_3 wu0_0 mu0_1 su0_1.1 zu0_1 mu0_2 zu0_2 lu1 zu1 wu2 wu3 wu4 wu5 mu6_0 zu6_0 wu6_1 wu6_2 wu6_3
  have hc := Fn.calls (Mem.le_refl _) ((w5 k su0_1 su0_2 lu1 su6_0 hp).mono (R' := fun x _ => rval x = .bool true) (by rintro x M' _ rfl; rfl))
  clear hA0 hval0
  have hc2 : Calls Try.prog 5 #[.agg ([Value.int .i64 u0_0] ++ [Value.slice Au0_1 (List.length u0_1) cu0_1] ++ [Value.slice Au0_2 (List.length u0_2) cu0_2]).toArray, .agg (ints .i64 u1).toArray, .int .i64 u2, .int .i64 u3, .int .u8 u4, .int .i64 u5, .agg ([Value.slice Au6_0 (List.length u6_0) cu6_0] ++ [Value.int .i64 u6_1] ++ [Value.int .i64 u6_2] ++ [Value.int .i64 u6_3]).toArray] W fun e w' => e = .returned (.bool true) ∧ Below W.heap.size W w' := by
    simpa [rval, SV.val, sgCells, Sg.cells, Lf.val] using hc
  refine hc2.mono fun e W' ⟨he, bel⟩ => ?_
  subst he
  exact ⟨_, rfl, _, _, _, [], _, [], hW', trodAll_mk1 (shut_bool Try.underlying4 _), (trodAll_cons_mk (Below.trod laid5 (by kernel_rfl) (of_decide_eq_true (by kernel_rfl)) k0 bel lt0) (trodAll_cons_mk (Below.trod laid5 (by kernel_rfl) (of_decide_eq_true (by kernel_rfl)) k1 bel lt1) (trodAll_cons_mk (shut_int Try.underlying3 wu2) (trodAll_cons_mk (shut_int Try.underlying3 wu3) (trodAll_cons_mk (shut_int Try.underlying5 wu4) (trodAll_cons_mk (shut_int Try.underlying2 wu5) (trodAll_cons_mk (Below.trod laid5 (by kernel_rfl) (of_decide_eq_true (by kernel_rfl)) k6 bel lt6) trodAll_mk0))))))), rfl, bel.frame _, fun h => by cases h⟩
theorem roadMore_of (plain : PlainRoadMore) : Rows.RoadMoreSaid :=
  OpenClaim.holds_of_wide 5 Try.f5 rfl rfl rfl rfl rfl rfl rfl ⟨rfl, rfl, rfl, rfl, rfl⟩ rfl rfl rfl rfl rfl (by kernel_rfl) Try.func5 (by kernel_rfl)
    (of_decide_eq_true (by kernel_rfl)) (by unfold Func.isWrapper; first | (rw [if_pos (by decide +kernel)]; kernel_rfl) | (rw [if_neg (by decide +kernel)]; exact ⟨rfl, rfl⟩))
    (fun os started H enc _ => lifted5 plain os started H enc)
end Go.Proofs.Ythniebmammmacaa
namespace Go.Proofs.Ythniebmammmacaa
open Go.RowKit Classical
theorem us_z {R : List (List Int)} {W : List WT} {z z' S : List Int} {i : Nat} (h : ∀ k, k < 6 → z'.getD k 0 ≤ z.getD k 0) (hu : us R W z S i) : us R W z' S i := fun k hk => Int.le_trans (h k hk) (hu k hk)
theorem more {P : Int} {R : List (List Int)} {W W' : List WT} {z z' : List Int} {fr to s : Nat} {rs ws : List Int} {c mi : Int} (h : MapOk P R W) (h' : MapOk P R W') (hfr : fr < P.toNat) (hto : to < P.toNat) (hs' : s < 2 ^ W'.length)
    (hU : ∀ i, i < R.length → us R W z (bitsL s W.length) i → us R W' z' (bitsL s W'.length) i) (hc : costL W' (bitsL s W'.length) = costL W (bitsL s W.length)) (q : Cheap P R W z fr to s rs ws c mi) :
    dst P R (us R W' z' (bitsL s W'.length)) fr to < far ∧ dst P R (us R W' z' (bitsL s W'.length)) fr to + costL W' (bitsL s W'.length) ≤ c := by
  have hp := dst_pth h q.ms hfr hto q.fin
  obtain ⟨h1, h2⟩ := dst_le h' hs' hto (hp.mono hU)
  refine ⟨h2, ?_⟩
  rw [q.co, q.wse, hc]
  omega
theorem bitsF_more {m : Nat} : ∀ {d i : Nat}, m < 2 ^ (i + d) → bitsF m (d + 1) i = bitsF m d i
  | 0, i, h => by
    show (if m.testBit i = true then (i : Int) :: bitsF m 0 (i + 1) else bitsF m 0 (i + 1)) = bitsF m 0 i
    rw [Nat.testBit_lt_two_pow (by simpa using h), if_neg (by decide)]
    rfl
  | d + 1, i, h => by
    have ih := bitsF_more (m := m) (d := d) (i := i + 1) (by rw [show i + 1 + d = i + (d + 1) from by omega]; exact h)
    rw [bitsF, ih]
    conv => rhs; rw [bitsF]
theorem bitsL_more {m n : Nat} (h : m < 2 ^ n) : bitsL m (n + 1) = bitsL m n := bitsF_more (by rw [Nat.zero_add]; exact h)
theorem wk_app {W : List WT} {w : WT} {i : Nat} (h : i < W.length) : wk (W ++ [w]) i = wk W i := by
  unfold wk
  rw [List.getD_eq_getElem?_getD, List.getElem?_append_left h, List.getD_eq_getElem?_getD]
theorem costL_app {W : List WT} {w : WT} : ∀ {S : List Int}, sOk W S → costL (W ++ [w]) S = costL W S
  | [], _ => rfl
  | x :: S, h => by
    have hx := h x List.mem_cons_self
    rw [costL, costL, wk_app (by omega), costL_app fun y hy => h y (List.mem_cons_of_mem _ hy)]
theorem limL_app {W : List WT} {w : WT} {i k : Int} : ∀ {S : List Int} {a : Int}, sOk W S → limL (W ++ [w]) i k S a = limL W i k S a
  | [], _, _ => rfl
  | x :: S, a, h => by
    have hx := h x List.mem_cons_self
    rw [limL, limL, wk_app (by omega), limL_app fun y hy => h y (List.mem_cons_of_mem _ hy)]
theorem plain5 : PlainRoadMore := by
  intro P R W z fr to u4 u5 w0 w1 w2 w3 hP hRl hr hRz hWl hWo hz6 hzz hfr hto hu4 hu5 hw0 hw0z hw1 hw2 hw3
  obtain ⟨k, hk, h14⟩ : ∃ k, Fu k ∧ p14 k = some true := ⟨K0, fuK0, p14_eq⟩
  refine ⟨k, ?_⟩
  have hk' := hk
  unfold Fu at hk'
  unfold p5
  simp only [jn_v]
  rw [h14]
  obtain ⟨b, hb, hv⟩ := p23_some hk (P := P) (R := R) (W := W) (z := z) (fr := fr) (to := to)
  rw [hb, cl_v]
  cases b with
  | false => simp only [sp_ff, cl_v]
  | true =>
    rw [sp_tt]
    obtain ⟨h, hp12, hr30, hw5, hz, hf0, ht0⟩ := hv rfl
    obtain ⟨f, rfl⟩ : ∃ f : Nat, fr = (f : Int) := ⟨fr.toNat, by omega⟩
    obtain ⟨t, rfl⟩ : ∃ t : Nat, to = (t : Int) := ⟨to.toNat, by omega⟩
    have hfP : f < P.toNat := by omega
    have htP : t < P.toNat := by omega
    rcases p28_eq hk h hz hz6 hr hfP htP with ⟨q1, q2⟩ | ⟨s, rs, ws, c, mi, q1, q2⟩
    · rw [q2, cl5_v]
      simp [lt_v, sp_tt, sp_ff, cl_v]
    · rw [q2, cl5_v]
      simp only [lt_v, show ((0 : Int) != 0) = false from rfl, sp_ff]
      have hn64 : (2 : Nat) ^ W.length < 2 ^ 64 := Nat.pow_lt_pow_right (by omega) (by omega)
      -- the lesser size
      have hsmall : ∀ z', z'.length = 6 → SzOk z' → (∀ k, k < 6 → z'.getD k 0 ≤ z.getD k 0) → ∃ a1 a2 c' a4, p28 k P R W z' (f : Int) (t : Int) = some (a1, a2, c', a4, 0) ∧ c' ≤ c := by
        intro z' e6 hz' hle
        obtain ⟨g1, g2⟩ := more (W' := W) (z' := z') h h hfP htP q1.ms (fun i hi hu => us_z hle hu) rfl q1
        rcases p28_eq hk h hz' e6 hr hfP htP with ⟨r1, r2⟩ | ⟨s', rs', ws', c', mi', r1, r2⟩
        · exact absurd g1 (r1 s q1.ms)
        · exact ⟨_, _, _, _, r2, Int.le_trans (r1.le s q1.ms g1) g2⟩
      -- another work
      have hmore : MapOk P R (W ++ [(w0, [w1, w2, w3])]) → ∃ a1 a2 c' a4, p28 k P R (W ++ [(w0, [w1, w2, w3])]) z (f : Int) (t : Int) = some (a1, a2, c', a4, 0) ∧ c' ≤ c := by
        intro h'
        have hl : (W ++ [(w0, [w1, w2, w3])]).length = W.length + 1 := by simp
        have hs' : s < 2 ^ (W ++ [(w0, [w1, w2, w3])]).length := by
          rw [hl, Nat.pow_succ]; have := q1.ms; omega
        have hbl : bitsL s (W ++ [(w0, [w1, w2, w3])]).length = bitsL s W.length := by rw [hl]; exact bitsL_more q1.ms
        have hso : sOk W (bitsL s W.length) := by
          intro x hx
          obtain ⟨j, a, _, rfl⟩ := mem_bitsL.1 hx
          omega
        obtain ⟨g1, g2⟩ := more (W' := W ++ [(w0, [w1, w2, w3])]) (z' := z) h h' hfP htP hs' (fun i hi hu => by
          rw [hbl]
          intro k hk
          have := hu k hk
          unfold lim at this ⊢
          rw [limL_app hso]
          exact this) (by rw [hbl, costL_app hso]) q1
        rcases p28_eq hk h' hz hz6 hr hfP htP with ⟨r1, r2⟩ | ⟨s', rs', ws', c', mi', r1, r2⟩
        · exact absurd g1 (r1 s hs')
        · exact ⟨_, _, _, _, r2, Int.le_trans (r1.le s hs' g1) g2⟩
      have hu4' := wf_u8 hu4
      have hx6 : 0 ≤ Int.tmod u4 6 ∧ Int.tmod u4 6 < 6 := by
        rw [Int.tmod_eq_emod_of_nonneg hu4'.1]; omega
      obtain ⟨x, hx⟩ : ∃ x : Nat, Int.tmod u4 6 = (x : Int) := ⟨(Int.tmod u4 6).toNat, by omega⟩
      -- what comes behind the lesser size
      have rest : ∀ z', z'.length = 6 → SzOk z' → (∀ k, k < 6 → z'.getD k 0 ≤ z.getD k 0) →
          (cl5 (p28 k P R W z' (f : Int) (t : Int)) fun v31 v32 v33 v34 v35 => sp (v35 != (0 : Int)) (some false) (sp (decide (v33 > c)) (some false) (gd ((List.length ([] : List WT) + List.length W) * 48 ≤ 140737488355328) <| gd ((List.length (([] : List WT) ++ W) + List.length ([(w0, [w1, w2, w3])] : List WT)) * 48 ≤ 140737488355328) <|
            sp (decide ((List.length w0 : Int) > (40 : Int))) (some true) (cl (p29 k P R (([] : List WT) ++ W ++ [(w0, [w1, w2, w3])])) fun v57 => sp (v57 != (0 : Int)) (some true) (cl5 (p28 k P R (([] : List WT) ++ W ++ [(w0, [w1, w2, w3])]) z (f : Int) (t : Int)) fun v60 v61 v62 v63 v64 => sp (v64 == (0 : Int)) (sp (decide (v62 ≤ c)) (some true) (some false)) (some false)))))) = some true := by
        intro z' e6 hz' hle
        obtain ⟨a1, a2, c', a4, e1, e2⟩ := hsmall z' e6 hz' hle
        rw [e1, cl5_v, show ((0 : Int) != 0) = false from rfl, sp_ff, sp_d, iF (by omega), gd_v (by simp only [List.length_nil]; omega), gd_v (by simp only [List.nil_append, List.length_cons, List.length_nil]; omega), List.nil_append, p29_eq hk, cl_v, chkE_ne, sp_d]
        by_cases h40 : (w0.length : Int) > 40
        · rw [iT h40]
        · rw [iF h40, sp_d]
          by_cases hm : MapOk P R (W ++ [(w0, [w1, w2, w3])])
          · rw [iF (not_not_intro hm)]
            obtain ⟨b1, b2, d', b4, f1, f2⟩ := hmore hm
            rw [f1, cl5_v, show ((0 : Int) == 0) = true from rfl, sp_tt, sp_d, iT f2]
          · rw [iT hm]
      have hid := rest z hz6 hz (fun k _ => Int.le_refl _)
      rw [q2] at hid
      have e8 : wr .i64 u4 = u4 := wr64 (by omega) (by omega)
      simp only [cl_v, jn_v, lt_v, e8, hx, Int.toNat_natCast, Nat.mul_one, Nat.zero_add, sp_tt, sp_ff]
      simp only [gd_v (show (0 : Int) ≤ (x : Int) ∧ (x : Int) < ((6 : Nat) : Int) from by omega)]
      have hx6' : x < 6 := by omega
      by_cases hc1 : u5 ≥ 0
      · rw [dT hc1, sp_tt]
        by_cases hc2 : u5 < z.getD x 0
        · rw [dT hc2, sp_tt]
          have hg : ∀ q, q < 6 → (List.take x z ++ [u5] ++ List.drop (x + 1) z).getD q 0 = if q = x then u5 else z.getD q 0 := by
            intro q hq
            have e : List.take x z ++ [u5] ++ List.drop (x + 1) z = z.set x u5 := by
              rw [List.append_assoc]
              exact (List.set_eq_take_append_cons_drop (l := z) (i := x) (a := u5)).symm ▸ (by rw [if_pos (by omega)]; rfl)
            rw [e, getD_setI (by omega)]
            by_cases g : x = q
            · rw [if_pos g, if_pos g.symm]
            · rw [if_neg g, if_neg (fun h => g h.symm)]
          refine rest _ ?_ ?_ ?_
          · simp only [List.length_append, List.length_take, List.length_drop, List.length_cons, List.length_nil]; omega
          · intro q hq
            rw [hg q hq]
            have h1 := hz q hq
            have h2 := hz x hx6'
            split <;> omega
          · intro q hq
            rw [hg q hq]
            split
            · rename_i g; subst g; omega
            · exact Int.le_refl _
        · rw [dF hc2, sp_ff]; exact hid
      · rw [dF hc1, sp_ff]; exact hid
theorem roadMore_holds : Rows.RoadMoreSaid := roadMore_of plain5
end Go.Proofs.Ythniebmammmacaa
