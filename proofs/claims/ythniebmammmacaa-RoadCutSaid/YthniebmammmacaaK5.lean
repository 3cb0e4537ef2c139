/- The law RoadCut holds of every input. No condition: every theorem names its own hypotheses. -/
import Derived.Test.YthniebmammmacaaK4
import Derived.Test.YthniebmammmacaaRows
set_option linter.unusedVariables false
set_option linter.unusedSimpArgs false
set_option maxHeartbeats 4000000
namespace Go.Proofs.Ythniebmammmacaa
open Go.RowKit Classical
theorem wr64 {z : Int} (h1 : -9223372036854775808 ≤ z) (h2 : z ≤ 9223372036854775807) : wr .i64 z = z := by
  simp only [wr, IntKind.wrap, IntKind.signed, IntKind.bits]
  simp
  omega
theorem wru {z : Int} (h1 : 0 ≤ z) (h2 : z ≤ 18446744073709551615) : wr .u64 z = z := by
  simp only [wr, IntKind.wrap, IntKind.signed, IntKind.bits]
  simp
  omega
theorem mx_eq (x y : Int) : mx x y = max x y := by unfold mx; omega
theorem mn_eq (x y : Int) : mn x y = min x y := by unfold mn; omega
theorem lt_v {α β : Type} (x : β) (F : β → Option α) : lt' x F = F x := rfl
theorem jn_v {α β : Type} (F : β) (G : β → Option α) : jn F G = G F := rfl
theorem cl_v {α β : Type} (v : β) (F : β → Option α) : cl (some v) F = F v := rfl
theorem cl2_v {α β γ : Type} (a : α) (b : β) (F : α → β → Option γ) : cl2 (some (a, b)) F = F a b := rfl
theorem cl3_v {α β γ δ : Type} (a : α) (b : β) (c : γ) (F : α → β → γ → Option δ) : cl3 (some (a, b, c)) F = F a b c := rfl
theorem cl5_v {α β γ δ ε ζ : Type} (a : α) (b : β) (c : γ) (d : δ) (e : ε) (F : α → β → γ → δ → ε → Option ζ) : cl5 (some (a, b, c, d, e)) F = F a b c d e := rfl
theorem sp_tt {α : Type} (x y : Option α) : sp true x y = x := rfl
theorem sp_ff {α : Type} (x y : Option α) : sp false x y = y := rfl
theorem sp_d {α : Type} {c : Prop} [h : Decidable c] (x y : Option α) : sp (decide c) x y = if c then x else y := by
  cases h <;> rfl
theorem sp_nd {α : Type} {c : Prop} [h : Decidable c] (x y : Option α) : sp (!decide c) x y = if c then y else x := by
  cases h <;> rfl
theorem gd_v {α : Type} {c : Prop} [Decidable c] (h : c) (x : Option α) : gd c x = x := by unfold gd; rw [if_pos h]
theorem beq_d (x y : Int) : (x == y) = decide (x = y) := by by_cases h : x = y <;> simp [h]
theorem bne_d (x y : Int) : (x != y) = decide (¬ x = y) := by by_cases h : x = y <;> simp [h]
theorem wr_succ {i n : Nat} (h : i < n) (hn : n ≤ 9223372036854775807) : wr .i64 ((i : Int) + 1) = ((i + 1 : Nat) : Int) := by
  rw [wr64 (by omega) (by omega)]; omega
theorem dT {p : Prop} {i : Decidable p} (h : p) : @decide p i = true := by cases i <;> first | rfl | contradiction
theorem dF {p : Prop} {i : Decidable p} (h : ¬ p) : @decide p i = false := by cases i <;> first | rfl | contradiction
theorem dI {p q : Prop} {i : Decidable p} {j : Decidable q} (h : p ↔ q) : @decide p i = @decide q j := by
  by_cases hp : p
  · rw [dT hp, dT (h.1 hp)]
  · rw [dF hp, dF (fun hq => hp (h.2 hq))]
theorem iT {α : Type} {p : Prop} {i : Decidable p} {x y : α} (h : p) : @ite α p i x y = x := by cases i <;> first | rfl | contradiction
theorem iF {α : Type} {p : Prop} {i : Decidable p} {x y : α} (h : ¬ p) : @ite α p i x y = y := by cases i <;> first | rfl | contradiction
theorem getD_drop {L : List Int} {i : Nat} (h : i < L.length) : L.drop i = L.getD i 0 :: L.drop (i + 1) := by
  rw [List.drop_eq_getElem_cons h]
  simp [List.getD_eq_getElem?_getD, List.getElem?_eq_getElem h]
theorem getD_mem {L : List Int} {i : Nat} (h : i < L.length) : L.getD i 0 ∈ L := by
  rw [List.getD_eq_getElem?_getD, List.getElem?_eq_getElem h]; exact List.getElem_mem h
theorem mem_getD {L : List Int} {x : Int} (h : x ∈ L) : ∃ i, i < L.length ∧ L.getD i 0 = x := by
  obtain ⟨i, hi, e⟩ := List.getElem_of_mem h
  exact ⟨i, hi, by rw [List.getD_eq_getElem?_getD, List.getElem?_eq_getElem hi]; exact e⟩
theorem srch {β : Type} {F : Nat → Int → Option β} {len : Nat} {Q : Nat → Prop} {A J : Option β} (h0 : ∀ n, F (n + 1) (len : Int) = J)
    (h1 : ∀ n (i : Nat), i < len → (Q i ∧ F (n + 1) (i : Int) = A) ∨ (¬ Q i ∧ F (n + 1) (i : Int) = F n ((i + 1 : Nat) : Int))) : ∀ d i n, i + d = len → d < n →
    ((∃ j, i ≤ j ∧ j < len ∧ Q j) ∧ F n (i : Int) = A) ∨ ((∀ j, i ≤ j → j < len → ¬ Q j) ∧ F n (i : Int) = J)
  | 0, i, n, h2, h3 => by
    obtain ⟨n, rfl⟩ : ∃ n', n = n' + 1 := ⟨n - 1, by omega⟩
    obtain rfl : i = len := by omega
    exact .inr ⟨by intros; omega, h0 n⟩
  | d + 1, i, n, h2, h3 => by
    obtain ⟨n, rfl⟩ : ∃ n', n = n' + 1 := ⟨n - 1, by omega⟩
    rcases h1 n i (by omega) with ⟨hq, e⟩ | ⟨hq, e⟩
    · exact .inl ⟨⟨i, Nat.le_refl _, by omega, hq⟩, e⟩
    · rw [e]
      rcases srch h0 h1 d (i + 1) n (by omega) (by omega) with ⟨⟨j, a, b, c⟩, e⟩ | ⟨h, e⟩
      · exact .inl ⟨⟨j, by omega, b, c⟩, e⟩
      · refine .inr ⟨fun j a b => ?_, e⟩
        rcases Nat.eq_or_lt_of_le a with e | e
        · subst e; exact hq
        · exact h j e b
theorem srch0 {β : Type} {F : Nat → Int → Option β} {len n : Nat} (Q : Nat → Prop) {A J : Option β} (hn : len < n) (h0 : ∀ n, F (n + 1) (len : Int) = J)
    (h1 : ∀ n (i : Nat), i < len → (Q i ∧ F (n + 1) (i : Int) = A) ∨ (¬ Q i ∧ F (n + 1) (i : Int) = F n ((i + 1 : Nat) : Int))) :
    ((∃ j, j < len ∧ Q j) ∧ F n 0 = A) ∨ ((∀ j, j < len → ¬ Q j) ∧ F n 0 = J) := by
  rcases srch h0 h1 len 0 n (by omega) hn with ⟨⟨j, a, b, c⟩, e⟩ | ⟨h, e⟩
  · exact .inl ⟨⟨j, b, c⟩, e⟩
  · exact .inr ⟨fun j => h j (Nat.zero_le _), e⟩
noncomputable def fst (Q : Nat → Prop) : Nat → Nat → Int
  | 0, _ => -1
  | d + 1, i => if Q i then (i : Int) else fst Q d (i + 1)
theorem fst_spec (Q : Nat → Prop) : ∀ d i, (fst Q d i = -1 ∧ ∀ j, i ≤ j → j < i + d → ¬ Q j) ∨ (∃ j : Nat, fst Q d i = (j : Int) ∧ i ≤ j ∧ j < i + d ∧ Q j ∧ ∀ j', i ≤ j' → j' < j → ¬ Q j')
  | 0, i => .inl ⟨rfl, by intros; omega⟩
  | d + 1, i => by
    unfold fst
    by_cases hq : Q i
    · rw [if_pos hq]; exact .inr ⟨i, rfl, Nat.le_refl _, by omega, hq, by intros; omega⟩
    · rw [if_neg hq]
      rcases fst_spec Q d (i + 1) with ⟨a, b⟩ | ⟨j, a, b, c, e, f⟩
      · refine .inl ⟨a, fun j h1 h2 => ?_⟩
        rcases Nat.eq_or_lt_of_le h1 with e | e
        · subst e; exact hq
        · exact b j e (by omega)
      · refine .inr ⟨j, a, by omega, by omega, e, fun j' h1 h2 => ?_⟩
        rcases Nat.eq_or_lt_of_le h1 with e | e
        · subst e; exact hq
        · exact f j' e h2
theorem srchI {F : Nat → Int → Option Int} {len : Nat} {Q : Nat → Prop} (h0 : ∀ n, F (n + 1) (len : Int) = some (-1))
    (h1 : ∀ n (i : Nat), i < len → (Q i ∧ F (n + 1) (i : Int) = some (i : Int)) ∨ (¬ Q i ∧ F (n + 1) (i : Int) = F n ((i + 1 : Nat) : Int))) : ∀ d i n, i + d = len → d < n →
    F n (i : Int) = some (fst Q d i)
  | 0, i, n, h2, h3 => by
    obtain ⟨n, rfl⟩ : ∃ n', n = n' + 1 := ⟨n - 1, by omega⟩
    obtain rfl : i = len := by omega
    rw [h0]; rfl
  | d + 1, i, n, h2, h3 => by
    obtain ⟨n, rfl⟩ : ∃ n', n = n' + 1 := ⟨n - 1, by omega⟩
    have ih := srchI h0 h1 d (i + 1) n (by omega) (by omega)
    rcases h1 n i (by omega) with ⟨hq, e⟩ | ⟨hq, e⟩
    · rw [e, fst, iT hq]
    · rw [e, ih, fst, iF hq]
theorem srchI0 {F : Nat → Int → Option Int} {len n : Nat} (Q : Nat → Prop) (hn : len < n) (h0 : ∀ n, F (n + 1) (len : Int) = some (-1))
    (h1 : ∀ n (i : Nat), i < len → (Q i ∧ F (n + 1) (i : Int) = some (i : Int)) ∨ (¬ Q i ∧ F (n + 1) (i : Int) = F n ((i + 1 : Nat) : Int))) : F n 0 = some (fst Q len 0) :=
  srchI h0 h1 len 0 n (by omega) hn
theorem fst_pos {Q : Nat → Prop} {len : Nat} : decide (fst Q len 0 ≥ 0) = decide (∃ j, j < len ∧ Q j) := by
  rcases fst_spec Q len 0 with ⟨a, b⟩ | ⟨j, a, b, c, e, f⟩
  · rw [a, dF (by omega), dF]
    rintro ⟨j, h1, h2⟩
    exact b j (Nat.zero_le _) (by omega) h2
  · rw [a, dT (by omega), dT ⟨j, by omega, e⟩]
theorem loopI {σ β : Type} {F : Nat → Int → σ → Option β} {len : Nat} {J : σ → Option β} (I : Nat → σ → Prop) (h0 : ∀ n s, I len s → F (n + 1) (len : Int) s = J s)
    (h1 : ∀ n (i : Nat) s, i < len → I i s → ∃ s', I (i + 1) s' ∧ F (n + 1) (i : Int) s = F n ((i + 1 : Nat) : Int) s') : ∀ d i n s, i + d = len → d < n → I i s → ∃ s', I len s' ∧ F n (i : Int) s = J s'
  | 0, i, n, s, h2, h3, hi => by
    obtain ⟨n, rfl⟩ : ∃ n', n = n' + 1 := ⟨n - 1, by omega⟩
    obtain rfl : i = len := by omega
    exact ⟨s, hi, h0 n s hi⟩
  | d + 1, i, n, s, h2, h3, hi => by
    obtain ⟨n, rfl⟩ : ∃ n', n = n' + 1 := ⟨n - 1, by omega⟩
    obtain ⟨s', hi', e⟩ := h1 n i s (by omega) hi
    rw [e]
    exact loopI I h0 h1 d (i + 1) n s' (by omega) (by omega) hi'
theorem loop0 {σ β : Type} {F : Nat → Int → σ → Option β} {len n : Nat} {J : σ → Option β} (I : Nat → σ → Prop) (s : σ) (hn : len < n) (hi : I 0 s) (h0 : ∀ n s, I len s → F (n + 1) (len : Int) s = J s)
    (h1 : ∀ n (i : Nat) s, i < len → I i s → ∃ s', I (i + 1) s' ∧ F (n + 1) (i : Int) s = F n ((i + 1 : Nat) : Int) s') : ∃ s', I len s' ∧ F n 0 s = J s' :=
  loopI I h0 h1 len 0 n s (by omega) hn hi
theorem whileI {σ β : Type} {F : Nat → σ → Option β} {J : σ → Option β} (m : σ → Nat) (I : σ → Prop) (Q : σ → Prop)
    (h : ∀ n s, I s → (∃ s', Q s' ∧ F (n + 1) s = J s') ∨ (∃ s', I s' ∧ m s' < m s ∧ F (n + 1) s = F n s')) : ∀ n s, I s → m s < n → ∃ s', Q s' ∧ F n s = J s'
  | 0, s, _, h2 => by omega
  | n + 1, s, hi, h2 => by
    rcases h n s hi with ⟨s', a, b⟩ | ⟨s', a, b, c⟩
    · exact ⟨s', a, b⟩
    · rw [c]; exact whileI m I Q h n s' a (by omega)
theorem p64_eq {k : Nat} {x a b : Int} : p64 k x a b = some (decide (a ≤ x ∧ x ≤ b)) := by
  unfold p64
  simp only [jn_v, lt_v, sp_d]
  by_cases h : a ≤ x <;> by_cases h2 : x ≤ b <;> simp [h, h2]
theorem p65_eq {k : Nat} {x a b : Int} : p65 k x a b = some (decide (a ≤ x ∧ x ≤ b)) := by
  unfold p65
  simp only [jn_v, lt_v, sp_d]
  by_cases h : x ≥ a <;> by_cases h2 : x ≤ b <;> simp [h, h2]
theorem p98_eq {k : Nat} {x : Int} : p98 k x = some (!decide (0 ≤ x ∧ x ≤ 1073741824)) := by unfold p98; rw [p64_eq]; rfl
theorem p94_eq {k : Nat} {P : Int} {R : List (List Int)} {W : List WT} {x : Int} : p94 k x P R W = some (decide (0 ≤ x ∧ x < P)) := by
  unfold p94
  simp only [jn_v, lt_v, sp_d]
  by_cases h : x ≥ 0 <;> by_cases h2 : x < P <;> simp [h, h2]
def Fu (k : Nat) : Prop := 1152921504606846976 ≤ k
abbrev SzOk (z : List Int) : Prop := ∀ i, i < 6 → 0 ≤ z.getD i 0 ∧ z.getD i 0 ≤ 1073741824
noncomputable def szE (z : List Int) : Int := if SzOk z then 0 else 2
theorem p40_eq {k : Nat} (hk : Fu k) {z : List Int} : p40 k z = some (szE z) := by
  unfold Fu at hk
  unfold p40 szE
  simp only [jn_v]
  have hs := srch0 (F := p40_l1 k z (some 0)) (len := 6) (n := k) (A := some 2) (J := some 0) (fun i => ¬ (0 ≤ z.getD i 0 ∧ z.getD i 0 ≤ 1073741824)) (by omega) ?_ ?_
  · rcases hs with ⟨⟨j, a, b⟩, e⟩ | ⟨h, e⟩
    · rw [e, iF (fun h => b (h j a))]
    · rw [e, iT (fun i hi => Classical.byContradiction (h i hi))]
  · intro n; rw [p40_l1]; rfl
  · intro n i hi
    rw [p40_l1]
    simp only [lt_v, sp_d]
    rw [iT (by omega), gd_v (by omega), p65_eq]
    simp only [cl_v, sp_d, Int.toNat_natCast, Nat.mul_one, Nat.zero_add]
    rw [wr_succ hi (by omega)]
    by_cases h : 0 ≤ z.getD i 0 ∧ z.getD i 0 ≤ 1073741824
    · exact .inr ⟨not_not_intro h, iT h⟩
    · exact .inl ⟨h, iF h⟩
theorem p39_eq {k : Nat} (hk : Fu k) {z : List Int} (hz : z.length = 6) : p39 k z = some (szE z) := by
  unfold Fu at hk
  unfold p39 p62a p115a
  simp only [jn_v]
  rw [srchI0 (F := p115a_l1 k z (some (-1))) (len := 6) (n := k) (fun i => ¬ (0 ≤ z.getD i 0 ∧ z.getD i 0 ≤ 1073741824)) (by omega)]
  · simp only [cl_v, lt_v]
    rw [fst_pos]
    unfold szE
    by_cases h : SzOk z
    · rw [dF (fun ⟨j, a, b⟩ => b (h j a)), iT h, sp_ff]
    · rw [dT, iF h, sp_tt]
      exact Classical.byContradiction fun h2 => h fun i hi => Classical.byContradiction fun h3 => h2 ⟨i, hi, h3⟩
  · intro n; rw [p115a_l1]; simp only [lt_v, sp_d, hz]; rfl
  · intro n i hi
    rw [p115a_l1]
    simp only [lt_v, sp_d, hz]
    rw [iT (by omega), gd_v (by omega), p98_eq]
    simp only [cl_v, sp_nd, Int.toNat_natCast]
    rw [wr_succ hi (by omega)]
    by_cases h : 0 ≤ z.getD i 0 ∧ z.getD i 0 ≤ 1073741824
    · exact .inr ⟨not_not_intro h, iT h⟩
    · exact .inl ⟨h, iF h⟩
def setB (n : Int) : Int → List Int → Prop
  | _, [] => True
  | a, x :: r => a < x ∧ x < n ∧ setB n x r
theorem p69_l1_eq {k : Nat} {L : List Int} {n : Int} (hL : L.length ≤ 9223372036854775807) : ∀ d (i m : Nat) (a : Int), i + d = L.length → d < m → p69_l1 k L n (some true) m a (i : Int) = some (decide (setB n a (L.drop i)))
  | 0, i, m, a, h1, h2 => by
    obtain ⟨m, rfl⟩ : ∃ m', m = m' + 1 := ⟨m - 1, by omega⟩
    rw [p69_l1]
    simp only [lt_v, sp_d]
    rw [iF (by omega), List.drop_eq_nil_of_le (by omega), dT (by trivial)]
  | d + 1, i, m, a, h1, h2 => by
    obtain ⟨m, rfl⟩ : ∃ m', m = m' + 1 := ⟨m - 1, by omega⟩
    rw [p69_l1]
    simp only [lt_v, sp_d, jn_v]
    rw [iT (by omega), gd_v (by omega), wr_succ (n := L.length) (by omega) hL, p69_l1_eq hL d (i + 1) m _ (by omega) (by omega), getD_drop (by omega : i < L.length)]
    simp only [Int.toNat_natCast]
    by_cases h3 : L.getD i 0 ≤ a
    · rw [iT h3, sp_tt, dF (fun h => absurd h.1 (by omega))]
    · rw [iF h3]
      by_cases h4 : L.getD i 0 ≥ n
      · rw [iT h4, dF (fun h => absurd h.2.1 (by omega))]
      · rw [iF h4]
        congr 1
        exact dI ⟨fun h => ⟨by omega, by omega, h⟩, fun h => h.2.2⟩
theorem p69_eq {k : Nat} (hk : Fu k) {L : List Int} {n : Int} (hL : L.length ≤ 1152921504606846975) : p69 k L n = some (decide (setB n (-1) L)) := by
  unfold Fu at hk
  unfold p69
  simp only [jn_v]
  have := p69_l1_eq (k := k) (L := L) (n := n) (by omega) L.length 0 k (-1) (by omega) (by omega)
  rw [List.drop_zero] at this
  exact this
theorem setB_iff {n : Int} : ∀ {L : List Int} {a : Int}, setB n a L ↔ ∀ i, i < L.length → L.getD i 0 < n ∧ (if i = 0 then a else L.getD (i - 1) 0) < L.getD i 0
  | [], a => by simp [setB]
  | x :: r, a => by
    rw [setB, setB_iff (L := r) (a := x)]
    constructor
    · rintro ⟨h1, h2, h3⟩ i hi
      cases i with
      | zero => exact ⟨h2, h1⟩
      | succ i =>
        have := h3 i (by simpa using hi)
        simp only [List.getD_cons_succ, Nat.add_sub_cancel, if_neg (Nat.succ_ne_zero i)]
        refine ⟨this.1, ?_⟩
        cases i with
        | zero => simpa using this.2
        | succ i => simpa using this.2
    · intro h
      have h0 := h 0 (by simp)
      refine ⟨by simpa using h0.2, by simpa using h0.1, fun i hi => ?_⟩
      have := h (i + 1) (by simpa using hi)
      simp only [List.getD_cons_succ, Nat.add_sub_cancel, if_neg (Nat.succ_ne_zero i)] at this
      refine ⟨this.1, ?_⟩
      cases i with
      | zero => simpa using this.2
      | succ i => simpa using this.2
theorem setB_mem {n : Int} : ∀ {L : List Int} {a : Int}, setB n a L → ∀ x ∈ L, a < x ∧ x < n
  | [], a, _, x, hx => by cases hx
  | y :: r, a, h, x, hx => by
    rcases List.mem_cons.1 hx with e | e
    · subst e; exact ⟨h.1, h.2.1⟩
    · have := setB_mem h.2.2 x e; exact ⟨Int.lt_trans h.1 this.1, this.2⟩
theorem p83_eq {k : Nat} (hk : Fu k) {L : List Int} {n : Int} (hL : L.length ≤ 1152921504606846975) : p83 k L n = some (decide (setB n (-1) L)) := by
  unfold Fu at hk
  unfold p83
  simp only [jn_v]
  have hs := srch0 (F := p83_l1 k L n (some true)) (len := L.length) (n := k) (A := some false) (J := some true) (fun i => L.getD i 0 < 0 ∨ L.getD i 0 ≥ n ∨ (0 < i ∧ L.getD i 0 ≤ L.getD (i - 1) 0)) (by omega) ?_ ?_
  · rcases hs with ⟨⟨j, hj, hq⟩, e⟩ | ⟨h, e⟩
    · rw [e, dF]
      intro h
      have h1 := setB_iff.1 h j hj
      have h2 : -1 < L.getD j 0 := (setB_mem h _ (getD_mem hj)).1
      rcases hq with hq | hq | hq
      · omega
      · omega
      · rw [iF (by omega)] at h1; omega
    · rw [e, dT]
      refine setB_iff.2 fun i hi => ?_
      have h3 := h i hi
      refine ⟨by omega, ?_⟩
      split <;> omega
  · intro n; rw [p83_l1]; simp only [lt_v, sp_d]; rw [iF (by omega)]
  · intro n i hi
    rw [p83_l1]
    simp only [lt_v, sp_d, jn_v]
    rw [iT (by omega), gd_v (by omega), gd_v (by omega), gd_v (by omega), wr_succ hi (by omega)]
    simp only [Int.toNat_natCast]
    by_cases h1 : L.getD i 0 < 0
    · exact .inl ⟨.inl h1, by rw [iT h1, sp_tt]⟩
    · rw [iF h1]
      by_cases h2 : L.getD i 0 ≥ ‹Int›
      · exact .inl ⟨.inr (.inl h2), by rw [iT h2, sp_tt]⟩
      · rw [iF h2]
        by_cases h3 : i > 0
        · have e1 : wr .i64 ((i : Int) - 1) = ((i - 1 : Nat) : Int) := by rw [wr64 (by omega) (by omega)]; omega
          rw [iT (by omega), e1, gd_v (by omega), Int.toNat_natCast]
          by_cases h4 : L.getD i 0 ≤ L.getD (i - 1) 0
          · exact .inl ⟨.inr (.inr ⟨h3, h4⟩), by rw [iT h4]⟩
          · exact .inr ⟨by omega, by rw [iF h4]⟩
        · exact .inr ⟨by omega, by rw [iF (by omega), sp_ff]⟩
end Go.Proofs.Ythniebmammmacaa
namespace Go.Proofs.Ythniebmammmacaa
open Go.RowKit Classical
def rd (R : List (List Int)) (i : Nat) : List Int := R.getD i []
def wk (W : List WT) (i : Nat) : WT := W.getD i ([], [])
def rF (r : List Int) : Int := r.getD 0 0
def rT (r : List Int) : Int := r.getD 1 0
def rC (r : List Int) : Int := r.getD 2 0
def rM (r : List Int) : Int := r.getD 3 0
def rO (r : List Int) : Int := r.getD 4 0
def rL (r : List Int) : Int := r.getD 5 0
def wM (w : WT) : Int := w.2.getD 0 0
def wL (w : WT) : Int := w.2.getD 1 0
def wC (w : WT) : Int := w.2.getD 2 0
theorem rd_mem {R : List (List Int)} {i : Nat} (h : i < R.length) : rd R i ∈ R := by
  unfold rd; rw [List.getD_eq_getElem?_getD, List.getElem?_eq_getElem h]; exact List.getElem_mem h
def RoadA (P f t c m o l : Int) : Prop := (0 ≤ f ∧ f < P) ∧ (0 ≤ t ∧ t < P) ∧ f ≠ t ∧ (1 ≤ c ∧ c ≤ 1073741824) ∧ (1 ≤ m ∧ m ≤ 1440) ∧ 0 ≤ o ∧ o < l ∧ l ≤ 1440 ∧ m ≤ l - o
structure RoadOk (P : Int) (r : List Int) : Prop where
  ar : RoadA P (rF r) (rT r) (rC r) (rM r) (rO r) (rL r)
  sz : SzOk (List.take 6 (List.drop 6 r))
structure WorkOk (n : Int) (w : WT) : Prop where
  ne : 1 ≤ w.1.length
  me : 0 ≤ wM w ∧ wM w ≤ 5
  li : 0 ≤ wL w ∧ wL w ≤ 1073741824
  co : 1 ≤ wC w ∧ wC w ≤ 1073741824
  set : setB n (-1) w.1
structure MapOk (P : Int) (R : List (List Int)) (W : List WT) : Prop where
  r256 : R.length ≤ 256
  w10 : W.length ≤ 10
  w16 : ∀ i, i < W.length → (wk W i).1.length ≤ 16
  places : 1 ≤ P ∧ P ≤ 64
  road : ∀ i, i < R.length → RoadOk P (rd R i)
  work : ∀ i, i < W.length → WorkOk (R.length : Int) (wk W i)
def Many (R : List (List Int)) (W : List WT) : Prop := 256 < R.length ∨ 10 < W.length ∨ ∃ i, i < W.length ∧ 16 < (wk W i).1.length
noncomputable def chkE (P : Int) (R : List (List Int)) (W : List WT) : Int := if Many R W then 6 else if MapOk P R W then 0 else 2
theorem chkE_zero {P R W} : chkE P R W = 0 ↔ MapOk P R W := by
  unfold chkE
  constructor
  · intro h
    split at h
    · cases h
    · split at h
      · assumption
      · cases h
  · intro h
    rw [iF, iT h]
    rintro (h1 | h1 | ⟨i, h1, h2⟩)
    · have := h.r256; omega
    · have := h.w10; omega
    · have := h.w16 i h1; omega
theorem szE_zero {z} : szE z = 0 ↔ SzOk z := by
  unfold szE
  constructor
  · intro h
    split at h
    · assumption
    · cases h
  · intro h; rw [iT h]
theorem szE_ne {z} : (szE z != 0) = decide (¬ SzOk z) := by
  rw [bne_d]; exact dI (not_congr szE_zero)
theorem szE_eq {z} : (szE z == 0) = decide (SzOk z) := by
  rw [beq_d]; exact dI szE_zero
theorem chkE_ne {P R W} : (chkE P R W != 0) = decide (¬ MapOk P R W) := by
  rw [bne_d]; exact dI (not_congr chkE_zero)
theorem chkE_eq {P R W} : (chkE P R W == 0) = decide (MapOk P R W) := by
  rw [beq_d]; exact dI chkE_zero
structure Shape (R : List (List Int)) (W : List WT) : Prop where
  rl : R.length ≤ 9223372036854775807
  r12 : ∀ r ∈ R, r.length = 12
  wl : W.length ≤ 9223372036854775807
theorem p29_l1_eq {k n : Nat} {W : List WT} {j : Option Int} (hn : W.length < n) (hW : W.length ≤ 10) :
    ((∃ i, i < W.length ∧ 16 < (wk W i).1.length) ∧ p29_l1 k W j n 0 = some 6) ∨ ((∀ i, i < W.length → ¬ 16 < (wk W i).1.length) ∧ p29_l1 k W j n 0 = j) := by
  refine srch0 (F := p29_l1 k W j) (len := W.length) (n := n) (A := some 6) (J := j) (fun i => 16 < (wk W i).1.length) hn ?_ ?_
  · intro n; rw [p29_l1]; simp only [lt_v, sp_d]; rw [iF (by omega)]
  · intro n i hi
    rw [p29_l1]
    simp only [lt_v, sp_d]
    rw [iT (by omega), gd_v (by omega), Int.toNat_natCast, wr_succ hi (by omega)]
    by_cases h : 16 < (wk W i).1.length
    · exact .inl ⟨h, by unfold wk at h; rw [iT (by omega)]⟩
    · exact .inr ⟨h, by unfold wk at h; rw [iF (by omega)]⟩
theorem p29_l2_eq {k n : Nat} (hk : Fu k) {P : Int} {R : List (List Int)} {j : Option Int} (hn : R.length < n) (hR : R.length ≤ 256) :
    ((∃ i, i < R.length ∧ ¬ RoadOk P (rd R i)) ∧ p29_l2 k P R j n 0 = some 2) ∨ ((∀ i, i < R.length → ¬ ¬ RoadOk P (rd R i)) ∧ p29_l2 k P R j n 0 = j) := by
  refine srch0 (F := p29_l2 k P R j) (len := R.length) (n := n) (A := some 2) (J := j) (fun i => ¬ RoadOk P (rd R i)) hn ?_ ?_
  · intro n; rw [p29_l2]; simp only [lt_v, sp_d]; rw [iF (by omega)]
  · intro n i hi
    rw [p29_l2]
    simp only [lt_v, sp_d, jn_v, sp_tt, sp_ff, p65_eq, cl_v, p40_eq hk, szE_ne, beq_d]
    rw [iT (by omega), gd_v (by omega), Int.toNat_natCast, wr_succ hi (by omega)]
    have hr : R.getD i [] = rd R i := rfl
    rw [hr]
    simp only [show (rd R i).getD 0 0 = rF (rd R i) from rfl, show (rd R i).getD 1 0 = rT (rd R i) from rfl, show (rd R i).getD 2 0 = rC (rd R i) from rfl, show (rd R i).getD 3 0 = rM (rd R i) from rfl, show (rd R i).getD 4 0 = rO (rd R i) from rfl, show (rd R i).getD 5 0 = rL (rd R i) from rfl]
    by_cases h : RoadOk P (rd R i)
    · refine .inr ⟨not_not_intro h, ?_⟩
      have ha := h.ar
      unfold RoadA at ha
      rw [iF (by omega), iF (by omega), iF (by omega), iF (by omega), iF (by omega), iT (by omega), iT (by omega), iF (by omega), iF (by omega), iF (by omega), wr64 (by omega) (by omega), iF (by omega), iF (not_not_intro h.sz)]
    · refine .inl ⟨h, ?_⟩
      by_cases h1 : rF (rd R i) < 0
      · rw [iT h1]
      rw [iF h1]
      by_cases h2 : rF (rd R i) ≥ P
      · rw [iT h2]
      rw [iF h2]
      by_cases h3 : rT (rd R i) < 0
      · rw [iT h3]
      rw [iF h3]
      by_cases h4 : rT (rd R i) ≥ P
      · rw [iT h4]
      rw [iF h4]
      by_cases h5 : rF (rd R i) = rT (rd R i)
      · rw [iT h5]
      rw [iF h5]
      by_cases h6 : 1 ≤ rC (rd R i) ∧ rC (rd R i) ≤ 1073741824
      rotate_left
      · rw [iF h6]
      rw [iT h6]
      by_cases h7 : 1 ≤ rM (rd R i) ∧ rM (rd R i) ≤ 1440
      rotate_left
      · rw [iF h7]
      rw [iT h7]
      by_cases h8 : rO (rd R i) < 0
      · rw [iT h8]
      rw [iF h8]
      by_cases h9 : rO (rd R i) ≥ rL (rd R i)
      · rw [iT h9]
      rw [iF h9]
      by_cases h10 : rL (rd R i) > 1440
      · rw [iT h10]
      rw [iF h10, wr64 (by omega) (by omega)]
      by_cases h11 : rL (rd R i) - rO (rd R i) < rM (rd R i)
      · rw [iT h11]
      rw [iF h11, iT]
      intro hs
      exact h ⟨by unfold RoadA; omega, hs⟩
theorem p29_l3_eq {k n : Nat} (hk : Fu k) {R : List (List Int)} {W : List WT} {j : Option Int} (hn : W.length < n) (hW : W.length ≤ 10) (h16 : ∀ i, i < W.length → (wk W i).1.length ≤ 16) :
    ((∃ i, i < W.length ∧ ¬ WorkOk R.length (wk W i)) ∧ p29_l3 k R W j n 0 = some 2) ∨ ((∀ i, i < W.length → ¬ ¬ WorkOk R.length (wk W i)) ∧ p29_l3 k R W j n 0 = j) := by
  refine srch0 (F := p29_l3 k R W j) (len := W.length) (n := n) (A := some 2) (J := j) (fun i => ¬ WorkOk R.length (wk W i)) hn ?_ ?_
  · intro n; rw [p29_l3]; simp only [lt_v, sp_d]; rw [iF (by omega)]
  · intro n i hi
    have hl := h16 i hi
    rw [p29_l3]
    simp only [lt_v, sp_d, jn_v, sp_tt, sp_ff, p65_eq, cl_v]
    rw [iT (by omega), gd_v (by omega), Int.toNat_natCast, wr_succ hi (by omega)]
    have hr : W.getD i ([], []) = wk W i := rfl
    rw [hr, p83_eq hk (by omega)]
    simp only [cl_v, sp_nd]
    simp only [show (wk W i).2.getD 0 0 = wM (wk W i) from rfl, show (wk W i).2.getD 1 0 = wL (wk W i) from rfl, show (wk W i).2.getD 2 0 = wC (wk W i) from rfl]
    by_cases h : WorkOk R.length (wk W i)
    · refine .inr ⟨not_not_intro h, ?_⟩
      have h1 := h.ne; have h2 := h.me; have h3 := h.li; have h4 := h.co
      rw [iF (by omega), iF (by omega), iF (by omega), iT h3, iT h4, iT h.set]
    · refine .inl ⟨h, ?_⟩
      by_cases h1 : ((wk W i).1.length : Int) < 1
      · rw [iT h1]
      rw [iF h1]
      by_cases h2 : wM (wk W i) < 0
      · rw [iT h2]
      rw [iF h2]
      by_cases h3 : wM (wk W i) > 5
      · rw [iT h3]
      rw [iF h3]
      by_cases h4 : 0 ≤ wL (wk W i) ∧ wL (wk W i) ≤ 1073741824
      rotate_left
      · rw [iF h4]
      rw [iT h4]
      by_cases h5 : 1 ≤ wC (wk W i) ∧ wC (wk W i) ≤ 1073741824
      rotate_left
      · rw [iF h5]
      rw [iT h5, iF]
      intro hs
      exact h ⟨by omega, by omega, h4, h5, hs⟩
theorem p29_eq {k : Nat} (hk : Fu k) {P : Int} {R : List (List Int)} {W : List WT} : p29 k P R W = some (chkE P R W) := by
  have hk' := hk
  unfold Fu at hk'
  unfold p29 chkE
  simp only [jn_v, lt_v, sp_d, sp_tt, sp_ff]
  by_cases h1 : 256 < R.length
  · rw [iT (by omega), iT (.inl h1)]
  rw [iF (by omega)]
  by_cases h2 : 10 < W.length
  · rw [iT (by omega), iT (.inr (.inl h2))]
  rw [iF (by omega)]
  rcases p29_l1_eq (k := k) (n := k) (W := W) (by omega) (by omega) with ⟨h, e⟩ | ⟨h, e⟩
  · rw [e, iT (.inr (.inr h))]
  rw [e, iF (p := Many R W) (fun x => x.elim h1 fun y => y.elim h2 fun ⟨i, a, b⟩ => h i a b)]
  have hb : ∀ {x : Option Int}, ¬ MapOk P R W → some (2 : Int) = some (if MapOk P R W then 0 else 2) := fun h => by rw [iF h]
  by_cases h3 : P < 1
  · rw [iT h3]; exact hb (x := none) (fun h => by have := h.places; omega)
  rw [iF h3]
  by_cases h4 : P > 64
  · rw [iT h4]; exact hb (x := none) (fun h => by have := h.places; omega)
  rw [iF h4]
  rcases p29_l2_eq (k := k) (n := k) hk (P := P) (R := R) (by omega) (by omega) with ⟨⟨i, a, b⟩, e⟩ | ⟨hr, e⟩
  · rw [e]; exact hb (x := none) (fun h => b (h.road i a))
  rw [e]
  rcases p29_l3_eq (k := k) (n := k) hk (R := R) (W := W) (by omega) (by omega) (fun i hi => by have := h i hi; omega) with ⟨⟨i, a, b⟩, e⟩ | ⟨hw, e⟩
  · rw [e]; exact hb (x := none) (fun h => b (h.work i a))
  rw [e, iT]
  exact ⟨by omega, by omega, fun i hi => by have := h i hi; omega, by omega, fun i hi => Classical.byContradiction (hr i hi), fun i hi => Classical.byContradiction (hw i hi)⟩
theorem p127a_eq {k : Nat} (hk : Fu k) {W : List WT} (hW : W.length ≤ 10) : p92a k W = some (decide (∃ i, i < W.length ∧ 16 < (wk W i).1.length)) := by
  unfold Fu at hk
  unfold p92a p127a
  simp only [jn_v]
  rw [srchI0 (F := p127a_l1 k W (some (-1))) (len := W.length) (n := k) (fun i => 16 < (wk W i).1.length) (by omega)]
  · simp only [cl_v, lt_v]
    rw [fst_pos]
    exact congrArg some (dI Iff.rfl)
  · intro n; rw [p127a_l1]; simp only [lt_v, sp_d]; rw [iF (by omega)]
  · intro n i hi
    rw [p127a_l1]
    unfold p93
    simp only [lt_v, sp_d, cl_v]
    rw [iT (by omega), gd_v (by omega), Int.toNat_natCast, wr_succ hi (by omega)]
    by_cases h : 16 < (wk W i).1.length
    · exact .inl ⟨h, by unfold wk at h; rw [iT (by omega)]⟩
    · exact .inr ⟨h, by unfold wk at h; rw [iF (by omega)]⟩
theorem p95_eq {k : Nat} (hk : Fu k) {P : Int} {R : List (List Int)} {W : List WT} {r : List Int} (hr : r.length = 12) : p95 k r P R W = some (decide (¬ RoadOk P r)) := by
  unfold p95
  simp only [lt_v, sp_d, jn_v, sp_tt, sp_ff, p64_eq, p94_eq, cl_v, p39_eq hk (show (List.take 6 (List.drop 6 r)).length = 6 from by simp [hr]), szE_ne, beq_d, mn_eq]
  simp only [show r.getD 0 0 = rF r from rfl, show r.getD 1 0 = rT r from rfl, show r.getD 2 0 = rC r from rfl, show r.getD 3 0 = rM r from rfl, show r.getD 4 0 = rO r from rfl, show r.getD 5 0 = rL r from rfl]
  have aux : ∀ b : Bool, (b = true ↔ (0 ≤ rO r ∧ rO r < rL r ∧ rL r ≤ 1440 ∧ 1 ≤ rM r ∧ rM r ≤ rL r - rO r)) → (if 0 ≤ rF r ∧ rF r < P then if 0 ≤ rT r ∧ rT r < P then if rF r = rT r then some true else if 1 ≤ rC r ∧ rC r ≤ 1073741824 then sp b (some (decide (¬ SzOk (List.take 6 (List.drop 6 r))))) (some true) else some true else some true else some true) = some (decide (¬ RoadOk P r)) := by
    intro b hb
    by_cases h1 : 0 ≤ rF r ∧ rF r < P
    rotate_left
    · rw [iF h1, dT]; intro h; have := h.ar; unfold RoadA at this; omega
    rw [iT h1]
    by_cases h2 : 0 ≤ rT r ∧ rT r < P
    rotate_left
    · rw [iF h2, dT]; intro h; have := h.ar; unfold RoadA at this; omega
    rw [iT h2]
    by_cases h3 : rF r = rT r
    · rw [iT h3, dT]; intro h; have := h.ar; unfold RoadA at this; omega
    rw [iF h3]
    by_cases h4 : 1 ≤ rC r ∧ rC r ≤ 1073741824
    rotate_left
    · rw [iF h4, dT]; intro h; have := h.ar; unfold RoadA at this; omega
    rw [iT h4]
    cases b with
    | false =>
      rw [sp_ff, dT]; intro h
      have := h.ar; unfold RoadA at this
      have := hb.2 (by omega)
      cases this
    | true =>
      rw [sp_tt]
      have h5 := hb.1 rfl
      congr 1
      refine dI (not_congr ⟨fun h => ⟨by unfold RoadA; omega, h⟩, fun h => h.sz⟩)
  by_cases h1 : rO r ≥ 0
  rotate_left
  · rw [iF h1]; exact aux false ⟨fun h => (by cases h), fun h => (by omega)⟩
  rw [iT h1]
  by_cases h2 : rO r < rL r
  rotate_left
  · rw [iF h2]; exact aux false ⟨fun h => (by cases h), fun h => (by omega)⟩
  rw [iT h2]
  by_cases h3 : rL r ≤ 1440
  rotate_left
  · rw [iF h3]; exact aux false ⟨fun h => (by cases h), fun h => (by omega)⟩
  rw [iT h3, wr64 (by omega) (by omega)]
  have := aux (decide (1 ≤ rM r ∧ rM r ≤ min 1440 (rL r - rO r))) (by rw [decide_eq_true_iff]; omega)
  rw [sp_d] at this
  exact this
theorem p97a_eq {k : Nat} (hk : Fu k) {P : Int} {R S : List (List Int)} {W : List WT} (hr : ∀ r ∈ R, r.length = 12) (hR : R.length ≤ 256) : p97a k R P S W = some (decide (∃ i, i < R.length ∧ ¬ RoadOk P (rd R i))) := by
  have hk' := hk
  unfold Fu at hk'
  unfold p97a p80c
  simp only [jn_v]
  rw [srchI0 (F := p80c_l1 k R P S W (some (-1))) (len := R.length) (n := k) (fun i => ¬ RoadOk P (rd R i)) (by omega)]
  · simp only [cl_v, lt_v]
    rw [fst_pos]
    exact congrArg some (dI Iff.rfl)
  · intro n; rw [p80c_l1]; simp only [lt_v, sp_d]; rw [iF (by omega)]
  · intro n i hi
    rw [p80c_l1]
    simp only [lt_v, sp_d, cl_v]
    rw [iT (by omega), gd_v (by omega), Int.toNat_natCast, wr_succ hi (by omega)]
    have hd : R.getD i [] = rd R i := rfl
    rw [hd, p95_eq hk (hr _ (rd_mem hi)), cl_v, sp_d]
    by_cases h : ¬ RoadOk P (rd R i)
    · exact .inl ⟨h, by rw [iT h]⟩
    · exact .inr ⟨h, by rw [iF h]⟩
theorem p96_eq {k : Nat} (hk : Fu k) {P : Int} {R : List (List Int)} {W : List WT} {w : WT} (hw : w.1.length ≤ 16) : p96 k w.1 (wM w) (wL w) (wC w) P R W = some (decide (¬ WorkOk R.length w)) := by
  unfold p96
  simp only [lt_v, sp_d, jn_v, sp_tt, sp_ff, p64_eq, cl_v, p69_eq hk (show w.1.length ≤ 1152921504606846975 from by omega), beq_d]
  by_cases h1 : (w.1.length : Int) = 0
  · rw [iT h1, dT]; intro h; have := h.ne; omega
  rw [iF h1]
  by_cases h2 : setB R.length (-1) w.1
  rotate_left
  · rw [iF h2, dT]; intro h; exact h2 h.set
  rw [iT h2]
  by_cases h3 : wM w < 0
  · rw [iT h3, dT]; intro h; have := h.me; omega
  rw [iF h3]
  by_cases h4 : wM w > 5
  · rw [iT h4, dT]; intro h; have := h.me; omega
  rw [iF h4]
  by_cases h5 : 0 ≤ wL w ∧ wL w ≤ 1073741824
  rotate_left
  · rw [iF h5, dT]; intro h; exact h5 h.li
  rw [iT h5]
  by_cases h6 : 1 ≤ wC w ∧ wC w ≤ 1073741824
  · rw [dT h6, dF (not_not_intro ⟨by omega, by omega, h5, h6, h2⟩)]; rfl
  · rw [dF h6, dT]
    · rfl
    · intro h; exact h6 h.co
theorem p92b_eq {k : Nat} (hk : Fu k) {P : Int} {R : List (List Int)} {W V : List WT} (hW : W.length ≤ 10) (h16 : ∀ i, i < W.length → (wk W i).1.length ≤ 16) : p92b k W P R V = some (decide (∃ i, i < W.length ∧ ¬ WorkOk R.length (wk W i))) := by
  have hk' := hk
  unfold Fu at hk'
  unfold p92b p127b
  simp only [jn_v]
  rw [srchI0 (F := p127b_l1 k W P R V (some (-1))) (len := W.length) (n := k) (fun i => ¬ WorkOk R.length (wk W i)) (by omega)]
  · simp only [cl_v, lt_v]
    rw [fst_pos]
    exact congrArg some (dI Iff.rfl)
  · intro n; rw [p127b_l1]; simp only [lt_v, sp_d]; rw [iF (by omega)]
  · intro n i hi
    rw [p127b_l1]
    simp only [lt_v, sp_d, cl_v]
    rw [iT (by omega), gd_v (by omega), Int.toNat_natCast, wr_succ hi (by omega)]
    have hd := p96_eq (k := k) hk (P := P) (R := R) (W := V) (h16 i hi)
    unfold wM wL wC wk at hd
    rw [hd, cl_v, sp_d]
    by_cases h : ¬ WorkOk R.length (wk W i)
    · exact .inl ⟨h, by unfold wk at h; rw [iT h]⟩
    · exact .inr ⟨h, by unfold wk at h; rw [iF h]⟩
theorem p38_eq {k : Nat} (hk : Fu k) {P : Int} {R : List (List Int)} {W : List WT} (hr : ∀ r ∈ R, r.length = 12) : p38 k P R W = some (chkE P R W) := by
  unfold p38 chkE
  simp only [jn_v, lt_v, sp_d, sp_tt, sp_ff]
  by_cases h1 : 256 < R.length
  · rw [iT (by omega), iT (.inl h1)]
  rw [iF (by omega)]
  by_cases h2 : 10 < W.length
  · rw [iT (by omega), iT (.inr (.inl h2))]
  rw [iF (by omega), p127a_eq hk (by omega), cl_v]
  by_cases h : ∃ i, i < W.length ∧ 16 < (wk W i).1.length
  · rw [dT h, sp_tt, iT (.inr (.inr h))]
  rw [dF h, sp_ff, iF (p := Many R W) (fun x => x.elim h1 fun y => y.elim h2 h)]
  have hb : ∀ {x : Option Int}, ¬ MapOk P R W → some (2 : Int) = some (if MapOk P R W then 0 else 2) := fun h => by rw [iF h]
  by_cases h3 : P < 1
  · rw [iT h3]; exact hb (x := none) (fun h => by have := h.places; omega)
  rw [iF h3]
  by_cases h4 : P > 64
  · rw [iT h4]; exact hb (x := none) (fun h => by have := h.places; omega)
  rw [iF h4, p97a_eq hk hr (by omega), cl_v]
  have h16 : ∀ i, i < W.length → (wk W i).1.length ≤ 16 := fun i hi => by
    rcases Nat.lt_or_ge 16 (wk W i).1.length with a | a
    · exact absurd ⟨i, hi, a⟩ h
    · exact a
  by_cases h5 : ∃ i, i < R.length ∧ ¬ RoadOk P (rd R i)
  · rw [dT h5, sp_tt]; obtain ⟨i, a, b⟩ := h5; exact hb (x := none) (fun h => b (h.road i a))
  rw [dF h5, sp_ff, p92b_eq hk (by omega) h16, cl_v]
  by_cases h6 : ∃ i, i < W.length ∧ ¬ WorkOk R.length (wk W i)
  · rw [dT h6, sp_tt]; obtain ⟨i, a, b⟩ := h6; exact hb (x := none) (fun h => b (h.work i a))
  rw [dF h6, sp_ff, iT]
  exact ⟨by omega, by omega, h16, by omega, fun i hi => Classical.byContradiction fun a => h5 ⟨i, hi, a⟩, fun i hi => Classical.byContradiction fun a => h6 ⟨i, hi, a⟩⟩
end Go.Proofs.Ythniebmammmacaa
namespace Go.Proofs.Ythniebmammmacaa
open Go.RowKit Classical
theorem p67_eq {k : Nat} (hk : Fu k) {P : Int} {R : List (List Int)} {W : List WT} {L : List Int} (hL : L.length ≤ 256) : p67 k P R W L = some (if ∀ x ∈ L, 0 ≤ x ∧ x < P then 0 else 3) := by
  unfold Fu at hk
  unfold p67 p85a p125a
  simp only [jn_v]
  rw [srchI0 (F := p125a_l1 k L P R W (some (-1))) (len := L.length) (n := k) (fun i => ¬ (0 ≤ L.getD i 0 ∧ L.getD i 0 < P)) (by omega)]
  · simp only [cl_v, lt_v]
    rw [fst_pos]
    by_cases h : ∀ x ∈ L, 0 ≤ x ∧ x < P
    · rw [dF, sp_ff, iT h]
      rintro ⟨j, a, b⟩; exact b (h _ (getD_mem a))
    · rw [dT, sp_tt, iF h]
      refine Classical.byContradiction fun h2 => h fun x hx => ?_
      obtain ⟨i, hi, rfl⟩ := mem_getD hx
      exact Classical.byContradiction fun h3 => h2 ⟨i, hi, h3⟩
  · intro n; rw [p125a_l1]; simp only [lt_v, sp_d]; rw [iF (by omega)]
  · intro n i hi
    rw [p125a_l1]
    unfold p117
    simp only [lt_v, sp_d, cl_v, jn_v]
    rw [iT (by omega), gd_v (by omega), Int.toNat_natCast, wr_succ hi (by omega)]
    by_cases h : L.getD i 0 < 0
    · exact .inl ⟨by omega, by rw [iT h, cl_v, sp_tt]⟩
    rw [iF h, cl_v, sp_d]
    by_cases h2 : L.getD i 0 ≥ P
    · exact .inl ⟨by omega, by rw [iT h2]⟩
    · exact .inr ⟨by omega, by rw [iF h2]⟩
def bitsF (m : Nat) : Nat → Nat → List Int
  | 0, _ => []
  | d + 1, i => if m.testBit i then (i : Int) :: bitsF m d (i + 1) else bitsF m d (i + 1)
def bitsL (m n : Nat) : List Int := bitsF m n 0
theorem mem_bitsF {m : Nat} : ∀ {d i : Nat} {x : Int}, x ∈ bitsF m d i ↔ ∃ j : Nat, i ≤ j ∧ j < i + d ∧ m.testBit j = true ∧ x = (j : Int)
  | 0, i, x => ⟨fun h => (by cases h), fun ⟨j, a, b, _⟩ => (by omega)⟩
  | d + 1, i, x => by
    rw [bitsF]
    have ih := mem_bitsF (m := m) (d := d) (i := i + 1) (x := x)
    constructor
    · intro h
      split at h
      · rename_i hb
        rcases List.mem_cons.1 h with e | e
        · exact ⟨i, Nat.le_refl _, by omega, hb, e⟩
        · obtain ⟨j, a, b, c⟩ := ih.1 e; exact ⟨j, by omega, by omega, c⟩
      · obtain ⟨j, a, b, c⟩ := ih.1 h; exact ⟨j, by omega, by omega, c⟩
    · rintro ⟨j, a, b, c, e⟩
      rcases Nat.eq_or_lt_of_le a with g | g
      · subst g; rw [if_pos c]; exact List.mem_cons.2 (.inl e)
      · have h3 := ih.2 ⟨j, g, by omega, c, e⟩
        split
        · exact List.mem_cons.2 (.inr h3)
        · exact h3
theorem mem_bitsL {m n : Nat} {x : Int} : x ∈ bitsL m n ↔ ∃ j : Nat, j < n ∧ m.testBit j = true ∧ x = (j : Int) := by
  unfold bitsL
  rw [mem_bitsF]
  constructor
  · rintro ⟨j, _, b, c⟩; exact ⟨j, by omega, c⟩
  · rintro ⟨j, b, c⟩; exact ⟨j, Nat.zero_le _, by omega, c⟩
theorem bitsF_len {m : Nat} : ∀ {d i : Nat}, (bitsF m d i).length ≤ d
  | 0, i => Nat.le_refl _
  | d + 1, i => by
    rw [bitsF]
    have := bitsF_len (m := m) (d := d) (i := i + 1)
    split
    · simp only [List.length_cons]; omega
    · omega
theorem bitsL_len {m n : Nat} : (bitsL m n).length ≤ n := bitsF_len
theorem bitsF_nil {m : Nat} : ∀ {d i : Nat}, m < 2 ^ i → bitsF m d i = []
  | 0, i, h => rfl
  | d + 1, i, h => by
    rw [bitsF]
    rw [Nat.testBit_lt_two_pow h, if_neg (by decide)]
    exact bitsF_nil (Nat.lt_of_lt_of_le h (Nat.pow_le_pow_right (by omega) (by omega)))
theorem wruN {a : Nat} (h : a < 2 ^ 64) : wr .u64 (a : Int) = (a : Int) := wru (by omega) (by omega)
theorem shr_eq {m i : Nat} (hi : i ≤ 64) : Int.fdiv (m : Int) (2 ^ (min ((i : Int)).toNat (IntKind.bits .u64))) = ((m >>> i : Nat) : Int) := by
  rw [Int.toNat_natCast, show min i (IntKind.bits .u64) = i from Nat.min_eq_left hi, Nat.shiftRight_eq_div_pow]
  rw [Int.fdiv_eq_ediv_of_nonneg _ (by exact Int.le_of_lt (Int.pow_pos (by omega)))]
  simp
theorem ofInt_nat {a : Nat} (h : a < 2 ^ 64) : (BitVec.ofInt (IntKind.bits .u64) (a : Int)).toNat = a := by
  show (BitVec.ofInt 64 (a : Int)).toNat = a
  simp [BitVec.toNat_ofInt]
  omega
theorem bor_nat {a b : Nat} (ha : a < 2 ^ 64) (hb : b < 2 ^ 64) : bor .u64 (a : Int) (b : Int) = ((a ||| b : Nat) : Int) := by
  unfold bor
  rw [BitVec.toNat_or, ofInt_nat ha, ofInt_nat hb]
theorem band_one {a : Nat} (ha : a < 2 ^ 64) : band .u64 (a : Int) 1 = ((a % 2 : Nat) : Int) := by
  unfold band
  have h := ofInt_nat (a := 1) (by decide)
  rw [show ((1 : Nat) : Int) = 1 from rfl] at h
  rw [BitVec.toNat_and, ofInt_nat ha, h, Nat.and_one_is_mod]
theorem p124_l1_eq {k m n : Nat} (hn : n ≤ 63) (hm : m < 2 ^ n) : ∀ (d i f : Nat), i + d = n → d < f → p124_l1 k (m : Int) f (i : Int) = some (bitsF m d i)
  | d, i, f + 1, h1, h2 => by
    have h64 : m < 2 ^ 64 := Nat.lt_of_lt_of_le hm (Nat.pow_le_pow_right (by omega) (by omega))
    rw [p124_l1]
    simp only [lt_v]
    rw [gd_v (by omega), shr_eq (by omega), gd_v (by omega)]
    have hle : m >>> i ≤ m := by rw [Nat.shiftRight_eq_div_pow]; exact Nat.div_le_self _ _
    rw [band_one (Nat.lt_of_le_of_lt hle h64), wru (by omega) (by omega), wr64 (by omega) (by omega)]
    rw [bne_d, beq_d, sp_d, sp_d]
    by_cases h0 : m >>> i = 0
    · rw [iF (by omega)]
      have : m < 2 ^ i := by
        rw [Nat.shiftRight_eq_div_pow] at h0
        rcases Nat.lt_or_ge m (2 ^ i) with a | a
        · exact a
        · have := Nat.div_pos a (Nat.two_pow_pos i); omega
      rw [bitsF_nil this]
    · rw [iT (by omega)]
      have hd : d ≠ 0 := by
        rintro rfl
        apply h0
        rw [Nat.shiftRight_eq_div_pow, show i = n from by omega]
        exact Nat.div_eq_of_lt hm
      obtain ⟨d', rfl⟩ : ∃ d', d = d' + 1 := ⟨d - 1, by omega⟩
      have ih := p124_l1_eq (k := k) hn hm d' (i + 1) f (by omega) (by omega)
      have hi1 : (i : Int) + 1 = ((i + 1 : Nat) : Int) := by omega
      rw [hi1, ih, cl_v]
      have ht : m.testBit i = decide (m >>> i % 2 = 1) := by
        rw [Nat.testBit_eq_decide_div_mod_eq, Nat.shiftRight_eq_div_pow]
      rw [bitsF]
      rw [ht]
      by_cases h3 : m >>> i % 2 = 1
      · rw [iT (by omega), dT h3, if_pos rfl]
      · rw [iF (by omega), dF h3, if_neg (by decide)]
theorem p79_eq {k m n : Nat} (hk : Fu k) (hn : n ≤ 63) (hm : m < 2 ^ n) : p79 k (m : Int) = some (bitsL m n) := by
  unfold Fu at hk
  unfold p79 p124
  have := p124_l1_eq (k := k) hn hm n 0 k (by omega) (by omega)
  rw [show ((0 : Nat) : Int) = 0 from rfl] at this
  rw [this]; rfl
theorem p131_eq {k : Nat} (hk : Fu k) {L : List Int} {x : Int} (hL : L.length ≤ 1152921504606846975) : p131 k L x = some (decide (x ∈ L)) := by
  unfold Fu at hk
  unfold p131 p142
  simp only [jn_v]
  rw [srchI0 (F := p142_l1 k L x (some (-1))) (len := L.length) (n := k) (fun i => L.getD i 0 = x) (by omega)]
  · simp only [cl_v, lt_v]
    rw [fst_pos]
    refine congrArg some (dI ⟨fun ⟨j, a, b⟩ => by rw [← b]; exact getD_mem a, fun h => mem_getD h⟩)
  · intro n; rw [p142_l1]; simp only [lt_v, sp_d]; rw [iF (by omega)]
  · intro n i hi
    rw [p142_l1]
    simp only [lt_v, sp_d, beq_d]
    rw [iT (by omega), gd_v (by omega), Int.toNat_natCast, wr_succ hi (by omega)]
    by_cases h : L.getD i 0 = x
    · exact .inl ⟨h, by rw [iT h.symm]⟩
    · exact .inr ⟨h, by rw [iF (fun h2 => h h2.symm)]⟩
noncomputable def limL (W : List WT) (i k : Int) : List Int → Int → Int
  | [], a => a
  | x :: S, a => limL W i k S (if wM (wk W x.toNat) = k ∧ i ∈ (wk W x.toNat).1 then max a (wL (wk W x.toNat)) else a)
noncomputable def lim (R : List (List Int)) (W : List WT) (S : List Int) (i k : Nat) : Int := limL W (i : Int) (k : Int) S ((rd R i).getD (6 + k) 0)
def sOk (W : List WT) (S : List Int) : Prop := ∀ x ∈ S, 0 ≤ x ∧ x < (W.length : Int)
def wOk (W : List WT) : Prop := ∀ i, i < W.length → (wk W i).1.length ≤ 1152921504606846975
theorem limL_le {W : List WT} {i k z : Int} : ∀ {S : List Int} {a : Int}, z ≤ limL W i k S a ↔ z ≤ a ∨ ∃ x ∈ S, wM (wk W x.toNat) = k ∧ i ∈ (wk W x.toNat).1 ∧ z ≤ wL (wk W x.toNat)
  | [], a => by simp [limL]
  | x :: S, a => by
    rw [limL]
    rw [limL_le]
    split
    · rename_i h
      constructor
      · rintro (h1 | ⟨y, hy, h2⟩)
        · by_cases g : z ≤ a
          · exact .inl g
          · exact .inr ⟨x, List.mem_cons_self, h.1, h.2, by omega⟩
        · exact .inr ⟨y, List.mem_cons_of_mem _ hy, h2⟩
      · rintro (h1 | ⟨y, hy, h2⟩)
        · exact .inl (by omega)
        · rcases List.mem_cons.1 hy with e | e
          · subst e; have h5 := h2.2.2; exact .inl (by omega)
          · exact .inr ⟨y, e, h2⟩
    · rename_i h
      constructor
      · rintro (h1 | ⟨y, hy, h2⟩)
        · exact .inl h1
        · exact .inr ⟨y, List.mem_cons_of_mem _ hy, h2⟩
      · rintro (h1 | ⟨y, hy, h2⟩)
        · exact .inl h1
        · rcases List.mem_cons.1 hy with e | e
          · subst e; exact absurd ⟨h2.1, h2.2.1⟩ h
          · exact .inr ⟨y, e, h2⟩
theorem lim_congr {R W i k} {S S' : List Int} (h : ∀ x, x ∈ S ↔ x ∈ S') : lim R W S i k = lim R W S' i k := by
  unfold lim
  have key : ∀ z, z ≤ limL W (i : Int) (k : Int) S ((rd R i).getD (6 + k) 0) ↔ z ≤ limL W (i : Int) (k : Int) S' ((rd R i).getD (6 + k) 0) := by
    intro z
    rw [limL_le, limL_le]
    constructor
    · rintro (a | ⟨x, hx, a⟩)
      · exact .inl a
      · exact .inr ⟨x, (h x).1 hx, a⟩
    · rintro (a | ⟨x, hx, a⟩)
      · exact .inl a
      · exact .inr ⟨x, (h x).2 hx, a⟩
  exact Int.le_antisymm ((key _).1 (Int.le_refl _)) ((key _).2 (Int.le_refl _))
theorem p119_r1_eq {k : Nat} (hk : Fu k) {W : List WT} {i kk : Int} {j : Int → Option Int} (hw : wOk W) : ∀ {S : List Int} {a : Int}, sOk W S → p119_r1 k j W i kk S a = j (limL W i kk S a)
  | [], a, _ => rfl
  | x :: S, a, hs => by
    have hx := hs x List.mem_cons_self
    have ih := fun a => p119_r1_eq hk (W := W) (i := i) (kk := kk) (j := j) hw (S := S) (a := a) (fun y hy => hs y (List.mem_cons_of_mem _ hy))
    rw [p119_r1]
    simp only [lt_v, jn_v, beq_d, mx_eq]
    have hd : W.getD x.toNat ([], []) = wk W x.toNat := rfl
    rw [gd_v (by omega), hd, p131_eq hk (hw x.toNat (by omega))]
    simp only [sp_d, cl_v, ih, sp_ff]
    rw [limL]
    by_cases h1 : wM (wk W x.toNat) = kk
    · rw [show (wk W x.toNat).2.getD 0 0 = wM (wk W x.toNat) from rfl, iT h1]
      by_cases h2 : i ∈ (wk W x.toNat).1
      · rw [iT h2, iT ⟨h1, h2⟩]; rfl
      · rw [iF h2, iF (fun h => h2 h.2)]
    · rw [show (wk W x.toNat).2.getD 0 0 = wM (wk W x.toNat) from rfl, iF h1, iF (fun h => h1 h.1)]
theorem p119_eq {k m n : Nat} (hk : Fu k) {P : Int} {R : List (List Int)} {W : List WT} {z : List Int} {i kk : Nat} (hw : wOk W) (hn : n ≤ 63) (hm : m < 2 ^ n) (hnW : n ≤ W.length) (hi : i < R.length) (hkk : kk < 6) :
    p119 k P R W z (m : Int) (i : Int) (kk : Int) = some (lim R W (bitsL m n) i kk) := by
  unfold p119
  simp only [lt_v, jn_v]
  rw [gd_v (by omega), gd_v (by omega), p79_eq hk hn hm, cl_v, p119_r1_eq hk hw]
  · simp only [Int.toNat_natCast, Nat.mul_one]; rfl
  · intro x hx
    obtain ⟨j, a, _, rfl⟩ := mem_bitsL.1 hx
    omega
noncomputable def cau (R : List (List Int)) (W : List WT) (z S : List Int) (i : Nat) : Nat → Nat → List (List Int)
  | 0, _ => []
  | d + 1, k => if z.getD k 0 > lim R W S i k then [(i : Int), (k : Int), lim R W S i k, z.getD k 0] :: cau R W z S i d (k + 1) else cau R W z S i d (k + 1)
def us (R : List (List Int)) (W : List WT) (z S : List Int) (i : Nat) : Prop := ∀ k, k < 6 → z.getD k 0 ≤ lim R W S i k
theorem cau_nil {R W z S i} : ∀ {d k : Nat}, cau R W z S i d k = [] ↔ ∀ j, k ≤ j → j < k + d → z.getD j 0 ≤ lim R W S i j
  | 0, k => ⟨fun _ => by intros; omega, fun _ => rfl⟩
  | d + 1, k => by
    rw [cau]
    have ih := cau_nil (R := R) (W := W) (z := z) (S := S) (i := i) (d := d) (k := k + 1)
    split
    · rename_i h
      constructor
      · intro h; cases h
      · intro h2; have := h2 k (Nat.le_refl _) (by omega); omega
    · rename_i h
      rw [ih]
      constructor
      · intro h2 j a b
        rcases Nat.eq_or_lt_of_le a with e | e
        · subst e; omega
        · exact h2 j e (by omega)
      · intro h2 j a b; exact h2 j (by omega) (by omega)
theorem us_cau {R W z S i} : cau R W z S i 6 0 = [] ↔ us R W z S i := by
  rw [cau_nil]
  exact ⟨fun h k hk => h k (Nat.zero_le _) (by omega), fun h j _ b => h j (by omega)⟩
theorem us_congr {R W z i} {S S' : List Int} (h : ∀ x, x ∈ S ↔ x ∈ S') : us R W z S i ↔ us R W z S' i := by
  unfold us
  constructor
  · intro a k hk; rw [← lim_congr h]; exact a k hk
  · intro a k hk; rw [lim_congr h]; exact a k hk
theorem us_mono {R W z i} {S S' : List Int} (h : ∀ x, x ∈ S → x ∈ S') (hu : us R W z S i) : us R W z S' i := by
  intro k hk
  have := hu k hk
  unfold lim at this ⊢
  rw [limL_le] at this ⊢
  rcases this with a | ⟨x, hx, a⟩
  · exact .inl a
  · exact .inr ⟨x, h x hx, a⟩
theorem p118_l1_eq {k m n : Nat} (hk : Fu k) {P : Int} {R : List (List Int)} {W : List WT} {z : List Int} {i : Nat} (hw : wOk W) (hn : n ≤ 63) (hm : m < 2 ^ n) (hnW : n ≤ W.length) (hi : i < R.length) : ∀ (d q f : Nat), q + d = 6 → d < f →
    p118_l1 k P R W z (m : Int) (i : Int) f (q : Int) = some (cau R W z (bitsL m n) i d q)
  | 0, q, f, h1, h2 => by
    obtain ⟨f, rfl⟩ : ∃ n', f = n' + 1 := ⟨f - 1, by omega⟩
    rw [p118_l1]
    simp only [lt_v, sp_d]
    rw [iF (by omega)]
    rfl
  | d + 1, q, f, h1, h2 => by
    obtain ⟨f, rfl⟩ : ∃ n', f = n' + 1 := ⟨f - 1, by omega⟩
    have ih := p118_l1_eq hk (P := P) (R := R) (W := W) (z := z) (i := i) hw hn hm hnW hi d (q + 1) f (by omega) (by omega)
    rw [p118_l1]
    simp only [lt_v, sp_d]
    rw [iT (by omega), gd_v (by omega), p119_eq hk hw hn hm hnW hi (by omega), cl_v, wr_succ (n := 6) (by omega) (by omega), ih, cl_v, Int.toNat_natCast]
    conv => rhs; rw [cau]
    by_cases h : z.getD q 0 > lim R W (bitsL m n) i q
    · rw [iT h, iT h]
    · rw [iF h, iF h]
theorem p71_eq {k m n : Nat} (hk : Fu k) {P : Int} {R : List (List Int)} {W : List WT} {z : List Int} {i : Nat} (hw : wOk W) (hn : n ≤ 63) (hm : m < 2 ^ n) (hnW : n ≤ W.length) (hi : i < R.length) :
    p71 k P R W z (m : Int) (i : Int) = some (cau R W z (bitsL m n) i 6 0) := by
  unfold p71 p118
  have := p118_l1_eq (k := k) hk (P := P) (R := R) (W := W) (z := z) (i := i) hw hn hm hnW hi 6 0 k (by omega) (by unfold Fu at hk; omega)
  rw [show ((0 : Nat) : Int) = 0 from rfl] at this
  rw [this]; rfl
theorem p55_eq {k m n : Nat} (hk : Fu k) {P : Int} {R : List (List Int)} {W : List WT} {z : List Int} {i : Nat} (hw : wOk W) (hn : n ≤ 63) (hm : m < 2 ^ n) (hnW : n ≤ W.length) (hi : i < R.length) :
    p55 k P R W z (m : Int) (i : Int) = some (decide (us R W z (bitsL m n) i)) := by
  unfold p55
  rw [p71_eq hk hw hn hm hnW hi]
  simp only [cl_v, jn_v]
  by_cases h : us R W z (bitsL m n) i
  · rw [us_cau.2 h, dT h]; rfl
  · rw [dF h]
    cases hc : cau R W z (bitsL m n) i 6 0 with
    | nil => exact absurd (us_cau.1 hc) h
    | cons a b => rfl
def costL (W : List WT) : List Int → Int
  | [] => 0
  | x :: S => wC (wk W x.toNat) + costL W S
def wcOk (W : List WT) : Prop := ∀ i, i < W.length → 1 ≤ wC (wk W i) ∧ wC (wk W i) ≤ 1073741824
theorem costL_le {W : List WT} (hc : wcOk W) : ∀ {S : List Int}, sOk W S → 0 ≤ costL W S ∧ costL W S ≤ 1073741824 * (S.length : Int)
  | [], _ => by simp [costL]
  | x :: S, hs => by
    have hx := hs x List.mem_cons_self
    have h1 := hc x.toNat (by omega)
    have := costL_le hc (S := S) (fun y hy => hs y (List.mem_cons_of_mem _ hy))
    simp only [costL, List.length_cons]
    omega
theorem p77_r1_eq {k : Nat} {W : List WT} {j : Int → Option Int} (hc : wcOk W) : ∀ {S : List Int} {a : Int}, sOk W S → 0 ≤ a → a + 1073741824 * (S.length : Int) ≤ 9223372036854775807 → p77_r1 k j W S a = j (a + costL W S)
  | [], a, _, _, _ => by simp [p77_r1, costL]
  | x :: S, a, hs, h0, h1 => by
    have hx := hs x List.mem_cons_self
    have h2 := hc x.toNat (by omega)
    have h3 : W.getD x.toNat ([], []) = wk W x.toNat := rfl
    have h4 : (wk W x.toNat).2.getD 2 0 = wC (wk W x.toNat) := rfl
    rw [List.length_cons] at h1
    rw [p77_r1]
    simp only [lt_v]
    rw [gd_v (by omega), h3, h4, wr64 (by omega) (by omega), p77_r1_eq hc (fun y hy => hs y (List.mem_cons_of_mem _ hy)) (by omega) (by omega)]
    simp only [costL]
    rw [Int.add_assoc]
theorem p77_eq {k m n : Nat} (hk : Fu k) {P : Int} {R : List (List Int)} {W : List WT} {z : List Int} (hc : wcOk W) (hn : n ≤ 63) (hm : m < 2 ^ n) (hnW : n ≤ W.length) : p77 k P R W z (m : Int) = some (costL W (bitsL m n)) := by
  unfold p77
  rw [p79_eq hk hn hm, cl_v, jn_v, p77_r1_eq hc, Int.zero_add]
  · intro x hx
    obtain ⟨j, a, _, rfl⟩ := mem_bitsL.1 hx
    omega
  · omega
  · have := bitsL_len (m := m) (n := n); omega
theorem p53_l1_eq {k n : Nat} (hn : n ≤ 63) {S : List Int} (hs : ∀ x ∈ S, 0 ≤ x ∧ x < (n : Int)) (hS : S.length ≤ 1152921504606846975) {j : Int → Option Int} : ∀ (d q f m : Nat), q + d = S.length → d < f → m < 2 ^ n →
    ∃ m' : Nat, m' < 2 ^ n ∧ (∀ b, m'.testBit b = true ↔ m.testBit b = true ∨ ((b : Int) ∈ S.drop q)) ∧ p53_l1 k S j f (m : Int) (q : Int) = j (m' : Int)
  | 0, q, f, m, h1, h2, h3 => by
    obtain ⟨f, rfl⟩ : ∃ n', f = n' + 1 := ⟨f - 1, by omega⟩
    refine ⟨m, h3, fun b => ?_, ?_⟩
    · rw [List.drop_eq_nil_of_le (by omega)]; simp
    · rw [p53_l1]
      simp only [lt_v, sp_d]
      rw [iF (by omega)]
  | d + 1, q, f, m, h1, h2, h3 => by
    obtain ⟨f, rfl⟩ : ∃ n', f = n' + 1 := ⟨f - 1, by omega⟩
    have hx := hs _ (getD_mem (by omega : q < S.length))
    obtain ⟨i, hi⟩ : ∃ i : Nat, S.getD q 0 = (i : Int) := ⟨(S.getD q 0).toNat, by omega⟩
    have h2i : (2 : Nat) ^ i < 2 ^ n := Nat.pow_lt_pow_right (by omega) (by omega)
    have hn64 : (2 : Nat) ^ n < 2 ^ 64 := Nat.pow_lt_pow_right (by omega) (by omega)
    have hor : m ||| 2 ^ i < 2 ^ n := Nat.or_lt_two_pow h3 h2i
    obtain ⟨m', a, b, c⟩ := p53_l1_eq (k := k) hn hs hS (j := j) d (q + 1) f (m ||| 2 ^ i) (by omega) (by omega) hor
    refine ⟨m', a, fun t => ?_, ?_⟩
    · rw [b, getD_drop (by omega : q < S.length), List.mem_cons, Nat.testBit_or, Bool.or_eq_true, Nat.testBit_two_pow, hi]
      constructor
      · rintro ((g | g) | g)
        · exact .inl g
        · exact .inr (.inl (by have := of_decide_eq_true g; omega))
        · exact .inr (.inr g)
      · rintro (g | g | g)
        · exact .inl (.inl g)
        · exact .inl (.inr (dT (by omega)))
        · exact .inr g
    · rw [p53_l1]
      simp only [lt_v, sp_d, Int.toNat_natCast]
      rw [iT (by omega), gd_v (by omega), hi, gd_v (by omega)]
      have e1 : (1 : Int) * 2 ^ min ((i : Int)).toNat (IntKind.bits .u64) = ((2 ^ i : Nat) : Int) := by
        rw [Int.toNat_natCast, show min i (IntKind.bits .u64) = i from Nat.min_eq_left (by show i ≤ 64; omega)]
        simp
      rw [e1, wruN (Nat.lt_trans h2i hn64), bor_nat (Nat.lt_trans h3 hn64) (Nat.lt_trans h2i hn64), wruN (Nat.lt_trans hor hn64), wr_succ (n := S.length) (by omega) (by omega)]
      exact c
theorem p53_eq {k n : Nat} (hk : Fu k) (hn : n ≤ 63) {S : List Int} (hs : ∀ x ∈ S, 0 ≤ x ∧ x < (n : Int)) (hS : S.length ≤ 1152921504606846975) :
    ∃ m : Nat, m < 2 ^ n ∧ (∀ x, x ∈ bitsL m n ↔ x ∈ S) ∧ p53 k S = some (m : Int) := by
  unfold Fu at hk
  unfold p53
  simp only [jn_v]
  obtain ⟨m, a, b, c⟩ := p53_l1_eq (k := k) hn hs hS (j := fun x => some x) S.length 0 k 0 (by omega) (by omega) (Nat.two_pow_pos n)
  rw [List.drop_zero] at b
  refine ⟨m, a, fun x => ?_, c⟩
  rw [mem_bitsL]
  constructor
  · rintro ⟨j, h1, h2, rfl⟩
    rcases (b j).1 h2 with g | g
    · simp at g
    · exact g
  · intro hx
    have h1 := hs x hx
    refine ⟨x.toNat, by omega, (b _).2 (.inr ?_), by omega⟩
    rw [show ((x.toNat : Nat) : Int) = x from by omega]
    exact hx
theorem p88_eq {k : Nat} {P : Int} {R : List (List Int)} {W : List WT} {z : List Int} (hW : W.length ≤ 63) : p88 k P R W z = some ((2 ^ W.length - 1 : Nat) : Int) := by
  unfold p88
  have h1 : (2 : Nat) ^ W.length ≤ 2 ^ 63 := Nat.pow_le_pow_right (by omega) hW
  have h2 : 0 < (2 : Nat) ^ W.length := Nat.two_pow_pos _
  have e1 : (1 : Int) * 2 ^ min ((W.length : Int)).toNat (IntKind.bits .u64) = ((2 ^ W.length : Nat) : Int) := by
    rw [Int.toNat_natCast, show min W.length (IntKind.bits .u64) = W.length from Nat.min_eq_left (by show W.length ≤ 64; omega)]
    simp
  simp only [lt_v]
  rw [gd_v (by omega), e1, wruN (by omega)]
  have e2 : ((2 ^ W.length : Nat) : Int) - 1 = ((2 ^ W.length - 1 : Nat) : Int) := by omega
  rw [e2, wruN (by omega)]
def allL (n : Nat) : List Int := bitsL (2 ^ n - 1) n
theorem mem_allL {n : Nat} {x : Int} : x ∈ allL n ↔ 0 ≤ x ∧ x < (n : Int) := by
  unfold allL
  rw [mem_bitsL]
  constructor
  · rintro ⟨j, a, b, rfl⟩; omega
  · intro h
    refine ⟨x.toNat, by omega, ?_, by omega⟩
    rw [Nat.testBit_two_pow_sub_one]
    exact dT (by omega)
end Go.Proofs.Ythniebmammmacaa
namespace Go.Proofs.Ythniebmammmacaa
open Go.RowKit Classical
def far : Int := 1125899906842624
def sumN : List Int → Nat
  | [] => 0
  | x :: L => x.toNat + sumN L
theorem sumN_set : ∀ {L : List Int} {y : Nat} {v : Int}, y < L.length → sumN (L.set y v) + (L.getD y 0).toNat = sumN L + v.toNat
  | x :: L, 0, v, _ => by simp only [List.set_cons_zero, sumN, List.getD_cons_zero]; omega
  | x :: L, y + 1, v, h => by
    have := sumN_set (L := L) (y := y) (v := v) (by simpa using h)
    simp only [List.set_cons_succ, sumN, List.getD_cons_succ]; omega
theorem sumN_le {B : Nat} : ∀ {L : List Int}, (∀ i, i < L.length → L.getD i 0 ≤ (B : Int)) → sumN L ≤ L.length * B
  | [], _ => by simp [sumN]
  | x :: L, h => by
    have h0 := h 0 (by simp)
    have := sumN_le (L := L) (fun i hi => by have := h (i + 1) (by simpa using hi); simpa using this)
    simp only [List.getD_cons_zero] at h0
    simp only [sumN, List.length_cons, Nat.add_mul, Nat.one_mul]
    omega
theorem getD_setI {L : List Int} {i j : Nat} {v : Int} (hi : i < L.length) : (L.set i v).getD j 0 = if i = j then v else L.getD j 0 := by
  rw [List.getD_eq_getElem?_getD, List.getElem?_set, List.getD_eq_getElem?_getD]
  by_cases h : i = j
  · subst h; simp [hi]
  · simp [h]
noncomputable def cnt (p : Nat → Prop) : Nat → Nat
  | 0 => 0
  | n + 1 => cnt p n + if p n then 1 else 0
theorem cnt_le {p : Nat → Prop} : ∀ {n}, cnt p n ≤ n
  | 0 => Nat.le_refl _
  | n + 1 => by have := cnt_le (p := p) (n := n); unfold cnt; split <;> omega
theorem cnt_mono {p q : Nat → Prop} (h : ∀ i, p i → q i) : ∀ {n}, cnt p n ≤ cnt q n
  | 0 => Nat.le_refl _
  | n + 1 => by
    have := cnt_mono h (n := n)
    unfold cnt
    by_cases hp : p n
    · rw [if_pos hp, if_pos (h n hp)]; omega
    · rw [if_neg hp]; omega
theorem cnt_lt {p q : Nat → Prop} (h : ∀ i, p i → q i) {j : Nat} (hq : q j) (hp : ¬ p j) : ∀ {n}, j < n → cnt p n < cnt q n
  | n + 1, hj => by
    unfold cnt
    rcases Nat.eq_or_lt_of_le (Nat.le_of_lt_succ hj) with e | e
    · subst e
      have := cnt_mono h (n := j)
      rw [if_neg hp, if_pos hq]; omega
    · have := cnt_lt h hq hp e
      by_cases hp : p n
      · rw [if_pos hp, if_pos (h n hp)]; omega
      · rw [if_neg hp]; omega
structure Edges where
  n : Nat
  P : Nat
  st : Nat
  X : Nat → Nat
  Y : Nat → Nat
  C : Nat → Int
structure EOk (E : Edges) : Prop where
  pm : E.P ≤ 64
  st : E.st < E.P
  x : ∀ i, i < E.n → E.X i < E.P
  y : ∀ i, i < E.n → E.Y i < E.P
  ne : ∀ i, i < E.n → E.X i ≠ E.Y i
  c : ∀ i, i < E.n → 0 ≤ E.C i → 1 ≤ E.C i ∧ E.C i ≤ 17179869184
def Cond (E : Edges) (L : List Int) (i : Nat) : Prop := 0 ≤ E.C i ∧ L.getD (E.X i) 0 < far ∧ L.getD (E.X i) 0 + E.C i < L.getD (E.Y i) 0
structure DInv (E : Edges) (L : List Int) : Prop where
  len : L.length = E.P
  rng : ∀ v, v < E.P → 0 ≤ L.getD v 0 ∧ L.getD v 0 ≤ far
  zero : L.getD E.st 0 = 0
  pre : ∀ v, v < E.P → v ≠ E.st → L.getD v 0 < far → ∃ i, i < E.n ∧ 0 ≤ E.C i ∧ E.Y i = v ∧ L.getD (E.X i) 0 < far ∧ L.getD (E.X i) 0 + E.C i ≤ L.getD v 0
theorem DInv.step {E : Edges} (he : EOk E) {L : List Int} (h : DInv E L) {i : Nat} (hi : i < E.n) (hc : Cond E L i) :
    DInv E (L.set (E.Y i) (L.getD (E.X i) 0 + E.C i)) ∧ sumN (L.set (E.Y i) (L.getD (E.X i) 0 + E.C i)) < sumN L := by
  obtain ⟨c0, c1, c2⟩ := hc
  have hx := he.x i hi
  have hy := he.y i hi
  have hne := he.ne i hi
  have hC := he.c i hi c0
  have rx := h.rng _ hx
  have ry := h.rng _ hy
  have hyl : E.Y i < L.length := by rw [h.len]; exact hy
  have hst : E.Y i ≠ E.st := by intro e; rw [e, h.zero] at c2; omega
  have hs := sumN_set (L := L) (v := L.getD (E.X i) 0 + E.C i) hyl
  refine ⟨⟨by rw [List.length_set]; exact h.len, fun v hv => ?_, ?_, fun v hv hvs hvf => ?_⟩, by omega⟩
  · rw [getD_setI hyl]
    split
    · omega
    · exact h.rng v hv
  · rw [getD_setI hyl, if_neg hst]; exact h.zero
  · rw [getD_setI hyl] at hvf ⊢
    by_cases e : E.Y i = v
    · subst e
      rw [if_pos rfl]
      refine ⟨i, hi, c0, rfl, ?_, ?_⟩
      · rw [getD_setI hyl, if_neg (Ne.symm hne)]; exact c1
      · rw [getD_setI hyl, if_neg (Ne.symm hne)]; exact Int.le_refl _
    · rw [if_neg e] at hvf ⊢
      obtain ⟨j, a, b, c, d, f⟩ := h.pre v hv hvs hvf
      refine ⟨j, a, b, c, ?_, ?_⟩
      · rw [getD_setI hyl]; split
        · omega
        · exact d
      · rw [getD_setI hyl]; split
        · rename_i e2; rw [← e2] at f; omega
        · exact f
structure Dist (E : Edges) (L : List Int) : Prop extends DInv E L where
  fix : ∀ i, i < E.n → ¬ Cond E L i
inductive Wk (E : Edges) : Nat → Int → Prop
  | nil : Wk E E.st 0
  | cons {i : Nat} {a : Int} : i < E.n → 0 ≤ E.C i → Wk E (E.X i) a → Wk E (E.Y i) (a + E.C i)
theorem Wk.nn {E : Edges} (he : EOk E) {v : Nat} {a : Int} (h : Wk E v a) : 0 ≤ a := by
  induction h with
  | nil => exact Int.le_refl _
  | cons hi hc _ ih => have := he.c _ hi hc; omega
theorem Wk.lt {E : Edges} (he : EOk E) {v : Nat} {a : Int} (h : Wk E v a) : v < E.P := by
  cases h with
  | nil => exact he.st
  | cons hi hc _ => exact he.y _ hi
theorem Dist.edge {E : Edges} (he : EOk E) {L : List Int} (h : Dist E L) {i : Nat} (hi : i < E.n) (hc : 0 ≤ E.C i) (hf : L.getD (E.X i) 0 < far) : L.getD (E.Y i) 0 ≤ L.getD (E.X i) 0 + E.C i := by
  rcases Int.lt_or_le (L.getD (E.X i) 0 + E.C i) (L.getD (E.Y i) 0) with a | a
  · exact absurd ⟨hc, hf, a⟩ (h.fix i hi)
  · exact a
theorem Dist.low {E : Edges} (he : EOk E) {L : List Int} (h : Dist E L) {v : Nat} {a : Int} (hw : Wk E v a) : L.getD v 0 ≤ a := by
  induction hw with
  | nil => rw [h.zero]; exact Int.le_refl _
  | cons hi hc hw ih =>
    have r := h.rng _ (he.x _ hi)
    have r2 := h.rng _ (he.y _ hi)
    rcases Int.lt_or_le (L.getD (E.X _) 0) far with g | g
    · have := h.edge he hi hc g; omega
    · have := he.c _ hi hc; omega
theorem Dist.prev {E : Edges} (he : EOk E) {L : List Int} (h : Dist E L) {v : Nat} (hv : v < E.P) (hs : v ≠ E.st) (hf : L.getD v 0 < far) :
    ∃ i, i < E.n ∧ 0 ≤ E.C i ∧ E.Y i = v ∧ L.getD v 0 = E.C i + L.getD (E.X i) 0 := by
  obtain ⟨i, a, b, c, d, f⟩ := h.pre v hv hs hf
  have := h.edge he a b d
  rw [c] at this
  exact ⟨i, a, b, c, by omega⟩
theorem Dist.way {E : Edges} (he : EOk E) {L : List Int} (h : Dist E L) : ∀ (n : Nat) {v : Nat}, v < E.P → (L.getD v 0).toNat < n → L.getD v 0 < far → Wk E v (L.getD v 0)
  | n + 1, v, hv, hn, hf => by
    by_cases hs : v = E.st
    · subst hs; rw [h.zero]; exact .nil
    · obtain ⟨i, a, b, c, d⟩ := h.prev he hv hs hf
      have hC := he.c i a b
      have rx := h.rng _ (he.x i a)
      have := h.way he n (he.x i a) (by omega) (by omega)
      have := Wk.cons a b this
      rw [c] at this
      rw [d, Int.add_comm]
      exact this
theorem Dist.bound {E : Edges} (he : EOk E) {L : List Int} (h : Dist E L) : ∀ (n : Nat) {v : Nat}, v < E.P → (L.getD v 0).toNat < n → L.getD v 0 < far → L.getD v 0 ≤ 17179869184 * (cnt (fun u => L.getD u 0 < L.getD v 0) E.P : Int)
  | n + 1, v, hv, hn, hf => by
    by_cases hs : v = E.st
    · subst hs; rw [h.zero]; omega
    · obtain ⟨i, a, b, c, d⟩ := h.prev he hv hs hf
      have hC := he.c i a b
      have rx := h.rng _ (he.x i a)
      have h1 := h.bound he n (he.x i a) (by omega) (by omega)
      have h2 := cnt_lt (p := fun u => L.getD u 0 < L.getD (E.X i) 0) (q := fun u => L.getD u 0 < L.getD v 0) (fun u (hu : L.getD u 0 < L.getD (E.X i) 0) => by show L.getD u 0 < L.getD v 0; omega) (j := E.X i) (by show L.getD (E.X i) 0 < L.getD v 0; omega) (by show ¬ L.getD (E.X i) 0 < L.getD (E.X i) 0; omega) (he.x i a)
      omega
theorem Dist.fin {E : Edges} (he : EOk E) {L : List Int} (h : Dist E L) {v : Nat} (hv : v < E.P) (hf : L.getD v 0 < far) : L.getD v 0 ≤ 1099511627776 := by
  have h1 := h.bound he _ hv (Nat.lt_succ_self _) hf
  have h2 := cnt_le (p := fun u => L.getD u 0 < L.getD v 0) (n := E.P)
  have := he.pm
  omega
theorem Dist.reach {E : Edges} (he : EOk E) {L : List Int} (h : Dist E L) {v : Nat} {a : Int} (hw : Wk E v a) : L.getD v 0 < far := by
  induction hw with
  | nil => rw [h.zero]; decide
  | cons hi hc hw ih =>
    have h1 := h.fin he (he.x _ hi) ih
    have h2 := h.edge he hi hc ih
    have h3 := he.c _ hi hc
    unfold far; omega
theorem Dist.iff {E : Edges} (he : EOk E) {L : List Int} (h : Dist E L) {v : Nat} (hv : v < E.P) : L.getD v 0 < far ↔ ∃ a, Wk E v a :=
  ⟨fun hf => ⟨_, h.way he _ hv (Nat.lt_succ_self _) hf⟩, fun ⟨a, ha⟩ => h.reach he ha⟩
theorem Dist.unique {E : Edges} (he : EOk E) {L L' : List Int} (h : Dist E L) (h' : Dist E L') : L = L' := by
  apply List.ext_getElem
  · rw [h.len, h'.len]
  · intro v h1 h2
    have hv : v < E.P := by rw [← h.len]; exact h1
    have e1 : L.getD v 0 = L[v] := by simp [List.getD_eq_getElem?_getD, h1]
    have e2 : L'.getD v 0 = L'[v] := by simp [List.getD_eq_getElem?_getD, h2]
    rw [← e1, ← e2]
    have r := h.rng v hv
    have r' := h'.rng v hv
    rcases Int.lt_or_le (L.getD v 0) far with g | g
    · have w := h.way he _ hv (Nat.lt_succ_self _) g
      have g' := h'.reach he w
      have w' := h'.way he _ hv (Nat.lt_succ_self _) g'
      have := h.low he w'
      have := h'.low he w
      omega
    · rcases Int.lt_or_le (L'.getD v 0) far with g' | g'
      · have w' := h'.way he _ hv (Nat.lt_succ_self _) g'
        have := h.reach he w'
        omega
      · omega
theorem DInv.start {E : Edges} (he : EOk E) {L : List Int} (hl : L.length = E.P) (hz : L.getD E.st 0 = 0) (hf : ∀ v, v < E.P → v ≠ E.st → L.getD v 0 = far) : DInv E L := by
  refine ⟨hl, fun v hv => ?_, hz, fun v hv hs hlt => ?_⟩
  · by_cases e : v = E.st
    · subst e; rw [hz]; decide
    · rw [hf v hv e]; decide
  · rw [hf v hv hs] at hlt; exact absurd hlt (by omega)
structure Pass (E : Edges) (L0 : List Int) (i : Nat) (b : Bool) (L : List Int) : Prop where
  inv : DInv E L
  t : b = true → sumN L < sumN L0
  f : b = false → L = L0 ∧ ∀ j, j < i → ¬ Cond E L0 j
theorem Pass.hit {E : Edges} (he : EOk E) {L0 L : List Int} {i : Nat} {b : Bool} (h : Pass E L0 i b L) (hi : i < E.n) (hc : Cond E L i) : Pass E L0 (i + 1) true (L.set (E.Y i) (L.getD (E.X i) 0 + E.C i)) := by
  obtain ⟨h1, h2⟩ := h.inv.step he hi hc
  refine ⟨h1, fun _ => ?_, fun e => (by cases e)⟩
  cases b with
  | true => have := h.t rfl; omega
  | false => have := (h.f rfl).1; subst this; exact h2
theorem Pass.miss {E : Edges} {L0 L : List Int} {i : Nat} {b : Bool} (h : Pass E L0 i b L) (hc : ¬ Cond E L i) : Pass E L0 (i + 1) b L := by
  refine ⟨h.inv, h.t, fun e => ?_⟩
  obtain ⟨h1, h2⟩ := h.f e
  refine ⟨h1, fun j hj => ?_⟩
  rcases Nat.eq_or_lt_of_le (Nat.le_of_lt_succ hj) with e | e
  · subst e; subst h1; exact hc
  · exact h2 j e
end Go.Proofs.Ythniebmammmacaa
namespace Go.Proofs.Ythniebmammmacaa
open Go.RowKit Classical
theorem MapOk.wOk {P R W} (h : MapOk P R W) : wOk W := fun i hi => by have := h.w16 i hi; omega
theorem MapOk.wcOk {P R W} (h : MapOk P R W) : wcOk W := fun i hi => (h.work i hi).co
inductive Pth (R : List (List Int)) (U : Nat → Prop) : Nat → Nat → Int → Prop
  | nil (v : Nat) : Pth R U v v 0
  | cons {i v : Nat} {a : Int} : i < R.length → U i → Pth R U (rT (rd R i)).toNat v a → Pth R U (rF (rd R i)).toNat v (a + rC (rd R i))
theorem Pth.snoc {R U} {u : Nat} {x : Nat} {a : Int} (h : Pth R U u x a) : ∀ {i : Nat}, i < R.length → U i → x = (rF (rd R i)).toNat → Pth R U u (rT (rd R i)).toNat (a + rC (rd R i)) := by
  induction h with
  | nil v =>
    intro i hi hu e
    have := Pth.cons (v := (rT (rd R i)).toNat) hi hu (.nil _)
    rw [e]; exact this
  | cons hj hu _ ih =>
    intro i hi hui e
    have := Pth.cons hj hu (ih hi hui e)
    rw [show ∀ a b c : Int, a + b + c = a + c + b from fun a b c => by omega]
    exact this
theorem Pth.mono {R U U'} (h : ∀ i, i < R.length → U i → U' i) {u v a} (hp : Pth R U u v a) : Pth R U' u v a := by
  induction hp with
  | nil v => exact .nil v
  | cons hi hu _ ih => exact .cons hi (h _ hi hu) ih
def EG (P : Int) (R : List (List Int)) (c : Nat → Int) (st : Nat) (bw : Bool) : Edges :=
  { n := R.length, P := P.toNat, st := st, X := fun i => if bw then (rT (rd R i)).toNat else (rF (rd R i)).toNat, Y := fun i => if bw then (rF (rd R i)).toNat else (rT (rd R i)).toNat, C := c }
structure COk (R : List (List Int)) (c : Nat → Int) : Prop where
  b : ∀ i, i < R.length → 0 ≤ c i → 1 ≤ c i ∧ c i ≤ 17179869184
  l : ∀ i, i < R.length → -1 ≤ c i
theorem EG_ok {P R W} (h : MapOk P R W) {c : Nat → Int} (hc : COk R c) {st : Nat} (hs : st < P.toNat) {bw : Bool} : EOk (EG P R c st bw) := by
  have hp := h.places
  have key : ∀ i, i < R.length → (rF (rd R i)).toNat < P.toNat ∧ (rT (rd R i)).toNat < P.toNat ∧ (rF (rd R i)).toNat ≠ (rT (rd R i)).toNat := by
    intro i hi
    have := (h.road i hi).ar
    unfold RoadA at this
    omega
  refine ⟨by show P.toNat ≤ 64; omega, hs, fun i hi => ?_, fun i hi => ?_, fun i hi => ?_, fun i hi h0 => hc.b i hi h0⟩
  · have := key i hi
    cases bw
    · exact this.1
    · exact this.2.1
  · have := key i hi
    cases bw
    · exact this.2.1
    · exact this.1
  · have := key i hi
    cases bw
    · exact this.2.2
    · exact Ne.symm this.2.2
noncomputable def cst (R : List (List Int)) (U : Nat → Prop) (i : Nat) : Int := if U i then rC (rd R i) else -1
theorem cst_ok {P R W} (h : MapOk P R W) {U : Nat → Prop} : COk R (cst R U) := by
  constructor
  · intro i hi h0
    unfold cst at h0 ⊢
    have := (h.road i hi).ar
    unfold RoadA at this
    by_cases hu : U i
    · rw [if_pos hu]; omega
    · rw [if_neg hu] at h0; omega
  · intro i hi
    unfold cst
    have := (h.road i hi).ar
    unfold RoadA at this
    split <;> omega
theorem cst_nn {R : List (List Int)} {U : Nat → Prop} {i : Nat} (h : 0 ≤ cst R U i) : U i ∧ cst R U i = rC (rd R i) := by
  unfold cst at h ⊢
  by_cases hu : U i
  · exact ⟨hu, if_pos hu⟩
  · rw [if_neg hu] at h; exact absurd h (by decide)
theorem cst_us {P R W} (h : MapOk P R W) {U : Nat → Prop} {i : Nat} (hi : i < R.length) (hu : U i) : 0 ≤ cst R U i ∧ cst R U i = rC (rd R i) := by
  have := (h.road i hi).ar
  unfold RoadA at this
  unfold cst
  rw [if_pos hu]
  exact ⟨by omega, rfl⟩
theorem Wk_bw {P R W} (h : MapOk P R W) {U : Nat → Prop} {st v : Nat} {a : Int} : Wk (EG P R (cst R U) st true) v a ↔ Pth R U v st a := by
  constructor
  · intro hw
    induction hw with
    | nil => exact .nil _
    | @cons i a hi hc _ ih =>
      obtain ⟨hu, e⟩ := cst_nn hc
      show Pth R U (rF (rd R i)).toNat st (a + cst R U i)
      rw [e]
      exact .cons hi hu ih
  · intro hp
    induction hp with
    | nil v => exact .nil
    | @cons i v a hi hu _ ih =>
      obtain ⟨h0, e⟩ := cst_us h hi hu
      have := Wk.cons (E := EG P R (cst R U) v true) (i := i) hi h0 ih
      rw [← e]
      exact this
theorem Wk_fw {P R W} (h : MapOk P R W) {U : Nat → Prop} {st v : Nat} {a : Int} : Wk (EG P R (cst R U) st false) v a ↔ Pth R U st v a := by
  constructor
  · intro hw
    induction hw with
    | nil => exact .nil _
    | @cons i a hi hc _ ih =>
      obtain ⟨hu, e⟩ := cst_nn hc
      show Pth R U st (rT (rd R i)).toNat (a + cst R U i)
      rw [e]
      exact ih.snoc hi hu rfl
  · intro hp
    -- from the end: by the number of roads behind
    have key : ∀ {u x : Nat} {b : Int}, Pth R U u x b → ∀ {s : Nat} {c : Int}, Wk (EG P R (cst R U) s false) u c → Wk (EG P R (cst R U) s false) x (c + b) := by
      intro u x b hq
      induction hq with
      | nil v => intro s c hc; rw [Int.add_zero]; exact hc
      | @cons i v a hi hu _ ih =>
        intro s c hc
        obtain ⟨h0, e⟩ := cst_us h hi hu
        have := Wk.cons (E := EG P R (cst R U) s false) (i := i) hi h0 hc
        rw [show (EG P R (cst R U) s false).C i = rC (rd R i) from e] at this
        have := ih this
        rw [show c + (a + rC (rd R i)) = c + rC (rd R i) + a from by omega]
        exact this
    have := key hp (s := st) (c := 0) .nil
    rw [Int.zero_add] at this
    exact this
theorem p122_eq {k m n : Nat} (hk : Fu k) {P : Int} {R : List (List Int)} {W : List WT} {z : List Int} {i : Nat} (hw : wOk W) (hn : n ≤ 63) (hm : m < 2 ^ n) (hnW : n ≤ W.length) (hi : i < R.length) :
    p122 k (i : Int) P R W z (m : Int) = some (cst R (us R W z (bitsL m n)) i) := by
  unfold p122 cst
  rw [p55_eq hk hw hn hm hnW hi, cl_v, sp_d, gd_v (by omega)]
  simp only [lt_v, Int.toNat_natCast]
  by_cases h : us R W z (bitsL m n) i
  · rw [iT h, iT h]; rfl
  · rw [iF h, iF h]
theorem p75a_l1_eq {k n : Nat} {W4 L : List Int} {j : List Int → Option (List Int)} (hn : W4.length < n) (hl : W4.length ≤ 1000000) (hL : L.length = W4.length) : p75a_l1 k j W4 n 0 L = j (List.replicate W4.length far) := by
  have hx := loop0 (F := fun n x s => p75a_l1 k j W4 n x s) (len := W4.length) (n := n) (J := j) (fun i L => L.length = W4.length ∧ ∀ v, v < i → L.getD v 0 = far) L hn ⟨hL, by intros; omega⟩ ?_ ?_
  · obtain ⟨s', h1, h2⟩ := hx
    rw [h2]
    congr 1
    apply List.ext_getElem
    · rw [h1.1, List.length_replicate]
    · intro v a b
      have := h1.2 v (by omega)
      rw [List.getD_eq_getElem?_getD, List.getElem?_eq_getElem a] at this
      rw [List.getElem_replicate]; exact this
  · intro n s _
    show p75a_l1 k j W4 (n + 1) (W4.length : Int) s = j s
    rw [p75a_l1]; simp only [lt_v, sp_d]; rw [iF (by omega)]
  · intro n i s hi hs
    refine ⟨s.set i far, ⟨by rw [List.length_set]; exact hs.1, fun v hv => ?_⟩, ?_⟩
    · rw [getD_setI (by omega)]
      split
      · rfl
      · exact hs.2 v (by omega)
    · show p75a_l1 k j W4 (n + 1) (i : Int) s = p75a_l1 k j W4 n ((i + 1 : Nat) : Int) (s.set i far)
      rw [p75a_l1]; simp only [lt_v, sp_d]; rw [iT (by omega), gd_v (by omega), wr_succ hi (by omega), Int.toNat_natCast]; rfl
theorem p75a_l2_eq {k n : Nat} {P : Int} {R : List (List Int)} {W : List WT} {z : List Int} {m : Int} {W17 : List Int} {c : Nat → Int} {j : List Int → Option (List Int)} (hn : W17.length < n) (hl : W17.length ≤ 1000000) (hc : ∀ i : Nat, i < W17.length → p122 k (i : Int) P R W z m = some (c i)) :
    ∃ C : List Int, (C.length = W17.length ∧ ∀ i, i < W17.length → C.getD i 0 = c i) ∧ p75a_l2 k P R W z m j W17 n 0 W17 = j C := by
  refine loop0 (F := fun n x s => p75a_l2 k P R W z m j W17 n x s) (len := W17.length) (n := n) (J := j) (fun i L => L.length = W17.length ∧ ∀ v, v < i → L.getD v 0 = c v) W17 hn ⟨rfl, by intros; omega⟩ ?_ ?_
  · intro n s _
    show p75a_l2 k P R W z m j W17 (n + 1) (W17.length : Int) s = j s
    rw [p75a_l2]; simp only [lt_v, sp_d]; rw [iF (by omega)]
  · intro n i s hi hs
    refine ⟨s.set i (c i), ⟨by rw [List.length_set]; exact hs.1, fun v hv => ?_⟩, ?_⟩
    · rw [getD_setI (by omega)]
      split
      · rename_i e; rw [e]
      · exact hs.2 v (by omega)
    · show p75a_l2 k P R W z m j W17 (n + 1) (i : Int) s = p75a_l2 k P R W z m j W17 n ((i + 1 : Nat) : Int) (s.set i (c i))
      rw [p75a_l2]; simp only [lt_v, sp_d]; rw [iT (by omega), hc i hi, cl_v, gd_v (by omega), wr_succ hi (by omega), Int.toNat_natCast]
theorem p75a_l4_eq {k n : Nat} {P : Int} {R : List (List Int)} {W : List WT} (h : MapOk P R W) {c : Nat → Int} (hc : COk R c) {C L0 : List Int} (hC : C.length = R.length) (hCc : ∀ i, i < R.length → C.getD i 0 = c i)
    {st : Nat} (hs : st < P.toNat) {bw : Bool} {j : Bool → Bool → List Int → Option (List Int)} (hn : R.length < n) (hI : DInv (EG P R c st bw) L0) :
    ∃ s : Bool × List Int, Pass (EG P R c st bw) L0 R.length s.1 s.2 ∧ p75a_l4 k R C j n bw false 0 L0 = j bw s.1 s.2 := by
  have he := EG_ok h hc hs (bw := bw)
  have h256 := h.r256
  refine loop0 (F := fun n x (s : Bool × List Int) => p75a_l4 k R C j n bw s.1 x s.2) (len := R.length) (n := n) (J := fun s => j bw s.1 s.2) (fun i s => Pass (EG P R c st bw) L0 i s.1 s.2) (false, L0) hn ⟨hI, fun e => (by cases e), fun _ => ⟨rfl, by intros; omega⟩⟩ ?_ ?_
  · intro n s _
    show p75a_l4 k R C j (n + 1) bw s.1 (R.length : Int) s.2 = j bw s.1 s.2
    rw [p75a_l4]; simp only [lt_v, sp_d]; rw [iF (by omega)]
  · rintro n i ⟨b, L⟩ hi hp
    show ∃ s' : Bool × List Int, _ ∧ p75a_l4 k R C j (n + 1) bw b (i : Int) L = p75a_l4 k R C j n bw s'.1 ((i + 1 : Nat) : Int) s'.2
    have hp' : Pass (EG P R c st bw) L0 i b L := hp
    have hlen : L.length = P.toNat := hp'.inv.len
    have hx : (EG P R c st bw).X i < L.length := by rw [hlen]; exact he.x i hi
    have hy : (EG P R c st bw).Y i < L.length := by rw [hlen]; exact he.y i hi
    have rx := hp'.inv.rng _ (he.x i hi)
    have hr := (h.road i hi).ar
    unfold RoadA at hr
    have hcb := hc.b i hi
    have hcl := hc.l i hi
    have hfar : far = 1125899906842624 := rfl
    -- the step, told by the edge's ends
    have key : ∀ (x y : Int), x.toNat = (EG P R c st bw).X i → y.toNat = (EG P R c st bw).Y i → 0 ≤ x → 0 ≤ y → 0 ≤ c i →
        (gd ((0 : Int) ≤ x ∧ x < (List.length L : Int)) <| lt' (List.getD L ((x).toNat) 0) fun x64 => gd ((0 : Int) ≤ (i : Int) ∧ (i : Int) < (List.length C : Int)) <| lt' (List.getD C (((i : Int)).toNat) 0) fun x66 => lt' (wr .i64 (x64 + x66)) fun x67 => jn (fun (b68 : Bool) => sp b68 (gd ((0 : Int) ≤ y ∧ y < (List.length L : Int)) <| lt' (List.set L ((y).toNat) x67) fun L77 => (lt' (wr .i64 ((i : Int) + (1 : Int))) fun x78 => p75a_l4 k R C j n bw true x78 L77)) (lt' (wr .i64 ((i : Int) + (1 : Int))) fun x78 => p75a_l4 k R C j n bw b x78 L)) fun j69 => gd ((0 : Int) ≤ x ∧ x < (List.length L : Int)) <| lt' (List.getD L ((x).toNat) 0) fun x71 => lt' (decide (x71 < (1125899906842624 : Int))) fun b72 => sp b72 (gd ((0 : Int) ≤ y ∧ y < (List.length L : Int)) <| lt' (List.getD L ((y).toNat) 0) fun x74 => lt' (decide (x67 < x74)) fun b75 => j69 b75) (j69 false))
        = if Cond (EG P R c st bw) L i then p75a_l4 k R C j n bw true ((i + 1 : Nat) : Int) (L.set ((EG P R c st bw).Y i) (L.getD ((EG P R c st bw).X i) 0 + c i)) else p75a_l4 k R C j n bw b ((i + 1 : Nat) : Int) L := by
      intro x y ex ey x0 y0 c0
      have hcb := hcb c0
      have ex' : L.getD x.toNat 0 = L.getD ((EG P R c st bw).X i) 0 := by rw [ex]
      have ey' : L.getD y.toNat 0 = L.getD ((EG P R c st bw).Y i) 0 := by rw [ey]
      have e1 : gd ((0 : Int) ≤ x ∧ x < (List.length L : Int)) = fun (z : Option (List Int)) => z := by funext z; exact gd_v (by omega) z
      have e2 : gd ((0 : Int) ≤ y ∧ y < (List.length L : Int)) = fun (z : Option (List Int)) => z := by funext z; exact gd_v (by omega) z
      have e3 : gd ((0 : Int) ≤ (i : Int) ∧ (i : Int) < (List.length C : Int)) = fun (z : Option (List Int)) => z := by funext z; exact gd_v (by omega) z
      simp only [lt_v, jn_v, e1, e2, e3, Int.toNat_natCast, sp_d, sp_ff, ex', ey', hCc i hi]
      rw [wr_succ hi (by omega), wr64 (by omega) (by omega), ey]
      by_cases g : L.getD ((EG P R c st bw).X i) 0 < 1125899906842624
      · rw [iT g]
        by_cases g2 : L.getD ((EG P R c st bw).X i) 0 + c i < L.getD ((EG P R c st bw).Y i) 0
        · rw [iT g2, iT (p := Cond (EG P R c st bw) L i) ⟨c0, g, g2⟩]
        · rw [iF g2, iF (p := Cond (EG P R c st bw) L i) (fun h => g2 h.2.2)]
      · rw [iF g, iF (p := Cond (EG P R c st bw) L i) (fun h => g h.2.1)]
    by_cases hcon : Cond (EG P R c st bw) L i
    · refine ⟨(true, L.set ((EG P R c st bw).Y i) (L.getD ((EG P R c st bw).X i) 0 + c i)), hp'.hit he hi hcon, ?_⟩
      have c0 : 0 ≤ c i := hcon.1
      rw [p75a_l4]
      cases bw with
      | true =>
        have k1 := key (rT (rd R i)) (rF (rd R i)) rfl rfl (by omega) (by omega) c0
        rw [iT hcon] at k1
        rw [← k1]
        simp only [lt_v, sp_d, jn_v, sp_tt, Int.toNat_natCast, hCc i hi]
        rw [iT (by omega), gd_v (by omega), gd_v (by omega), iF (by omega)]
        rfl
      | false =>
        have k1 := key (rF (rd R i)) (rT (rd R i)) rfl rfl (by omega) (by omega) c0
        rw [iT hcon] at k1
        rw [← k1]
        simp only [lt_v, sp_d, jn_v, sp_ff, Int.toNat_natCast, hCc i hi]
        rw [iT (by omega), gd_v (by omega), gd_v (by omega), iF (by omega)]
        rfl
    · refine ⟨(b, L), hp'.miss hcon, ?_⟩
      by_cases c0 : c i < 0
      · rw [p75a_l4]
        simp only [lt_v, sp_d, jn_v, Int.toNat_natCast, hCc i hi]
        rw [iT (by omega), gd_v (by omega), gd_v (by omega), iT c0, wr_succ hi (by omega)]
      · have c0' : 0 ≤ c i := by omega
        rw [p75a_l4]
        cases bw with
        | true =>
          have k1 := key (rT (rd R i)) (rF (rd R i)) rfl rfl (by omega) (by omega) c0'
          rw [iF hcon] at k1
          rw [← k1]
          simp only [lt_v, sp_d, jn_v, sp_tt, Int.toNat_natCast, hCc i hi]
          rw [iT (by omega), gd_v (by omega), gd_v (by omega), iF (by omega)]
          rfl
        | false =>
          have k1 := key (rF (rd R i)) (rT (rd R i)) rfl rfl (by omega) (by omega) c0'
          rw [iF hcon] at k1
          rw [← k1]
          simp only [lt_v, sp_d, jn_v, sp_ff, Int.toNat_natCast, hCc i hi]
          rw [iT (by omega), gd_v (by omega), gd_v (by omega), iF (by omega)]
          rfl
theorem p75a_l3_eq {k : Nat} (hk : Fu k) {P : Int} {R : List (List Int)} {W : List WT} (h : MapOk P R W) {c : Nat → Int} (hc : COk R c) {C L0 : List Int} (hC : C.length = R.length) (hCc : ∀ i, i < R.length → C.getD i 0 = c i)
    {st : Nat} (hs : st < P.toNat) {bw : Bool} {j : List Int → Option (List Int)} (hI : DInv (EG P R c st bw) L0) :
    ∃ L : List Int, Dist (EG P R c st bw) L ∧ p75a_l3 k R C j k bw true L0 = j L := by
  have hk' := hk
  unfold Fu at hk'
  have h256 := h.r256
  have hP := h.places
  have hb : ∀ L, DInv (EG P R c st bw) L → sumN L ≤ 64 * 1125899906842624 := by
    intro L hL
    have := sumN_le (L := L) (B := 1125899906842624) (fun i hi => (hL.rng i (by rw [← hL.len]; exact hi)).2)
    have hl : L.length = P.toNat := hL.len
    have : L.length * 1125899906842624 ≤ 64 * 1125899906842624 := Nat.mul_le_mul_right _ (by omega)
    exact Nat.le_trans ‹_› this
  have hx := whileI (F := fun n (s : Bool × List Int) => p75a_l3 k R C j n bw s.1 s.2) (J := fun s => j s.2) (fun s => 2 * sumN s.2 + if s.1 = true then 1 else 0) (fun s => DInv (EG P R c st bw) s.2 ∧ (s.1 = false → Dist (EG P R c st bw) s.2)) (fun s => Dist (EG P R c st bw) s.2) ?_ k (true, L0) ⟨hI, fun e => (by cases e)⟩ (by
    have := hb L0 hI
    show 2 * sumN L0 + (if true = true then 1 else 0) < k
    rw [if_pos rfl]; omega)
  · obtain ⟨s', h1, h2⟩ := hx
    exact ⟨s'.2, h1, h2⟩
  · rintro n ⟨b, L⟩ ⟨g1, g2⟩
    cases b with
    | false =>
      refine .inl ⟨(false, L), g2 rfl, ?_⟩
      show p75a_l3 k R C j (n + 1) bw false L = j L
      rw [p75a_l3, sp_ff]
    | true =>
      obtain ⟨⟨b', L'⟩, q1, q2⟩ := p75a_l4_eq (k := k) (n := k) h hc hC hCc hs (bw := bw) (L0 := L) (j := fun b34 b35 L36 => p75a_l3 k R C j n b34 b35 L36) (by omega) g1
      have q1' : Pass (EG P R c st bw) L R.length b' L' := q1
      refine .inr ⟨(b', L'), ⟨q1'.inv, fun e => ?_⟩, ?_, ?_⟩
      · obtain ⟨e1, e2⟩ := q1'.f e
        have e1 : L' = L := e1
        subst e1
        exact { toDInv := g1, fix := e2 }
      · show 2 * sumN L' + (if b' = true then 1 else 0) < 2 * sumN L + (if true = true then 1 else 0)
        rw [if_pos rfl]
        cases b' with
        | true => have := q1'.t rfl; rw [if_pos rfl]; omega
        | false => have := (q1'.f rfl).1; rw [this, if_neg (by decide)]; omega
      · show p75a_l3 k R C j (n + 1) bw true L = p75a_l3 k R C j n bw b' L'
        rw [p75a_l3, sp_tt]
        simp only [jn_v]
        exact q2
theorem p75a_eq {k m n : Nat} (hk : Fu k) {P : Int} {R : List (List Int)} {W : List WT} {z z' : List Int} (h : MapOk P R W) (hn : n ≤ 63) (hm : m < 2 ^ n) (hnW : n ≤ W.length) {st : Nat} (hs : st < P.toNat) {bw : Bool} :
    ∃ L, Dist (EG P R (cst R (us R W z (bitsL m n))) st bw) L ∧ p75a k P R W z' (st : Int) bw P R W z (m : Int) = some L := by
  have hk' := hk
  unfold Fu at hk'
  have h256 := h.r256
  have hP := h.places
  have hc := cst_ok h (U := us R W z (bitsL m n))
  unfold p75a
  simp only [lt_v, jn_v]
  rw [gd_v (by omega), p75a_l1_eq (by rw [List.length_replicate]; omega) (by rw [List.length_replicate]; omega) rfl]
  simp only [List.length_replicate, Int.toNat_natCast]
  rw [gd_v (by omega), gd_v (by omega)]
  obtain ⟨C, ⟨c1, c2⟩, c3⟩ := p75a_l2_eq (k := k) (n := k) (P := P) (R := R) (W := W) (z := z) (m := (m : Int)) (W17 := List.replicate R.length 0) (c := cst R (us R W z (bitsL m n)))
    (j := fun L18 => p75a_l3 k R L18 (fun L28 => some L28) k bw true (List.set (List.replicate P.toNat far) st 0)) (by rw [List.length_replicate]; omega) (by rw [List.length_replicate]; omega)
    (fun i hi => p122_eq hk h.wOk hn hm hnW (by rw [List.length_replicate] at hi; exact hi))
  rw [List.length_replicate] at c1 c2
  rw [c3]
  refine p75a_l3_eq hk h hc c1 c2 hs (DInv.start (EG_ok h hc hs) ?_ ?_ ?_)
  · rw [List.length_set, List.length_replicate]; rfl
  · show (List.set (List.replicate P.toNat far) st 0).getD st 0 = 0
    rw [getD_setI (by rw [List.length_replicate]; exact hs), if_pos rfl]
  · intro v hv hne
    have hv' : v < P.toNat := hv
    have hne' : v ≠ st := hne
    rw [getD_setI (by rw [List.length_replicate]; exact hs), if_neg (Ne.symm hne')]
    simp [List.getD_eq_getElem?_getD, hv']
end Go.Proofs.Ythniebmammmacaa
namespace Go.Proofs.Ythniebmammmacaa
open Go.RowKit Classical
def setT : Nat → Nat → Nat → List Nat
  | 0, _, _ => []
  | d + 1, i, s => (s ||| 2 ^ i) :: setT d (i + 1) (s ||| 2 ^ i) ++ setT d (i + 1) s
def setsL (n : Nat) : List Nat := 0 :: setT n 0 0
def natL (L : List Nat) : List Int := L.map Int.ofNat
theorem p121_eq {k n : Nat} (hk : Fu k) (hn : n ≤ 63) : ∀ (d : Nat),
    (∀ (f i s : Nat), i + d = n → d < f → s < 2 ^ n → p121 k (n : Int) f (s : Int) (i : Int) = some (natL (s :: setT d i s))) ∧
    (∀ (f g i s : Nat), i + d = n → d ≤ f → d < g → s < 2 ^ n → p121L (p121 k (n : Int) f) (n : Int) (s : Int) g (i : Int) = some (natL (setT d i s)))
  | 0 => by
    have hB : ∀ (f g i s : Nat), i + 0 = n → 0 ≤ f → 0 < g → s < 2 ^ n → p121L (p121 k (n : Int) f) (n : Int) (s : Int) g (i : Int) = some (natL (setT 0 i s)) := by
      intro f g i s h1 h2 h3 h4
      obtain ⟨g, rfl⟩ : ∃ g', g = g' + 1 := ⟨g - 1, by omega⟩
      rw [p121L]
      simp only [lt_v, sp_d]
      rw [iF (by omega)]
      rfl
    refine ⟨?_, hB⟩
    intro f i s h1 h2 h3
    obtain ⟨f, rfl⟩ : ∃ g', f = g' + 1 := ⟨f - 1, by omega⟩
    rw [p121, hB f k i s h1 (by omega) (by unfold Fu at hk; omega) h3]
    rfl
  | d + 1 => by
    obtain ⟨ihA, ihB⟩ := p121_eq hk hn d
    have hB : ∀ (f g i s : Nat), i + (d + 1) = n → d + 1 ≤ f → d + 1 < g → s < 2 ^ n → p121L (p121 k (n : Int) f) (n : Int) (s : Int) g (i : Int) = some (natL (setT (d + 1) i s)) := by
      intro f g i s h1 h2 h3 h4
      obtain ⟨g, rfl⟩ : ∃ g', g = g' + 1 := ⟨g - 1, by omega⟩
      have h2i : (2 : Nat) ^ i < 2 ^ n := Nat.pow_lt_pow_right (by omega) (by omega)
      have hn64 : (2 : Nat) ^ n < 2 ^ 64 := Nat.pow_lt_pow_right (by omega) (by omega)
      have hor : s ||| 2 ^ i < 2 ^ n := Nat.or_lt_two_pow h4 h2i
      have e1 : (1 : Int) * 2 ^ min ((i : Int)).toNat (IntKind.bits .u64) = ((2 ^ i : Nat) : Int) := by
        rw [Int.toNat_natCast, show min i (IntKind.bits .u64) = i from Nat.min_eq_left (by show i ≤ 64; omega)]
        simp
      rw [p121L]
      simp only [lt_v, sp_d]
      rw [iT (by omega), gd_v (by omega), e1, wruN (Nat.lt_trans h2i hn64), bor_nat (Nat.lt_trans h4 hn64) (Nat.lt_trans h2i hn64), wruN (Nat.lt_trans hor hn64), wr_succ (n := n) (by omega) (by omega),
        ihA f (i + 1) _ (by omega) (by omega) hor, cl_v, ihB f g (i + 1) s (by omega) (by omega) (by omega) h4, cl_v]
      rw [setT]
      simp [natL]
    refine ⟨?_, hB⟩
    intro f i s h1 h2 h3
    obtain ⟨f, rfl⟩ : ∃ g', f = g' + 1 := ⟨f - 1, by omega⟩
    rw [p121, hB f k i s h1 (by omega) (by unfold Fu at hk; omega) h3]
    rfl
theorem p73_eq {k n : Nat} (hk : Fu k) (hn : n ≤ 63) : p73 k (n : Int) = some (natL (setsL n)) := by
  unfold p73 p120
  have := (p121_eq hk hn n).1 k 0 0 (by omega) (by unfold Fu at hk; omega) (Nat.two_pow_pos n)
  rw [show ((0 : Nat) : Int) = 0 from rfl] at this
  rw [this]; rfl
theorem mem_setT {x : Nat} : ∀ {d i s : Nat}, s < 2 ^ i → (x ∈ s :: setT d i s ↔ (∀ j, j < i → x.testBit j = s.testBit j) ∧ x < 2 ^ (i + d))
  | 0, i, s, hs => by
    rw [setT, List.mem_singleton, Nat.add_zero]
    constructor
    · rintro rfl; exact ⟨fun _ _ => rfl, hs⟩
    · rintro ⟨h1, h2⟩
      refine Nat.eq_of_testBit_eq fun j => ?_
      rcases Nat.lt_or_ge j i with g | g
      · exact h1 j g
      · rw [Nat.testBit_lt_two_pow (Nat.lt_of_lt_of_le h2 (Nat.pow_le_pow_right (by omega) g)), Nat.testBit_lt_two_pow (Nat.lt_of_lt_of_le hs (Nat.pow_le_pow_right (by omega) g))]
  | d + 1, i, s, hs => by
    have h2i : (2 : Nat) ^ i < 2 ^ (i + 1) := Nat.pow_lt_pow_right (by omega) (by omega)
    have hs1 : s < 2 ^ (i + 1) := Nat.lt_trans hs h2i
    have hs' : s ||| 2 ^ i < 2 ^ (i + 1) := Nat.or_lt_two_pow hs1 h2i
    have A := mem_setT (x := x) (d := d) (i := i + 1) hs'
    have B := mem_setT (x := x) (d := d) (i := i + 1) hs1
    have hb0 : s.testBit i = false := Nat.testBit_lt_two_pow hs
    have e : i + 1 + d = i + (d + 1) := by omega
    rw [e] at A B
    have hm : x ∈ s :: setT (d + 1) i s ↔ x ∈ (s ||| 2 ^ i) :: setT d (i + 1) (s ||| 2 ^ i) ∨ x ∈ s :: setT d (i + 1) s := by
      rw [setT]
      simp only [List.mem_cons, List.mem_append]
      constructor
      · rintro (a | a | a)
        · exact .inr (.inl a)
        · exact .inl a
        · exact .inr (.inr a)
      · rintro (a | a | a)
        · exact .inr (.inl a)
        · exact .inl a
        · exact .inr (.inr a)
    rw [hm, A, B]
    constructor
    · rintro (⟨h1, h2⟩ | ⟨h1, h2⟩)
      · refine ⟨fun j hj => ?_, h2⟩
        rw [h1 j (by omega), Nat.testBit_or, Nat.testBit_two_pow, dF (by omega), Bool.or_false]
      · exact ⟨fun j hj => h1 j (by omega), h2⟩
    · rintro ⟨h1, h2⟩
      by_cases hb : x.testBit i = true
      · refine .inl ⟨fun j hj => ?_, h2⟩
        rw [Nat.testBit_or, Nat.testBit_two_pow]
        rcases Nat.eq_or_lt_of_le (Nat.le_of_lt_succ hj) with g | g
        · subst g; rw [hb, dT rfl, Bool.or_true]
        · rw [h1 j g, dF (by omega), Bool.or_false]
      · refine .inr ⟨fun j hj => ?_, h2⟩
        rcases Nat.eq_or_lt_of_le (Nat.le_of_lt_succ hj) with g | g
        · subst g; rw [hb0]; cases hx : x.testBit j
          · rfl
          · exact absurd hx hb
        · exact h1 j g
theorem mem_setsL {n x : Nat} : x ∈ setsL n ↔ x < 2 ^ n := by
  unfold setsL
  rw [mem_setT (Nat.two_pow_pos 0), Nat.zero_add]
  exact ⟨fun h => h.2, fun h => ⟨fun j hj => absurd hj (Nat.not_lt_zero j), h⟩⟩
noncomputable def least (ok : Nat → Prop) (f : Nat → Int) : List Nat → Int × Int × Bool → Int × Int × Bool
  | [], a => a
  | s :: L, a => if ok s ∧ (a.2.2 = false ∨ f s < a.2.1) then least ok f L ((s : Int), f s, true) else least ok f L a
theorem least_spec {ok : Nat → Prop} {f : Nat → Int} : ∀ {L : List Nat} {a : Int × Int × Bool},
    ((∀ s ∈ L, ¬ ok s) ∧ least ok f L a = a) ∨ ((least ok f L a = a ∧ a.2.2 = true ∨ ∃ s ∈ L, ok s ∧ least ok f L a = ((s : Int), f s, true)) ∧ (∀ s ∈ L, ok s → (least ok f L a).2.1 ≤ f s) ∧ (a.2.2 = true → (least ok f L a).2.1 ≤ a.2.1))
  | [], a => .inl ⟨by simp, rfl⟩
  | s :: L, a => by
    rw [least]
    by_cases h : ok s ∧ (a.2.2 = false ∨ f s < a.2.1)
    · rw [iT h]
      rcases least_spec (ok := ok) (f := f) (L := L) (a := ((s : Int), f s, true)) with ⟨h1, h2⟩ | ⟨h1, h2, h3⟩
      · refine .inr ⟨.inr ⟨s, List.mem_cons_self, h.1, h2⟩, fun t ht hok => ?_, fun ha => ?_⟩
        · rcases List.mem_cons.1 ht with e | e
          · subst e; rw [h2]; exact Int.le_refl _
          · exact absurd hok (h1 t e)
        · rw [h2]
          rcases h.2 with g | g
          · rw [ha] at g; cases g
          · exact Int.le_of_lt g
      · refine .inr ⟨?_, fun t ht hok => ?_, fun ha => ?_⟩
        · rcases h1 with ⟨g, _⟩ | ⟨t, g1, g2, g3⟩
          · exact .inr ⟨s, List.mem_cons_self, h.1, g⟩
          · exact .inr ⟨t, List.mem_cons_of_mem _ g1, g2, g3⟩
        · rcases List.mem_cons.1 ht with e | e
          · subst e; exact h3 rfl
          · exact h2 t e hok
        · have h4 := h3 rfl
          rcases h.2 with g | g
          · rw [ha] at g; cases g
          · exact Int.le_trans h4 (Int.le_of_lt g)
    · rw [iF h]
      rcases least_spec (ok := ok) (f := f) (L := L) (a := a) with ⟨h1, h2⟩ | ⟨h1, h2, h3⟩
      · by_cases hok : ok s
        · have ha : a.2.2 = true := by
            cases hb : a.2.2 with
            | true => rfl
            | false => exact absurd ⟨hok, .inl hb⟩ h
          refine .inr ⟨.inl ⟨h2, ha⟩, fun t ht hk => ?_, fun _ => by rw [h2]; exact Int.le_refl _⟩
          rcases List.mem_cons.1 ht with e | e
          · subst e; rw [h2]
            rcases Int.lt_or_le (f t) a.2.1 with g | g
            · exact absurd ⟨hok, .inr g⟩ h
            · exact g
          · exact absurd hk (h1 t e)
        · refine .inl ⟨fun t ht => ?_, h2⟩
          rcases List.mem_cons.1 ht with e | e
          · subst e; exact hok
          · exact h1 t e
      · refine .inr ⟨?_, fun t ht hok => ?_, h3⟩
        · rcases h1 with g | ⟨t, g1, g2⟩
          · exact .inl g
          · exact .inr ⟨t, List.mem_cons_of_mem _ g1, g2⟩
        · rcases List.mem_cons.1 ht with e | e
          · subst e
            cases hb : a.2.2 with
            | false => exact absurd ⟨hok, .inl hb⟩ h
            | true =>
              have := h3 hb
              rcases Int.lt_or_le (f t) a.2.1 with g | g
              · exact absurd ⟨hok, .inr g⟩ h
              · exact Int.le_trans this g
          · exact h2 t e hok
theorem least_from {ok : Nat → Prop} {f : Nat → Int} {L : List Nat} {x y : Int} :
    ((∀ s ∈ L, ¬ ok s) ∧ least ok f L (x, y, false) = (x, y, false)) ∨ (∃ s ∈ L, ok s ∧ least ok f L (x, y, false) = ((s : Int), f s, true) ∧ ∀ t ∈ L, ok t → f s ≤ f t) := by
  rcases least_spec (ok := ok) (f := f) (L := L) (a := (x, y, false)) with h | ⟨h1, h2, _⟩
  · exact .inl h
  · rcases h1 with ⟨_, h⟩ | ⟨s, a, b, c⟩
    · cases h
    · refine .inr ⟨s, a, b, c, fun t ht hok => ?_⟩
      have := h2 t ht hok
      rw [c] at this
      exact this
theorem p72a_r1_eq {k : Nat} {P : Int} {R : List (List Int)} {W : List WT} {z : List Int} {to fr : Int} {ok : Nat → Prop} {f : Nat → Int} {j : Int → Int → Bool → Option (Int × Int × Bool)} : ∀ {L : List Nat} {x y : Int} {b : Bool},
    (∀ s ∈ L, ∃ b : Bool, (b = true ↔ ok s) ∧ p74 k (s : Int) P R W z to fr = some (f s, b)) → p72a_r1 k j P R W z to fr (natL L) x y b = j (least ok f L (x, y, b)).1 (least ok f L (x, y, b)).2.1 (least ok f L (x, y, b)).2.2
  | [], x, y, b, _ => rfl
  | s :: L, x, y, b, h => by
    obtain ⟨b0, hb0, h0⟩ := h s List.mem_cons_self
    have ih := fun x y b => p72a_r1_eq (k := k) (P := P) (R := R) (W := W) (z := z) (to := to) (fr := fr) (ok := ok) (f := f) (j := j) (L := L) (x := x) (y := y) (b := b) (fun t ht => h t (List.mem_cons_of_mem _ ht))
    show p72a_r1 k j P R W z to fr ((s : Int) :: natL L) x y b = _
    rw [p72a_r1, h0, cl2_v]
    simp only [jn_v, lt_v, ih]
    rw [least]
    by_cases hok : ok s
    · rw [hb0.2 hok, sp_tt]
      cases b with
      | false => rw [sp_ff, sp_tt, iT ⟨hok, .inl rfl⟩]
      | true =>
        rw [sp_tt, sp_d]
        by_cases g : f s < y
        · rw [iT g, iT ⟨hok, .inr g⟩]
        · rw [iF g, iF]
          rintro ⟨_, e | e⟩
          · cases e
          · exact g e
    · have : b0 = false := by cases b0 with
        | false => rfl
        | true => exact absurd (hb0.1 rfl) hok
      rw [this, sp_ff, sp_ff, iF (fun h => hok h.1)]
theorem p68_eq {k : Nat} (hk : Fu k) {P : Int} {R : List (List Int)} {W : List WT} {z : List Int} (hr : ∀ r ∈ R, r.length = 12) (hz : z.length = 6) :
    p68 k P R W z = if MapOk P R W then some (P, R, W, z, szE z) else some (0, [], [], [0, 0, 0, 0, 0, 0], chkE P R W) := by
  unfold p68
  rw [p38_eq hk hr, cl_v, lt_v, chkE_ne, p39_eq hk hz, cl_v, sp_d]
  by_cases h : MapOk P R W
  · rw [iF (not_not_intro h), iT h]
  · rw [iT h, iF h]
def On (R : List (List Int)) (L : List Int) (at' : Nat) (i : Nat) : Prop := rF (rd R i) = (at' : Int) ∧ L.getD at' 0 = rC (rd R i) + L.getD (rT (rd R i)).toNat 0
theorem p81_eq {k : Nat} {r L : List Int} {a : Nat} (ha : a < L.length) (ht : 0 ≤ rT r ∧ rT r < (L.length : Int)) (hc : 0 ≤ rC r ∧ rC r ≤ 1073741824) (hL : ∀ i, i < L.length → 0 ≤ L.getD i 0 ∧ L.getD i 0 ≤ far) :
    p81 k r (a : Int) L = some (decide (rF r = (a : Int) ∧ L.getD a 0 = rC r + L.getD (rT r).toNat 0)) := by
  unfold p81
  have h1 := hL (rT r).toNat (by omega)
  have hf : far = 1125899906842624 := rfl
  simp only [jn_v, lt_v, beq_d, sp_d, show r.getD 0 0 = rF r from rfl, show r.getD 1 0 = rT r from rfl, show r.getD 2 0 = rC r from rfl]
  rw [gd_v (by omega), gd_v (by omega), wr64 (by omega) (by omega), Int.toNat_natCast]
  by_cases h : rF r = (a : Int)
  · rw [iT h]; congr 1; exact dI ⟨fun g => ⟨h, g⟩, fun g => g.2⟩
  · rw [iF h, dF (fun g => h g.1)]
theorem p82_eq {k : Nat} {r L : List Int} {a : Nat} (ha : a < L.length) (ht : 0 ≤ rT r ∧ rT r < (L.length : Int)) (hc : 0 ≤ rC r ∧ rC r ≤ 1073741824) (hL : ∀ i, i < L.length → 0 ≤ L.getD i 0 ∧ L.getD i 0 ≤ far) :
    p82 k r (a : Int) L = some (decide (rF r = (a : Int) ∧ L.getD a 0 = rC r + L.getD (rT r).toNat 0)) := p81_eq (k := k) ha ht hc hL
structure LOk (P : Int) (R : List (List Int)) (L : List Int) : Prop where
  len : L.length = P.toNat
  rng : ∀ i, i < L.length → 0 ≤ L.getD i 0 ∧ L.getD i 0 ≤ far
  t : ∀ i, i < R.length → 0 ≤ rT (rd R i) ∧ rT (rd R i) < (L.length : Int)
  c : ∀ i, i < R.length → 0 ≤ rC (rd R i) ∧ rC (rd R i) ≤ 1073741824
  r256 : R.length ≤ 256
theorem LOk.of {P R W L} (h : MapOk P R W) {c st bw} (hd : DInv (EG P R c st bw) L) : LOk P R L := by
  have hl : L.length = P.toNat := hd.len
  have hp := h.places
  refine ⟨hl, fun i hi => hd.rng i (by show i < P.toNat; omega), fun i hi => ?_, fun i hi => ?_, h.r256⟩
  · have := (h.road i hi).ar; unfold RoadA at this; omega
  · have := (h.road i hi).ar; unfold RoadA at this; omega
theorem p80a_eq {k : Nat} (hk : Fu k) {P : Int} {R : List (List Int)} {L : List Int} (h : LOk P R L) {a : Nat} (ha : a < L.length) : p80a k R (a : Int) L = some (fst (On R L a) R.length 0) := by
  have := h.r256
  unfold Fu at hk
  unfold p80a
  simp only [jn_v]
  refine srchI0 (F := p80a_l1 k R (a : Int) L (some (-1))) (len := R.length) (n := k) (On R L a) (by omega) ?_ ?_
  · intro n; rw [p80a_l1]; simp only [lt_v, sp_d]; rw [iF (by omega)]
  · intro n i hi
    rw [p80a_l1]
    simp only [lt_v, sp_d]
    have hd : R.getD i [] = rd R i := rfl
    rw [iT (by omega), gd_v (by omega), Int.toNat_natCast, hd, p81_eq ha (h.t i hi) (h.c i hi) h.rng, cl_v, wr_succ hi (by omega), sp_d]
    by_cases g : On R L a i
    · exact .inl ⟨g, iT g⟩
    · exact .inr ⟨g, iF g⟩
theorem p80b_eq {k : Nat} (hk : Fu k) {P : Int} {R : List (List Int)} {L : List Int} (h : LOk P R L) {a q : Nat} (ha : a < L.length) (hq : q ≤ R.length) :
    p80b k (part R q R.length) (a : Int) L = some (fst (fun i => On R L a (q + i)) (R.length - q) 0) := by
  have := h.r256
  unfold Fu at hk
  have hl : (part R q R.length).length = R.length - q := by unfold part; simp
  have hg : ∀ i, i < R.length - q → (part R q R.length).getD i [] = rd R (q + i) := by
    intro i hi
    unfold part rd
    rw [List.getD_eq_getElem?_getD, List.getElem?_take, if_pos hi, List.getElem?_drop, List.getD_eq_getElem?_getD]
  unfold p80b
  simp only [jn_v]
  refine srchI0 (F := p80b_l1 k (part R q R.length) (a : Int) L (some (-1))) (len := R.length - q) (n := k) (fun i => On R L a (q + i)) (by omega) ?_ ?_
  · intro n; rw [p80b_l1]; simp only [lt_v, sp_d, hl]; rw [iF (by omega)]
  · intro n i hi
    rw [p80b_l1]
    simp only [lt_v, sp_d, hl]
    rw [iT (by omega), gd_v (by omega), Int.toNat_natCast, hg i hi, p82_eq ha (h.t _ (by omega)) (h.c _ (by omega)) h.rng, cl_v, wr_succ hi (by omega), sp_d]
    by_cases g : On R L a (q + i)
    · exact .inl ⟨g, iT g⟩
    · exact .inr ⟨g, iF g⟩
inductive Rt (R : List (List Int)) (U : Nat → Prop) (L : List Int) (to : Nat) : Nat → List Int → Int → Prop
  | nil : Rt R U L to to [] 0
  | cons {a i : Nat} {rs : List Int} {m : Int} : a ≠ to → i < R.length → On R L a i → U i → (∀ j, j < i → On R L a j → ¬ U j) → Rt R U L to (rT (rd R i)).toNat rs m → Rt R U L to a ((i : Int) :: rs) (rM (rd R i) + m)
theorem Rt.unique {R U L to} : ∀ {rs a m rs' m'}, Rt R U L to a rs m → Rt R U L to a rs' m' → rs = rs' ∧ m = m' := by
  intro rs a m rs' m' h
  induction h generalizing rs' m' with
  | nil =>
    intro h'
    cases h' with
    | nil => exact ⟨rfl, rfl⟩
    | cons h1 => exact absurd rfl h1
  | @cons a i rs m h1 h2 h3 h4 h5 h6 ih =>
    intro h'
    cases h' with
    | nil => exact absurd rfl h1
    | @cons _ i' rs2 m2 g1 g2 g3 g4 g5 g6 =>
      have : i = i' := by
        rcases Nat.lt_trichotomy i i' with g | g | g
        · exact absurd h4 (g5 i g h3)
        · exact g
        · exact absurd g4 (h5 i' g g3)
      subst this
      obtain ⟨e1, e2⟩ := ih g6
      exact ⟨by rw [e1], by rw [e2]⟩
theorem p28_l2_eq {k m n : Nat} (hk : Fu k) {P : Int} {R : List (List Int)} {W : List WT} {z L : List Int} (h : MapOk P R W) (hL : LOk P R L) (hn : n ≤ 63) (hm : m < 2 ^ n) (hnW : n ≤ W.length) {a : Nat} (ha : a < L.length)
    {j : Int → Option (List Int × List Int × Int × Int × Int)} {t : Nat} (ht : t < R.length) (ht1 : On R L a t) (ht2 : us R W z (bitsL m n) t) (ht3 : ∀ i, i < t → On R L a i → ¬ us R W z (bitsL m n) i) :
    ∀ (d q f : Nat), q + d = t → d < f → On R L a q → p28_l2 k R (a : Int) j P R W z (m : Int) L f (q : Int) = j (t : Int)
  | d, q, f + 1, h1, h2, h3 => by
    have h256 := hL.r256
    rw [p28_l2, p55_eq hk h.wOk hn hm hnW (by omega), cl_v, sp_d]
    rcases Nat.eq_zero_or_pos d with e | e
    · subst e
      obtain rfl : q = t := by omega
      rw [iT ht2]
    · rw [iF (ht3 q (by omega) h3)]
      simp only [lt_v]
      rw [wr_succ (n := R.length) (by omega) (by omega), gd_v (by omega), Int.toNat_natCast, p80b_eq hk hL ha (by omega), cl_v]
      rcases fst_spec (fun i => On R L a (q + 1 + i)) (R.length - (q + 1)) 0 with ⟨_, g⟩ | ⟨q', g1, _, g2, g3, g4⟩
      · exact absurd (show On R L a (q + 1 + (t - (q + 1))) by rw [show q + 1 + (t - (q + 1)) = t from by omega]; exact ht1) (g (t - (q + 1)) (Nat.zero_le _) (by omega))
      · have hqt : q + 1 + q' ≤ t := by
          rcases Nat.lt_or_ge t (q + 1 + q') with g | g
          · exact absurd (show On R L a (q + 1 + (t - (q + 1))) by rw [show q + 1 + (t - (q + 1)) = t from by omega]; exact ht1) (g4 (t - (q + 1)) (Nat.zero_le _) (by omega))
          · exact g
        rw [g1, wr64 (z := 1 + (q' : Int)) (by omega) (by omega), wr64 (by omega) (by omega), show (q : Int) + (1 + (q' : Int)) = ((q + 1 + q' : Nat) : Int) from by omega]
        exact p28_l2_eq hk h hL hn hm hnW ha ht ht1 ht2 ht3 (t - (q + 1 + q')) (q + 1 + q') f (by omega) (by omega) g3
theorem min_ex {p : Nat → Prop} : ∀ {n : Nat}, p n → ∃ m, m ≤ n ∧ p m ∧ ∀ j, j < m → ¬ p j
  | 0, h => ⟨0, Nat.le_refl _, h, by intros; omega⟩
  | n + 1, h => by
    by_cases hx : ∃ m, m ≤ n ∧ p m
    · obtain ⟨m, a, b⟩ := hx
      obtain ⟨m', c, d, e⟩ := min_lt (n := n) ⟨m, a, b⟩
      exact ⟨m', by omega, d, e⟩
    · exact ⟨n + 1, Nat.le_refl _, h, fun j hj hp => hx ⟨j, by omega, hp⟩⟩
where
  min_lt {p : Nat → Prop} : ∀ {n : Nat}, (∃ m, m ≤ n ∧ p m) → ∃ m, m ≤ n ∧ p m ∧ ∀ j, j < m → ¬ p j
    | 0, ⟨m, a, b⟩ => ⟨m, a, b, by intros; omega⟩
    | n + 1, ⟨m, a, b⟩ => by
      by_cases hx : ∃ m, m ≤ n ∧ p m
      · obtain ⟨m', c, d, e⟩ := min_lt hx
        exact ⟨m', by omega, d, e⟩
      · exact ⟨m, a, b, fun j hj hp => hx ⟨j, by omega, hp⟩⟩
theorem p28_l1_eq {k m n : Nat} (hk : Fu k) {P : Int} {R : List (List Int)} {W : List WT} {z L : List Int} (h : MapOk P R W) (hn : n ≤ 63) (hm : m < 2 ^ n) (hnW : n ≤ W.length) {to : Nat} (hto : to < P.toNat)
    (hD : Dist (EG P R (cst R (us R W z (bitsL m n))) to true) L) {j : Int → List Int → Option (List Int × List Int × Int × Int × Int)} : ∀ (d f : Nat) (a : Nat) (mi : Int) (A : List Int), a < P.toNat → L.getD a 0 < far → (L.getD a 0).toNat ≤ d → d < f →
    A.length + d ≤ 8796093022208 → 0 ≤ mi → mi ≤ 1440 * (A.length : Int) →
    ∃ rs m', Rt R (us R W z (bitsL m n)) L to a rs m' ∧ p28_l1 k R (to : Int) j P R W z (m : Int) L f (a : Int) mi A = j (mi + m') (A ++ rs)
  | d, f + 1, a, mi, A, ha, hf, hd, hdf, hA, hm0, hm1 => by
    have he := EG_ok h (cst_ok h (U := us R W z (bitsL m n))) hto (bw := true)
    have hl : LOk P R L := LOk.of h hD.toDInv
    have hp := h.places
    have h256 := h.r256
    have hfar : far = 1125899906842624 := rfl
    rw [p28_l1]
    simp only [lt_v, bne_d, sp_d]
    by_cases e : a = to
    · subst e
      refine ⟨[], 0, .nil, ?_⟩
      rw [iF (by omega), Int.add_zero, List.append_nil]
    · rw [iT (by omega)]
      obtain ⟨i0, o1, o2, o3, o4⟩ := hD.prev he (v := a) ha e hf
      obtain ⟨hu, ec⟩ := cst_nn o2
      have o3' : (rF (rd R i0)).toNat = a := o3
      have o4' : L.getD a 0 = cst R (us R W z (bitsL m n)) i0 + L.getD (rT (rd R i0)).toNat 0 := o4
      have hr0 := (h.road i0 o1).ar
      unfold RoadA at hr0
      have hon : On R L a i0 := ⟨by omega, by rw [o4', ec]⟩
      obtain ⟨t, t1, ⟨t2, t3⟩, t4⟩ := min_ex (p := fun i => On R L a i ∧ us R W z (bitsL m n) i) (n := i0) ⟨hon, hu⟩
      have o1' : i0 < R.length := o1
      have hr := (h.road t (by omega)).ar
      unfold RoadA at hr
      have hal : a < L.length := by rw [hl.len]; exact ha
      rw [p80a_eq hk hl hal, cl_v]
      simp only [jn_v]
      rcases fst_spec (On R L a) R.length 0 with ⟨_, g⟩ | ⟨q, g1, _, g2, g3, g4⟩
      · exact absurd t2 (g t (Nat.zero_le _) (by omega))
      · have hqt : q ≤ t := by
          rcases Nat.lt_or_ge t q with g | g
          · exact absurd t2 (g4 t (Nat.zero_le _) g)
          · exact g
        have ht2 := t2.2
        have hrt := hl.rng (rT (rd R t)).toNat (by have := hl.len; omega)
        rw [g1, p28_l2_eq hk h hl hn hm hnW hal (t := t) (by omega) t2 t3 (fun i hi a b => t4 i hi ⟨a, b⟩) (t - q) q k (by omega) (by unfold Fu at hk; omega) g3]
        have hd2 : R.getD t [] = rd R t := rfl
        simp only [Int.toNat_natCast, hd2, show (rd R t).getD 3 0 = rM (rd R t) from rfl, show (rd R t).getD 1 0 = rT (rd R t) from rfl]
        rw [gd_v (by simp only [List.length_cons, List.length_nil]; omega), gd_v (by omega), gd_v (by omega), wr64 (by omega) (by omega)]
        obtain ⟨rs, m', q1, q2⟩ := p28_l1_eq hk h hn hm hnW hto hD (j := j) (d - 1) f (rT (rd R t)).toNat (mi + rM (rd R t)) (A ++ [(t : Int)]) (by omega) (by omega) (by omega) (by omega) (by simp only [List.length_append, List.length_cons, List.length_nil]; omega) (by omega)
          (by simp only [List.length_append, List.length_cons, List.length_nil]; omega)
        refine ⟨(t : Int) :: rs, rM (rd R t) + m', .cons e (by omega) t2 t3 (fun i hi a b => t4 i hi ⟨a, b⟩) q1, ?_⟩
        rw [show ((rT (rd R t)).toNat : Int) = rT (rd R t) from by omega] at q2
        rw [q2]
        rw [List.append_assoc, Int.add_assoc]
        rfl
theorem p78_eq {k : Nat} {L : List Int} (hL : L.length ≤ 1000000) : p78 k L = some L := by
  have key : ∀ (L A : List Int), A.length + L.length ≤ 1000000 → p123_r1 k (fun L4 => some L4) L A = some (A ++ L) := by
    intro L
    induction L with
    | nil => intro A _; rw [p123_r1, List.append_nil]
    | cons x L ih =>
      intro A hA
      rw [p123_r1]
      simp only [List.length_cons] at hA
      rw [gd_v (by simp only [List.length_cons, List.length_nil]; omega)]
      simp only [lt_v]
      rw [ih _ (by simp only [List.length_append, List.length_cons, List.length_nil]; omega), List.append_assoc]
      rfl
  unfold p78 p123
  simp only [jn_v]
  rw [key L [] (by simpa using hL), cl_v]
  rfl
noncomputable def dst (P : Int) (R : List (List Int)) (U : Nat → Prop) (fr to : Nat) : Int := if h : ∃ L, Dist (EG P R (cst R U) to true) L then (Classical.choose h).getD fr 0 else 0
theorem dst_eq {P R W} (h : MapOk P R W) {U : Nat → Prop} {fr to : Nat} (hto : to < P.toNat) {L : List Int} (hD : Dist (EG P R (cst R U) to true) L) : dst P R U fr to = L.getD fr 0 := by
  have hx : ∃ L, Dist (EG P R (cst R U) to true) L := ⟨L, hD⟩
  unfold dst
  rw [dif_pos hx, (Classical.choose_spec hx).unique (EG_ok h (cst_ok h) hto) hD]
structure Cheap (P : Int) (R : List (List Int)) (W : List WT) (z : List Int) (fr to s : Nat) (rs ws : List Int) (c mi : Int) : Prop where
  ms : s < 2 ^ W.length
  fin : dst P R (us R W z (bitsL s W.length)) fr to < far
  wse : ws = bitsL s W.length
  co : c = dst P R (us R W z (bitsL s W.length)) fr to + costL W ws
  best : (s : Int) = (least (fun s => dst P R (us R W z (bitsL s W.length)) fr to < far) (fun s => dst P R (us R W z (bitsL s W.length)) fr to + costL W (bitsL s W.length)) (setsL W.length) (0, 0, false)).1
  le : ∀ t, t < 2 ^ W.length → dst P R (us R W z (bitsL t W.length)) fr to < far → c ≤ dst P R (us R W z (bitsL t W.length)) fr to + costL W (bitsL t W.length)
  rt : ∃ L, Dist (EG P R (cst R (us R W z ws)) to true) L ∧ Rt R (us R W z ws) L to fr rs mi
theorem p74_eq {k s : Nat} (hk : Fu k) {P : Int} {R : List (List Int)} {W : List WT} {z : List Int} (h : MapOk P R W) {fr to : Nat} (hfr : fr < P.toNat) (hto : to < P.toNat) (hs : s < 2 ^ W.length) :
    p74 k (s : Int) P R W z (to : Int) (fr : Int) = some (dst P R (us R W z (bitsL s W.length)) fr to + costL W (bitsL s W.length), decide (dst P R (us R W z (bitsL s W.length)) fr to < far)) := by
  have hw10 := h.w10
  have hp := h.places
  obtain ⟨L, hD, e⟩ := p75a_eq hk (z := z) (z' := z) h (n := W.length) (by omega) hs (Nat.le_refl _) hto (bw := true)
  unfold p74
  rw [show p76 k P R W z (s : Int) = some () from rfl, cl_v, e, cl_v]
  have hl : L.length = P.toNat := hD.len
  have hr := hD.rng fr hfr
  have hcl := costL_le h.wcOk (S := bitsL s W.length) (by intro x hx; obtain ⟨j, a, _, rfl⟩ := mem_bitsL.1 hx; omega)
  have hbl := bitsL_len (m := s) (n := W.length)
  have hfar : far = 1125899906842624 := rfl
  rw [gd_v (by omega), p77_eq hk h.wcOk (by omega) hs (Nat.le_refl _)]
  simp only [lt_v, cl_v, Int.toNat_natCast]
  rw [dst_eq h hto hD, wr64 (by omega) (by omega)]
  rfl
theorem p28_eq {k : Nat} (hk : Fu k) {P : Int} {R : List (List Int)} {W : List WT} {z : List Int} (h : MapOk P R W) (hz : SzOk z) (hz6 : z.length = 6) (hr : ∀ r ∈ R, r.length = 12) {fr to : Nat} (hfr : fr < P.toNat) (hto : to < P.toNat) :
    ((∀ s, s < 2 ^ W.length → ¬ dst P R (us R W z (bitsL s W.length)) fr to < far) ∧ p28 k P R W z (fr : Int) (to : Int) = some ([], [], 0, 0, 15)) ∨
    (∃ s rs ws c mi, Cheap P R W z fr to s rs ws c mi ∧ p28 k P R W z (fr : Int) (to : Int) = some (rs, ws, c, mi, 0)) := by
  have hw10 := h.w10
  have hp := h.places
  unfold p28
  rw [p68_eq hk hr hz6, if_pos h, cl5_v, gd_v hz6, szE_zero.2 hz]
  simp only [lt_v, bne_d, sp_d]
  rw [iF (by simp), p67_eq hk (by simp), iT (by
    intro x hx
    simp only [List.mem_cons, List.mem_nil_iff, or_false] at hx
    rcases hx with e | e <;> omega), cl_v, iF (by simp), p73_eq hk (by omega), cl_v]
  have h72 : p72a k (natL (setsL W.length)) P R W z (to : Int) (fr : Int) = some (least (fun s => dst P R (us R W z (bitsL s W.length)) fr to < far) (fun s => dst P R (us R W z (bitsL s W.length)) fr to + costL W (bitsL s W.length)) (setsL W.length) (0, 0, false)) := by
    unfold p72a
    simp only [jn_v]
    rw [p72a_r1_eq (ok := fun s => dst P R (us R W z (bitsL s W.length)) fr to < far) (fun s hs => ⟨_, decide_eq_true_iff, p74_eq hk h hfr hto (mem_setsL.1 hs)⟩)]
  rw [h72]
  have hl := least_from (ok := fun s => dst P R (us R W z (bitsL s W.length)) fr to < far) (f := fun s => dst P R (us R W z (bitsL s W.length)) fr to + costL W (bitsL s W.length)) (L := setsL W.length) (x := 0) (y := 0)
  rcases hl with ⟨h1, h2⟩ | ⟨s, h1, h2, h3, h4⟩
  · refine .inl ⟨fun s hs => h1 s (mem_setsL.2 hs), ?_⟩
    rw [h2, cl3_v, sp_ff]
  · refine .inr ?_
    have hs := mem_setsL.1 h1
    obtain ⟨L, hD, e⟩ := p75a_eq hk (z := z) (z' := z) h (n := W.length) (by omega) hs (Nat.le_refl _) hto (bw := true)
    have hdf : L.getD fr 0 < far := by rw [← dst_eq h hto hD]; exact h2
    have hbl := bitsL_len (m := s) (n := W.length)
    have hrg := hD.rng fr hfr
    have hfar : far = 1125899906842624 := rfl
    have hfin := hD.fin (EG_ok h (cst_ok h) hto) (v := fr) hfr hdf
    obtain ⟨rs, m', q1, q2⟩ := p28_l1_eq hk h (n := W.length) (by omega) hs (Nat.le_refl _) hto hD (j := fun x73 L74 => some (L74, bitsL s W.length, dst P R (us R W z (bitsL s W.length)) fr to + costL W (bitsL s W.length), x73, 0)) (L.getD fr 0).toNat k fr 0 [] hfr hdf (Nat.le_refl _)
      (by unfold Fu at hk; omega) (by simp only [List.length_nil]; omega) (by omega) (by simp)
    refine ⟨s, rs, bitsL s W.length, _, m', ⟨hs, h2, rfl, rfl, by rw [h3], fun t ht hok => h4 t (mem_setsL.2 ht) hok, L, hD, q1⟩, ?_⟩
    rw [h3, cl3_v, sp_tt, p79_eq hk (by omega) hs, cl_v, p78_eq (by omega), cl_v, show p76 k P R W z (s : Int) = some () from rfl, cl_v, e, cl_v]
    simp only [jn_v]
    rw [q2]
    simp
end Go.Proofs.Ythniebmammmacaa
namespace Go.Proofs.Ythniebmammmacaa
open Go.RowKit Classical
def K0 : Nat := 1152921504606846976
theorem fuK0 : Fu K0 := Nat.le_refl _
theorem p14_eq : p14 K0 = some true := by kernel_rfl
structure Valid (P : Int) (R : List (List Int)) (W : List WT) (z : List Int) (fr to : Int) : Prop where
  map : MapOk P R W
  pl12 : P ≤ 12
  r30 : R.length ≤ 30
  w5 : W.length ≤ 5
  sz : SzOk z
  fr0 : 0 ≤ fr ∧ fr < P
  to0 : 0 ≤ to ∧ to < P
theorem p13_some {k : Nat} (hk : Fu k) {P : Int} {R : List (List Int)} {W : List WT} : ∃ b, p13 k P R W = some b ∧ (b = false → R.length ≤ 300 ∧ W.length ≤ 20 ∧ (∀ i, i < W.length → (wk W i).1.length ≤ 40) ∧ (MapOk P R W → P ≤ 12 ∧ R.length ≤ 30 ∧ W.length ≤ 5)) := by
  have hk' := hk
  unfold Fu at hk'
  unfold p13
  simp only [jn_v, lt_v, sp_d, sp_tt, sp_ff, p29_eq hk, cl_v, chkE_eq]
  by_cases h1 : (R.length : Int) > 300
  · exact ⟨true, by rw [iT h1], fun h => (by cases h)⟩
  rw [iF h1]
  by_cases h2 : (W.length : Int) > 20
  · exact ⟨true, by rw [iT h2], fun h => (by cases h)⟩
  rw [iF h2]
  have hs : ∀ j, ((∃ i, i < W.length ∧ 40 < (wk W i).1.length) ∧ p13_l1 k W j k 0 = some true) ∨ ((∀ i, i < W.length → ¬ 40 < (wk W i).1.length) ∧ p13_l1 k W j k 0 = j) := by
    intro j
    refine srch0 (F := p13_l1 k W j) (len := W.length) (n := k) (A := some true) (J := j) (fun i => 40 < (wk W i).1.length) (by omega) ?_ ?_
    · intro n; rw [p13_l1]; simp only [lt_v, sp_d]; rw [iF (by omega)]
    · intro n i hi
      rw [p13_l1]
      simp only [lt_v, sp_d]
      rw [iT (by omega), gd_v (by omega), Int.toNat_natCast, wr_succ hi (by omega)]
      by_cases h : 40 < (wk W i).1.length
      · exact .inl ⟨h, by unfold wk at h; rw [iT (by omega)]⟩
      · exact .inr ⟨h, by unfold wk at h; rw [iF (by omega)]⟩
  rcases hs _ with ⟨_, e⟩ | ⟨h, e⟩
  · exact ⟨true, by rw [e], fun h => (by cases h)⟩
  rw [e]
  by_cases hm : MapOk P R W
  · rw [iT hm]
    by_cases h3 : P > 12
    · exact ⟨true, by rw [iT h3], fun h => (by cases h)⟩
    rw [iF h3]
    by_cases h4 : (R.length : Int) > 30
    · exact ⟨true, by rw [iT h4], fun h => (by cases h)⟩
    rw [iF h4]
    by_cases h5 : (W.length : Int) > 5
    · exact ⟨true, by rw [dT h5], fun h => (by cases h)⟩
    · exact ⟨false, by rw [dF h5], fun _ => ⟨by omega, by omega, fun i hi => by have := h i hi; omega, fun _ => by omega⟩⟩
  · rw [iF hm]
    exact ⟨false, rfl, fun _ => ⟨by omega, by omega, fun i hi => by have := h i hi; omega, fun h => absurd h hm⟩⟩
theorem p23_some {k : Nat} (hk : Fu k) {P : Int} {R : List (List Int)} {W : List WT} {z : List Int} {fr to : Int} : ∃ b, p23 k P R W z fr to = some b ∧ (b = true → Valid P R W z fr to) := by
  unfold p23
  obtain ⟨g, e, hg⟩ := p13_some hk (P := P) (R := R) (W := W)
  simp only [jn_v, lt_v, sp_d, e, cl_v, p29_eq hk, chkE_eq, p40_eq hk, szE_eq]
  cases g with
  | true => exact ⟨false, rfl, fun h => (by cases h)⟩
  | false =>
    rw [sp_ff]
    by_cases hm : MapOk P R W
    · rw [iT hm]
      obtain ⟨g1, g2, g3⟩ := (hg rfl).2.2.2 hm
      by_cases hs : SzOk z
      · rw [iT hs]
        by_cases h1 : fr ≥ 0
        · rw [iT h1]
          by_cases h2 : fr < P
          · rw [iT h2]
            by_cases h3 : to ≥ 0
            · rw [iT h3]
              exact ⟨_, rfl, fun h => ⟨hm, g1, g2, g3, hs, ⟨h1, h2⟩, ⟨h3, of_decide_eq_true h⟩⟩⟩
            · rw [iF h3]; exact ⟨false, rfl, fun h => (by cases h)⟩
          · rw [iF h2]; exact ⟨false, rfl, fun h => (by cases h)⟩
        · rw [iF h1]; exact ⟨false, rfl, fun h => (by cases h)⟩
      · rw [iF hs]; exact ⟨false, rfl, fun h => (by cases h)⟩
    · rw [iF hm]; exact ⟨false, rfl, fun h => (by cases h)⟩
theorem p36_l1_eq {k : Nat} {L : List Int} {j : List Int → Option (List Int × Int)} (hl : L.length ≤ 1000000) : ∀ (d i n : Nat) (A : List Int), i + d = L.length → d < n → A.length ≤ i →
    p36_l1 k j L n (i : Int) A = j (A ++ ((List.range' i d).filter fun v => decide (L.getD v 0 < far)).map Int.ofNat)
  | 0, i, n, A, h1, h2, h3 => by
    obtain ⟨n, rfl⟩ : ∃ n', n = n' + 1 := ⟨n - 1, by omega⟩
    rw [p36_l1]; simp only [lt_v, sp_d]; rw [iF (by omega)]
    simp
  | d + 1, i, n, A, h1, h2, h3 => by
    obtain ⟨n, rfl⟩ : ∃ n', n = n' + 1 := ⟨n - 1, by omega⟩
    rw [p36_l1]
    simp only [lt_v, sp_d, jn_v]
    rw [iT (by omega), gd_v (by omega), gd_v (by simp only [List.length_cons, List.length_nil]; omega), wr_succ (n := L.length) (by omega) (by omega), Int.toNat_natCast, List.range'_succ, List.filter_cons]
    by_cases h : L.getD i 0 < 1125899906842624
    · rw [iT h, if_pos (by exact decide_eq_true h), p36_l1_eq hl d (i + 1) n _ (by omega) (by omega) (by simp only [List.length_append, List.length_cons, List.length_nil]; omega), List.append_assoc]
      rfl
    · rw [iF h, if_neg (by have : ¬ L.getD i 0 < far := h; simp only [decide_eq_true_eq]; exact this), p36_l1_eq hl d (i + 1) n _ (by omega) (by omega) (by omega)]
def reachL (L : List Int) : List Int := ((List.range' 0 L.length).filter fun v => decide (L.getD v 0 < far)).map Int.ofNat
theorem mem_reachL {L : List Int} {x : Int} : x ∈ reachL L ↔ ∃ v : Nat, v < L.length ∧ L.getD v 0 < far ∧ x = (v : Int) := by
  unfold reachL
  rw [List.mem_map]
  constructor
  · rintro ⟨v, h1, rfl⟩
    rw [List.mem_filter, List.mem_range'] at h1
    obtain ⟨⟨i, h2, h3⟩, h4⟩ := h1
    exact ⟨v, by omega, of_decide_eq_true h4, rfl⟩
  · rintro ⟨v, h1, h2, rfl⟩
    refine ⟨v, ?_, rfl⟩
    rw [List.mem_filter, List.mem_range']
    exact ⟨⟨v, h1, by omega⟩, decide_eq_true h2⟩
theorem reach_set {L : List Int} {n : Nat} : ∀ (d i : Nat) (a : Int), i + d ≤ n → a < (i : Int) → setB n a (((List.range' i d).filter fun v => decide (L.getD v 0 < far)).map Int.ofNat)
  | 0, i, a, _, _ => trivial
  | d + 1, i, a, h1, h2 => by
    rw [List.range'_succ, List.filter_cons]
    split
    · rw [List.map_cons]
      exact ⟨h2, by show (i : Int) < n; omega, reach_set d (i + 1) _ (by omega) (by show (i : Int) < _; omega)⟩
    · exact reach_set d (i + 1) a (by omega) (by omega)
theorem p36_eq {k : Nat} (hk : Fu k) {P : Int} {R : List (List Int)} {W : List WT} {z S : List Int} (h : MapOk P R W) (hz : SzOk z) (hz6 : z.length = 6) (hr : ∀ r ∈ R, r.length = 12) {fr : Nat} (hfr : fr < P.toNat) (hS : S.length ≤ 1000000) (hs : setB W.length (-1) S) :
    ∃ L, Dist (EG P R (cst R (us R W z S)) fr false) L ∧ p36 k P R W z S (fr : Int) = some (reachL L, 0) := by
  have hw10 := h.w10
  have hp := h.places
  have hsr : ∀ x ∈ S, 0 ≤ x ∧ x < (W.length : Int) := fun x hx => by have := setB_mem hs x hx; omega
  obtain ⟨m, m1, m2, m3⟩ := p53_eq hk (n := W.length) (by omega) hsr (by omega)
  obtain ⟨L, hD, e⟩ := p75a_eq hk (z := z) (z' := z) h (n := W.length) (by omega) m1 (Nat.le_refl _) hfr (bw := false)
  have hU : us R W z (bitsL m W.length) = us R W z S := by funext i; exact propext (us_congr m2)
  rw [hU] at hD
  refine ⟨L, hD, ?_⟩
  have hl : L.length = P.toNat := hD.len
  unfold p36
  rw [p68_eq hk hr hz6, if_pos h, cl5_v, gd_v hz6, szE_zero.2 hz]
  simp only [lt_v, bne_d, sp_d]
  rw [iF (by simp), p69_eq hk (by omega), dT hs, cl_v, sp_tt, p67_eq hk (by simp), iT (by
    intro x hx
    rw [List.mem_singleton] at hx
    omega), cl_v, iF (by simp), m3, cl_v, show p76 k P R W z (m : Int) = some () from rfl, cl_v, e, cl_v]
  simp only [jn_v]
  have := p36_l1_eq (k := k) (L := L) (j := fun L43 => some (L43, (0 : Int))) (by omega) L.length 0 k [] (by omega) (by unfold Fu at hk; omega) (by simp)
  rw [show ((0 : Nat) : Int) = 0 from rfl, List.nil_append] at this
  exact this
theorem getDB {L : List Bool} {i j : Nat} {v : Bool} (hi : i < L.length) : (L.set i v).getD j false = if i = j then v else L.getD j false := by
  rw [List.getD_eq_getElem?_getD, List.getElem?_set, List.getD_eq_getElem?_getD]
  by_cases h : i = j
  · subst h; simp [hi]
  · simp [h]
theorem p35_l1_eq {k n : Nat} {S : List Int} {P : Nat} {L0 : List Bool} {j : List Bool → Option Int} (hn : S.length < n) (hl : S.length ≤ 9223372036854775807) (hS : ∀ x ∈ S, 0 ≤ x ∧ x < (P : Int)) (h0 : L0.length = P) (hf : ∀ v : Nat, v < P → L0.getD v false = false) :
    ∃ L : List Bool, (L.length = P ∧ ∀ v : Nat, v < P → (L.getD v false = true ↔ (v : Int) ∈ S)) ∧ p35_l1 k S j n 0 L0 = j L := by
  have hx := loop0 (F := fun n x s => p35_l1 k S j n x s) (len := S.length) (n := n) (J := j) (fun i L => L.length = P ∧ ∀ v : Nat, v < P → (L.getD v false = true ↔ ∃ q, q < i ∧ S.getD q 0 = (v : Int))) L0 hn ⟨h0, fun v hv => by rw [hf v hv]; exact ⟨fun h => (by cases h), fun ⟨q, a, _⟩ => (by omega)⟩⟩ ?_ ?_
  · obtain ⟨L, ⟨h1, h2⟩, h3⟩ := hx
    refine ⟨L, ⟨h1, fun v hv => (h2 v hv).trans ⟨fun ⟨q, a, b⟩ => by rw [← b]; exact getD_mem a, fun h => ?_⟩⟩, h3⟩
    obtain ⟨q, a, b⟩ := mem_getD h
    exact ⟨q, a, b⟩
  · intro n s _
    show p35_l1 k S j (n + 1) (S.length : Int) s = j s
    rw [p35_l1]; simp only [lt_v, sp_d]; rw [iF (by omega)]
  · intro n i s hi hs
    have hx := hS _ (getD_mem hi)
    have hsl : (S.getD i 0).toNat < s.length := by rw [hs.1]; omega
    refine ⟨s.set (S.getD i 0).toNat true, ⟨by rw [List.length_set]; exact hs.1, fun v hv => ?_⟩, ?_⟩
    · rw [getDB hsl]
      by_cases e : (S.getD i 0).toNat = v
      · rw [if_pos e]
        exact ⟨fun _ => ⟨i, by omega, by omega⟩, fun _ => rfl⟩
      · rw [if_neg e, hs.2 v hv]
        constructor
        · rintro ⟨q, a, b⟩; exact ⟨q, by omega, b⟩
        · rintro ⟨q, a, b⟩
          rcases Nat.eq_or_lt_of_le (Nat.le_of_lt_succ a) with g | g
          · subst g; omega
          · exact ⟨q, g, b⟩
    · show p35_l1 k S j (n + 1) (i : Int) s = p35_l1 k S j n ((i + 1 : Nat) : Int) (s.set (S.getD i 0).toNat true)
      have hsl2 := hs.1
      rw [p35_l1]; simp only [lt_v, sp_d, Int.toNat_natCast]; rw [iT (by omega), gd_v (by omega), gd_v (by omega), wr_succ hi hl]
theorem p35_eq {k : Nat} (hk : Fu k) {P : Int} {R : List (List Int)} {W : List WT} {z S : List Int} (h : MapOk P R W) (hz : SzOk z) (hz6 : z.length = 6) (hr : ∀ r ∈ R, r.length = 12) {fr to : Nat} (hfr : fr < P.toNat) (hto : to < P.toNat) (hS : S.length ≤ 1000000) :
    ∃ e, p35 k P R W z (fr : Int) (to : Int) S = some e ∧ (e = 0 ↔ setB P (-1) S ∧ (fr : Int) ∈ S ∧ (to : Int) ∉ S ∧ ∀ i, i < R.length → us R W z (allL W.length) i → rF (rd R i) ∈ S → rT (rd R i) ∈ S) := by
  have hw10 := h.w10
  have hp := h.places
  have h256 := h.r256
  have hpw : 0 < (2 : Nat) ^ W.length := Nat.two_pow_pos _
  unfold p35
  rw [p68_eq hk hr hz6, if_pos h, cl5_v, gd_v hz6, szE_zero.2 hz]
  simp only [lt_v, bne_d, sp_d]
  rw [iF (by simp), p67_eq hk (by simp), iT (by
    intro x hx
    simp only [List.mem_cons, List.mem_nil_iff, or_false] at hx
    rcases hx with e | e <;> omega), cl_v, iF (by simp), p69_eq hk (by omega), cl_v]
  by_cases hs : setB P (-1) S
  rotate_left
  · rw [dF hs, sp_ff]; exact ⟨3, rfl, fun h => (by cases h), fun h => absurd h.1 hs⟩
  rw [dT hs, sp_tt, gd_v (by omega)]
  simp only [jn_v, sp_tt]
  have hsr : ∀ x ∈ S, 0 ≤ x ∧ x < (P.toNat : Int) := fun x hx => by have := setB_mem hs x hx; omega
  obtain ⟨L, ⟨l1, l2⟩, l3⟩ := p35_l1_eq (k := k) (n := k) (S := S) (P := P.toNat) (L0 := List.replicate P.toNat false)
    (j := fun L25 => gd ((0 : Int) ≤ (fr : Int) ∧ (fr : Int) < (List.length L25 : Int)) <| sp (List.getD L25 ((fr : Int)).toNat false) (gd ((0 : Int) ≤ (to : Int) ∧ (to : Int) < (List.length L25 : Int)) <| sp (List.getD L25 ((to : Int)).toNat false) (some 16) (p35_l2 k R L25 (some 0) P R W z k 0)) (some 16))
    (by unfold Fu at hk; omega) (by omega) hsr (by simp) (by
      intro v hv
      simp [List.getD_eq_getElem?_getD, hv])
  rw [l3, gd_v (by omega), gd_v (by omega)]
  simp only [Int.toNat_natCast]
  have l2f := l2 fr hfr
  have l2t := l2 to hto
  cases hb : L.getD fr false with
  | false =>
    rw [sp_ff]
    exact ⟨16, rfl, fun h => (by cases h), fun g => by rw [l2f.2 g.2.1] at hb; cases hb⟩
  | true =>
    rw [sp_tt]
    cases hb2 : L.getD to false with
    | true =>
      rw [sp_tt]
      exact ⟨16, rfl, fun h => (by cases h), fun g => absurd (l2t.1 hb2) g.2.2.1⟩
    | false =>
      rw [sp_ff]
      have hs2 := srch0 (F := p35_l2 k R L (some 0) P R W z) (len := R.length) (n := k) (A := some 16) (J := some 0) (fun i => us R W z (allL W.length) i ∧ rF (rd R i) ∈ S ∧ rT (rd R i) ∉ S) (by unfold Fu at hk; omega) ?_ ?_
      · rcases hs2 with ⟨⟨i, a, b1, b2, b3⟩, e⟩ | ⟨g, e⟩
        · exact ⟨16, e, fun h => (by cases h), fun g => absurd (g.2.2.2 i a b1 b2) b3⟩
        · refine ⟨0, e, fun _ => ⟨hs, l2f.1 hb, fun h => (by rw [l2t.2 h] at hb2; cases hb2), fun i a b c => Classical.byContradiction fun d => g i a ⟨b, c, d⟩⟩, fun _ => rfl⟩
      · intro n; rw [p35_l2]; simp only [lt_v, sp_d]; rw [iF (by omega)]
      · intro n i hi
        have hra := (h.road i hi).ar
        unfold RoadA at hra
        have hd : R.getD i [] = rd R i := rfl
        have lF := l2 (rF (rd R i)).toNat (by omega)
        have lT := l2 (rT (rd R i)).toNat (by omega)
        rw [show ((rF (rd R i)).toNat : Int) = rF (rd R i) from by omega] at lF
        rw [show ((rT (rd R i)).toNat : Int) = rT (rd R i) from by omega] at lT
        rw [p35_l2]
        simp only [lt_v, sp_d, jn_v, sp_ff]
        rw [iT (by omega), gd_v (by omega), Int.toNat_natCast, hd, p88_eq (by omega), cl_v, p55_eq hk h.wOk (n := W.length) (by omega) (by omega) (Nat.le_refl _) hi, cl_v, wr_succ hi (by omega)]
        simp only [show (rd R i).getD 0 0 = rF (rd R i) from rfl, show (rd R i).getD 1 0 = rT (rd R i) from rfl]
        rw [gd_v (by omega), gd_v (by omega)]
        cases hc : L.getD (rF (rd R i)).toNat false with
        | false =>
          exact .inr ⟨fun g => (by rw [lF.2 g.2.1] at hc; cases hc), sp_ff _ _⟩
        | true =>
          rw [sp_tt]
          cases hc2 : L.getD (rT (rd R i)).toNat false with
          | true => exact .inr ⟨fun g => g.2.2 (lT.1 hc2), sp_tt _ _⟩
          | false =>
            rw [sp_ff, sp_d]
            by_cases hu : us R W z (allL W.length) i
            · exact .inl ⟨⟨hu, lF.1 hc, fun g => (by rw [lT.2 g] at hc2; cases hc2)⟩, iT hu⟩
            · exact .inr ⟨fun g => hu g.1, iF hu⟩
end Go.Proofs.Ythniebmammmacaa
namespace Go.Proofs.Ythniebmammmacaa
open Go.RowKit Classical
theorem dist_ex {P : Int} {R : List (List Int)} {W : List WT} {z : List Int} (h : MapOk P R W) {s : Nat} (hs : s < 2 ^ W.length) {to : Nat} (hto : to < P.toNat) {bw : Bool} : ∃ L, Dist (EG P R (cst R (us R W z (bitsL s W.length))) to bw) L := by
  have := h.w10
  obtain ⟨L, hD, _⟩ := p75a_eq fuK0 (z := z) (z' := z) h (n := W.length) (by omega) hs (Nat.le_refl _) hto (bw := bw)
  exact ⟨L, hD⟩
section
variable {P : Int} {R : List (List Int)} {W : List WT} {z : List Int} {s fr to : Nat} {a : Int}
theorem dst_le (h : MapOk P R W) (hs : s < 2 ^ W.length) (hto : to < P.toNat) (hp : Pth R (us R W z (bitsL s W.length)) fr to a) : dst P R (us R W z (bitsL s W.length)) fr to ≤ a ∧ dst P R (us R W z (bitsL s W.length)) fr to < far := by
  obtain ⟨L, hD⟩ := dist_ex (z := z) h hs hto (bw := true)
  rw [dst_eq h hto hD]
  have he := EG_ok h (cst_ok h (U := us R W z (bitsL s W.length))) hto (bw := true)
  have hw := (Wk_bw h).2 hp
  exact ⟨hD.low he hw, hD.reach he hw⟩
theorem dst_pth (h : MapOk P R W) (hs : s < 2 ^ W.length) (hfr : fr < P.toNat) (hto : to < P.toNat) (hf : dst P R (us R W z (bitsL s W.length)) fr to < far) : Pth R (us R W z (bitsL s W.length)) fr to (dst P R (us R W z (bitsL s W.length)) fr to) := by
  obtain ⟨L, hD⟩ := dist_ex (z := z) h hs hto (bw := true)
  rw [dst_eq h hto hD] at hf ⊢
  have he := EG_ok h (cst_ok h (U := us R W z (bitsL s W.length))) hto (bw := true)
  exact (Wk_bw h).1 (hD.way he _ hfr (Nat.lt_succ_self _) hf)
theorem dst_iff (h : MapOk P R W) (hs : s < 2 ^ W.length) (hfr : fr < P.toNat) (hto : to < P.toNat) : dst P R (us R W z (bitsL s W.length)) fr to < far ↔ ∃ a, Pth R (us R W z (bitsL s W.length)) fr to a :=
  ⟨fun hf => ⟨_, dst_pth h hs hfr hto hf⟩, fun ⟨a, ha⟩ => (dst_le h hs hto ha).2⟩
end
theorem bits_all {s n : Nat} {x : Int} (h : x ∈ bitsL s n) : x ∈ allL n := by
  obtain ⟨j, a, _, rfl⟩ := mem_bitsL.1 h
  exact mem_allL.2 ⟨by omega, by omega⟩
theorem all_lt (n : Nat) : 2 ^ n - 1 < 2 ^ n := by have := Nat.two_pow_pos n; omega
theorem Pth.keep {R : List (List Int)} {U : Nat → Prop} {S : Int → Prop} (hc : ∀ i, i < R.length → U i → S (rF (rd R i)) → S (rT (rd R i))) (hn : ∀ i, i < R.length → 0 ≤ rF (rd R i) ∧ 0 ≤ rT (rd R i)) {u v : Nat} {a : Int} (hp : Pth R U u v a) (hu : S (u : Int)) : S (v : Int) := by
  induction hp with
  | nil v => exact hu
  | @cons i v a hi hui _ ih =>
    have h := hn i hi
    apply ih
    rw [show (((rT (rd R i)).toNat : Nat) : Int) = rT (rd R i) from by omega]
    apply hc i hi hui
    rw [show (((rF (rd R i)).toNat : Nat) : Int) = rF (rd R i) from by omega] at hu
    exact hu
end Go.Proofs.Ythniebmammmacaa
namespace Go.Proofs.Ythniebmammmacaa
open Go.ChangeShapes Go.WideShapes Go.ChangeAt Go.RowKit
def PlainRoadCut : Prop := ∀ (u0_0 : Int) (u0_1 : List (List Int)) (u0_2 : List WT) (u1 : List Int) (u2 : Int) (u3 : Int) (u4 : List Int), Wfi .i64 u0_0 → u0_1.length ≤ maxLen → (∀ r ∈ u0_1, r.length = 12) → (∀ r ∈ u0_1, ∀ z ∈ r, Wfi .i64 z) → u0_2.length ≤ maxLen → (∀ x ∈ u0_2, okWT 3 x) → u1.length = 6 → (∀ z ∈ u1, Wfi .i64 z) → Wfi .i64 u2 → Wfi .i64 u3 → u4.length ≤ maxLen → (∀ z ∈ u4, Wfi .i64 z) → ∃ k, p7 k u0_0 u0_1 u0_2 u1 u2 u3 u4 = some true
theorem own7 : ownKnob Try.prog.godebug = none := by kernel_rfl
theorem laid7 : laidOutB Try.prog = true := by kernel_rfl
set_option maxRecDepth 100000 in
theorem lifted7 (plain : PlainRoadCut) (os : Os) (started : os.Started) (H : Type) (enc : TypeId × Value → H) :
    ReturnsInHanded {} Try.checked os 7 .any (Rows.roadCutSpec.pre6 enc Try.prog Try.f7 Rows.roadCutRow.domain false) (Rows.roadCutSpec.post enc Try.prog Try.f7 false true false false) := by
  refine returnsInHanded_of_change (C := Try.checked) own7 started (by kernel_rfl) Try.func7
    (ChangeSpec.witness6 (enc := enc) (C := Try.checked) false ⟨#[], #[.agg #[.int .i64 0, .slice none 0 0, .slice none 0 0], .agg #[.int .i64 0, .int .i64 0, .int .i64 0, .int .i64 0, .int .i64 0, .int .i64 0], .int .i64 0, .int .i64 0, .slice none 0 0], []⟩ 12 (by kernel_rfl) (by kernel_rfl) (by kernel_rfl) (by kernel_rfl)) ?_
  intro W base args ds gs before hval0 hW hcnd _
  have hval : ∀ (j : Nat) t v, Try.f7.params[j]? = some t → args[j]? = some v → Value.okWide Try.prog W .any base t v := hval0
  have hW' := hW
  obtain ⟨p, q, hA0, hV, rfl, hfz, hnd⟩ := hW
  have hA : DataW.TrodAll enc Try.prog W 0 (fun _ => true) true Try.f7.params.toList args.toList ds p := hA0
  rw [Try.params7] at hA hval
  obtain ⟨v0, vs0, d0, ds0, p0, q0, hargs, rfl, rfl, h0, r0⟩ := trodAll_cons hA
  obtain ⟨v1, vs1, d1, ds1, p1, q1, rfl, rfl, rfl, h1, r1⟩ := trodAll_cons r0
  obtain ⟨v2, vs2, d2, ds2, p2, q2, rfl, rfl, rfl, h2, r2⟩ := trodAll_cons r1
  obtain ⟨v3, vs3, d3, ds3, p3, q3, rfl, rfl, rfl, h3, r3⟩ := trodAll_cons r2
  obtain ⟨v4, vs4, d4, ds4, p4, q4, rfl, rfl, rfl, h4, r4⟩ := trodAll_cons r3
  obtain ⟨rfl, rfl, rfl⟩ := trodAll_nil r4
  obtain rfl : args = #[v0, v1, v2, v3, v4] := by cases args; simp_all
  obtain ⟨rfl, rfl⟩ := trodVars_none hV
  have k0 := h0
  have lt0 : ∀ x ∈ p0, x.block < W.heap.size := by obtain ⟨m, hm⟩ := k0; exact DataW.trod_lt m _ _ _ hm
  obtain ⟨cs0, fu0, rfl, hx0⟩ := open_agg Try.underlying25 rfl (hval 0 25 v0 rfl rfl) h0
  obtain ⟨c0a, c0b, c0c, fv0, y0a, y0b, y0c, rfl, hx0a, hx0b, hx0c⟩ := open_three Try.underlying25 rfl (by kernel_rfl) (by kernel_rfl) (by kernel_rfl) hx0
  obtain ⟨u0_0, rfl, wu0_0⟩ := open_i1 (k := .i64) (d := 8) (by kernel_rfl) hx0a
  obtain ⟨Au0_1, u0_1, cu0_1, rfl, su0_1, mu0_1, zu0_1⟩ := open_rows (k := .i64) (d := 8) (m := 12) Try.underlying22 (by kernel_rfl) rfl (by kernel_rfl) hx0b
  obtain ⟨Au0_2, u0_2, cu0_2, Hu0_2, Cu0_2, rfl, su0_2, mu0_2, zu0_2⟩ := open_works (m := 3) Try.underlying23 (by kernel_rfl) (fun h => open_workB 3 (by kernel_rfl) h) hx0c
  have k1 := h1
  have lt1 : ∀ x ∈ p1, x.block < W.heap.size := by obtain ⟨m, hm⟩ := k1; exact DataW.trod_lt m _ _ _ hm
  obtain ⟨cs1, fu1, rfl, hx1⟩ := open_agg Try.underlying26 rfl (hval 1 26 v1 rfl rfl) h1
  obtain ⟨u1, rfl, lu1, zu1⟩ := open_ints' (k := .i64) (d := 8) (n := 6) (by kernel_rfl) hx1
  obtain ⟨u2, rfl, rfl, rfl, wu2⟩ := open_int Try.underlying3 (hval 2 3 v2 rfl rfl) h2
  obtain ⟨u3, rfl, rfl, rfl, wu3⟩ := open_int Try.underlying3 (hval 3 3 v3 rfl rfl) h3
  have k4 := h4
  have lt4 : ∀ x ∈ p4, x.block < W.heap.size := by obtain ⟨m, hm⟩ := k4; exact DataW.trod_lt m _ _ _ hm
  obtain ⟨cs4, fu4, hcs4, hx4⟩ := open_slice Try.underlying27 (hval 4 27 v4 rfl rfl) h4
  obtain ⟨Au4, u4, cu4, rfl, su4, mu4, zu4⟩ := open_sint (k := .i64) (d := 8) Try.underlying27 (by kernel_rfl) (by kernel_rfl) hx4
  injection hcs4 with hcs4 _
  subst hcs4
  obtain ⟨k, hp⟩ := plain u0_0 u0_1 u0_2 u1 u2 u3 u4 wu0_0 mu0_1 su0_1.1 zu0_1 mu0_2 zu0_2 lu1 zu1 wu2 wu3 mu4 zu4
  have hc := Fn.calls (Mem.le_refl _) ((w7 k su0_1 su0_2 lu1 su4 hp).mono (R' := fun x _ => rval x = .bool true) (by rintro x M' _ rfl; rfl))
  clear hA0 hval0
  have hc2 : Calls Try.prog 7 #[.agg ([Value.int .i64 u0_0] ++ [Value.slice Au0_1 (List.length u0_1) cu0_1] ++ [Value.slice Au0_2 (List.length u0_2) cu0_2]).toArray, .agg (ints .i64 u1).toArray, .int .i64 u2, .int .i64 u3, .slice Au4 (List.length u4) cu4] W fun e w' => e = .returned (.bool true) ∧ Below W.heap.size W w' := by
    simpa [rval, SV.val, sgCells, Sg.cells, Lf.val] using hc
  refine hc2.mono fun e W' ⟨he, bel⟩ => ?_
  subst he
  exact ⟨_, rfl, _, _, _, [], _, [], hW', trodAll_mk1 (shut_bool Try.underlying4 _), (trodAll_cons_mk (Below.trod laid7 (by kernel_rfl) (of_decide_eq_true (by kernel_rfl)) k0 bel lt0) (trodAll_cons_mk (Below.trod laid7 (by kernel_rfl) (of_decide_eq_true (by kernel_rfl)) k1 bel lt1) (trodAll_cons_mk (shut_int Try.underlying3 wu2) (trodAll_cons_mk (shut_int Try.underlying3 wu3) (trodAll_cons_mk (Below.trod laid7 (by kernel_rfl) (of_decide_eq_true (by kernel_rfl)) k4 bel lt4) trodAll_mk0))))), rfl, bel.frame _, fun h => by cases h⟩
theorem roadCut_of (plain : PlainRoadCut) : Rows.RoadCutSaid :=
  OpenClaim.holds_of_wide 7 Try.f7 rfl rfl rfl rfl rfl rfl rfl ⟨rfl, rfl, rfl, rfl, rfl⟩ rfl rfl rfl rfl rfl (by kernel_rfl) Try.func7 (by kernel_rfl)
    (of_decide_eq_true (by kernel_rfl)) (by unfold Func.isWrapper; first | (rw [if_pos (by decide +kernel)]; kernel_rfl) | (rw [if_neg (by decide +kernel)]; exact ⟨rfl, rfl⟩))
    (fun os started H enc _ => lifted7 plain os started H enc)
end Go.Proofs.Ythniebmammmacaa
namespace Go.Proofs.Ythniebmammmacaa
open Go.RowKit Classical
theorem p7_l1_eq {k : Nat} {W : List WT} {j : List Int → Option Bool} (hl : W.length ≤ 1000000) : ∀ (d i n : Nat) (A : List Int), i + d = W.length → d < n → A.length ≤ i →
    p7_l1 k W j n (i : Int) A = j (A ++ (List.range' i d).map Int.ofNat)
  | 0, i, n, A, h1, h2, h3 => by
    obtain ⟨n, rfl⟩ : ∃ n', n = n' + 1 := ⟨n - 1, by omega⟩
    rw [p7_l1]; simp only [lt_v, sp_d]; rw [iF (by omega)]
    simp
  | d + 1, i, n, A, h1, h2, h3 => by
    obtain ⟨n, rfl⟩ : ∃ n', n = n' + 1 := ⟨n - 1, by omega⟩
    rw [p7_l1]
    simp only [lt_v, sp_d]
    rw [iT (by omega), gd_v (by simp only [List.length_cons, List.length_nil]; omega), wr_succ (n := W.length) (by omega) (by omega), p7_l1_eq hl d (i + 1) n _ (by omega) (by omega) (by simp only [List.length_append, List.length_cons, List.length_nil]; omega), List.append_assoc, List.range'_succ]
    rfl
theorem range_set {n : Nat} : ∀ (d i : Nat) (a : Int), i + d ≤ n → a < (i : Int) → setB n a ((List.range' i d).map Int.ofNat)
  | 0, i, a, _, _ => trivial
  | d + 1, i, a, h1, h2 => by
    rw [List.range'_succ, List.map_cons]
    exact ⟨h2, by show (i : Int) < n; omega, range_set d (i + 1) _ (by omega) (by show (i : Int) < _; omega)⟩
theorem p7_l2_eq {k : Nat} {x : Int} {L : List Int} {j : Bool → Option Bool} (hl : L.length ≤ 1000000) : ∀ (d i n : Nat) (b : Bool), i + d = L.length → d < n →
    p7_l2 k x j L n b (i : Int) = j (b || decide (x ∈ L.drop i))
  | 0, i, n, b, h1, h2 => by
    obtain ⟨n, rfl⟩ : ∃ n', n = n' + 1 := ⟨n - 1, by omega⟩
    rw [p7_l2]; simp only [lt_v, sp_d]; rw [iF (by omega), List.drop_eq_nil_of_le (by omega), dF (by simp), Bool.or_false]
  | d + 1, i, n, b, h1, h2 => by
    obtain ⟨n, rfl⟩ : ∃ n', n = n' + 1 := ⟨n - 1, by omega⟩
    have ih := fun b => p7_l2_eq (k := k) (x := x) (j := j) hl d (i + 1) n b (by omega) (by omega)
    rw [p7_l2]
    simp only [lt_v, sp_d]
    rw [iT (by omega), gd_v (by omega), wr_succ (n := L.length) (by omega) (by omega), ih, ih, Int.toNat_natCast, getD_drop (by omega : i < L.length), beq_d]
    cases b with
    | true => rw [sp_tt, Bool.true_or, Bool.true_or]
    | false =>
      rw [sp_ff, Bool.false_or]
      congr 1
      by_cases h : L.getD i 0 = x
      · rw [dT h, Bool.true_or, dT (by rw [h]; exact List.mem_cons_self)]
      · rw [dF h, Bool.false_or]
        exact dI ⟨fun g => List.mem_cons_of_mem _ g, fun g => (List.mem_cons.1 g).elim (fun e => absurd e.symm h) id⟩
theorem plain7 : PlainRoadCut := by
  intro P R W z fr to S hP hRl hr hRz hWl hWo hz6 hzz hfr hto hSl hSz
  obtain ⟨k, hk, h14⟩ : ∃ k, Fu k ∧ p14 k = some true := ⟨K0, fuK0, p14_eq⟩
  refine ⟨k, ?_⟩
  have hk' := hk
  unfold Fu at hk'
  unfold p7
  simp only [jn_v]
  rw [h14]
  obtain ⟨b, hb, hv⟩ := p23_some hk (P := P) (R := R) (W := W) (z := z) (fr := fr) (to := to)
  rw [hb, cl_v]
  cases b with
  | false => simp only [sp_ff, sp_tt, cl_v]
  | true =>
    rw [sp_tt]
    simp only [lt_v, sp_d]
    by_cases h100 : (S.length : Int) > 100
    · rw [iT h100, cl_v]
    rw [iF h100]
    obtain ⟨h, hp12, hr30, hw5, hz, hf0, ht0⟩ := hv rfl
    obtain ⟨f, rfl⟩ : ∃ f : Nat, fr = (f : Int) := ⟨fr.toNat, by omega⟩
    obtain ⟨t, rfl⟩ : ∃ t : Nat, to = (t : Int) := ⟨to.toNat, by omega⟩
    have hfP : f < P.toNat := by omega
    have htP : t < P.toNat := by omega
    have hp := h.places
    have hroad : ∀ i, i < R.length → 0 ≤ rF (rd R i) ∧ 0 ≤ rT (rd R i) := fun i hi => by
      have := (h.road i hi).ar; unfold RoadA at this; omega
    -- the places that are reached
    obtain ⟨A, eA⟩ : ∃ A, A = (List.range' 0 W.length).map Int.ofNat := ⟨_, rfl⟩
    have hAl : A.length = W.length := by rw [eA]; simp
    have hAs : setB W.length (-1) A := by rw [eA]; exact range_set W.length 0 (-1) (by omega) (by omega)
    have hAm : ∀ x, x ∈ A ↔ x ∈ allL W.length := by
      intro x
      rw [mem_allL, eA, List.mem_map]
      constructor
      · rintro ⟨v, a, rfl⟩
        rw [List.mem_range'] at a
        obtain ⟨i, h1, h2⟩ := a
        exact ⟨Int.natCast_nonneg v, by show (v : Int) < _; omega⟩
      · rintro ⟨h1, h2⟩
        refine ⟨x.toNat, ?_, by show ((x.toNat : Nat) : Int) = x; omega⟩
        rw [List.mem_range']; exact ⟨x.toNat, by omega, by omega⟩
    have h7 : ∀ j, p7_l1 k W j k 0 [] = j A := by
      intro j
      have := p7_l1_eq (k := k) (W := W) (j := j) (by omega) W.length 0 k [] (by omega) (by omega) (by simp)
      rw [show ((0 : Nat) : Int) = 0 from rfl, List.nil_append, ← eA] at this
      exact this
    obtain ⟨L, hD, e36⟩ := p36_eq hk h hz hz6 hr hfP (S := A) (by omega) hAs
    have hUall : us R W z A = us R W z (allL W.length) := by funext i; exact propext (us_congr hAm)
    rw [hUall] at hD
    have hLl : L.length = P.toNat := hD.len
    have heF := EG_ok h (cst_ok h (U := us R W z (allL W.length))) hfP (bw := false)
    -- whether there is a way with all works
    have hR : (t : Int) ∈ reachL L ↔ ∃ a, Pth R (us R W z (allL W.length)) f t a := by
      rw [mem_reachL]
      constructor
      · rintro ⟨v, h1, h2, h3⟩
        obtain rfl : t = v := by omega
        obtain ⟨a, ha⟩ := (hD.iff heF (v := t) htP).1 h2
        exact ⟨a, (Wk_fw h).1 ha⟩
      · rintro ⟨a, ha⟩
        exact ⟨t, by omega, (hD.iff heF (v := t) htP).2 ⟨a, (Wk_fw h).2 ha⟩, rfl⟩
    have h7l2 : ∀ j, p7_l2 k (t : Int) j (reachL L) k false 0 = j (decide ((t : Int) ∈ reachL L)) := by
      intro j
      have hrl : (reachL L).length ≤ L.length := by
        unfold reachL
        rw [List.length_map]
        refine Nat.le_trans (List.length_filter_le _ _) ?_
        rw [List.length_range']
        exact Nat.le_refl _
      have := p7_l2_eq (k := k) (x := (t : Int)) (L := reachL L) (j := j) (by omega) (reachL L).length 0 k false (by omega) (by omega)
      rw [show ((0 : Nat) : Int) = 0 from rfl, List.drop_zero, Bool.false_or] at this
      exact this
    have hreachl : (reachL L).length ≤ 1000000 := by
      unfold reachL
      rw [List.length_map]
      refine Nat.le_trans (List.length_filter_le _ _) ?_
      rw [List.length_range']
      omega
    -- a cut leaves no way
    have hcut : ∀ S', S'.length ≤ 1000000 → ∃ e, p35 k P R W z (f : Int) (t : Int) S' = some e ∧ (e = 0 → ¬ ∃ a, Pth R (us R W z (allL W.length)) f t a) ∧ (S' = reachL L → (t : Int) ∉ reachL L → e = 0) := by
      intro S' hS'
      obtain ⟨e, e1, e2⟩ := p35_eq hk h hz hz6 hr hfP htP hS'
      refine ⟨e, e1, fun e0 => ?_, fun es hnt => ?_⟩
      · obtain ⟨g1, g2, g3, g4⟩ := e2.1 e0
        rintro ⟨a, ha⟩
        exact g3 (Pth.keep (S := fun x => x ∈ S') g4 hroad ha g2)
      · subst es
        refine e2.2 ⟨?_, ?_, hnt, ?_⟩
        · have := reach_set (L := L) (n := P.toNat) L.length 0 (-1) (by omega) (by omega)
          rw [show ((P.toNat : Nat) : Int) = P from by omega] at this
          exact this
        · refine mem_reachL.2 ⟨f, by omega, ?_, rfl⟩
          have : L.getD f 0 = 0 := hD.zero
          rw [this]; decide
        · intro i hi hu hF
          obtain ⟨v, h1, h2, h3⟩ := mem_reachL.1 hF
          have hra := (h.road i hi).ar
          unfold RoadA at hra
          obtain ⟨c0, ce⟩ := cst_us h hi hu
          have hX : (EG P R (cst R (us R W z (allL W.length))) f false).X i = v := by show (rF (rd R i)).toNat = v; omega
          have hY : (EG P R (cst R (us R W z (allL W.length))) f false).Y i = (rT (rd R i)).toNat := rfl
          have hfin := hD.fin heF (v := v) (by show v < P.toNat; omega) h2
          have hed := hD.edge heF (i := i) hi c0 (by rw [hX]; exact h2)
          rw [hX, hY] at hed
          rw [show (EG P R (cst R (us R W z (allL W.length))) f false).C i = rC (rd R i) from ce] at hed
          refine mem_reachL.2 ⟨(rT (rd R i)).toNat, by omega, ?_, by omega⟩
          unfold far; omega
    obtain ⟨e1, c1, c2, _⟩ := hcut S (by omega)
    obtain ⟨e2, d1, _, d2⟩ := hcut (reachL L) hreachl
    rcases p28_eq hk h hz hz6 hr hfP htP with ⟨q1, q2⟩ | ⟨s, rs, ws, c, mi, q1, q2⟩
    · have hnr : ¬ ∃ a, Pth R (us R W z (allL W.length)) f t a := by
        intro hx
        exact q1 (2 ^ W.length - 1) (all_lt _) ((dst_iff h (all_lt _) hfP htP).2 hx)
      have hnt : (t : Int) ∉ reachL L := fun g => hnr (hR.1 g)
      have e20 := d2 rfl hnt
      subst e20
      rw [q2, cl5_v, c1, cl_v]
      simp only [h7]
      rw [e36]
      simp only [cl2_v, h7l2, dF hnt, d1, cl_v, sp_ff]
      by_cases e10 : e1 = 0
      · subst e10; simp [sp_tt, sp_ff, cl_v]
      · rw [show (e1 == 0) = false from by simp [e10]]; simp [sp_tt, sp_ff, cl_v]
    · have hre : ∃ a, Pth R (us R W z (allL W.length)) f t a := by
        obtain ⟨a, ha⟩ := (dst_iff h q1.ms hfP htP).1 q1.fin
        exact ⟨a, ha.mono fun i _ hu => us_mono (fun x hx => bits_all hx) hu⟩
      have hin := hR.2 hre
      have e10 : e1 ≠ 0 := fun e => c2 e hre
      rw [q2, cl5_v, c1, cl_v]
      simp only [h7]
      rw [e36]
      simp only [cl2_v, h7l2, dT hin, d1, cl_v, sp_ff, sp_tt]
      rw [show (e1 == 0) = false from by simp [e10]]
      simp [sp_tt, sp_ff, cl_v]
theorem roadCut_holds : Rows.RoadCutSaid := roadCut_of plain7
end Go.Proofs.Ythniebmammmacaa
