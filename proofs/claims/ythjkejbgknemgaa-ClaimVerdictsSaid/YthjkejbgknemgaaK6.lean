/- The law ClaimVerdicts holds of every input. No condition: every theorem names its own hypotheses. -/
import Derived.Test.YthjkejbgknemgaaK5
import Derived.Test.YthjkejbgknemgaaRows
set_option linter.unusedVariables false
set_option linter.unusedSimpArgs false
set_option maxHeartbeats 4000000
namespace Go.Proofs.Ythjkejbgknemgaa
open Go.RowKit Classical
theorem p80_eq {k : Nat} {R : List (List Int)} {D u : List Int} (h : LogOk R D) {m : Int} (h0 : 0 ≤ m) (h1 : m < lastI R) : p80 k R D u m = some (decide (inC R u m)) := by
  have hst := h.arg.st
  have hsp := h.arg.span
  have hn := h.arg.n2
  unfold p80
  simp only [jn_v, lt_v]
  rw [p45_eq (by omega) (by omega) (by omega), cl_v, wr64 (z := m + 1) (by omega) (by omega), p45_eq (by omega) (by omega) (by omega)]
  simp only [cl_v, sp_d]
  by_cases c1 : u.getD 4 0 ≤ stT R + m
  · rw [if_pos c1]
    exact congrArg some (decide_eq_decide.2 ⟨fun h => ⟨c1, by omega⟩, fun h => by have := h.2; omega⟩)
  · rw [if_neg c1]
    exact congrArg some (decide_eq_false (fun h => c1 h.1)).symm
theorem firstOr_filter {p q : Int → Prop} : ∀ (l : List Int), firstOr p (l.filter fun x => decide (q x)) = firstOr (fun x => q x ∧ p x) l
  | [] => rfl
  | x :: l => by
    rw [List.filter_cons, firstOr_cons]
    by_cases hq : q x
    · rw [if_pos (by simpa using hq), firstOr_cons, firstOr_filter l]
      by_cases hp : p x
      · rw [if_pos hp, if_pos ⟨hq, hp⟩]
      · rw [if_neg hp, if_neg (fun h => hp h.2)]
    · rw [if_neg (by simpa using hq), firstOr_filter l, if_neg (fun h => hq h.1)]
theorem p76_l1_eq {k : Nat} (hk : 5000 ≤ k) {R : List (List Int)} {D u : List Int} (h : LogOk R D) (hu : ClaimOk u) : ∀ (d i n : Nat), i + d = lastN R → d < n → p76_l1 k R D u (some (-1)) n (i : Int) = some (firstOr (fun x => inC R u x ∧ canP R D u x) ((List.range' i d).map fun q : Nat => (q : Int)))
  | 0, i, n, h1, h2 => by
    obtain ⟨n, rfl⟩ : ∃ n', n = n' + 1 := ⟨n - 1, by omega⟩
    have hN := h.N
    have hsp := h.arg.span
    have hn := h.arg.n2
    rw [p76_l1, p53_eq (by omega) h.n64 (by omega) (by omega), cl_v]
    simp only [lt_v, sp_d]
    rw [if_neg (by omega)]
    rfl
  | d + 1, i, n, h1, h2 => by
    obtain ⟨n, rfl⟩ : ∃ n', n = n' + 1 := ⟨n - 1, by omega⟩
    have hN := h.N
    have hsp := h.arg.span
    have hst := h.arg.st
    have hn := h.arg.n2
    have hk1 := hu.2.2.2.1
    have hk2 := hu.2.2.2.2.1
    have hw : wr .i64 ((i : Int) + 1) = ((i + 1 : Nat) : Int) := by rw [wr64 (by omega) (by omega)]; omega
    have hkk : u.getD 2 0 = (((u.getD 2 0).toNat : Nat) : Int) := by omega
    have e0 := p17_eq hk h.n64 h.arg (m := (i : Int)) (kk := (u.getD 2 0).toNat) (by omega) (by omega) (by omega)
    have e1 := p17_eq hk h.n64 h.arg (m := ((i + 1 : Nat) : Int)) (kk := (u.getD 2 0).toNat) (by omega) (by omega) (by omega)
    rw [← hkk] at e0 e1
    have e2 := p16_eq hk (R := R) (D := D) (m := (i : Int)) (by omega) h.n64 (by omega) (by omega)
    have e3 := p16_eq hk (R := R) (D := D) (m := ((i + 1 : Nat) : Int)) (by omega) h.n64 (by omega) (by omega)
    have hg : ∀ (a b : Int) (x : Option Int), gd ([a, b].length = 2) x = x := fun _ _ _ => rfl
    rw [p76_l1, p53_eq (by omega) h.n64 (by omega) (by omega), cl_v]
    simp only [lt_v, sp_d, jn_v, e0, e1, e2, e3, cl_v, hg, hw, List.getD_cons_zero, List.getD_cons_succ, mx_eq, sp_ff]
    rw [if_pos (by omega), p80_eq h (by omega) (by omega), cl_v, sp_d, p76_l1_eq hk h hu d (i + 1) n (by omega) (by omega), List.range'_succ, List.map_cons, firstOr_cons]
    have hc : ((i + 1 : Nat) : Int) = (i : Int) + 1 := by omega
    rw [hc]
    by_cases c0 : inC R u i
    · rw [if_pos c0]
      by_cases c1 : u.getD 3 0 < max (vh R D (u.getD 2 0).toNat i) (vh R D (u.getD 2 0).toNat (i + 1)) <;> by_cases c2 : pl R i ≤ u.getD 1 0 <;> by_cases c3 : u.getD 0 0 ≤ ph R (i + 1)
      · rw [if_pos c1, if_pos c2, if_pos c3, if_pos (show inC R u i ∧ canP R D u i from ⟨c0, c1, c2, c3⟩)]
      all_goals
        rw [if_neg (show ¬ (inC R u i ∧ canP R D u i) from fun h => by
          obtain ⟨_, h5, h6, h7⟩ := h
          first | exact c1 h5 | exact c2 h6 | exact c3 h7)]
      · rw [if_pos c1, if_pos c2, if_neg c3]
      · rw [if_pos c1, if_neg c2]
      · rw [if_pos c1, if_neg c2]
      · rw [if_neg c1]
      · rw [if_neg c1]
      · rw [if_neg c1]
      · rw [if_neg c1]
    · rw [if_neg c0, if_neg (fun h => c0 h.1)]
theorem p76_eq {k : Nat} (hk : 5000 ≤ k) {R : List (List Int)} {D u : List Int} (h : LogOk R D) (hu : ClaimOk u) : p76 k R D u = some (canI R D u) := by
  have hN := h.N
  have hsp := h.arg.span
  unfold p76 canI steps stepsFrom
  rw [firstOr_filter]
  simp only [jn_v]
  exact p76_l1_eq hk h hu (lastN R) 0 k (by omega) (by omega)
theorem p59_l1_eq {k : Nat} (hk : 5000 ≤ k) {R : List (List Int)} {D u : List Int} (h : LogOk R D) (hu : ClaimOk u) (j : List Int → Option (List Int)) : ∀ (d i n : Nat) (W : List Int), i + d = lastN R → d < n → W.length ≤ i → p59_l1 k R D u j n (i : Int) W = j (W ++ (stepsFrom R u i d).filter fun x => decide (mustP R D u x))
  | 0, i, n, W, h1, h2, hW => by
    obtain ⟨n, rfl⟩ : ∃ n', n = n' + 1 := ⟨n - 1, by omega⟩
    have hN := h.N
    have hsp := h.arg.span
    have hn := h.arg.n2
    rw [p59_l1, p53_eq (by omega) h.n64 (by omega) (by omega), cl_v]
    simp only [lt_v, sp_d]
    rw [if_neg (by omega)]
    simp [stepsFrom]
  | d + 1, i, n, W, h1, h2, hW => by
    obtain ⟨n, rfl⟩ : ∃ n', n = n' + 1 := ⟨n - 1, by omega⟩
    have hN := h.N
    have hsp := h.arg.span
    have hst := h.arg.st
    have hn := h.arg.n2
    have hk1 := hu.2.2.2.1
    have hk2 := hu.2.2.2.2.1
    have hw : wr .i64 ((i : Int) + 1) = ((i + 1 : Nat) : Int) := by rw [wr64 (by omega) (by omega)]; omega
    have hkk : u.getD 2 0 = (((u.getD 2 0).toNat : Nat) : Int) := by omega
    have e0 := p17_eq hk h.n64 h.arg (m := (i : Int)) (kk := (u.getD 2 0).toNat) (by omega) (by omega) (by omega)
    have e1 := p17_eq hk h.n64 h.arg (m := ((i + 1 : Nat) : Int)) (kk := (u.getD 2 0).toNat) (by omega) (by omega) (by omega)
    rw [← hkk] at e0 e1
    have hg : ∀ (a b : Int) (x : Option (List Int)), gd ([a, b].length = 2) x = x := fun _ _ _ => rfl
    rw [p59_l1, p53_eq (by omega) h.n64 (by omega) (by omega), cl_v]
    simp only [lt_v, sp_d, jn_v, e0, e1, cl_v, hg, hw, List.getD_cons_zero, mx_eq, sp_ff]
    rw [if_pos (by omega), p80_eq h (by omega) (by omega), cl_v, sp_d]
    have hc : ((i + 1 : Nat) : Int) = (i : Int) + 1 := by omega
    have e : stepsFrom R u i (d + 1) = if inC R u i then (i : Int) :: stepsFrom R u (i + 1) d else stepsFrom R u (i + 1) d := by
      unfold stepsFrom
      rw [List.range'_succ, List.map_cons, List.filter_cons]
      simp only [decide_eq_true_eq]
    have ih := fun W hW => p59_l1_eq hk h hu j d (i + 1) n W (by omega) (by omega) hW
    rw [e]
    by_cases c0 : inC R u i
    · rw [if_pos c0, if_pos c0, List.filter_cons]
      simp only [decide_eq_true_eq]
      by_cases c1 : mustP R D u i
      · rw [if_pos c1, if_pos (by unfold mustP at c1; rw [hc]; exact c1), gd_v (by simp; omega), ih _ (by simp; omega)]
        simp
      · rw [if_neg c1, if_neg (by unfold mustP at c1; rw [hc]; exact c1), ih _ (by omega)]
    · rw [if_neg c0, if_neg c0, ih _ (by omega)]
theorem p59_eq {k : Nat} (hk : 5000 ≤ k) {R : List (List Int)} {D u : List Int} (h : LogOk R D) (hu : ClaimOk u) : p59 k R D u = some (must R D u) := by
  have hN := h.N
  have hsp := h.arg.span
  unfold p59
  simp only [jn_v]
  exact p59_l1_eq hk h hu (fun L => some L) (lastN R) 0 k [] (by omega) (by omega) (Nat.le_refl _)
theorem p60_l1_eq {k : Nat} (hk : 5000 ≤ k) {R : List (List Int)} {D u S : List Int} (h : LogOk R D) (hS : ∀ x ∈ S, 0 ≤ x ∧ x < (lastN R : Int)) (hasc : S.Pairwise (· < ·)) (hL : S.length ≤ 100000) : ∀ (d i n : Nat), i + d = S.length + 1 → d < n →
    p60_l1 k R D u S (some (-1)) n (i : Int) = some (pastFrom R u S i d)
  | 0, i, n, h1, h2 => by
    obtain ⟨n, rfl⟩ : ∃ n', n = n' + 1 := ⟨n - 1, by omega⟩
    rw [p60_l1]
    simp only [lt_v, sp_d]
    rw [if_neg (by omega)]
    rfl
  | d + 1, i, n, h1, h2 => by
    obtain ⟨n, rfl⟩ : ∃ n', n = n' + 1 := ⟨n - 1, by omega⟩
    have hN := h.N
    have hsp := h.arg.span
    have hst := h.arg.st
    have hn := h.arg.n2
    have hw : wr .i64 ((i : Int) + 1) = ((i + 1 : Nat) : Int) := by rw [wr64 (by omega) (by omega)]; omega
    have hin : ∀ q, q < S.length → 0 ≤ S.getD q 0 ∧ S.getD q 0 < (lastN R : Int) := fun q hq => hS _ (getD_mem' hq)
    have fin : ∀ {P : Prop} {y : Option Int}, (P → y = some (i : Int)) → (¬ P → y = some (pastFrom R u S (i + 1) d)) → (P ↔ pastAt R u S i) → y = some (if pastAt R u S i then (i : Int) else pastFrom R u S (i + 1) d) := by
      intro P y h3 h4 h5
      by_cases hP : P
      · rw [if_pos (h5.1 hP)]; exact h3 hP
      · rw [if_neg (fun h => hP (h5.2 h))]; exact h4 hP
    have hg : ∀ (a b : Int) (x : Option Int), gd ([a, b].length = 2) x = x := fun _ _ _ => rfl
    have hp : ∀ {m : Int}, 0 ≤ m → m ≤ lastI R → p16 k R D m = some [pl R m, ph R m] := fun h0 h1 => p16_eq hk (by omega) h.n64 (by omega) (by omega)
    rw [p60_l1, pastFrom_succ]
    simp only [lt_v, jn_v, sp_tt, sp_ff, sp_d, Int.toNat_natCast, hw, eq_zero_b]
    rw [if_pos (by omega), p60_l1_eq hk h hS hasc hL d (i + 1) n (by omega) (by omega)]
    by_cases c0 : i = 0
    · have c0' : ¬ ((i : Int) > 0) := by omega
      simp only [if_neg c0']
      by_cases c1 : i = S.length
      · have c1' : ¬ ((i : Int) < (S.length : Int)) := by omega
        simp only [if_neg c1']
        exact fin (P := True) (fun _ => rfl) (fun h => absurd trivial h) ⟨fun _ => ⟨.inl c0, .inl c1, .inl c0⟩, fun _ => trivial⟩
      · have c1' : (i : Int) < (S.length : Int) := by omega
        have hi := hin i (by omega)
        simp only [if_pos c1']
        rw [gd_v (by omega), hp hi.1 (by omega), cl_v, hg]
        simp only [List.getD_cons_succ, List.getD_cons_zero]
        by_cases a2 : u.getD 1 0 < ph R (S.getD i 0)
        · refine fin (P := True) (fun _ => ?_) (fun h => absurd trivial h) ⟨fun _ => ⟨.inl c0, .inr a2, .inl c0⟩, fun _ => trivial⟩
          rw [if_neg (by omega)]
        · refine fin (P := False) (fun h => h.elim) (fun _ => ?_) ⟨fun h => h.elim, fun h => h.2.1.elim c1 a2⟩
          rw [if_pos (by omega)]
    · have c0' : (i : Int) > 0 := by omega
      have hw2 : wr .i64 ((i : Int) - 1) = ((i - 1 : Nat) : Int) := by rw [wr64 (by omega) (by omega)]; omega
      have hi1 := hin (i - 1) (by omega)
      have hw3 : wr .i64 (S.getD (i - 1) 0 + 1) = S.getD (i - 1) 0 + 1 := wr64 (by omega) (by omega)
      simp only [if_pos c0', hw2, Int.toNat_natCast, hw3]
      rw [gd_v (by omega), hp (by omega) (by omega), cl_v, hg]
      simp only [List.getD_cons_zero]
      by_cases c1 : i = S.length
      · have c1' : ¬ ((i : Int) < (S.length : Int)) := by omega
        simp only [if_neg c1']
        by_cases a1 : pl R (S.getD (i - 1) 0 + 1) < u.getD 0 0
        · refine fin (P := True) (fun _ => ?_) (fun h => absurd trivial h) ⟨fun _ => ⟨.inr a1, .inl c1, .inr (.inl c1)⟩, fun _ => trivial⟩
          rw [if_neg (by omega)]
        · refine fin (P := False) (fun h => h.elim) (fun _ => ?_) ⟨fun h => h.elim, fun h => h.1.elim c0 a1⟩
          rw [if_pos (by omega)]
      · have c1' : (i : Int) < (S.length : Int) := by omega
        have hi := hin i (by omega)
        have hlt := asc_getD hasc (i := i - 1) (j := i) (by omega) (by omega)
        simp only [if_pos c1']
        by_cases a1 : pl R (S.getD (i - 1) 0 + 1) < u.getD 0 0
        · rw [if_neg (by omega), gd_v (by omega), hp hi.1 (by omega), cl_v, hg]
          simp only [List.getD_cons_succ, List.getD_cons_zero]
          by_cases a2 : u.getD 1 0 < ph R (S.getD i 0)
          · rw [if_neg (by omega), gd_v (by omega), gd_v (by omega)]
            by_cases a3 : S.getD (i - 1) 0 + 1 < S.getD i 0
            · refine fin (P := True) (fun _ => ?_) (fun h => absurd trivial h) ⟨fun _ => ⟨.inr a1, .inr a2, .inr (.inr a3)⟩, fun _ => trivial⟩
              rw [if_neg (by omega)]
            · refine fin (P := False) (fun h => h.elim) (fun _ => ?_) ⟨fun h => h.elim, fun h => h.2.2.elim c0 (fun h => h.elim c1 a3)⟩
              rw [if_pos (by omega)]
          · refine fin (P := False) (fun h => h.elim) (fun _ => ?_) ⟨fun h => h.elim, fun h => h.2.1.elim c1 a2⟩
            rw [if_pos (by omega)]
        · refine fin (P := False) (fun h => h.elim) (fun _ => ?_) ⟨fun h => h.elim, fun h => h.1.elim c0 a1⟩
          rw [if_pos (by omega)]
theorem p60_eq {k : Nat} (hk : 5000 ≤ k) {R : List (List Int)} {D u S : List Int} (h : LogOk R D) (hS : ∀ x ∈ S, 0 ≤ x ∧ x < (lastN R : Int)) (hasc : S.Pairwise (· < ·)) (hL : S.length ≤ 4000) : p60 k R D u S = some (pastI R u S) := by
  unfold p60
  simp only [jn_v]
  exact p60_l1_eq hk h hS hasc (by omega) (S.length + 1) 0 k (by omega) (by omega)
theorem p51_eq {k : Nat} (hk : 5000 ≤ k) {R : List (List Int)} {D u : List Int} (h : LogOk R D) (hu : ClaimOk u) : p51 k R D u = some (vdI R D u) := by
  have hsp := h.arg.span
  have hN := h.N
  have hl := must_len R D u
  unfold p51 vdI
  rw [p59_eq hk h hu, cl_v, p60_eq hk h (fun x hx => ⟨(must_mem.1 hx).1, (must_mem.1 hx).2.1⟩) (asc_must R D u) (by omega), cl_v, p76_eq hk h hu]
  simp only [lt_v, sp_d, cl_v]
  split
  · rfl
  · split <;> rfl
theorem p55_eq {k : Nat} (hk : 5000 ≤ k) {R : List (List Int)} {D u : List Int} (hD : D.length = 4) (hb : Wf64 R) : p55 k R D u = some (if logE R D = 0 then claimE u else logE R D) := by
  unfold p55
  rw [p21_eq hk hD hb, cl_v]
  simp only [lt_v, ne_zero_b, sp_nd, p33_eq, cl_v]
  split <;> rfl
theorem p25_eq {k : Nat} (hk : 5000 ≤ k) {R : List (List Int)} {D u : List Int} (hD : D.length = 4) (hb : Wf64 R) : p25 k R D u = some (if logE R D = 0 then (if claimE u = 0 then (vdI R D u, 0) else (0, claimE u)) else (0, logE R D)) := by
  unfold p25
  rw [p55_eq hk hD hb, cl_v]
  simp only [lt_v, ne_zero_b, sp_nd]
  by_cases h : logE R D = 0
  · rw [if_pos h, if_pos h]
    by_cases h2 : claimE u = 0
    · rw [if_pos h2, if_pos h2, p51_eq hk (logE_zero.1 h) (claimE_zero.1 h2), cl_v]
    · rw [if_neg h2, if_neg h2]
  · rw [if_neg h, if_neg h, if_neg h]
end Go.Proofs.Ythjkejbgknemgaa
namespace Go.Proofs.Ythjkejbgknemgaa
open Go.RowKit Classical
theorem all_step {P : Nat → Prop} {i N : Nat} (h : i < N) : (∀ q, i ≤ q → q < N → P q) ↔ P i ∧ ∀ q, i + 1 ≤ q → q < N → P q :=
  ⟨fun hh => ⟨hh i (Nat.le_refl _) h, fun q h1 h2 => hh q (by omega) h2⟩, fun hh q h1 h2 => by
    rcases Nat.eq_or_lt_of_le h1 with e | e
    · subst e; exact hh.1
    · exact hh.2 q e h2⟩
theorem if_iff {α : Type} {P Q : Prop} [Decidable P] [Decidable Q] (h : P ↔ Q) (x y : α) : (if P then x else y) = if Q then x else y := by
  by_cases c : P
  · rw [if_pos c, if_pos (h.1 c)]
  · rw [if_neg c, if_neg (fun hh => c (h.2 hh))]
def hv (V : List (List Int)) (m q : Nat) : Int := (V.getD m []).getD q 0
def valOk (R : List (List Int)) (D : List Int) (V : List (List Int)) (m q : Nat) : Prop := (vl R D q m ≤ hv V m q ∧ hv V m q ≤ vh R D q m) ∧ (0 < m → hv V (m - 1) q - D.getD q 0 ≤ hv V m q ∧ hv V m q ≤ hv V (m - 1) q + D.getD q 0)
def plcOk (R : List (List Int)) (P : List Int) (m : Nat) : Prop := (pl R m ≤ P.getD m 0 ∧ P.getD m 0 ≤ ph R m) ∧ (0 < m → P.getD (m - 1) 0 ≤ P.getD m 0)
structure Fits (R : List (List Int)) (D : List Int) (P : List Int) (V : List (List Int)) : Prop where
  lp : P.length = lastN R + 1
  lv : V.length = lastN R + 1
  plc : ∀ m, m < lastN R + 1 → plcOk R P m
  val : ∀ m, m < lastN R + 1 → ∀ q, q < 4 → valOk R D V m q
end Go.Proofs.Ythjkejbgknemgaa
namespace Go.Proofs.Ythjkejbgknemgaa
open Go.RowKit Classical
theorem p78_eq (k : Nat) (x y : Int) : p78 k x y = some (decide (x < y)) := by
  have e : ∀ x : Int, (x != x) = false := fun x => by simp
  unfold p78 p87
  simp only [jn_v, lt_v, e, cl_v, sp_ff]
theorem p57_l1_eq {k : Nat} {S : List Int} {t : Int} (hS : S.Pairwise (· < ·)) (hl : S.length ≤ 4000) (j : Int → Option (Int × Bool)) : ∀ (n lo hi : Nat), hi - lo < n → lo ≤ hi → hi ≤ S.length → (∀ q, q < lo → S.getD q 0 < t) → (∀ q, hi ≤ q → q < S.length → t ≤ S.getD q 0) → ∃ p : Nat, p ≤ S.length ∧ (∀ q, q < p → S.getD q 0 < t) ∧ (∀ q, p ≤ q → q < S.length → t ≤ S.getD q 0) ∧ p57_l1 k S t j n (lo : Int) (hi : Int) = j (p : Int)
  | 0, lo, hi, h1, _, _, _, _ => by omega
  | n + 1, lo, hi, h1, h2, h3, h4, h5 => by
    rw [p57_l1]
    simp only [lt_v, sp_d]
    by_cases c : lo < hi
    · have hu : wr .u64 ((lo : Int) + (hi : Int)) = (lo : Int) + (hi : Int) := by
        simp only [wr, IntKind.wrap, IntKind.signed, IntKind.bits]
        simp
        omega
      have hd : Int.fdiv ((lo : Int) + (hi : Int)) (2 ^ (min (1 : Int).toNat (IntKind.bits .u64))) = (((lo + hi) / 2 : Nat) : Int) := by
        rw [show (2 : Int) ^ (min (1 : Int).toNat (IntKind.bits .u64)) = 2 from rfl, Int.fdiv_eq_ediv_of_nonneg _ (by omega)]
        omega
      rw [if_pos (by omega), wr64 (z := (lo : Int) + (hi : Int)) (by omega) (by omega), hu, hd, wr64 (z := (((lo + hi) / 2 : Nat) : Int)) (by omega) (by omega), gd_v (by omega), Int.toNat_natCast, p78_eq, cl_v, sp_d]
      by_cases c2 : S.getD ((lo + hi) / 2) 0 < t
      · rw [if_pos c2, wr64 (by omega) (by omega)]
        have := p57_l1_eq (k := k) hS hl j n ((lo + hi) / 2 + 1) hi (by omega) (by omega) h3 (fun q hq => by
          have := asc_getD_le hS (i := q) (j := (lo + hi) / 2) (by omega) (by omega)
          omega) h5
        exact this
      · rw [if_neg c2]
        exact p57_l1_eq hS hl j n lo ((lo + hi) / 2) (by omega) (by omega) (by omega) h4 (fun q hq hql => by
          have := asc_getD_le hS (i := (lo + hi) / 2) (j := q) (by omega) (by omega)
          omega)
    · rw [if_neg (by omega)]
      have : lo = hi := by omega
      subst this
      exact ⟨lo, h3, h4, h5, rfl⟩
theorem p57_eq {k : Nat} (hk : 5000 ≤ k) {S : List Int} {t : Int} (hS : S.Pairwise (· < ·)) (hl : S.length ≤ 4000) : ∃ p : Int, p57 k S t = some (p, decide (t ∈ S)) := by
  obtain ⟨p, hp, h1, h2, h3⟩ := p57_l1_eq (k := k) (t := t) hS hl (fun x1 => jn (fun (b15 : Bool) => some (x1, b15)) fun j16 => lt' (decide (x1 < (List.length S : Int))) fun b17 => sp b17 (gd ((0 : Int) ≤ x1 ∧ x1 < (List.length S : Int)) <| lt' (List.getD S ((x1).toNat) 0) fun x19 => lt' (x19 == t) fun b20 => sp b20 (j16 true) (gd ((0 : Int) ≤ x1 ∧ x1 < (List.length S : Int)) <| lt' (List.getD S ((x1).toNat) 0) fun x22 => cl (p79 k x22) fun v23 => sp v23 (cl (p79 k t) fun v24 => j16 v24) (j16 false))) (j16 false)) k 0 S.length (by omega) (by omega) (Nat.le_refl _) (fun q hq => by omega) (fun q hq hq2 => by omega)
  refine ⟨(p : Int), ?_⟩
  unfold p57
  rw [jn_v]
  refine (show _ = _ from h3).trans ?_
  have e : ∀ x : Int, (x != x) = false := fun x => by simp
  unfold p79
  simp only [jn_v, lt_v, sp_d, eq_zero_b, e, cl_v, sp_ff, Int.toNat_natCast]
  by_cases c : p < S.length
  · rw [if_pos (by omega), gd_v (by omega)]
    by_cases c2 : S.getD p 0 = t
    · rw [if_pos c2, decide_eq_true (show t ∈ S from c2 ▸ getD_mem' c)]
    · rw [if_neg c2, gd_v (by omega), decide_eq_false (fun hm : t ∈ S => by
        obtain ⟨q, hq, hqt⟩ := mem_getD hm
        rcases Nat.lt_or_ge q p with e1 | e1
        · have := h1 q e1; omega
        · rcases Nat.eq_or_lt_of_le e1 with e2 | e2
          · subst e2; exact c2 hqt
          · have := h2 p (Nat.le_refl _) c
            have := asc_getD hS e2 hq
            omega)]
  · rw [if_neg (by omega), decide_eq_false (fun hm : t ∈ S => by
      obtain ⟨q, hq, hqt⟩ := mem_getD hm
      have := h1 q (by omega)
      omega)]
def ascAt (T M : List Int) (i : Nat) : Prop := T.getD i 0 ∈ M ∧ (0 < i → T.getD (i - 1) 0 < T.getD i 0)
def proofOk (T M : List Int) : Prop := ∀ i, i < T.length → ascAt T M i
theorem p26_l1_eq {k : Nat} (hk : 5000 ≤ k) {T M : List Int} (hM : M.Pairwise (· < ·)) (hl : M.length ≤ 4000) (h0 : ∀ x ∈ M, 0 ≤ x) (hT : T.length ≤ 4000) (j : Option Int) : ∀ (d i n : Nat) (y : Int), i + d = T.length → d < n → (i = 0 → y = -1) → (0 < i → y = T.getD (i - 1) 0) → p26_l1 k T j M n y (i : Int) = if ∀ q, i ≤ q → q < T.length → ascAt T M q then j else some 16
  | 0, i, n, y, h1, h2, _, _ => by
    obtain ⟨n, rfl⟩ : ∃ n', n = n' + 1 := ⟨n - 1, by omega⟩
    rw [p26_l1]
    simp only [lt_v, sp_d]
    rw [if_neg (by omega), if_pos (fun q _ _ => by omega)]
  | d + 1, i, n, y, h1, h2, hy0, hy => by
    obtain ⟨n, rfl⟩ : ∃ n', n = n' + 1 := ⟨n - 1, by omega⟩
    have hw : wr .i64 ((i : Int) + 1) = ((i + 1 : Nat) : Int) := by rw [wr64 (by omega) (by omega)]; omega
    obtain ⟨p, hp⟩ := p57_eq hk (t := T.getD i 0) hM hl
    have ih := p26_l1_eq hk hM hl h0 hT j d (i + 1) n (T.getD i 0) (by omega) (by omega) (fun hh => by omega) (fun _ => by rw [Nat.add_sub_cancel])
    rw [p26_l1]
    simp only [lt_v, sp_d, Int.toNat_natCast, hp, cl2_v, jn_v, hw, ih, sp_tt]
    rw [if_pos (by omega), gd_v (by omega), if_iff (all_step (P := ascAt T M) (show i < T.length by omega))]
    by_cases c1 : T.getD i 0 ∈ M
    · rw [if_pos c1]
      by_cases c2 : T.getD i 0 ≤ y
      · rw [if_pos c2, if_neg (fun hh => by
          by_cases c3 : i = 0
          · have := h0 _ c1
            have := hy0 c3
            omega
          · have := hh.1.2 (by omega)
            have := hy (by omega)
            omega)]
      · rw [if_neg c2]
        have ha : ascAt T M i := ⟨c1, fun h3 => by have := hy h3; omega⟩
        by_cases c4 : ∀ q, i + 1 ≤ q → q < T.length → ascAt T M q
        · rw [if_pos c4, if_pos ⟨ha, c4⟩]
        · rw [if_neg c4, if_neg (fun hh => c4 hh.2)]
    · rw [if_neg c1, if_neg (fun hh => c1 hh.1.1)]
theorem p27_l2_eq {k : Nat} {T M : List Int} (hl : M.length ≤ 4000) {i : Nat} (hi : i < T.length) (j : Int → Option Int) : ∀ (n a : Nat), M.length - a < n → a ≤ M.length → ∃ p : Nat, a ≤ p ∧ p ≤ M.length ∧ (∀ q, a ≤ q → q < p → M.getD q 0 < T.getD i 0) ∧ (p < M.length → T.getD i 0 ≤ M.getD p 0) ∧ p27_l2 k T (i : Int) j M n (a : Int) = j (p : Int)
  | 0, a, h1, _ => by omega
  | n + 1, a, h1, h2 => by
    rw [p27_l2]
    simp only [jn_v, lt_v, sp_d, Int.toNat_natCast, sp_ff]
    by_cases c : a < M.length
    · rw [if_pos (by omega), gd_v (by omega), gd_v (by omega)]
      by_cases c2 : M.getD a 0 < T.getD i 0
      · rw [if_pos c2, wr64 (by omega) (by omega)]
        obtain ⟨p, hp1, hp2, hp3, hp4, hp5⟩ := p27_l2_eq hl hi j n (a + 1) (by omega) (by omega)
        refine ⟨p, by omega, hp2, fun q hq hqp => ?_, hp4, hp5⟩
        rcases Nat.eq_or_lt_of_le hq with e | e
        · subst e; exact c2
        · exact hp3 q e hqp
      · rw [if_neg c2]
        exact ⟨a, Nat.le_refl _, h2, fun q hq hq2 => by omega, fun _ => by omega, rfl⟩
    · rw [if_neg (by omega)]
      exact ⟨a, Nat.le_refl _, h2, fun q hq hq2 => by omega, fun hh => absurd hh c, rfl⟩
theorem p27_l1_eq {k : Nat} (hk : 5000 ≤ k) {T M : List Int} (hM : M.Pairwise (· < ·)) (hl : M.length ≤ 4000) (hT : T.length ≤ 4000) (j : Option Int) : ∀ (d i n : Nat) (a : Nat), i + d = T.length → d < n → a ≤ M.length → (∀ q, q < a → 0 < i ∧ M.getD q 0 ≤ T.getD (i - 1) 0) → p27_l1 k T j M n (a : Int) (i : Int) = if ∀ q, i ≤ q → q < T.length → ascAt T M q then j else some 16
  | 0, i, n, a, h1, h2, _, _ => by
    obtain ⟨n, rfl⟩ : ∃ n', n = n' + 1 := ⟨n - 1, by omega⟩
    rw [p27_l1]
    simp only [lt_v, sp_d]
    rw [if_neg (by omega), if_pos (fun q _ _ => by omega)]
  | d + 1, i, n, a, h1, h2, ha, hb => by
    obtain ⟨n, rfl⟩ : ∃ n', n = n' + 1 := ⟨n - 1, by omega⟩
    have hi : i < T.length := by omega
    have hw : wr .i64 ((i : Int) + 1) = ((i + 1 : Nat) : Int) := by rw [wr64 (by omega) (by omega)]; omega
    rw [p27_l1]
    simp only [lt_v, sp_d, jn_v, Int.toNat_natCast, hw, sp_tt, sp_ff, eq_zero_b]
    obtain ⟨p, hp1, hp2, hp3, hp4, hp5⟩ := p27_l2_eq (k := k) (T := T) hl hi (fun x13 => if x13 = (M.length : Int) then some 16 else gd ((0 : Int) ≤ x13 ∧ x13 < (M.length : Int)) (gd ((0 : Int) ≤ (i : Int) ∧ (i : Int) < (T.length : Int)) (sp (M.getD x13.toNat 0 != T.getD i 0) (some 16) (if (i : Int) > 0 then gd ((0 : Int) ≤ (i : Int) ∧ (i : Int) < (T.length : Int)) (gd ((0 : Int) ≤ wr .i64 ((i : Int) - 1) ∧ wr .i64 ((i : Int) - 1) < (T.length : Int)) (if T.getD i 0 ≤ T.getD (wr .i64 ((i : Int) - 1)).toNat 0 then some 16 else p27_l1 k T j M n x13 ((i + 1 : Nat) : Int))) else p27_l1 k T j M n x13 ((i + 1 : Nat) : Int))))) k a (by omega) ha
    rw [if_pos (by omega)]
    refine (show _ = _ from hp5).trans ?_
    simp only [Int.toNat_natCast]
    rw [if_iff (all_step (P := ascAt T M) (show i < T.length by omega))]
    have hbne : ∀ x y : Int, (x != y) = !decide (x = y) := fun x y => by by_cases h : x = y <;> simp [h]
    by_cases c1 : p = M.length
    · rw [if_pos (by omega), if_neg (fun hh => by
        obtain ⟨q, hq, hqt⟩ := mem_getD hh.1.1
        rcases Nat.lt_or_ge q a with e | e
        · have h1 := hb q e
          have := hh.1.2 h1.1
          omega
        · have := hp3 q e (by omega)
          omega)]
    · rw [if_neg (by omega), gd_v (by omega), gd_v (by omega), hbne, sp_nd]
      by_cases c2 : M.getD p 0 = T.getD i 0
      · rw [if_pos c2]
        have hmem : T.getD i 0 ∈ M := c2 ▸ getD_mem' (by omega)
        have ih := p27_l1_eq hk hM hl hT j d (i + 1) n p (by omega) (by omega) hp2 (fun q hq => ⟨by omega, by
          rw [Nat.add_sub_cancel]
          have := asc_getD hM hq (by omega)
          omega⟩)
        rw [ih]
        by_cases c3 : 0 < i
        · rw [if_pos (by omega), gd_v (by omega), wr64 (by omega) (by omega), gd_v (by omega), show ((i : Int) - 1).toNat = i - 1 from by omega]
          by_cases c4 : T.getD i 0 ≤ T.getD (i - 1) 0
          · rw [if_pos c4, if_neg (fun hh => by have := hh.1.2 c3; omega)]
          · rw [if_neg c4]
            have hA : ascAt T M i := ⟨hmem, fun _ => by omega⟩
            by_cases c5 : ∀ q, i + 1 ≤ q → q < T.length → ascAt T M q
            · rw [if_pos c5, if_pos ⟨hA, c5⟩]
            · rw [if_neg c5, if_neg (fun hh => c5 hh.2)]
        · rw [if_neg (by omega)]
          have hA : ascAt T M i := ⟨hmem, fun hh => absurd hh c3⟩
          by_cases c5 : ∀ q, i + 1 ≤ q → q < T.length → ascAt T M q
          · rw [if_pos c5, if_pos ⟨hA, c5⟩]
          · rw [if_neg c5, if_neg (fun hh => c5 hh.2)]
      · rw [if_neg c2, if_neg (fun hh => by
          obtain ⟨q, hq, hqt⟩ := mem_getD hh.1.1
          rcases Nat.lt_or_ge q a with e | e
          · have h1 := hb q e
            have := hh.1.2 h1.1
            omega
          · rcases Nat.lt_or_ge q p with e2 | e2
            · have := hp3 q e e2
              omega
            · rcases Nat.eq_or_lt_of_le e2 with e3 | e3
              · subst e3; exact c2 hqt
              · have := asc_getD hM e3 hq
                have := hp4 (by omega)
                omega)]
noncomputable def chk (R : List (List Int)) (D u T : List Int) : Int :=
  if logE R D = 0 then (if claimE u = 0 then (if 2000 < T.length then 6 else if proofOk T (must R D u) then (if 0 ≤ pastI R u T then 16 else 0) else 16) else claimE u) else logE R D
theorem proofOk_asc {T M : List Int} (h : proofOk T M) : T.Pairwise (· < ·) ∧ ∀ x ∈ T, x ∈ M := by
  constructor
  · rw [List.pairwise_iff_getElem]
    intro i j hi hj hij
    have key : ∀ d, i + d + 1 < T.length → T.getD i 0 < T.getD (i + d + 1) 0 := by
      intro d
      induction d with
      | zero => intro hd; have := (h (i + 1) hd).2 (by omega); rwa [Nat.add_sub_cancel] at this
      | succ d ih =>
        intro hd
        have h1 := ih (by omega)
        have h2 := (h (i + d + 1 + 1) hd).2 (by omega)
        rw [Nat.add_sub_cancel] at h2
        rw [show i + (d + 1) + 1 = i + d + 1 + 1 from by omega]
        omega
    have := key (j - i - 1) (by omega)
    rw [show i + (j - i - 1) + 1 = j from by omega] at this
    simpa [List.getD_eq_getElem?_getD, List.getElem?_eq_getElem hi, List.getElem?_eq_getElem hj] using this
  · intro x hx
    obtain ⟨i, hi, rfl⟩ := mem_getD hx
    exact (h i hi).1
theorem p26_eq {k : Nat} (hk : 5000 ≤ k) {R : List (List Int)} {D u T : List Int} (hD : D.length = 4) : p26 k R D u T = some (chk R D u T) := by
  unfold p26 chk
  rw [p43_eq hk hD]
  simp only [cl2_v, lt_v, ne_zero_b, sp_nd, sp_d]
  by_cases hl : logE R D = 0
  · have h := logE_zero.1 hl
    rw [if_pos hl, if_pos hl, if_pos hl]
    by_cases hc : claimE u = 0
    · have hu := claimE_zero.1 hc
      rw [if_pos hc, if_pos hc]
      by_cases ht : 2000 < T.length
      · rw [if_pos (by omega), if_pos ht]
      · rw [if_neg (by omega), if_neg ht, cl_v]
        have e56 : p56 k (crs R D).1 (crs R D).2.1 (crs R D).2.2.1 (crs R D).2.2.2.1 (crs R D).2.2.2.2 u = some (must R D u) := p56_eq hk h hu
        rw [e56, cl_v, jn_v]
        have hml := must_len R D u
        have hln : lastN R ≤ 2000 := by have := h.N; have := h.arg.span; omega
        have e := p26_l1_eq hk (asc_must R D u) (T := T) (by omega) (fun x hx => (must_mem.1 hx).1) (by omega) (cl (p58 k (crs R D).1 (crs R D).2.1 (crs R D).2.2.1 (crs R D).2.2.2.1 (crs R D).2.2.2.2 u T) fun v25 => if v25 ≥ 0 then some 16 else some 0) T.length 0 k (-1) (by omega) (by omega) (fun _ => rfl) (fun hh => by omega)
        rw [show ((0 : Nat) : Int) = 0 from rfl] at e
        refine (show _ = _ from e).trans ?_
        by_cases c : proofOk T (must R D u)
        · have hm := (proofOk_asc c).2
          have e58 : p58 k (crs R D).1 (crs R D).2.1 (crs R D).2.2.1 (crs R D).2.2.2.1 (crs R D).2.2.2.2 u T = some (pastI R u T) := p58_eq hk h (fun x hx => ⟨(must_mem.1 (hm x hx)).1, (must_mem.1 (hm x hx)).2.1⟩) (by omega)
          rw [if_pos (fun q _ hq => c q hq), if_pos c, e58, cl_v]
          by_cases c2 : 0 ≤ pastI R u T
          · rw [if_pos c2, if_pos (by omega)]
          · rw [if_neg c2, if_neg (by omega)]
        · rw [if_neg (fun hh => c (fun q hq => hh q (Nat.zero_le _) hq)), if_neg c]
    · rw [if_neg hc, if_neg hc]
  · rw [if_neg hl, if_neg hl, if_neg hl]
theorem p27_eq {k : Nat} (hk : 5000 ≤ k) {R : List (List Int)} {D u T : List Int} (hD : D.length = 4) (hb : Wf64 R) : p27 k R D u T = some (chk R D u T) := by
  unfold p27 chk
  rw [p55_eq hk hD hb]
  simp only [cl_v, lt_v, ne_zero_b, sp_nd, sp_d]
  by_cases hl : logE R D = 0
  · have h := logE_zero.1 hl
    rw [if_pos hl, if_pos hl]
    by_cases hc : claimE u = 0
    · have hu := claimE_zero.1 hc
      rw [if_pos hc, if_pos hc]
      by_cases ht : 2000 < T.length
      · rw [if_pos (by omega), if_pos ht]
      · rw [if_neg (by omega), if_neg ht, p59_eq hk h hu, cl_v, jn_v]
        have hml := must_len R D u
        have hln : lastN R ≤ 2000 := by have := h.N; have := h.arg.span; omega
        have e := p27_l1_eq hk (asc_must R D u) (T := T) (by omega) (by omega) (cl (p60 k R D u T) fun v42 => if v42 ≥ 0 then some 16 else some 0) T.length 0 k 0 (by omega) (by omega) (by omega) (fun q hq => by omega)
        rw [show ((0 : Nat) : Int) = 0 from rfl] at e
        refine (show _ = _ from e).trans ?_
        by_cases c : proofOk T (must R D u)
        · have hm := proofOk_asc c
          have e60 : p60 k R D u T = some (pastI R u T) := p60_eq hk h (fun x hx => ⟨(must_mem.1 (hm.2 x hx)).1, (must_mem.1 (hm.2 x hx)).2.1⟩) hm.1 (by omega)
          rw [if_pos (fun q _ hq => c q hq), if_pos c, e60, cl_v]
          by_cases c2 : 0 ≤ pastI R u T
          · rw [if_pos c2, if_pos (by omega)]
          · rw [if_neg c2, if_neg (by omega)]
        · rw [if_neg (fun hh => c (fun q hq => hh q (Nat.zero_le _) hq)), if_neg c]
    · rw [if_neg hc, if_neg hc]
  · rw [if_neg hl, if_neg hl, if_neg hl]
theorem asc_proofOk {M : List Int} (h : M.Pairwise (· < ·)) : proofOk M M := fun i hi => ⟨getD_mem' hi, fun h0 => asc_getD h (by omega) hi⟩
noncomputable def prvE (R : List (List Int)) (D u : List Int) : List Int × Int :=
  if logE R D = 0 then (if claimE u = 0 then (if 0 ≤ pastI R u (must R D u) then ([], 15) else (must R D u, 0)) else ([], claimE u)) else ([], logE R D)
theorem p28_eq {k : Nat} (hk : 5000 ≤ k) {R : List (List Int)} {D u : List Int} (hD : D.length = 4) : p28 k R D u = some (prvE R D u) := by
  unfold p28 prvE
  rw [p43_eq hk hD]
  simp only [cl2_v, lt_v, ne_zero_b, sp_nd, sp_d]
  by_cases hl : logE R D = 0
  · have h := logE_zero.1 hl
    rw [if_pos hl, if_pos hl, if_pos hl]
    by_cases hc : claimE u = 0
    · have hu := claimE_zero.1 hc
      rw [if_pos hc, if_pos hc, cl_v]
      have e56 : p56 k (crs R D).1 (crs R D).2.1 (crs R D).2.2.1 (crs R D).2.2.2.1 (crs R D).2.2.2.2 u = some (must R D u) := p56_eq hk h hu
      have hml := must_len R D u
      have hln : lastN R ≤ 2000 := by have := h.N; have := h.arg.span; omega
      have e58 : p58 k (crs R D).1 (crs R D).2.1 (crs R D).2.2.1 (crs R D).2.2.2.1 (crs R D).2.2.2.2 u (must R D u) = some (pastI R u (must R D u)) := p58_eq hk h (fun x hx => ⟨(must_mem.1 hx).1, (must_mem.1 hx).2.1⟩) (by omega)
      rw [e56, cl_v, e58, cl_v]
      by_cases c2 : 0 ≤ pastI R u (must R D u)
      · rw [if_pos c2, if_pos (by omega)]
      · rw [if_neg c2, if_neg (by omega)]
    · rw [if_neg hc, if_neg hc]
  · rw [if_neg hl, if_neg hl, if_neg hl]
end Go.Proofs.Ythjkejbgknemgaa
namespace Go.Proofs.Ythjkejbgknemgaa
open Go.ChangeShapes Go.WideShapes Go.ChangeAt Go.RowKit
def PlainClaimVerdicts : Prop := ∀ (u0_0 : List (List Int)) (u0_1 : List Int) (u1 : List Int) (u2 : List Int), u0_0.length ≤ maxLen → (∀ r ∈ u0_0, r.length = 11) → (∀ r ∈ u0_0, ∀ z ∈ r, Wfi .i64 z) → u0_1.length = 4 → (∀ z ∈ u0_1, Wfi .i64 z) → u1.length = 7 → (∀ z ∈ u1, Wfi .i64 z) → u2.length ≤ maxLen → (∀ z ∈ u2, Wfi .i64 z) → ∃ k, p8 k u0_0 u0_1 u1 u2 = some true
theorem own8 : ownKnob Try.prog.godebug = none := by kernel_rfl
theorem laid8 : laidOutB Try.prog = true := by kernel_rfl
set_option maxRecDepth 100000 in
theorem lifted8 (plain : PlainClaimVerdicts) (os : Os) (started : os.Started) (H : Type) (enc : TypeId × Value → H) :
    ReturnsInHanded {} Try.checked os 8 .any (Rows.claimVerdictsSpec.pre6 enc Try.prog Try.f8 Rows.claimVerdictsRow.domain false) (Rows.claimVerdictsSpec.post enc Try.prog Try.f8 false true false false) := by
  refine returnsInHanded_of_change (C := Try.checked) own8 started (by kernel_rfl) Try.func8
    (ChangeSpec.witness6 (enc := enc) (C := Try.checked) false ⟨#[], #[.agg #[.slice none 0 0, .int .i64 0, .int .i64 0, .int .i64 0, .int .i64 0], .agg #[.int .i64 0, .int .i64 0, .int .i64 0, .int .i64 0, .int .i64 0, .int .i64 0, .int .i64 0], .slice none 0 0], []⟩ 12 (by kernel_rfl) (by kernel_rfl) (by kernel_rfl) (by kernel_rfl)) ?_
  intro W base args ds gs before hval0 hW hcnd _
  have hval : ∀ (j : Nat) t v, Try.f8.params[j]? = some t → args[j]? = some v → Value.okWide Try.prog W .any base t v := hval0
  have hW' := hW
  obtain ⟨p, q, hA0, hV, rfl, hfz, hnd⟩ := hW
  have hA : DataW.TrodAll enc Try.prog W 0 (fun _ => true) true Try.f8.params.toList args.toList ds p := hA0
  rw [Try.params8] at hA hval
  obtain ⟨v0, vs0, d0, ds0, p0, q0, hargs, rfl, rfl, h0, r0⟩ := trodAll_cons hA
  obtain ⟨v1, vs1, d1, ds1, p1, q1, rfl, rfl, rfl, h1, r1⟩ := trodAll_cons r0
  obtain ⟨v2, vs2, d2, ds2, p2, q2, rfl, rfl, rfl, h2, r2⟩ := trodAll_cons r1
  obtain ⟨rfl, rfl, rfl⟩ := trodAll_nil r2
  obtain rfl : args = #[v0, v1, v2] := by cases args; simp_all
  obtain ⟨rfl, rfl⟩ := trodVars_none hV
  have k0 := h0
  have lt0 : ∀ x ∈ p0, x.block < W.heap.size := by obtain ⟨m, hm⟩ := k0; exact DataW.trod_lt m _ _ _ hm
  obtain ⟨cs0, fu0, rfl, hx0⟩ := open_agg Try.underlying25 rfl (hval 0 25 v0 rfl rfl) h0
  obtain ⟨c0a, c0b, fv0, y0a, y0b, rfl, hx0a, hx0b⟩ := open_two Try.underlying25 rfl (by kernel_rfl) (by kernel_rfl) hx0
  obtain ⟨Au0_0, u0_0, cu0_0, rfl, su0_0, mu0_0, zu0_0⟩ := open_rows (k := .i64) (d := 8) (m := 11) Try.underlying22 (by kernel_rfl) rfl (by kernel_rfl) hx0a
  obtain ⟨u0_1, rfl, lu0_1, zu0_1⟩ := open_ints' (k := .i64) (d := 8) (n := 4) (by kernel_rfl) hx0b
  have k1 := h1
  have lt1 : ∀ x ∈ p1, x.block < W.heap.size := by obtain ⟨m, hm⟩ := k1; exact DataW.trod_lt m _ _ _ hm
  obtain ⟨cs1, fu1, rfl, hx1⟩ := open_agg Try.underlying27 rfl (hval 1 27 v1 rfl rfl) h1
  obtain ⟨u1, rfl, lu1, zu1⟩ := open_ints' (k := .i64) (d := 8) (n := 7) (by kernel_rfl) hx1
  have k2 := h2
  have lt2 : ∀ x ∈ p2, x.block < W.heap.size := by obtain ⟨m, hm⟩ := k2; exact DataW.trod_lt m _ _ _ hm
  obtain ⟨cs2, fu2, hcs2, hx2⟩ := open_slice Try.underlying64 (hval 2 64 v2 rfl rfl) h2
  obtain ⟨Au2, u2, cu2, rfl, su2, mu2, zu2⟩ := open_sint (k := .i64) (d := 8) Try.underlying64 (by kernel_rfl) (by kernel_rfl) hx2
  injection hcs2 with hcs2 _
  subst hcs2
  obtain ⟨k, hp⟩ := plain u0_0 u0_1 u1 u2 mu0_0 su0_0.1 zu0_0 lu0_1 zu0_1 lu1 zu1 mu2 zu2
  have hc := Fn.calls (Mem.le_refl _) ((w8 k su0_0 lu0_1 lu1 su2 hp).mono (R' := fun x _ => rval x = .bool true) (by rintro x M' _ rfl; rfl))
  clear hA0 hval0
  have hc2 : Calls Try.prog 8 #[.agg ([Value.slice Au0_0 (List.length u0_0) cu0_0] ++ ints .i64 u0_1).toArray, .agg (ints .i64 u1).toArray, .slice Au2 (List.length u2) cu2] W fun e w' => e = .returned (.bool true) ∧ Below W.heap.size W w' := by
    simpa [rval, SV.val, sgCells, Sg.cells, Lf.val] using hc
  refine hc2.mono fun e W' ⟨he, bel⟩ => ?_
  subst he
  exact ⟨_, rfl, _, _, _, [], _, [], hW', trodAll_mk1 (shut_bool Try.underlying4 _), (trodAll_cons_mk (Below.trod laid8 (by kernel_rfl) (of_decide_eq_true (by kernel_rfl)) k0 bel lt0) (trodAll_cons_mk (Below.trod laid8 (by kernel_rfl) (of_decide_eq_true (by kernel_rfl)) k1 bel lt1) (trodAll_cons_mk (Below.trod laid8 (by kernel_rfl) (of_decide_eq_true (by kernel_rfl)) k2 bel lt2) trodAll_mk0))), rfl, bel.frame _, fun h => by cases h⟩
theorem claimVerdicts_of (plain : PlainClaimVerdicts) : Rows.ClaimVerdictsSaid :=
  OpenClaim.holds_of_wide 8 Try.f8 rfl rfl rfl rfl rfl rfl rfl ⟨rfl, rfl, rfl, rfl, rfl⟩ rfl rfl rfl rfl rfl (by kernel_rfl) Try.func8 (by kernel_rfl)
    (of_decide_eq_true (by kernel_rfl)) (by unfold Func.isWrapper; first | (rw [if_pos (by decide +kernel)]; kernel_rfl) | (rw [if_neg (by decide +kernel)]; exact ⟨rfl, rfl⟩))
    (fun os started H enc _ => lifted8 plain os started H enc)
end Go.Proofs.Ythjkejbgknemgaa
namespace Go.Proofs.Ythjkejbgknemgaa
open Go.RowKit Classical
noncomputable def vdE (R : List (List Int)) (D u : List Int) : Int × Int := if logE R D = 0 then (if claimE u = 0 then (vdI R D u, 0) else (0, claimE u)) else (0, logE R D)
theorem plain8 : PlainClaimVerdicts := by
  intro R D u T hlen hrow hR hD hDz hul huz hTl hTz
  obtain ⟨k, hk⟩ : ∃ k, 5000 ≤ k := ⟨5000, Nat.le_refl _⟩
  refine ⟨k, ?_⟩
  have hb : Wf64 R := fun r hr z hz => bounds_i64 (hR r hr z hz)
  have e1 : ∀ x : Int, (x != x) = false := fun x => by simp
  have e5 : ∀ x : Int, (x == x) = true := fun x => by simp
  unfold p8
  obtain ⟨g, hg⟩ := p18_some (k := k) (R := R) (D := D)
  have main : (cl2 (p14 k R D u) fun v9 v10 => cl2 (p25 k R D u) fun v11 v12 => jn (fun (b13 : Bool) => sp b13 (some false) (cl2 (p28 k R D u) fun v20 v21 => lt' (v12 != (0 : Int)) fun b25 => sp b25 (jn (fun (b26 : Bool) => some b26) fun j27 => lt' (v21 == v12) fun b28 => sp b28 (lt' ((List.length v20 : Int) == (0 : Int)) fun b29 => sp b29 (cl (p12 k ) fun v30 => j27 v30) (j27 false)) (j27 false)) (lt' (v11 != (1 : Int)) fun b31 => sp b31 (jn (fun (b32 : Bool) => some b32) fun j33 => lt' (v21 == (15 : Int)) fun b34 => sp b34 (lt' ((List.length v20 : Int) == (0 : Int)) fun b35 => sp b35 (cl (p12 k ) fun v36 => j33 v36) (j33 false)) (j33 false)) (jn (fun (b37 : Bool) => some b37) fun j38 => lt' (v21 == (0 : Int)) fun b39 => sp b39 (cl (p27 k R D u v20) fun v40 => lt' (v40 == (0 : Int)) fun b41 => sp b41 (cl (p26 k R D u v20) fun v42 => lt' (v42 == (0 : Int)) fun b43 => sp b43 (cl (p12 k ) fun v44 => j38 v44) (j38 false)) (j38 false)) (j38 false))))) fun j14 => lt' (v9 != v11) fun b15 => sp b15 (j14 true) (lt' (v10 != v12) fun b16 => sp b16 (j14 true) (cl (p26 k R D u T) fun v17 => cl (p27 k R D u T) fun v18 => lt' (v17 != v18) fun b19 => j14 b19))) = some true := by
    have h14 : p14 k R D u = some (vdE R D u) := p14_eq hk hD
    have h25 : p25 k R D u = some (vdE R D u) := p25_eq hk hD hb
    rw [h14, h25, p26_eq hk hD, p27_eq hk hD hb, p28_eq hk hD, p12_eq hk]
    unfold vdE prvE
    by_cases hl : logE R D = 0
    · rw [if_pos hl, if_pos hl]
      by_cases hc : claimE u = 0
      · rw [if_pos hc, if_pos hc]
        by_cases hp : 0 ≤ pastI R u (must R D u)
        · rw [if_pos hp]
          have hv : vdI R D u ≠ 1 := fun hh => vd_proven.1 hh ((pastI_iff (asc_must R D u)).1 hp)
          have hv' : (vdI R D u != 1) = true := by simpa using hv
          simp only [cl2_v, cl_v, jn_v, lt_v, e1, e5, sp_ff, sp_tt, hv']
          rfl
        · rw [if_neg hp]
          have hv : vdI R D u = 1 := vd_proven.2 (fun hh => hp ((pastI_iff (asc_must R D u)).2 hh))
          have hchk : chk R D u (must R D u) = 0 := by
            have h := logE_zero.1 hl
            have hml := must_len R D u
            have hln : lastN R ≤ 2000 := by have := h.N; have := h.arg.span; omega
            unfold chk
            rw [if_pos hl, if_pos hc, if_neg (by omega), if_pos (asc_proofOk (asc_must R D u)), if_neg hp]
          have e0 : ((0 : Int) != 0) = false := rfl
          rw [hv]
          simp only [cl2_v, cl_v, jn_v, lt_v, e1, e5, sp_ff, sp_tt, p27_eq hk hD hb, p26_eq hk hD, hchk]
      · rw [if_neg hc, if_neg hc]
        have hc' : (claimE u != 0) = true := by simpa using hc
        simp only [cl2_v, cl_v, jn_v, lt_v, e1, e5, sp_ff, sp_tt, hc']
        rfl
    · rw [if_neg hl, if_neg hl]
      have hl' : (logE R D != 0) = true := by simpa using hl
      simp only [cl2_v, cl_v, jn_v, lt_v, e1, e5, sp_ff, sp_tt, hl']
      rfl
  have h12 := p12_eq hk
  simp only [jn_v, lt_v, cl_v, hg, h12, sp_d] at main ⊢
  cases g with
  | true => rfl
  | false =>
    rw [sp_ff]
    by_cases c1 : (T.length : Int) > 300
    · rw [if_pos c1]
      by_cases c2 : (T.length : Int) ≤ 2000
      · rw [if_pos c2]; rfl
      · rw [if_neg c2]
        by_cases c3 : (T.length : Int) > 2100
        · rw [if_pos c3]
        · rw [if_neg c3]; exact main
    · rw [if_neg c1]
      by_cases c3 : (T.length : Int) > 2100
      · rw [if_pos c3]
      · rw [if_neg c3]; exact main
theorem claimVerdicts_holds : Rows.ClaimVerdictsSaid := claimVerdicts_of plain8
end Go.Proofs.Ythjkejbgknemgaa
