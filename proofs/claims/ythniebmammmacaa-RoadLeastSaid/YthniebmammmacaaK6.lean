/- The law RoadLeast holds of every input. No condition: every theorem names its own hypotheses. -/
import Derived.Test.YthniebmammmacaaK5
import Derived.Test.YthniebmammmacaaRows
set_option linter.unusedVariables false
set_option linter.unusedSimpArgs false
set_option maxHeartbeats 4000000
namespace Go.Proofs.Ythniebmammmacaa
open Go.RowKit Classical
theorem setB_ext {n : Int} : ∀ {L L' : List Int} {a : Int}, setB n a L → setB n a L' → (∀ x, x ∈ L ↔ x ∈ L') → L = L'
  | [], [], _, _, _, _ => rfl
  | [], y :: r, _, _, _, h => by have := (h y).2 List.mem_cons_self; cases this
  | y :: r, [], _, _, _, h => by have := (h y).1 List.mem_cons_self; cases this
  | x :: r, y :: r', a, h1, h2, h => by
    have hx := (h x).1 List.mem_cons_self
    have hy := (h y).2 List.mem_cons_self
    have e : x = y := by
      rcases List.mem_cons.1 hx with e | e
      · exact e
      · rcases List.mem_cons.1 hy with e' | e'
        · exact e'.symm
        · have := (setB_mem h1.2.2 y e').1
          have := (setB_mem h2.2.2 x e).1
          omega
    subst e
    rw [setB_ext h1.2.2 h2.2.2 fun z => ?_]
    constructor
    · intro hz
      rcases List.mem_cons.1 ((h z).1 (List.mem_cons_of_mem _ hz)) with e | e
      · subst e; have := (setB_mem h1.2.2 z hz).1; omega
      · exact e
    · intro hz
      rcases List.mem_cons.1 ((h z).2 (List.mem_cons_of_mem _ hz)) with e | e
      · subst e; have := (setB_mem h2.2.2 z hz).1; omega
      · exact e
theorem setB_mask {n : Nat} {S : List Int} (hn : n ≤ 63) (hs : setB n (-1) S) (hS : S.length ≤ 1152921504606846975) : ∃ m : Nat, m < 2 ^ n ∧ bitsL m n = S := by
  obtain ⟨m, h1, h2, _⟩ := p53_eq fuK0 hn (S := S) (fun x hx => by have := setB_mem hs x hx; omega) hS
  exact ⟨m, h1, setB_ext bitsL_set hs h2⟩
theorem setB_len {n : Int} : ∀ {L : List Int} {a : Int}, setB n a L → a < n → (L.length : Int) ≤ n - a - 1
  | [], a, _, h => by simp only [List.length_nil]; omega
  | x :: L, a, h, _ => by
    have := setB_len h.2.2 h.2.1
    have := h.1
    simp only [List.length_cons]; omega
theorem cau_rows {R W z S i} : ∀ {d k : Nat}, ∀ r ∈ cau R W z S i d k, r.length = 4
  | 0, k, r, h => by cases h
  | d + 1, k, r, h => by
    rw [cau] at h
    split at h
    · rcases List.mem_cons.1 h with e | e
      · subst e; rfl
      · exact cau_rows r e
    · exact cau_rows r h
theorem fixl_id {L : List Int} (h : L.length = 4) : fixl 4 L = L := by
  match L, h with
  | [a, b, c, d], _ => rfl
theorem p70_r1_eq {k : Nat} {j : List (List Int) → Option (List (List Int))} : ∀ {L A : List (List Int)}, (∀ r ∈ L, r.length = 4) → A.length + L.length ≤ 1000000000000 → p70_r1 k j L A = j (A ++ L)
  | [], A, _, _ => by rw [p70_r1, List.append_nil]
  | x :: L, A, h, hl => by
    rw [p70_r1]
    simp only [lt_v, List.length_cons] at hl ⊢
    rw [fixl_id (h x List.mem_cons_self), gd_v (by simp only [List.length_nil]; omega), p70_r1_eq (fun r hr => h r (List.mem_cons_of_mem _ hr)) (by simp only [List.length_append, List.length_cons, List.length_nil]; omega), List.append_assoc]
    rfl
theorem cau_congr {R W z i} {S S' : List Int} (h : ∀ x, x ∈ S ↔ x ∈ S') : ∀ {d k : Nat}, cau R W z S i d k = cau R W z S' i d k
  | 0, k => rfl
  | d + 1, k => by rw [cau, cau, lim_congr h, cau_congr h]
theorem p26_l1_eq {k : Nat} (hk : Fu k) {P : Int} {R : List (List Int)} {W : List WT} {z S L : List Int} (h : MapOk P R W) (hS : setB W.length (-1) S) (hSl : S.length ≤ 1152921504606846975) (hL : rdsOk R.length L) (hl : L.length ≤ 1000000)
    {j : List (List Int) → Option (List (List Int) × Int)} : ∀ (d q f : Nat) (A : List (List Int)), q + d = L.length → d < f → A.length ≤ 6 * q →
    p26_l1 k S L j P R W z f (q : Int) A = j (A ++ cauL R W z S (L.drop q))
  | 0, q, f, A, h1, h2, h3 => by
    obtain ⟨f, rfl⟩ : ∃ n', f = n' + 1 := ⟨f - 1, by omega⟩
    rw [p26_l1]
    simp only [lt_v, sp_d]
    rw [iF (by omega), List.drop_eq_nil_of_le (by omega)]
    simp [cauL]
  | d + 1, q, f, A, h1, h2, h3 => by
    obtain ⟨f, rfl⟩ : ∃ n', f = n' + 1 := ⟨f - 1, by omega⟩
    have hw10 := h.w10
    have hx := hL _ (getD_mem (by omega : q < L.length))
    obtain ⟨i, hi⟩ : ∃ i : Nat, L.getD q 0 = (i : Int) := ⟨(L.getD q 0).toNat, by omega⟩
    obtain ⟨m, m1, m2, m3⟩ := p53_eq hk (n := W.length) (by omega) (S := S) (fun x hx => by have := setB_mem hS x hx; omega) hSl
    have hcl := cau_len (R := R) (W := W) (z := z) (S := S) (i := i) (d := 6) (k := 0)
    rw [p26_l1]
    simp only [lt_v, sp_d, Int.toNat_natCast]
    rw [iT (by omega), gd_v (by omega), m3, cl_v, hi, p71_eq hk h.wOk (by omega) m1 (Nat.le_refl _) (by omega), cl_v, cau_congr m2]
    unfold p70
    simp only [jn_v]
    rw [p70_r1_eq cau_rows (by omega), cl_v, wr_succ (n := L.length) (by omega) (by omega), p26_l1_eq hk h hS hSl hL hl d (q + 1) f _ (by omega) (by omega) (by rw [List.length_append]; omega), getD_drop (by omega : q < L.length), hi]
    unfold cauL
    rw [List.flatMap_cons, List.append_assoc, Int.toNat_natCast]
theorem p26_eq {k : Nat} (hk : Fu k) {P : Int} {R : List (List Int)} {W : List WT} {z S L : List Int} (hr : ∀ r ∈ R, r.length = 12) (hz6 : z.length = 6) (hSl : S.length ≤ 1152921504606846975) :
    p26 k P R W z S L = some (if ¬ MapOk P R W then ([], chkE P R W) else if ¬ SzOk z then ([], 2) else if ¬ setB W.length (-1) S then ([], 3) else if rdsE R.length L ≠ 0 then ([], rdsE R.length L) else (cauL R W z S L, 0)) := by
  unfold p26
  rw [p68_eq hk hr hz6]
  by_cases h : MapOk P R W
  rotate_left
  · rw [iF h, iT h, cl5_v, gd_v (by rfl)]
    simp only [lt_v, chkE_ne, sp_d]
    rw [iT h]
  rw [iT h, iF (not_not_intro h), cl5_v, gd_v hz6]
  simp only [lt_v, szE_ne, sp_d]
  by_cases hz : SzOk z
  rotate_left
  · rw [iT hz, iT hz]; unfold szE; rw [iF hz]
  rw [iF (not_not_intro hz), iF (not_not_intro hz), p69_eq hk hSl, cl_v, sp_d]
  by_cases hS : setB W.length (-1) S
  rotate_left
  · rw [iF hS, iT hS]
  rw [iT hS, iF (not_not_intro hS), p66_eq hk, cl_v, bne_d, sp_d]
  by_cases he : rdsE R.length L = 0
  rotate_left
  · rw [iT he, iT he]
  rw [iF (not_not_intro he), iF (not_not_intro he)]
  have hrd : rdsOk R.length L ∧ L.length ≤ 256 := by
    unfold rdsE at he
    by_cases h1 : 256 < L.length
    · rw [iT h1] at he; cases he
    · rw [iF h1] at he
      by_cases h2 : rdsOk R.length L
      · exact ⟨h2, by omega⟩
      · rw [iF h2] at he; cases he
  simp only [jn_v]
  have := p26_l1_eq hk h hS hSl hrd.1 (by omega) (z := z) (j := fun R35 => some (R35, (0 : Int))) L.length 0 k [] (by omega) (by unfold Fu at hk; omega) (by simp)
  rw [List.drop_zero, List.nil_append] at this
  exact this
def allUs (R : List (List Int)) (W : List WT) (z L S : List Int) : Prop := ∀ x ∈ L, us R W z S x.toNat
theorem cauL_nil {R W z S L} : cauL R W z S L = [] ↔ allUs R W z L S := by
  unfold cauL allUs
  rw [List.flatMap_eq_nil_iff]
  exact ⟨fun h x hx => us_cau.1 (h x hx), fun h x hx => us_cau.2 (h x hx)⟩
theorem p85c_eq {k m : Nat} (hk : Fu k) {P : Int} {R : List (List Int)} {W : List WT} {z L : List Int} (h : MapOk P R W) (hm : m < 2 ^ W.length) (hL : rdsOk R.length L) (hl : L.length ≤ 1000000) :
    p85c k L P R W z (m : Int) = some (decide (¬ allUs R W z L (bitsL m W.length))) := by
  have hk' := hk
  unfold Fu at hk'
  have hw10 := h.w10
  unfold p85c p125c
  simp only [jn_v]
  rw [srchI0 (F := p125c_l1 k L P R W z (m : Int) (some (-1))) (len := L.length) (n := k) (fun i => ¬ us R W z (bitsL m W.length) (L.getD i 0).toNat) (by omega)]
  · simp only [cl_v, lt_v]
    rw [fst_pos]
    refine congrArg some (dI ⟨fun ⟨j, a, b⟩ g => b (g _ (getD_mem a)), fun g => Classical.byContradiction fun g2 => g fun x hx => ?_⟩)
    obtain ⟨i, hi, rfl⟩ := mem_getD hx
    exact Classical.byContradiction fun g3 => g2 ⟨i, hi, g3⟩
  · intro n; rw [p125c_l1]; simp only [lt_v, sp_d]; rw [iF (by omega)]
  · intro n i hi
    have hx := hL _ (getD_mem hi)
    obtain ⟨q, hq⟩ : ∃ q : Nat, L.getD i 0 = (q : Int) := ⟨(L.getD i 0).toNat, by omega⟩
    rw [p125c_l1]
    unfold p86
    simp only [lt_v, sp_d, Int.toNat_natCast]
    rw [iT (by omega), gd_v (by omega), hq, p55_eq hk h.wOk (by omega) hm (Nat.le_refl _) (by omega), cl_v, cl_v, wr_succ hi (by omega), sp_nd, Int.toNat_natCast]
    by_cases g : us R W z (bitsL m W.length) q
    · exact .inr ⟨not_not_intro g, iT g⟩
    · exact .inl ⟨g, iF g⟩
theorem p84_eq {k m : Nat} (hk : Fu k) {P : Int} {R : List (List Int)} {W : List WT} {z L : List Int} (h : MapOk P R W) (hm : m < 2 ^ W.length) (hL : rdsOk R.length L) (hl : L.length ≤ 1000000) :
    p84 k (m : Int) P R W z L = some (costL W (bitsL m W.length), !decide (¬ allUs R W z L (bitsL m W.length))) := by
  have hw10 := h.w10
  unfold p84
  rw [p77_eq hk h.wcOk (by omega) hm (Nat.le_refl _), cl_v, p85c_eq hk h hm hL hl, cl_v]
theorem p72b_r1_eq {k : Nat} {P : Int} {R : List (List Int)} {W : List WT} {z l : List Int} {ok : Nat → Prop} {f : Nat → Int} {j : Int → Int → Bool → Option (Int × Int × Bool)} : ∀ {L : List Nat} {x y : Int} {b : Bool},
    (∀ s ∈ L, ∃ b : Bool, (b = true ↔ ok s) ∧ p84 k (s : Int) P R W z l = some (f s, b)) → p72b_r1 k j P R W z l (natL L) x y b = j (least ok f L (x, y, b)).1 (least ok f L (x, y, b)).2.1 (least ok f L (x, y, b)).2.2
  | [], x, y, b, _ => rfl
  | s :: L, x, y, b, h => by
    obtain ⟨b0, hb0, h0⟩ := h s List.mem_cons_self
    have ih := fun x y b => p72b_r1_eq (k := k) (P := P) (R := R) (W := W) (z := z) (l := l) (ok := ok) (f := f) (j := j) (L := L) (x := x) (y := y) (b := b) (fun t ht => h t (List.mem_cons_of_mem _ ht))
    show p72b_r1 k j P R W z l ((s : Int) :: natL L) x y b = _
    rw [p72b_r1, h0, cl2_v]
    simp only [jn_v, lt_v, ih]
    rw [least]
    by_cases hok : ok s
    · rw [hb0.2 hok, sp_tt]
      cases b with
      | false => rw [sp_ff, sp_tt, iT ⟨hok, .inl rfl⟩]
      | true =>
        rw [sp_tt, sp_d]
        by_cases g : f s < y
        · rw [iT g, iT ⟨hok, .inr g⟩]
        · rw [iF g, iF]
          rintro ⟨_, e | e⟩
          · cases e
          · exact g e
    · have : b0 = false := by cases b0 with
        | false => rfl
        | true => exact absurd (hb0.1 rfl) hok
      rw [this, sp_ff, sp_ff, iF (fun h => hok h.1)]
noncomputable def bestW (R : List (List Int)) (W : List WT) (z L : List Int) : Int × Int × Bool := least (fun s => allUs R W z L (bitsL s W.length)) (fun s => costL W (bitsL s W.length)) (setsL W.length) (0, 0, false)
noncomputable def worksE (R : List (List Int)) (W : List WT) (z L : List Int) : List Int × Int × Int :=
  if (bestW R W z L).2.2 = true then (bitsL (bestW R W z L).1.toNat W.length, (bestW R W z L).2.1, 0) else ([], 0, 15)
theorem p31_eq {k : Nat} (hk : Fu k) {P : Int} {R : List (List Int)} {W : List WT} {z L : List Int} (hr : ∀ r ∈ R, r.length = 12) (hz6 : z.length = 6) :
    p31 k P R W z L = some (if ¬ MapOk P R W then ([], 0, chkE P R W) else if ¬ SzOk z then ([], 0, 2) else if rdsE R.length L ≠ 0 then ([], 0, rdsE R.length L) else worksE R W z L) := by
  unfold p31
  rw [p68_eq hk hr hz6]
  by_cases h : MapOk P R W
  rotate_left
  · rw [iF h, iT h, cl5_v, gd_v (by rfl)]
    simp only [lt_v, chkE_ne, sp_d]
    rw [iT h]
  rw [iT h, iF (not_not_intro h), cl5_v, gd_v hz6]
  simp only [lt_v, szE_ne, sp_d]
  by_cases hz : SzOk z
  rotate_left
  · rw [iT hz, iT hz]; unfold szE; rw [iF hz]
  have hw10 := h.w10
  rw [iF (not_not_intro hz), iF (not_not_intro hz), p66_eq hk, cl_v, bne_d, sp_d]
  by_cases he : rdsE R.length L = 0
  rotate_left
  · rw [iT he, iT he]
  rw [iF (not_not_intro he), iF (not_not_intro he), p73_eq hk (by omega), cl_v]
  have hrd : rdsOk R.length L ∧ L.length ≤ 256 := by
    unfold rdsE at he
    by_cases h1 : 256 < L.length
    · rw [iT h1] at he; cases he
    · rw [iF h1] at he
      by_cases h2 : rdsOk R.length L
      · exact ⟨h2, by omega⟩
      · rw [iF h2] at he; cases he
  have e : p72b k (natL (setsL W.length)) P R W z L = some (bestW R W z L) := by
    unfold p72b
    simp only [jn_v]
    rw [p72b_r1_eq (ok := fun s => allUs R W z L (bitsL s W.length)) (f := fun s => costL W (bitsL s W.length)) (fun s hs => ⟨_, ?_, p84_eq hk h (mem_setsL.1 hs) hrd.1 (by omega)⟩)]
    · rfl
    · by_cases g : allUs R W z L (bitsL s W.length)
      · rw [dF (not_not_intro g)]; exact ⟨fun _ => g, fun _ => rfl⟩
      · rw [dT g]; exact ⟨fun a => (by cases a), fun a => absurd a g⟩
  unfold worksE
  have hl := least_from (ok := fun s => allUs R W z L (bitsL s W.length)) (f := fun s => costL W (bitsL s W.length)) (L := setsL W.length) (x := 0) (y := 0)
  rcases hl with ⟨h1, h2⟩ | ⟨s, h1, h2, h3, h4⟩
  · have h2' : bestW R W z L = (0, 0, false) := h2
    rw [e, h2', cl3_v, sp_ff, iF (by decide)]
  · have h3' : bestW R W z L = ((s : Int), costL W (bitsL s W.length), true) := h3
    have hs := mem_setsL.1 h1
    have hbl := bitsL_len (m := s) (n := W.length)
    rw [e, h3', cl3_v, sp_tt, p79_eq hk (by omega) hs, cl_v, p78_eq (by omega), cl_v, iT rfl, Int.toNat_natCast]
theorem worksE_spec {R : List (List Int)} {W : List WT} {z L : List Int} :
    (worksE R W z L = ([], 0, 15) ∧ ∀ s, s < 2 ^ W.length → ¬ allUs R W z L (bitsL s W.length)) ∨
    (∃ s, s < 2 ^ W.length ∧ worksE R W z L = (bitsL s W.length, costL W (bitsL s W.length), 0) ∧ allUs R W z L (bitsL s W.length) ∧ ∀ t, t < 2 ^ W.length → allUs R W z L (bitsL t W.length) → costL W (bitsL s W.length) ≤ costL W (bitsL t W.length)) := by
  unfold worksE
  have hl := least_from (ok := fun s => allUs R W z L (bitsL s W.length)) (f := fun s => costL W (bitsL s W.length)) (L := setsL W.length) (x := 0) (y := 0)
  rcases hl with ⟨h1, h2⟩ | ⟨s, h1, h2, h3, h4⟩
  · have h2' : bestW R W z L = (0, 0, false) := h2
    exact .inl ⟨by rw [h2', iF (by decide)], fun s hs => h1 s (mem_setsL.2 hs)⟩
  · have h3' : bestW R W z L = ((s : Int), costL W (bitsL s W.length), true) := h3
    exact .inr ⟨s, mem_setsL.1 h1, by rw [h3', iT rfl, Int.toNat_natCast], h2, fun t ht hok => h4 t (mem_setsL.2 ht) hok⟩
theorem p30_eq {k : Nat} (hk : Fu k) {L : List Int} {n : Int} (hl : L.length ≤ 1152921504606846975) : p30 k L n = some (decide (∀ x ∈ L, 0 ≤ x ∧ x < n)) := by
  unfold Fu at hk
  unfold p30
  simp only [jn_v]
  have hs := srch0 (F := p30_l1 k L n (some true)) (len := L.length) (n := k) (A := some false) (J := some true) (fun i => ¬ (0 ≤ L.getD i 0 ∧ L.getD i 0 < n)) (by omega) ?_ ?_
  · rcases hs with ⟨⟨j, a, b⟩, e⟩ | ⟨h, e⟩
    · rw [e, dF]; intro h; exact b (h _ (getD_mem a))
    · rw [e, dT]; intro x hx; obtain ⟨i, hi, rfl⟩ := mem_getD hx; exact Classical.byContradiction (h i hi)
  · intro n; rw [p30_l1]; simp only [lt_v, sp_d]; rw [iF (by omega)]
  · intro n' i hi
    rw [p30_l1]
    simp only [lt_v, sp_d, jn_v, sp_tt]
    rw [iT (by omega), gd_v (by omega), gd_v (by omega), Int.toNat_natCast, wr_succ hi (by omega)]
    by_cases h : L.getD i 0 < 0
    · exact .inl ⟨by omega, by rw [iT h]⟩
    rw [iF h]
    by_cases h2 : L.getD i 0 ≥ n
    · exact .inl ⟨by omega, by rw [iT h2]⟩
    · exact .inr ⟨by omega, by rw [iF h2]⟩
def costR (R : List (List Int)) : List Int → Int
  | [] => 0
  | x :: L => rC (rd R x.toNat) + costR R L
def rcOk (R : List (List Int)) : Prop := ∀ i, i < R.length → 1 ≤ rC (rd R i) ∧ rC (rd R i) ≤ 1073741824
theorem costR_le {R : List (List Int)} (hc : rcOk R) : ∀ {L : List Int}, rdsOk R.length L → 0 ≤ costR R L ∧ costR R L ≤ 1073741824 * (L.length : Int)
  | [], _ => by simp [costR]
  | x :: L, hs => by
    have hx := hs x List.mem_cons_self
    have h1 := hc x.toNat (by omega)
    have := costR_le hc (L := L) (fun y hy => hs y (List.mem_cons_of_mem _ hy))
    simp only [costR, List.length_cons]
    omega
theorem MapOk.rcOk {P R W} (h : MapOk P R W) : rcOk R := fun i hi => by have := (h.road i hi).ar; unfold RoadA at this; omega
theorem p33_l1_eq {k : Nat} {R : List (List Int)} {L : List Int} {j : Int → Option Int} (hc : rcOk R) (hs : rdsOk R.length L) : ∀ (d q f : Nat) (a : Int), q + d = L.length → d < f → 0 ≤ a → a + 1073741824 * (d : Int) ≤ 9223372036854775807 → L.length ≤ 1152921504606846975 →
    p33_l1 k R L j f a (q : Int) = j (a + costR R (L.drop q))
  | 0, q, f, a, h1, h2, _, _, _ => by
    obtain ⟨f, rfl⟩ : ∃ n', f = n' + 1 := ⟨f - 1, by omega⟩
    rw [p33_l1]
    simp only [lt_v, sp_d]
    rw [iF (by omega), List.drop_eq_nil_of_le (by omega)]
    simp [costR]
  | d + 1, q, f, a, h1, h2, h0, h3, h4 => by
    obtain ⟨f, rfl⟩ : ∃ n', f = n' + 1 := ⟨f - 1, by omega⟩
    have hx := hs _ (getD_mem (by omega : q < L.length))
    have h5 := hc (L.getD q 0).toNat (by omega)
    have h6 : R.getD (L.getD q 0).toNat [] = rd R (L.getD q 0).toNat := rfl
    have h7 : (rd R (L.getD q 0).toNat).getD 2 0 = rC (rd R (L.getD q 0).toNat) := rfl
    rw [p33_l1]
    simp only [lt_v, sp_d, Int.toNat_natCast]
    rw [iT (by omega), gd_v (by omega), gd_v (by omega), h6, h7, wr64 (by omega) (by omega), wr_succ (n := L.length) (by omega) (by omega), p33_l1_eq hc hs d (q + 1) f _ (by omega) (by omega) (by omega) (by omega) h4, getD_drop (by omega : q < L.length)]
    simp only [costR]
    rw [Int.add_assoc]
theorem p33_l2_eq {k : Nat} {W : List WT} {S : List Int} {j : Int → Option Int} (hc : wcOk W) (hs : sOk W S) : ∀ (d q f : Nat) (a : Int), q + d = S.length → d < f → 0 ≤ a → a + 1073741824 * (d : Int) ≤ 9223372036854775807 → S.length ≤ 1152921504606846975 →
    p33_l2 k W S j f a (q : Int) = j (a + costL W (S.drop q))
  | 0, q, f, a, h1, h2, _, _, _ => by
    obtain ⟨f, rfl⟩ : ∃ n', f = n' + 1 := ⟨f - 1, by omega⟩
    rw [p33_l2]
    simp only [lt_v, sp_d]
    rw [iF (by omega), List.drop_eq_nil_of_le (by omega)]
    simp [costL]
  | d + 1, q, f, a, h1, h2, h0, h3, h4 => by
    obtain ⟨f, rfl⟩ : ∃ n', f = n' + 1 := ⟨f - 1, by omega⟩
    have hx := hs _ (getD_mem (by omega : q < S.length))
    have h5 := hc (S.getD q 0).toNat (by omega)
    have h6 : W.getD (S.getD q 0).toNat ([], []) = wk W (S.getD q 0).toNat := rfl
    have h7 : (wk W (S.getD q 0).toNat).2.getD 2 0 = wC (wk W (S.getD q 0).toNat) := rfl
    rw [p33_l2]
    simp only [lt_v, sp_d, Int.toNat_natCast]
    rw [iT (by omega), gd_v (by omega), gd_v (by omega), h6, h7, wr64 (by omega) (by omega), wr_succ (n := S.length) (by omega) (by omega), p33_l2_eq hc hs d (q + 1) f _ (by omega) (by omega) (by omega) (by omega) h4, getD_drop (by omega : q < S.length)]
    simp only [costL]
    rw [Int.add_assoc]
theorem p33_eq {k : Nat} (hk : Fu k) {P : Int} {R : List (List Int)} {W : List WT} {L S : List Int} (hc : rcOk R) (hw : wcOk W) (hL : rdsOk R.length L) (hs : sOk W S) (hl : L.length ≤ 1000000) (hS : S.length ≤ 1000000) : p33 k P R W L S = some (costR R L + costL W S) := by
  unfold Fu at hk
  unfold p33
  simp only [jn_v]
  have h0 := costR_le hc hL
  have h1 := p33_l1_eq (k := k) (R := R) (L := L) (j := fun x1 => p33_l2 k W S (fun x13 => some x13) k x1 0) hc hL L.length 0 k 0 (by omega) (by omega) (by omega) (by omega) (by omega)
  rw [List.drop_zero, Int.zero_add] at h1
  rw [show ((0 : Nat) : Int) = 0 from rfl] at h1
  rw [h1]
  have h2 := p33_l2_eq (k := k) (W := W) (S := S) (j := fun x13 => some x13) hw hs S.length 0 k (costR R L) (by omega) (by omega) (by omega) (by omega) (by omega)
  rw [List.drop_zero] at h2
  exact h2
end Go.Proofs.Ythniebmammmacaa
namespace Go.Proofs.Ythniebmammmacaa
open Go.RowKit Classical
theorem setB_weak {n a a' : Int} (h : a' ≤ a) : ∀ {L : List Int}, setB n a L → setB n a' L
  | [], _ => trivial
  | x :: L, g => ⟨by have := g.1; omega, g.2.1, g.2.2⟩
def without (L : List Int) (i : Nat) : List Int := part L 0 i ++ part L (i + 1) L.length
theorem without_eq {L : List Int} {i : Nat} : without L i = L.take i ++ L.drop (i + 1) := by
  unfold without part
  rw [List.drop_zero, Nat.sub_zero, List.take_of_length_le (l := L.drop (i + 1)) (by rw [List.length_drop]; omega)]
theorem setB_take {n : Int} : ∀ {L : List Int} {i : Nat} {a : Int}, setB n a L → setB n a (L.take i ++ L.drop (i + 1))
  | [], i, a, _ => by simp [setB]
  | x :: L, 0, a, h => by simpa using setB_weak (Int.le_of_lt h.1) h.2.2
  | x :: L, i + 1, a, h => by
    simp only [List.take_succ_cons, List.drop_succ_cons, List.cons_append]
    exact ⟨h.1, h.2.1, setB_take h.2.2⟩
theorem costL_take {W : List WT} : ∀ {L : List Int} {i : Nat}, i < L.length → costL W (L.take i ++ L.drop (i + 1)) + wC (wk W (L.getD i 0).toNat) = costL W L
  | x :: L, 0, _ => by simp [costL]; omega
  | x :: L, i + 1, h => by
    have := costL_take (W := W) (L := L) (i := i) (by simpa using h)
    simp only [List.take_succ_cons, List.drop_succ_cons, List.cons_append, costL, List.getD_cons_succ]
    omega
theorem p34_eq {k : Nat} (hk : Fu k) {P : Int} {R : List (List Int)} {W : List WT} {z S L : List Int} (h : MapOk P R W) (hz : SzOk z) (hz6 : z.length = 6) (hr : ∀ r ∈ R, r.length = 12) (he : rdsE R.length L = 0)
    (hS : setB W.length (-1) S) (hu : allUs R W z L S) (hm : ∀ t, t < 2 ^ W.length → allUs R W z L (bitsL t W.length) → costL W S ≤ costL W (bitsL t W.length)) : p34 k P R W z S L = some true := by
  have hk' := hk
  unfold Fu at hk'
  have hw10 := h.w10
  have hSl := setB_len hS (by omega)
  have hca : ∀ S', setB W.length (-1) S' → S'.length ≤ 1000000 → p26 k P R W z S' L = some (cauL R W z S' L, 0) := by
    intro S' g1 g2
    rw [p26_eq hk hr hz6 (by omega), iF (not_not_intro h), iF (not_not_intro hz), iF (not_not_intro g1), iF (not_not_intro he)]
  unfold p34
  rw [hca S hS (by omega), cl2_v, cauL_nil.2 hu]
  simp only [jn_v, lt_v]
  rw [show ((0 : Int) != 0) = false from rfl, sp_ff, show ((List.length ([] : List (List Int)) : Int) != 0) = false from rfl, sp_ff]
  have hs := srch0 (F := p34_l1 k P R W z S L (some true)) (len := S.length) (n := k) (A := some false) (J := some true) (fun _ => False) (by omega) ?_ ?_
  · rcases hs with ⟨⟨j, _, b⟩, _⟩ | ⟨_, e⟩
    · exact b.elim
    · exact e
  · intro n; rw [p34_l1]; simp only [lt_v, sp_d]; rw [iF (by omega)]
  · intro n i hi
    refine .inr ⟨id, ?_⟩
    have hl1 : (part S 0 i).length ≤ S.length := by unfold part; simp; omega
    have hl2 : (part S (i + 1) S.length).length ≤ S.length := by unfold part; simp
    have hwo : setB W.length (-1) (without S i) := by rw [without_eq]; exact setB_take hS
    have hwl : (without S i).length ≤ 1000000 := by unfold without; rw [List.length_append]; omega
    have hne : cauL R W z (without S i) L ≠ [] := by
      intro g
      obtain ⟨t, t1, t2⟩ := setB_mask (n := W.length) (by omega) hwo (by omega)
      have hg := cauL_nil.1 g
      rw [← t2] at hg
      have h1 := hm t t1 hg
      rw [t2, without_eq] at h1
      have h2 := costL_take (W := W) hi
      have hx := setB_mem hS _ (getD_mem hi)
      have h3 := h.wcOk (S.getD i 0).toNat (by omega)
      omega
    rw [p34_l1]
    simp only [lt_v, sp_d, jn_v, List.nil_append, Int.toNat_natCast]
    rw [iT (by omega), gd_v (by omega), gd_v (by simp only [List.length_nil]; omega), wr_succ hi (by omega), Int.toNat_natCast, gd_v (by omega), gd_v (by omega)]
    have e : part S 0 i ++ part S (i + 1) S.length = without S i := rfl
    rw [e, hca _ hwo hwl, cl2_v, show ((0 : Int) != 0) = false from rfl, sp_ff]
    have e2 : ((List.length (cauL R W z (without S i) L) : Int) == 0) = false := by
      rw [beq_d, dF]
      intro g
      exact hne (List.length_eq_zero_iff.1 (by omega))
    rw [e2, sp_ff]
end Go.Proofs.Ythniebmammmacaa
namespace Go.Proofs.Ythniebmammmacaa
open Go.RowKit Classical
inductive Chn (R : List (List Int)) (to : Nat) : Nat → List Int → Prop
  | nil : Chn R to to []
  | cons {a i : Nat} {l : List Int} : i < R.length → rF (rd R i) = (a : Int) → Chn R to (rT (rd R i)).toNat l → Chn R to a ((i : Int) :: l)
theorem Chn.rds {R to} {a : Nat} {l : List Int} (h : Chn R to a l) : rdsOk R.length l := by
  induction h with
  | nil => intro x hx; cases hx
  | cons hi _ _ ih =>
    intro x hx
    rcases List.mem_cons.1 hx with e | e
    · subst e; omega
    · exact ih x e
theorem Chn.pth {R to} {U : Nat → Prop} {a : Nat} {l : List Int} (h : Chn R to a l) (hu : ∀ x ∈ l, U x.toNat) : Pth R U a to (costR R l) := by
  induction h with
  | nil => exact .nil _
  | @cons a i l hi hf _ ih =>
    have := Pth.cons (U := U) hi (by have := hu (i : Int) List.mem_cons_self; rwa [Int.toNat_natCast] at this) (ih fun x hx => hu x (List.mem_cons_of_mem _ hx))
    rw [show (rF (rd R i)).toNat = a from by omega] at this
    simp only [costR, Int.toNat_natCast]
    rw [Int.add_comm]
    exact this
theorem Rt.chn {R U L to} {a : Nat} {rs : List Int} {m : Int} (h : Rt R U L to a rs m) : Chn R to a rs := by
  induction h with
  | nil => exact .nil
  | cons _ hi hon _ _ _ ih => exact .cons hi hon.1 ih
theorem Rt.us {R U L to} {a : Nat} {rs : List Int} {m : Int} (h : Rt R U L to a rs m) : ∀ x ∈ rs, U x.toNat := by
  induction h with
  | nil => intro x hx; cases hx
  | cons _ _ _ hu _ _ ih =>
    intro x hx
    rcases List.mem_cons.1 hx with e | e
    · subst e; exact hu
    · exact ih x e
theorem Rt.cost {R U L to} {a : Nat} {rs : List Int} {m : Int} (h : Rt R U L to a rs m) : L.getD a 0 = costR R rs + L.getD to 0 := by
  induction h with
  | nil => simp [costR]
  | cons _ _ hon _ _ _ ih =>
    have := hon.2
    simp only [costR, Int.toNat_natCast]
    omega
theorem Rt.len {R U L to P} (hc : rcOk R) {a : Nat} {rs : List Int} {m : Int} (h : Rt R U L to a rs m) (ht : ∀ i, i < R.length → (rT (rd R i)).toNat < P) : rs.length ≤ cnt (fun v => L.getD v 0 < L.getD a 0) P := by
  induction h with
  | nil => exact Nat.zero_le _
  | @cons a i rs m _ hi hon _ _ _ ih =>
    have h1 := hc i hi
    have h2 := hon.2
    have h3 := cnt_lt (p := fun v => L.getD v 0 < L.getD (rT (rd R i)).toNat 0) (q := fun v => L.getD v 0 < L.getD a 0) (fun v (hv : L.getD v 0 < L.getD (rT (rd R i)).toNat 0) => by show L.getD v 0 < L.getD a 0; omega)
      (j := (rT (rd R i)).toNat) (by show L.getD (rT (rd R i)).toNat 0 < L.getD a 0; omega) (by show ¬ L.getD (rT (rd R i)).toNat 0 < L.getD (rT (rd R i)).toNat 0; omega) (ht i hi)
    simp only [List.length_cons]
    omega
def minR (R : List (List Int)) : List Int → Int
  | [] => 0
  | x :: L => rM (rd R x.toNat) + minR R L
theorem Rt.mins {R U L to} {a : Nat} {rs : List Int} {m : Int} (h : Rt R U L to a rs m) : m = minR R rs := by
  induction h with
  | nil => rfl
  | cons _ _ _ _ _ _ ih => simp only [minR, Int.toNat_natCast]; rw [ih]
theorem mfind_mput (k v : Int) : ∀ (E : List (Int × Int)) (k' : Int), mfind (mput E k v) k' = if k = k' then some v else mfind E k'
  | [], k' => by simp [mput, mfind]
  | p :: E, k' => by
    rw [mput]
    by_cases h : p.1 = k
    · rw [if_pos h]
      simp only [mfind, h]
      split <;> rfl
    · rw [if_neg h]
      simp only [mfind, mfind_mput k v E k']
      by_cases h2 : p.1 = k'
      · rw [if_pos h2, if_pos h2, if_neg (fun e => h (h2.trans e.symm))]
      · rw [if_neg h2, if_neg h2]
theorem mget_mput {E : List (Int × Int)} {k v k' : Int} : mget (mput E k v) k' = if k = k' then v else mget E k' := by
  unfold mget
  rw [mfind_mput]
  split <;> rfl
theorem p25_l1_rt {k : Nat} {R U L} {to : Nat} (hc : rcOk R) (hL : ∀ v, 0 ≤ L.getD v 0) (hT : ∀ i, i < R.length → 0 ≤ rT (rd R i)) {l : List Int} (hl : l.length ≤ 1000000) {j : Int → List (Int × Int) → Option (Bool × Int)} {b : Bool × Int} (hj : ∀ E, j (to : Int) E = some b) :
    ∀ {a : Nat} {rs : List Int} {m : Int}, Rt R U L to a rs m → ∀ (q f : Nat) (E : List (Int × Int)), l.drop q = rs → q ≤ l.length → rs.length < f → (∀ v : Int, mget E v ≠ 0 → ∃ n : Nat, v = (n : Int) ∧ L.getD a 0 ≤ L.getD n 0) →
    p25_l1 k R l j f (a : Int) (q : Int) E = some b := by
  intro a rs m h
  induction h with
  | nil =>
    intro q f E hd hq hf _
    obtain ⟨f, rfl⟩ : ∃ f', f = f' + 1 := ⟨f - 1, by omega⟩
    have : l.length ≤ q := by
      have := congrArg List.length hd
      rw [List.length_drop] at this
      simp at this; omega
    rw [p25_l1]
    simp only [lt_v, sp_d]
    rw [iF (by omega)]
    exact hj E
  | @cons a i rs m hne hi hon _ _ _ ih =>
    intro q f E hd hq hf hE
    obtain ⟨f, rfl⟩ : ∃ f', f = f' + 1 := ⟨f - 1, by omega⟩
    have hql : q < l.length := by
      have := congrArg List.length hd
      rw [List.length_drop] at this
      simp at this; omega
    rw [getD_drop hql] at hd
    injection hd with hd1 hd2
    have h1 := hc i hi
    have h2 := hon.2
    have h3 := hT i hi
    have hz : mget E (rT (rd R i)) = 0 := by
      refine Classical.byContradiction fun g => ?_
      obtain ⟨n, e1, e2⟩ := hE _ g
      rw [show (rT (rd R i)).toNat = n from by omega] at h2
      omega
    have hF := hon.1
    rw [p25_l1]
    simp only [lt_v, sp_d, jn_v, bne_d, Int.toNat_natCast]
    have hd3 : R.getD i [] = rd R i := rfl
    rw [iT (by omega), gd_v (by omega), hd1, gd_v (by omega), Int.toNat_natCast, hd3]
    simp only [show (rd R i).getD 0 0 = rF (rd R i) from rfl, show (rd R i).getD 1 0 = rT (rd R i) from rfl, hz, mget_mput]
    rw [iF (by omega), iT trivial, wr64 (z := 0 + 1) (by omega) (by omega), iF (by omega), wr_succ (n := l.length) hql (by omega)]
    have := ih (q + 1) f (mput E (rT (rd R i)) (0 + 1)) hd2 (by omega) (by simp only [List.length_cons] at hf; omega) (by
      intro v hv
      rw [mget_mput] at hv
      by_cases e : rT (rd R i) = v
      · exact ⟨(rT (rd R i)).toNat, by omega, Int.le_refl _⟩
      · rw [if_neg e] at hv
        obtain ⟨n, e1, e2⟩ := hE v hv
        exact ⟨n, e1, by omega⟩)
    rw [show ((rT (rd R i)).toNat : Int) = rT (rd R i) from by omega] at this
    exact this
theorem getB_set {L : List Bool} {i j : Nat} {v : Bool} (hi : i < L.length) : (L.set i v).getD j false = if i = j then v else L.getD j false := getDB hi
theorem p27_spec {P : Int} {R : List (List Int)} {W : List WT} (h : MapOk P R W) {to : Nat} : ∀ (d f : Nat) (most : Int) (l : List Int) (a : Nat) (seen : List Bool), d + 1000 ≤ f → 1 ≤ most → most ≤ 1000 → l.length + d ≤ 200 → seen.length = P.toNat → a < P.toNat → seen.getD a false = false →
    cnt (fun v => seen.getD v false = false) P.toNat ≤ d →
    ∃ v, p27 f P R W (to : Int) most l (a : Int) seen = some v ∧ (v.length : Int) ≤ most ∧ ∀ x ∈ v, x.2 = [] ∧ ∃ s, x.1 = l ++ s ∧ Chn R to a s ∧ s.length ≤ d
  | d, f + 1, most, l, a, seen, hf, hm1, hm2, hl, hs, ha, hsa, hc => by
    have h256 := h.r256
    have hp := h.places
    rw [p27]
    simp only [lt_v, beq_d, sp_d]
    by_cases e : a = to
    · subst e
      rw [iT rfl]
      refine ⟨_, rfl, by simpa using hm1, fun x hx => ?_⟩
      rw [List.mem_singleton] at hx
      subst hx
      exact ⟨rfl, [], by simp, .nil, Nat.zero_le _⟩
    · have hlt : ∀ v, (seen.set a true).getD v false = if a = v then true else seen.getD v false := fun v => getB_set (by omega)
      have hcl : cnt (fun v => (seen.set a true).getD v false = false) P.toNat < cnt (fun v => seen.getD v false = false) P.toNat := by
        refine cnt_lt (j := a) (fun v hv => ?_) hsa ?_ ha
        · have hv' : (seen.set a true).getD v false = false := hv
          rw [hlt v] at hv'
          split at hv'
          · cases hv'
          · exact hv'
        · show ¬ (seen.set a true).getD a false = false
          rw [hlt a, if_pos rfl]; decide
      obtain ⟨d, rfl⟩ : ∃ d', d = d' + 1 := ⟨d - 1, by omega⟩
      rw [iF (by omega), gd_v (by simp only [List.length_nil]; omega), List.nil_append, gd_v (by omega), Int.toNat_natCast]
      simp only [jn_v]
      -- the loop over the roads
      have loop : ∀ (q i n : Nat) (A : List WT), i + q = R.length → q < n → (A.length : Int) ≤ most → (∀ x ∈ A, x.2 = [] ∧ ∃ s, x.1 = l ++ s ∧ Chn R to a s ∧ s.length ≤ d + 1) →
          ∃ v, p27_l1 f P R W (to : Int) most l (a : Int) (p27 f) (fun L18 => some L18) (seen.set a true) n (i : Int) A = some v ∧ (v.length : Int) ≤ most ∧ ∀ x ∈ v, x.2 = [] ∧ ∃ s, x.1 = l ++ s ∧ Chn R to a s ∧ s.length ≤ d + 1 := by
        intro q
        induction q with
        | zero =>
          intro i n A h1 h2 h3 h4
          obtain ⟨n, rfl⟩ : ∃ n', n = n' + 1 := ⟨n - 1, by omega⟩
          rw [p27_l1]
          simp only [lt_v, jn_v, sp_d]
          rw [iF (by omega), sp_ff]
          exact ⟨A, rfl, h3, h4⟩
        | succ q ih =>
          intro i n A h1 h2 h3 h4
          obtain ⟨n, rfl⟩ : ∃ n', n = n' + 1 := ⟨n - 1, by omega⟩
          have hra := (h.road i (by omega)).ar
          unfold RoadA at hra
          have hd3 : R.getD i [] = rd R i := rfl
          rw [p27_l1]
          simp only [lt_v, jn_v, sp_d, sp_tt, sp_ff, beq_d, Int.toNat_natCast, hd3, List.nil_append]
          simp only [show (rd R i).getD 0 0 = rF (rd R i) from rfl, show (rd R i).getD 1 0 = rT (rd R i) from rfl]
          rw [iT (by omega)]
          by_cases hlen : (A.length : Int) < most
          rotate_left
          · rw [iF hlen]; exact ⟨A, rfl, h3, h4⟩
          rw [iT hlen, gd_v (by omega), wr_succ (n := R.length) (by omega) (by omega), gd_v (by omega), gd_v (by rw [List.length_set]; omega)]
          by_cases hF : rF (rd R i) = (a : Int)
          rotate_left
          · rw [iF hF]; exact ih (i + 1) n A (by omega) (by omega) h3 h4
          rw [iT hF]
          cases hb : (seen.set a true).getD (rT (rd R i)).toNat false with
          | true => simp only [Bool.not_true, sp_ff]; exact ih (i + 1) n A (by omega) (by omega) h3 h4
          | false =>
            simp only [Bool.not_false, sp_tt]
            rw [wr64 (by omega) (by omega), gd_v (by simp only [List.length_nil]; omega), gd_v (by simp only [List.length_cons, List.length_nil]; omega), gd_v (by omega)]
            obtain ⟨v, v1, v2, v3⟩ := p27_spec h (to := to) d f (most - (A.length : Int)) (l ++ [(i : Int)]) (rT (rd R i)).toNat (seen.set a true) (by omega) (by omega) (by omega) (by simp only [List.length_append, List.length_cons, List.length_nil]; omega) (by rw [List.length_set]; exact hs) (by omega) hb (by omega)
            rw [show ((rT (rd R i)).toNat : Int) = rT (rd R i) from by omega] at v1
            rw [v1, cl_v, gd_v (by omega)]
            refine ih (i + 1) n (A ++ v) (by omega) (by omega) (by rw [List.length_append]; omega) fun x hx => ?_
            rcases List.mem_append.1 hx with g | g
            · exact h4 x g
            · obtain ⟨x1, s, x2, x3, x4⟩ := v3 x g
              refine ⟨x1, (i : Int) :: s, ?_, .cons (by omega) hF x3, by simp only [List.length_cons]; omega⟩
              rw [x2, List.append_assoc]; rfl
      have := loop R.length 0 f [] (by omega) (by omega) (by simp; omega) (by simp)
      rw [show ((0 : Nat) : Int) = 0 from rfl] at this
      exact this
end Go.Proofs.Ythniebmammmacaa
namespace Go.Proofs.Ythniebmammmacaa
open Go.ChangeShapes Go.WideShapes Go.ChangeAt Go.RowKit
def PlainRoadLeast : Prop := ∀ (u0_0 : Int) (u0_1 : List (List Int)) (u0_2 : List WT) (u1 : List Int) (u2 : Int) (u3 : Int), Wfi .i64 u0_0 → u0_1.length ≤ maxLen → (∀ r ∈ u0_1, r.length = 12) → (∀ r ∈ u0_1, ∀ z ∈ r, Wfi .i64 z) → u0_2.length ≤ maxLen → (∀ x ∈ u0_2, okWT 3 x) → u1.length = 6 → (∀ z ∈ u1, Wfi .i64 z) → Wfi .i64 u2 → Wfi .i64 u3 → ∃ k, p9 k u0_0 u0_1 u0_2 u1 u2 u3 = some true
theorem own9 : ownKnob Try.prog.godebug = none := by kernel_rfl
theorem laid9 : laidOutB Try.prog = true := by kernel_rfl
set_option maxRecDepth 100000 in
theorem lifted9 (plain : PlainRoadLeast) (os : Os) (started : os.Started) (H : Type) (enc : TypeId × Value → H) :
    ReturnsInHanded {} Try.checked os 9 .any (Rows.roadLeastSpec.pre6 enc Try.prog Try.f9 Rows.roadLeastRow.domain false) (Rows.roadLeastSpec.post enc Try.prog Try.f9 false true false false) := by
  refine returnsInHanded_of_change (C := Try.checked) own9 started (by kernel_rfl) Try.func9
    (ChangeSpec.witness6 (enc := enc) (C := Try.checked) false ⟨#[], #[.agg #[.int .i64 0, .slice none 0 0, .slice none 0 0], .agg #[.int .i64 0, .int .i64 0, .int .i64 0, .int .i64 0, .int .i64 0, .int .i64 0], .int .i64 0, .int .i64 0], []⟩ 12 (by kernel_rfl) (by kernel_rfl) (by kernel_rfl) (by kernel_rfl)) ?_
  intro W base args ds gs before hval0 hW hcnd _
  have hval : ∀ (j : Nat) t v, Try.f9.params[j]? = some t → args[j]? = some v → Value.okWide Try.prog W .any base t v := hval0
  have hW' := hW
  obtain ⟨p, q, hA0, hV, rfl, hfz, hnd⟩ := hW
  have hA : DataW.TrodAll enc Try.prog W 0 (fun _ => true) true Try.f9.params.toList args.toList ds p := hA0
  rw [Try.params9] at hA hval
  obtain ⟨v0, vs0, d0, ds0, p0, q0, hargs, rfl, rfl, h0, r0⟩ := trodAll_cons hA
  obtain ⟨v1, vs1, d1, ds1, p1, q1, rfl, rfl, rfl, h1, r1⟩ := trodAll_cons r0
  obtain ⟨v2, vs2, d2, ds2, p2, q2, rfl, rfl, rfl, h2, r2⟩ := trodAll_cons r1
  obtain ⟨v3, vs3, d3, ds3, p3, q3, rfl, rfl, rfl, h3, r3⟩ := trodAll_cons r2
  obtain ⟨rfl, rfl, rfl⟩ := trodAll_nil r3
  obtain rfl : args = #[v0, v1, v2, v3] := by cases args; simp_all
  obtain ⟨rfl, rfl⟩ := trodVars_none hV
  have k0 := h0
  have lt0 : ∀ x ∈ p0, x.block < W.heap.size := by obtain ⟨m, hm⟩ := k0; exact DataW.trod_lt m _ _ _ hm
  obtain ⟨cs0, fu0, rfl, hx0⟩ := open_agg Try.underlying25 rfl (hval 0 25 v0 rfl rfl) h0
  obtain ⟨c0a, c0b, c0c, fv0, y0a, y0b, y0c, rfl, hx0a, hx0b, hx0c⟩ := open_three Try.underlying25 rfl (by kernel_rfl) (by kernel_rfl) (by kernel_rfl) hx0
  obtain ⟨u0_0, rfl, wu0_0⟩ := open_i1 (k := .i64) (d := 8) (by kernel_rfl) hx0a
  obtain ⟨Au0_1, u0_1, cu0_1, rfl, su0_1, mu0_1, zu0_1⟩ := open_rows (k := .i64) (d := 8) (m := 12) Try.underlying22 (by kernel_rfl) rfl (by kernel_rfl) hx0b
  obtain ⟨Au0_2, u0_2, cu0_2, Hu0_2, Cu0_2, rfl, su0_2, mu0_2, zu0_2⟩ := open_works (m := 3) Try.underlying23 (by kernel_rfl) (fun h => open_workB 3 (by kernel_rfl) h) hx0c
  have k1 := h1
  have lt1 : ∀ x ∈ p1, x.block < W.heap.size := by obtain ⟨m, hm⟩ := k1; exact DataW.trod_lt m _ _ _ hm
  obtain ⟨cs1, fu1, rfl, hx1⟩ := open_agg Try.underlying26 rfl (hval 1 26 v1 rfl rfl) h1
  obtain ⟨u1, rfl, lu1, zu1⟩ := open_ints' (k := .i64) (d := 8) (n := 6) (by kernel_rfl) hx1
  obtain ⟨u2, rfl, rfl, rfl, wu2⟩ := open_int Try.underlying3 (hval 2 3 v2 rfl rfl) h2
  obtain ⟨u3, rfl, rfl, rfl, wu3⟩ := open_int Try.underlying3 (hval 3 3 v3 rfl rfl) h3
  obtain ⟨k, hp⟩ := plain u0_0 u0_1 u0_2 u1 u2 u3 wu0_0 mu0_1 su0_1.1 zu0_1 mu0_2 zu0_2 lu1 zu1 wu2 wu3
  have hc := Fn.calls (Mem.le_refl _) ((w9 k su0_1 su0_2 lu1 hp).mono (R' := fun x _ => rval x = .bool true) (by rintro x M' _ rfl; rfl))
  clear hA0 hval0
  have hc2 : Calls Try.prog 9 #[.agg ([Value.int .i64 u0_0] ++ [Value.slice Au0_1 (List.length u0_1) cu0_1] ++ [Value.slice Au0_2 (List.length u0_2) cu0_2]).toArray, .agg (ints .i64 u1).toArray, .int .i64 u2, .int .i64 u3] W fun e w' => e = .returned (.bool true) ∧ Below W.heap.size W w' := by
    simpa [rval, SV.val, sgCells, Sg.cells, Lf.val] using hc
  refine hc2.mono fun e W' ⟨he, bel⟩ => ?_
  subst he
  exact ⟨_, rfl, _, _, _, [], _, [], hW', trodAll_mk1 (shut_bool Try.underlying4 _), (trodAll_cons_mk (Below.trod laid9 (by kernel_rfl) (of_decide_eq_true (by kernel_rfl)) k0 bel lt0) (trodAll_cons_mk (Below.trod laid9 (by kernel_rfl) (of_decide_eq_true (by kernel_rfl)) k1 bel lt1) (trodAll_cons_mk (shut_int Try.underlying3 wu2) (trodAll_cons_mk (shut_int Try.underlying3 wu3) trodAll_mk0)))), rfl, bel.frame _, fun h => by cases h⟩
theorem roadLeast_of (plain : PlainRoadLeast) : Rows.RoadLeastSaid :=
  OpenClaim.holds_of_wide 9 Try.f9 rfl rfl rfl rfl rfl rfl rfl ⟨rfl, rfl, rfl, rfl, rfl⟩ rfl rfl rfl rfl rfl (by kernel_rfl) Try.func9 (by kernel_rfl)
    (of_decide_eq_true (by kernel_rfl)) (by unfold Func.isWrapper; first | (rw [if_pos (by decide +kernel)]; kernel_rfl) | (rw [if_neg (by decide +kernel)]; exact ⟨rfl, rfl⟩))
    (fun os started H enc _ => lifted9 plain os started H enc)
end Go.Proofs.Ythniebmammmacaa
namespace Go.Proofs.Ythniebmammmacaa
open Go.RowKit Classical
theorem p9_l2_eq {k : Nat} {R : List (List Int)} {L : List Int} {j : Int → Option Bool} (hm : ∀ i, i < R.length → 0 ≤ rM (rd R i) ∧ rM (rd R i) ≤ 1440) (hs : rdsOk R.length L) (hl : L.length ≤ 1000000) : ∀ (d q f : Nat) (a : Int), q + d = L.length → d < f → 0 ≤ a → a ≤ 1440 * (q : Int) →
    p9_l2 k R j L f a (q : Int) = j (a + minR R (L.drop q))
  | 0, q, f, a, h1, h2, _, _ => by
    obtain ⟨f, rfl⟩ : ∃ n', f = n' + 1 := ⟨f - 1, by omega⟩
    rw [p9_l2]
    simp only [lt_v, sp_d]
    rw [iF (by omega), List.drop_eq_nil_of_le (by omega)]
    simp [minR]
  | d + 1, q, f, a, h1, h2, h0, h3 => by
    obtain ⟨f, rfl⟩ : ∃ n', f = n' + 1 := ⟨f - 1, by omega⟩
    have hx := hs _ (getD_mem (by omega : q < L.length))
    have h5 := hm (L.getD q 0).toNat (by omega)
    have h6 : R.getD (L.getD q 0).toNat [] = rd R (L.getD q 0).toNat := rfl
    have h7 : (rd R (L.getD q 0).toNat).getD 3 0 = rM (rd R (L.getD q 0).toNat) := rfl
    rw [p9_l2]
    simp only [lt_v, sp_d, Int.toNat_natCast]
    rw [iT (by omega), gd_v (by omega), gd_v (by omega), h6, h7, wr64 (by omega) (by omega), wr_succ (n := L.length) (by omega) (by omega), p9_l2_eq hm hs hl d (q + 1) f _ (by omega) (by omega) (by omega) (by omega), getD_drop (by omega : q < L.length)]
    simp only [minR]
    rw [Int.add_assoc]
theorem plain9 : PlainRoadLeast := by
  intro P R W z fr to hP hRl hr hRz hWl hWo hz6 hzz hfr hto
  obtain ⟨k, hk, h14⟩ : ∃ k, Fu k ∧ p14 k = some true := ⟨K0, fuK0, p14_eq⟩
  refine ⟨k, ?_⟩
  have hk' := hk
  unfold Fu at hk'
  unfold p9
  simp only [jn_v]
  rw [h14]
  obtain ⟨b, hb, hv⟩ := p23_some hk (P := P) (R := R) (W := W) (z := z) (fr := fr) (to := to)
  rw [hb, cl_v]
  cases b with
  | false => simp only [sp_ff, cl_v]
  | true =>
    rw [sp_tt]
    obtain ⟨h, hp12, hr30, hw5, hz, hf0, ht0⟩ := hv rfl
    obtain ⟨fn, rfl⟩ : ∃ f : Nat, fr = (f : Int) := ⟨fr.toNat, by omega⟩
    obtain ⟨t, rfl⟩ : ∃ t : Nat, to = (t : Int) := ⟨to.toNat, by omega⟩
    have hfP : fn < P.toNat := by omega
    have htP : t < P.toNat := by omega
    have hp := h.places
    have hroad : ∀ i, i < R.length → (0 ≤ rF (rd R i) ∧ rF (rd R i) < P) ∧ (0 ≤ rT (rd R i) ∧ rT (rd R i) < P) ∧ (1 ≤ rM (rd R i) ∧ rM (rd R i) ≤ 1440) := fun i hi => by
      have := (h.road i hi).ar; unfold RoadA at this; omega
    -- the routes
    obtain ⟨v, v1, v2, v3⟩ := p27_spec h (to := t) 64 k 60 [] fn (List.replicate P.toNat false) (by omega) (by omega) (by omega) (by simp) (by simp) hfP (by simp [List.getD_eq_getElem?_getD, hfP]) (Nat.le_trans cnt_le (by omega))
    have v4 : ∀ x ∈ v, Chn R t fn x.1 ∧ x.1.length ≤ 64 := by
      intro x hx
      obtain ⟨_, s, e, g, g2⟩ := v3 x hx
      rw [e, List.nil_append]
      exact ⟨g, g2⟩
    have hworks : ∀ L, L.length ≤ 256 → rdsOk R.length L → p31 k P R W z L = some (worksE R W z L) := by
      intro L g1 g2
      have he : rdsE R.length L = 0 := by unfold rdsE; rw [iF (by omega), iT g2]
      rw [p31_eq hk hr hz6, iF (not_not_intro h), iF (not_not_intro hz), iF (not_not_intro he)]
    have hso : ∀ s, sOk W (bitsL s W.length) := by
      intro s x hx
      obtain ⟨q, a, _, rfl⟩ := mem_bitsL.1 hx
      omega
    -- each of them
    have hloop : ∀ (c e : Int) (j : Option Bool), (∀ L s, s < 2 ^ W.length → Chn R t fn L → allUs R W z L (bitsL s W.length) → e = 0 ∧ c ≤ costR R L + costL W (bitsL s W.length)) → p9_l1 k P R W z j c e v k 0 = j := by
      intro c e j hce
      have hs := srch0 (F := p9_l1 k P R W z j c e v) (len := v.length) (n := k) (A := some false) (J := j) (fun _ => False) (by omega) ?_ ?_
      · rcases hs with ⟨⟨q, _, b⟩, _⟩ | ⟨_, e⟩
        · exact b.elim
        · exact e
      · intro n; rw [p9_l1]; simp only [lt_v, sp_d]; rw [iF (by omega)]
      · intro n i hi
        refine .inr ⟨id, ?_⟩
        have hx : v.getD i ([], []) ∈ v := by rw [List.getD_eq_getElem?_getD, List.getElem?_eq_getElem hi]; exact List.getElem_mem hi
        obtain ⟨hch, hln⟩ := v4 _ hx
        have hrd := hch.rds
        have hcr := costR_le h.rcOk hrd
        rw [p9_l1]
        simp only [lt_v, sp_d, jn_v, Int.toNat_natCast]
        rw [iT (by omega), gd_v (by omega), hworks _ (by omega) hrd, wr_succ hi (by omega)]
        rcases worksE_spec (R := R) (W := W) (z := z) (L := (v.getD i ([], [])).1) with ⟨w1, w2⟩ | ⟨s, s1, s2, s3, s4⟩
        · rw [w1, cl3_v]
          simp [sp_tt, sp_ff]
        · obtain ⟨e0, hc⟩ := hce _ s s1 hch s3
          subst e0
          have hcl := costL_le h.wcOk (hso s)
          have hbl := bitsL_len (m := s) (n := W.length)
          rw [s2, cl3_v]
          simp only [show ((0 : Int) == 0) = true from rfl, show ((0 : Int) != 0) = false from rfl, sp_tt, sp_ff]
          rw [gd_v (by omega), p33_eq hk h.rcOk h.wcOk hrd (by intro x hx; cases hx) (by omega) (by simp), cl_v]
          simp only [costL, Int.add_zero]
          rw [wr64 (by omega) (by omega), iF (by omega)]
    rcases p28_eq hk h hz hz6 hr hfP htP with ⟨q1, q2⟩ | ⟨s, rs, ws, c, mi, q1, q2⟩
    · have hno : ∀ L s, s < 2 ^ W.length → Chn R t fn L → allUs R W z L (bitsL s W.length) → (15 : Int) = 0 ∧ (0 : Int) ≤ costR R L + costL W (bitsL s W.length) := by
        intro L s hs hch hu
        exact absurd (dst_le h hs htP (hch.pth hu)).2 (q1 s hs)
      rw [q2, cl5_v]
      simp only [lt_v, show ((15 : Int) != 0) = true from rfl, show ((15 : Int) != 15) = false from rfl, sp_tt, sp_ff]
      rw [gd_v (by omega), v1, cl_v, hloop 0 15 _ hno]
      rfl
    · have hle : ∀ L s, s < 2 ^ W.length → Chn R t fn L → allUs R W z L (bitsL s W.length) → (0 : Int) = 0 ∧ c ≤ costR R L + costL W (bitsL s W.length) := by
        intro L s' hs hch hu
        obtain ⟨d1, d2⟩ := dst_le h hs htP (hch.pth hu)
        have := q1.le s' hs d2
        exact ⟨rfl, by omega⟩
      obtain ⟨L, hD, hrt⟩ := q1.rt
      have hwe := q1.wse
      have hch := hrt.chn
      have hrd := hch.rds
      have hlen := hrt.len h.rcOk (P := P.toNat) (fun i hi => by have := hroad i hi; omega)
      have hcnt := cnt_le (p := fun v => L.getD v 0 < L.getD fn 0) (n := P.toNat)
      have hcost := hrt.cost
      have hLt : L.getD t 0 = 0 := hD.zero
      have hdst : dst P R (us R W z ws) fn t = L.getD fn 0 := dst_eq h htP hD
      have hco := q1.co
      rw [← hwe] at hco
      have hc : c = costR R rs + costL W ws := by omega
      have hwso : sOk W ws := by rw [hwe]; exact hso s
      have hwl : ws.length ≤ W.length := by rw [hwe]; exact bitsL_len
      have hcr := costR_le h.rcOk hrd
      have hcl := costL_le h.wcOk hwso
      have he : rdsE R.length rs = 0 := by unfold rdsE; rw [iF (by omega), iT hrd]
      have h34 : p34 k P R W z ws rs = some true := by
        refine p34_eq hk h hz hz6 hr he (by rw [hwe]; exact bitsL_set) (fun x hx => hrt.us x hx) fun t' ht' hu => ?_
        have := (hle rs t' ht' hch hu).2
        omega
      have h25 : p25 k P R W (fn : Int) (t : Int) rs = some (true, 0) := by
        unfold p25
        rw [p38_eq hk hr, cl_v, chkE_zero.2 h]
        simp only [lt_v, bne_d, sp_d]
        rw [iF (by simp), p67_eq hk (by simp), iT (by
          intro x hx
          simp only [List.mem_cons, List.mem_nil_iff, or_false] at hx
          rcases hx with e | e <;> omega), cl_v, iF (by simp), p66_eq hk, he, cl_v, iF (by simp)]
        simp only [jn_v]
        refine p25_l1_rt h.rcOk (U := us R W z ws) (L := L) (to := t) (fun w => ?_) (fun i hi => (hroad i hi).2.1.1) (by omega) (fun E => by simp) hrt 0 k _ (List.drop_zero) (Nat.zero_le _) (by omega) ?_
        · rcases Nat.lt_or_ge w P.toNat with g | g
          · exact (hD.rng w g).1
          · rw [List.getD_eq_getElem?_getD, List.getElem?_eq_none (by rw [hD.len]; exact g)]; exact Int.le_refl _
        · intro x hx
          rw [mget_mput] at hx
          by_cases e : (fn : Int) = x
          · exact ⟨fn, e.symm, Int.le_refl _⟩
          · rw [if_neg e] at hx; exact absurd rfl hx
      have hmin : ∀ j, p9_l2 k R j rs k 0 0 = j (minR R rs) := by
        intro j
        have := p9_l2_eq (k := k) (R := R) (L := rs) (j := j) (fun i hi => by have := hroad i hi; omega) hrd (by omega) rs.length 0 k 0 (by omega) (by omega) (by omega) (by omega)
        rw [List.drop_zero, Int.zero_add] at this
        exact this
      have hmi := hrt.mins
      rw [q2, cl5_v]
      simp only [lt_v, show ((0 : Int) != 0) = false from rfl, sp_ff]
      rw [gd_v (by omega), v1, cl_v, hloop c 0 _ hle, p30_eq hk (by omega), cl_v, dT (show ∀ x ∈ rs, 0 ≤ x ∧ x < (R.length : Int) from hrd), sp_tt, p30_eq hk (by omega), cl_v, dT (show ∀ x ∈ ws, 0 ≤ x ∧ x < (W.length : Int) from hwso)]
      simp only [Bool.not_true, sp_ff, hmin]
      rw [h25, cl2_v, show ((0 : Int) == 0) = true from rfl, sp_tt, sp_tt, p33_eq hk h.rcOk h.wcOk hrd hwso (by omega) (by omega), cl_v, show (c == costR R rs + costL W ws) = true from by simp [hc], sp_tt, show (minR R rs == mi) = true from by simp [hmi], sp_tt, h34, cl_v, sp_tt]
      rfl
theorem roadLeast_holds : Rows.RoadLeastSaid := roadLeast_of plain9
end Go.Proofs.Ythniebmammmacaa
