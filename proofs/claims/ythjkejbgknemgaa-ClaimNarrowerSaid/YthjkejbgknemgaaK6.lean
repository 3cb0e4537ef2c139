/- The law ClaimNarrower holds of every input. No condition: every theorem names its own hypotheses. -/
import Derived.Test.YthjkejbgknemgaaK5
set_option linter.unusedVariables false
set_option linter.unusedSimpArgs false
set_option maxHeartbeats 4000000
namespace Go.Proofs.Ythjkejbgknemgaa
open Go.RowKit Classical
theorem take2 {r : List Int} {o : Nat} (h : o + 2 ≤ r.length) : (r.drop o).take 2 = [r.getD o 0, r.getD (o + 1) 0] := by
  rw [List.drop_eq_getElem_cons (by omega), List.drop_eq_getElem_cons (by omega)]
  simp only [List.getD_eq_getElem?_getD, List.getElem?_eq_getElem (show o < r.length by omega), List.getElem?_eq_getElem (show o + 1 < r.length by omega), Option.getD_some, List.take_succ_cons, List.take_zero]
structure NInv (R R' : List (List Int)) (i : Nat) (p : Int) (v : Nat → Int) (n : Nat) : Prop where
  len : R'.length = R.length
  oth : ∀ j, j ≠ i → rd R' j = rd R j
  l11 : (rd R' i).length = 11
  at' : rA (rd R' i) = rA (rd R i)
  pl : rPL (rd R i) ≤ rPL (rd R' i) ∧ rPL (rd R' i) ≤ p
  ph : p ≤ rPH (rd R' i) ∧ rPH (rd R' i) ≤ rPH (rd R i)
  bef : ∀ q, q < n → (rVL q (rd R i) ≤ rVL q (rd R' i) ∧ rVL q (rd R' i) ≤ v q) ∧ (v q ≤ rVH q (rd R' i) ∧ rVH q (rd R' i) ≤ rVH q (rd R i))
  aft : ∀ q, n ≤ q → q < 4 → rVL q (rd R' i) = rVL q (rd R i) ∧ rVH q (rd R' i) = rVH q (rd R i)
theorem p3_l1_eq {k : Nat} {R : List (List Int)} {V : List (List Int)} {c d : Int} (hc0 : 0 ≤ c) (hc1 : c ≤ 255) (hd0 : 0 ≤ d) (hd1 : d ≤ 255) {i m : Nat} {p : Int} (hi : i < R.length) (hm : m < V.length) (hr : readOk (rd R i)) (hband : ∀ q, q < 4 → rVL q (rd R i) ≤ hv V m q ∧ hv V m q ≤ rVH q (rd R i)) : ∀ (t q n : Nat) (R' : List (List Int)), q + t = 4 → t < n → NInv R R' i p (hv V m) q → ∃ R2, NInv R R2 i p (hv V m) 4 ∧ ∀ j, p3_l1 k c d j V (i : Int) (m : Int) n (q : Int) R' = j R2
  | 0, q, n, R', h1, h2, hI => by
    obtain ⟨n, rfl⟩ : ∃ n', n = n' + 1 := ⟨n - 1, by omega⟩
    have : q = 4 := by omega
    subst this
    refine ⟨R', hI, fun j => ?_⟩
    rw [p3_l1]
    simp only [lt_v, sp_d]
    rw [if_neg (by omega)]
  | t + 1, q, n, R', h1, h2, hI => by
    obtain ⟨n, rfl⟩ : ∃ n', n = n' + 1 := ⟨n - 1, by omega⟩
    have hw : wr .i64 ((q : Int) + 1) = ((q + 1 : Nat) : Int) := by rw [wr64 (by omega) (by omega)]; omega
    have ho : 3 + q * 2 + 2 ≤ (rd R' i).length := by rw [hI.l11]; omega
    have hb := hband q (by omega)
    have hbo := hr.2.2.2 q (by omega)
    have haf := hI.aft q (Nat.le_refl _) (by omega)
    unfold bandOk at hbo
    obtain ⟨y, z, h15, e1, e2, e3, e4⟩ := p15_eq (k := k) (a := rVL q (rd R' i)) (b := rVH q (rd R' i)) (x := hv V m q) (c := c) (d := d) (by omega) (by omega) (by omega) (by omega) hc0 hc1 hd0 hd1
    have ht2 : List.take 2 (List.drop (3 + q * 2) (R'.getD i [])) = [rVL q (rd R' i), rVH q (rd R' i)] := take2 ho
    have hrs : rowSet R' i (3 + q * 2) [y, z] = R'.set i ((rd R' i).take (3 + q * 2) ++ [y, z] ++ (rd R' i).drop (3 + q * 2 + 2)) := rfl
    have hI' : NInv R (R'.set i ((rd R' i).take (3 + q * 2) ++ [y, z] ++ (rd R' i).drop (3 + q * 2 + 2))) i p (hv V m) (q + 1) := by
      have hil : i < R'.length := by rw [hI.len]; exact hi
      have hrd : rd (R'.set i ((rd R' i).take (3 + q * 2) ++ [y, z] ++ (rd R' i).drop (3 + q * 2 + 2))) i = (rd R' i).take (3 + q * 2) ++ [y, z] ++ (rd R' i).drop (3 + q * 2 + 2) := by rw [rd_set hil, if_pos rfl]
      have hg := row2_get y z ho
      have g0 : rA ((rd R' i).take (3 + q * 2) ++ [y, z] ++ (rd R' i).drop (3 + q * 2 + 2)) = rA (rd R' i) := by
        unfold rA; rw [hg, if_neg (by omega), if_neg (by omega)]
      have g1 : rPL ((rd R' i).take (3 + q * 2) ++ [y, z] ++ (rd R' i).drop (3 + q * 2 + 2)) = rPL (rd R' i) := by
        unfold rPL; rw [hg, if_neg (by omega), if_neg (by omega)]
      have g2 : rPH ((rd R' i).take (3 + q * 2) ++ [y, z] ++ (rd R' i).drop (3 + q * 2 + 2)) = rPH (rd R' i) := by
        unfold rPH; rw [hg, if_neg (by omega), if_neg (by omega)]
      have g3 : ∀ q', rVL q' ((rd R' i).take (3 + q * 2) ++ [y, z] ++ (rd R' i).drop (3 + q * 2 + 2)) = if q' = q then y else rVL q' (rd R' i) := fun q' => by
        unfold rVL; rw [hg]
        by_cases c : q' = q
        · rw [if_pos c, if_pos (by omega)]
        · rw [if_neg c, if_neg (by omega), if_neg (by omega)]
      have g4 : ∀ q', rVH q' ((rd R' i).take (3 + q * 2) ++ [y, z] ++ (rd R' i).drop (3 + q * 2 + 2)) = if q' = q then z else rVH q' (rd R' i) := fun q' => by
        unfold rVH; rw [hg]
        by_cases c : q' = q
        · rw [if_pos c, if_neg (by omega), if_pos (by omega)]
        · rw [if_neg c, if_neg (by omega), if_neg (by omega)]
      refine ⟨by simpa using hI.len, fun j hj => ?_, ?_, ?_, ?_, ?_, fun q' hq' => ?_, fun q' hq' hq4 => ?_⟩
      · rw [rd_set hil, if_neg hj]; exact hI.oth j hj
      · rw [hrd, row2_len y z ho]; exact hI.l11
      · rw [hrd, g0]; exact hI.at'
      · rw [hrd, g1]; exact hI.pl
      · rw [hrd, g2]; exact hI.ph
      · rw [hrd, g3, g4]
        by_cases cq : q' = q
        · subst cq; rw [if_pos rfl, if_pos rfl]; omega
        · rw [if_neg cq, if_neg cq]; exact hI.bef q' (by omega)
      · rw [hrd, g3, g4, if_neg (by omega), if_neg (by omega)]
        exact hI.aft q' (by omega) hq4
    obtain ⟨R2, hR2, heq⟩ := p3_l1_eq (k := k) hc0 hc1 hd0 hd1 hi hm hr hband t (q + 1) n _ (by omega) (by omega) hI'
    refine ⟨R2, hR2, fun j => ?_⟩
    rw [p3_l1]
    simp only [lt_v, sp_d, Int.toNat_natCast, ht2, Nat.zero_add, Nat.mul_one]
    have hl := hI.len
    rw [if_pos (by omega), gd_v (by omega), gd_v (by omega), gd_v (by omega), gd_v (by omega)]
    rw [show (V.getD m []).getD q 0 = hv V m q from rfl, h15, cl_v, gd_v (c := [y, z].length = 2) rfl, gd_v (by omega), gd_v (by omega), hrs, hw]
    exact heq j
structure AInv (R : List (List Int)) (D : List Int) (L : List Int) (m : Nat) (t a b : Int) (v : Nat → Int) (n : Nat) : Prop where
  l11 : L.length = 11
  at' : rA L = t
  pl : rPL L = a
  ph : rPH L = b
  val : ∀ q, q < n → bandOk (rVL q L) (rVH q L) ∧ rVL q L ≤ v q ∧ v q ≤ rVH q L
theorem p3_l2_eq {k : Nat} (hk : 5000 ≤ k) {R : List (List Int)} {D : List Int} {P : List Int} {V : List (List Int)} (h : LogOk R D) (hf : Fits R D P V) {c d : Int} (hc0 : 0 ≤ c) (hc1 : c ≤ 255) (hd0 : 0 ≤ d) (hd1 : d ≤ 255) {m : Nat} (hm : m + 1 < lastN R + 1) {t0 a b : Int} : ∀ (t q n : Nat) (L : List Int), q + t = 4 → t < n → AInv R D L m t0 a b (hv V (m + 1)) q → (∀ j, p3_l2 k R D c d j V (m : Int) n (q : Int) L = some true) ∨ ∃ L2, AInv R D L2 m t0 a b (hv V (m + 1)) 4 ∧ ∀ j, p3_l2 k R D c d j V (m : Int) n (q : Int) L = j L2
  | 0, q, n, L, h1, h2, hI => by
    obtain ⟨n, rfl⟩ : ∃ n', n = n' + 1 := ⟨n - 1, by omega⟩
    have : q = 4 := by omega
    subst this
    refine .inr ⟨L, hI, fun j => ?_⟩
    rw [p3_l2]
    simp only [lt_v, sp_d]
    rw [if_neg (by omega)]
  | t + 1, q, n, L, h1, h2, hI => by
    obtain ⟨n, rfl⟩ : ∃ n', n = n' + 1 := ⟨n - 1, by omega⟩
    have hN := h.N
    have hsp := h.arg.span
    have hw : wr .i64 ((q : Int) + 1) = ((q + 1 : Nat) : Int) := by rw [wr64 (by omega) (by omega)]; omega
    have hw2 : wr .i64 ((m : Int) + 1) = ((m + 1 : Nat) : Int) := by rw [wr64 (by omega) (by omega)]; omega
    have ho : 3 + q * 2 + 2 ≤ L.length := by rw [hI.l11]; omega
    have hvv := (hf.val (m + 1) hm q (by omega)).1
    have b1 := vl_ge R D q ((m + 1 : Nat) : Int)
    have b2 := vh_le R D q ((m + 1 : Nat) : Int)
    have hVl := hf.lv
    obtain ⟨y, z, h15, e1, e2, e3, e4⟩ := p15_eq (k := k) (a := vl R D q ((m + 1 : Nat) : Int)) (b := vh R D q ((m + 1 : Nat) : Int)) (x := hv V (m + 1) q) (c := c) (d := d) hvv.1 hvv.2 (by omega) (by omega) hc0 hc1 hd0 hd1
    have e17 := p17_eq hk h.n64 h.arg (m := ((m + 1 : Nat) : Int)) (kk := q) (by omega) (by omega) (by omega)
    have hg := row2_get y z ho
    have gl : (L.take (3 + q * 2) ++ ([y, z] ++ []) ++ L.drop (3 + q * 2 + 2)) = L.take (3 + q * 2) ++ [y, z] ++ L.drop (3 + q * 2 + 2) := rfl
    have g3 : ∀ q', rVL q' (L.take (3 + q * 2) ++ [y, z] ++ L.drop (3 + q * 2 + 2)) = if q' = q then y else rVL q' L := fun q' => by
      unfold rVL; rw [hg]
      by_cases c : q' = q
      · rw [if_pos c, if_pos (by omega)]
      · rw [if_neg c, if_neg (by omega), if_neg (by omega)]
    have g4 : ∀ q', rVH q' (L.take (3 + q * 2) ++ [y, z] ++ L.drop (3 + q * 2 + 2)) = if q' = q then z else rVH q' L := fun q' => by
      unfold rVH; rw [hg]
      by_cases c : q' = q
      · rw [if_pos c, if_neg (by omega), if_pos (by omega)]
      · rw [if_neg c, if_neg (by omega), if_neg (by omega)]
    have body : ∀ j, p3_l2 k R D c d j V (m : Int) (n + 1) (q : Int) L = if y < -1073741824 then some true else if z > 1073741824 then some true else p3_l2 k R D c d j V (m : Int) n ((q + 1 : Nat) : Int) (L.take (3 + q * 2) ++ [y, z] ++ L.drop (3 + q * 2 + 2)) := by
      intro j
      have gy : (L.take (3 + q * 2) ++ [y, z] ++ L.drop (3 + q * 2 + 2)).getD (3 + q * 2 + 0) 0 = y := by
        have := g3 q; unfold rVL at this; rw [this, if_pos rfl]
      have gz : (L.take (3 + q * 2) ++ [y, z] ++ L.drop (3 + q * 2 + 2)).getD (3 + q * 2 + 1) 0 = z := by
        have := g4 q; unfold rVH at this; rw [this, if_pos rfl]
      rw [p3_l2]
      simp only [lt_v, sp_d, jn_v, Int.toNat_natCast, Nat.zero_add, Nat.mul_one, hw, hw2, e17, cl_v, p12_eq hk, sp_tt]
      rw [if_pos (by omega), gd_v (c := [_, _].length = 2) rfl, gd_v (by omega), gd_v (by omega)]
      rw [show (V.getD (m + 1) []).getD q 0 = hv V (m + 1) q from rfl, h15, cl_v, gd_v (c := [y, z].length = 2) rfl, gd_v (by omega), gd_v (by omega), gl, gy]
      by_cases c1 : y < -1073741824
      · rw [if_pos c1, if_pos c1]
      · rw [if_neg c1, if_neg c1, gd_v (by omega), gz]
    by_cases c1 : y < -1073741824
    · exact .inl fun j => by rw [body, if_pos c1]
    · by_cases c2 : z > 1073741824
      · exact .inl fun j => by rw [body, if_neg c1, if_pos c2]
      · have hI' : AInv R D (L.take (3 + q * 2) ++ [y, z] ++ L.drop (3 + q * 2 + 2)) m t0 a b (hv V (m + 1)) (q + 1) := by
          refine ⟨by rw [row2_len y z ho]; exact hI.l11, ?_, ?_, ?_, fun q' hq' => ?_⟩
          · unfold rA; rw [hg, if_neg (by omega), if_neg (by omega)]; exact hI.at'
          · unfold rPL; rw [hg, if_neg (by omega), if_neg (by omega)]; exact hI.pl
          · unfold rPH; rw [hg, if_neg (by omega), if_neg (by omega)]; exact hI.ph
          · rw [g3, g4]
            by_cases cq : q' = q
            · subst cq; rw [if_pos rfl, if_pos rfl]; unfold bandOk; omega
            · rw [if_neg cq, if_neg cq]; exact hI.val q' (by omega)
        rcases p3_l2_eq hk h hf hc0 hc1 hd0 hd1 hm t (q + 1) n _ (by omega) (by omega) hI' with e | ⟨L2, hL2, e⟩
        · exact .inl fun j => by rw [body, if_neg c1, if_neg c2]; exact e j
        · exact .inr ⟨L2, hL2, fun j => by rw [body, if_neg c1, if_neg c2]; exact e j⟩
theorem plain3 : PlainClaimNarrower := by
  intro R D u S c d e5 hlen hrow hR hD hDz hul huz hSl hSz hc hd he
  obtain ⟨k, hk⟩ : ∃ k, 5000 ≤ k := ⟨5000, Nat.le_refl _⟩
  refine ⟨k, ?_⟩
  have hb : Wf64 R := fun r hr z hz => bounds_i64 (hR r hr z hz)
  have hS : ∀ z ∈ S, 0 ≤ z ∧ z ≤ 255 := fun z hz => by
    have := bounds_u8 (hSz z hz)
    omega
  have hc' := bounds_u8 hc
  have hd' := bounds_u8 hd
  have he' := bounds_u8 he
  unfold p3
  obtain ⟨g, hg, hgo⟩ := p11_eq (u := u) hk hD hb
  simp only [hg, p12_eq hk, jn_v, cl_v, lt_v]
  cases g with
  | false => rfl
  | true =>
    obtain ⟨h, hu⟩ := hgo rfl
    have hl := logE_zero.2 h
    have hcl := claimE_zero.2 hu
    obtain ⟨P, V, hf, h13⟩ := p13_eq (k := k) hk hD hb h hS
    have h14 : ∀ R', LogOk R' D → p14 k R' D u = some (vdI R' D u, 0) := fun R' h' => by rw [p14_eq hk hD, if_pos (logE_zero.2 h'), if_pos hcl]
    have hbeq : ∀ x y : Int, (x == y) = decide (x = y) := fun x y => by by_cases h : x = y <;> simp [h]
    have hbne : ∀ x y : Int, (x != y) = !decide (x = y) := fun x y => by by_cases h : x = y <;> simp [h]
    have hn2 := h.arg.n2
    have hn64 := h.n64
    have hN := h.N
    have hsp := h.arg.span
    have hst := h.arg.st
    rw [sp_tt]
    by_cases hlen2 : (S.length : Int) > 2000
    · rw [decide_eq_true hlen2]; rfl
    · rw [decide_eq_false hlen2, sp_ff]
      -- the reading that is made narrower
      obtain ⟨i, hi⟩ : ∃ i : Nat, Int.tmod e5 (R.length : Int) = i := ⟨(Int.tmod e5 (R.length : Int)).toNat, by rw [Int.tmod_eq_emod_of_nonneg (by omega)]; have := Int.emod_nonneg e5 (show (R.length : Int) ≠ 0 by omega); omega⟩
      have hil : i < R.length := by
        rw [Int.tmod_eq_emod_of_nonneg (by omega)] at hi
        have := Int.emod_lt_of_pos e5 (show (0 : Int) < (R.length : Int) by omega)
        omega
      have hrl : (rd R i).length = 11 := hrow _ (rd_mem hil)
      have hai := atI_le h.arg hil
      have hro := h.arg.read i hil
      have hrg := h.arg.range hil
      have hrf := hf.rfits h
      have hread := hrf.read i hil
      have hPl := hf.lp
      have hVl := hf.lv
      have hpb := hro.2.2.1
      unfold bandOk at hpb
      obtain ⟨y, z, h15, e1, e2, e3, e4⟩ := p15_eq (k := k) (a := rPL (rd R i)) (b := rPH (rd R i)) (x := P.getD (atI R i) 0) (c := c) (d := d) hread.1.1 hread.1.2 (by omega) (by omega) (by omega) (by omega) (by omega) (by omega)
      have ho : 1 + 2 ≤ (rd R i).length := by omega
      have ht2 : List.take 2 (List.drop 1 (R.getD i [])) = [rPL (rd R i), rPH (rd R i)] := take2 ho
      have hrs : rowSet R i 1 [y, z] = R.set i ((rd R i).take 1 ++ [y, z] ++ (rd R i).drop 3) := rfl
      have hI : NInv R (R.set i ((rd R i).take 1 ++ [y, z] ++ (rd R i).drop 3)) i (P.getD (atI R i) 0) (hv V (atI R i)) 0 := by
        have hrd : rd (R.set i ((rd R i).take 1 ++ [y, z] ++ (rd R i).drop 3)) i = (rd R i).take 1 ++ [y, z] ++ (rd R i).drop (1 + 2) := by rw [rd_set hil, if_pos rfl]
        have hg := row2_get y z ho
        refine ⟨by simp, fun j hj => by rw [rd_set hil, if_neg hj], by rw [hrd, row2_len y z ho]; exact hrl, ?_, ?_, ?_, fun q hq => by omega, fun q _ hq => ?_⟩
        · rw [hrd]; unfold rA; rw [hg, if_neg (by omega), if_neg (by omega)]
        · rw [hrd]; have : rPL ((rd R i).take 1 ++ [y, z] ++ (rd R i).drop (1 + 2)) = y := by unfold rPL; rw [hg, if_pos rfl]
          rw [this]; omega
        · rw [hrd]; have : rPH ((rd R i).take 1 ++ [y, z] ++ (rd R i).drop (1 + 2)) = z := by unfold rPH; rw [hg, if_neg (by omega), if_pos rfl]
          rw [this]; omega
        · rw [hrd]; unfold rVL rVH; rw [hg, if_neg (by omega), if_neg (by omega), hg, if_neg (by omega), if_neg (by omega)]
          exact ⟨rfl, rfl⟩
      obtain ⟨R2, hR2, hl1⟩ := p3_l1_eq (k := k) (c := c) (d := d) (by omega) (by omega) (by omega) (by omega) hil (m := atI R i) (by omega) hro hread.2 4 0 k _ (by omega) (by omega) hI
      rw [show ((0 : Nat) : Int) = 0 from rfl] at hl1
      obtain ⟨hL2, hN2, hla2⟩ := nar1 h hf hil hR2.len hR2.oth ⟨hR2.at', hR2.pl, hR2.ph, fun q hq => hR2.bef q hq⟩
      have hat : wr .i64 ((R.getD i []).getD 0 0 - (R.getD 0 []).getD 0 0) = (atI R i : Int) := by
        show wr .i64 (rA (rd R i) - stT R) = _
        rw [wr64 (by omega) (by omega)]; omega
      have hwi : wr .i64 ((i : Int) + 1) = ((i + 1 : Nat) : Int) := by rw [wr64 (by omega) (by omega)]; omega
      have hwa : wr .i64 ((atI R i : Int) + 1) = ((atI R i + 1 : Nat) : Int) := by rw [wr64 (by omega) (by omega)]; omega
      have hwe : wr .i64 e5 = e5 := wr64 (by omega) (by omega)
      simp only [h13, cl2_v, h14 R h, List.nil_append, hwe]
      rw [gd_v (by simp only [List.length_nil]; omega), gd_v (by omega), hi, gd_v (by omega), gd_v (by omega)]
      simp only [Int.toNat_natCast, hat]
      rw [gd_v (by omega), gd_v (by omega), ht2, h15, cl_v, gd_v (c := [y, z].length = 2) rfl, gd_v (by omega), hrs, hl1, h14 R2 hL2]
      have e0 : ((0 : Int) != 0) = false := rfl
      have lem : ∀ (Y : Option Bool), Y = some true → sp (vdI R D u != 0) (sp (vdI R2 D u != vdI R D u) (some false) Y) Y = some true := by
        intro Y hY
        by_cases cv : vdI R D u = 0
        · rw [cv, e0, sp_ff]; exact hY
        · rw [nar_vd h hL2 hu hN2 hla2 cv]
          have e1 : (vdI R D u != vdI R D u) = false := by simp
          have e2 : (vdI R D u != 0) = true := by simpa using cv
          rw [e2, e1, sp_tt, sp_ff]; exact hY
      simp only [cl2_v, e0, sp_ff, sp_tt, hwi, hwa, Int.toNat_natCast]
      refine lem _ ?_
      by_cases c1 : i + 1 = R.length
      · have : (((i + 1 : Nat) : Int) == (R.length : Int)) = true := by rw [hbeq]; exact decide_eq_true (by omega)
        rw [this]; rfl
      · have : (((i + 1 : Nat) : Int) == (R.length : Int)) = false := by rw [hbeq]; exact decide_eq_false (by omega)
        rw [this, sp_ff, gd_v (by omega), gd_v (by omega)]
        have hw77 : wr .i64 ((R.getD i []).getD 0 0 + 1) = rA (rd R i) + 1 := by
          show wr .i64 (rA (rd R i) + 1) = _
          rw [wr64 (by omega) (by omega)]
        rw [hw77, show (R.getD (i + 1) []).getD 0 0 = rA (rd R (i + 1)) from rfl]
        by_cases c2 : rA (rd R (i + 1)) = rA (rd R i) + 1
        · rw [c2]
          have : (rA (rd R i) + 1 == rA (rd R i) + 1) = true := by simp
          rw [this]; rfl
        · have : (rA (rd R (i + 1)) == rA (rd R i) + 1) = false := by rw [hbeq]; exact decide_eq_false c2
          rw [this, sp_ff]
          by_cases c3 : R.length = 64
          · have : ((R.length : Int) == 64) = true := by rw [hbeq]; exact decide_eq_true (by omega)
            rw [this]; rfl
          · have : ((R.length : Int) == 64) = false := by rw [hbeq]; exact decide_eq_false (by omega)
            rw [this, sp_ff, gd_v (by omega)]
            -- the reading that is added
            have hasc := h.arg.asc i (by omega)
            have hrg1 := h.arg.range (i := i + 1) (by omega)
            have e16 := p16_eq hk (R := R) (D := D) (m := ((atI R i + 1 : Nat) : Int)) (by omega) hn64 (by omega) (by omega)
            have hm1 : atI R i + 1 < lastN R + 1 := by omega
            have hpv := (hf.plc (atI R i + 1) hm1).1
            have b1 := pl_ge R ((atI R i + 1 : Nat) : Int)
            have b2 := ph_le R ((atI R i + 1 : Nat) : Int)
            obtain ⟨y2, z2, h152, f1, f2, f3, f4⟩ := p15_eq (k := k) (a := pl R ((atI R i + 1 : Nat) : Int)) (b := ph R ((atI R i + 1 : Nat) : Int)) (x := P.getD (atI R i + 1) 0) (c := c) (d := d) hpv.1 hpv.2 (by omega) (by omega) (by omega) (by omega) (by omega) (by omega)
            rw [e16, cl_v, gd_v (c := [_, _].length = 2) rfl, gd_v (by omega), h152, cl_v, gd_v (c := [y2, z2].length = 2) rfl]
            have hA : AInv R D (List.take 1 [rA (rd R i) + 1, 0, 0, 0, 0, 0, 0, 0, 0, 0, 0] ++ ([y2, z2] ++ []) ++ List.drop 3 [rA (rd R i) + 1, 0, 0, 0, 0, 0, 0, 0, 0, 0, 0]) (atI R i) (rA (rd R i) + 1) y2 z2 (hv V (atI R i + 1)) 0 := ⟨rfl, rfl, rfl, rfl, fun q hq => by omega⟩
            have hbp : bandOk y2 z2 := by
              have g1 := PL_le.1 (Int.le_refl (pl R ((atI R i + 1 : Nat) : Int)))
              have g2 := g1.2 (rd R 0) (rd_mem (by omega)) (show stT R ≤ _ by omega)
              have g3 := le_PH.1 (Int.le_refl (ph R ((atI R i + 1 : Nat) : Int)))
              have g4 := g3.2 (rd R (R.length - 1)) (rd_mem (by omega)) (by have : lastI R = rA (rd R (R.length - 1)) - stT R := rfl; omega)
              have g5 := (h.arg.read 0 (by omega)).2.2.1
              have g6 := (h.arg.read (R.length - 1) (by omega)).2.2.1
              unfold bandOk at g5 g6 ⊢
              have g7 : pl R ((atI R i + 1 : Nat) : Int) ≤ y2 := f1
              have g8 : rPL (rd R 0) ≤ pl R ((atI R i + 1 : Nat) : Int) := g2
              have g9 : ph R ((atI R i + 1 : Nat) : Int) ≤ rPH (rd R (R.length - 1)) := g4
              omega
            rcases p3_l2_eq hk h hf (c := c) (d := d) (by omega) (by omega) (by omega) (by omega) hm1 4 0 k _ (by omega) (by omega) hA with hr | ⟨L2, hLI, hr⟩
            · exact hr _
            · refine (hr _).trans ?_
              have hp0 : part R 0 (i + 1) = R.take (i + 1) := rfl
              have hp1 : part R (i + 1) R.length = R.drop (i + 1) := by
                unfold part
                exact List.take_of_length_le (by simp)
              have hk1 : (R.take (i + 1)).length = i + 1 := by simp; omega
              have hk2 : (R.drop (i + 1)).length = R.length - (i + 1) := by simp
              have hk3 : (R.take (i + 1) ++ [L2]).length = i + 2 := by simp; omega
              obtain ⟨hL3, hN3, hla3⟩ := nar2 h hf (L := L2) (i := i) (by omega) c3 hLI.at' c2 (by rw [hLI.pl, hLI.ph]; exact hbp) (fun q hq => (hLI.val q hq).1) (by rw [hLI.pl, hLI.ph]; exact ⟨f2, f3⟩) (fun q hq => (hLI.val q hq).2) _ rfl
              rw [hp0, hp1, hk1, hk2, hk3, gd_v (by omega), gd_v (by simp only [List.length_nil]; omega), gd_v (by simp only [List.length_cons, List.length_nil]; omega), gd_v (by omega), gd_v (by omega), h14 _ hL3]
              have e00 : ((0 : Int) == 0) = true := rfl
              simp only [cl2_v, e00, sp_tt]
              by_cases cv : vdI R D u = 0
              · rw [cv, e00, sp_tt]
              · rw [nar_vd h hL3 hu hN3 hla3 cv]
                have e1 : (vdI R D u == vdI R D u) = true := by simp
                have e2 : (vdI R D u == 0) = false := by simpa using cv
                rw [e1, e2, sp_tt, sp_ff]
theorem claimNarrower_holds : Rows.ClaimNarrowerSaid := claimNarrower_of plain3
end Go.Proofs.Ythjkejbgknemgaa
