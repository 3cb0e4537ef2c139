/- Lemmas and walks for the law ClaimPaid (part 3). No condition: every theorem names its own hypotheses. -/
import Derived.Test.YthjkejbgknemgaaK2
import Derived.Test.YthjkejbgknemgaaProg
set_option linter.unusedVariables false
set_option linter.unusedSimpArgs false
namespace Go.Proofs.Ythjkejbgknemgaa
open Go.RowKit
def p21_l2 (k : Nat) (j21 : Option Int) (L8 : List Int) : Nat → Int → Option Int
  | 0, _ => none
  | n23 + 1, x22 => lt' (decide (x22 < (4 : Int))) fun b24 => sp b24 (gd ((0 : Int) ≤ x22 ∧ x22 < ((4 : Nat) : Int)) <| lt' (List.take 2 (List.drop (3 + (x22).toNat * 2) L8)) fun L26 => cl (p52 k L26) fun v27 => sp v27 (lt' (wr .i64 (x22 + (1 : Int))) fun x28 => p21_l2 k j21 L8 n23 x28) (some (2 : Int))) (j21)
def p21_l1 (k : Nat) (u0_0 : List (List Int)) (j3 : Option Int) : Nat → Int → Option Int
  | 0, _ => none
  | n5 + 1, x4 => lt' (decide (x4 < (List.length u0_0 : Int))) fun b6 => sp b6 (gd ((0 : Int) ≤ x4 ∧ x4 < (List.length u0_0 : Int)) <| lt' (List.getD u0_0 ((x4).toNat) []) fun L8 => jn (fun (b9 : Bool) => sp b9 (some (2 : Int)) (jn (lt' (wr .i64 (x4 + (1 : Int))) fun x29 => p21_l1 k u0_0 j3 n5 x29) fun j21 => p21_l2 k j21 L8 k (0 : Int))) fun j10 => lt' (List.getD L8 0 0) fun x11 => cl (p50 k x11 (0 : Int) (1099511627776 : Int)) fun v12 => sp v12 (lt' (decide (x4 > (0 : Int))) fun b13 => sp b13 (lt' (List.getD L8 0 0) fun x14 => lt' (wr .i64 (x4 - (1 : Int))) fun x15 => gd ((0 : Int) ≤ x15 ∧ x15 < (List.length u0_0 : Int)) <| lt' (List.getD (List.getD u0_0 ((x15).toNat) []) 0 0) fun x17 => lt' (decide (x14 ≤ x17)) fun b18 => sp b18 (j10 true) (cl (p52 k (List.take 2 (List.drop 1 L8))) fun v19 => j10 (!v19))) (cl (p52 k (List.take 2 (List.drop 1 L8))) fun v20 => j10 (!v20))) (j10 true)) (j3)
def p21_l3 (k : Nat) (u0_1 : List Int) (j37 : Option Int) : Nat → Int → Option Int
  | 0, _ => none
  | n39 + 1, x38 => lt' (decide (x38 < (4 : Int))) fun b40 => sp b40 (gd ((0 : Int) ≤ x38 ∧ x38 < ((4 : Nat) : Int)) <| lt' (List.getD u0_1 (0 + (x38).toNat * 1) 0) fun x42 => cl (p50 k x42 (0 : Int) (1048576 : Int)) fun v43 => sp v43 (lt' (wr .i64 (x38 + (1 : Int))) fun x44 => p21_l3 k u0_1 j37 n39 x44) (some (2 : Int))) (j37)
def p21_l5 (k : Nat) (u0_0 : List (List Int)) (u0_1 : List Int) (x46 : Int) (j55 : Option Int) : Nat → Int → Option Int
  | 0, _ => none
  | n57 + 1, x56 => lt' (decide (x56 < (4 : Int))) fun b58 => sp b58 (cl (p17 k u0_0 u0_1 x46 x56) fun v59 => gd ((v59).length = 2) <| lt' (List.getD v59 0 0) fun x61 => lt' (List.getD v59 1 0) fun x62 => lt' (decide (x61 > x62)) fun b63 => sp b63 (some (16 : Int)) (lt' (wr .i64 (x56 + (1 : Int))) fun x64 => p21_l5 k u0_0 u0_1 x46 j55 n57 x64)) (j55)
def p21_l4 (k : Nat) (u0_0 : List (List Int)) (u0_1 : List Int) (j45 : Option Int) : Nat → Int → Option Int
  | 0, _ => none
  | n47 + 1, x46 => cl (p53 k u0_0 u0_1) fun v48 => lt' (decide (x46 ≤ v48)) fun b49 => sp b49 (cl (p16 k u0_0 u0_1 x46) fun v50 => gd ((v50).length = 2) <| lt' (List.getD v50 0 0) fun x52 => lt' (List.getD v50 1 0) fun x53 => lt' (decide (x52 > x53)) fun b54 => sp b54 (some (16 : Int)) (jn (lt' (wr .i64 (x46 + (1 : Int))) fun x65 => p21_l4 k u0_0 u0_1 j45 n47 x65) fun j55 => p21_l5 k u0_0 u0_1 x46 j55 k (0 : Int))) (j45)
/-- gooseneck gooseneckref11.CheckLog -/
def p21 (k : Nat) (u0_0 : List (List Int)) (u0_1 : List Int) : Option Int :=
  lt' (decide ((List.length u0_0 : Int) > (64 : Int))) fun b1 => sp b1 (some (6 : Int)) (lt' (decide ((List.length u0_0 : Int) < (2 : Int))) fun b2 => sp b2 (some (2 : Int)) (jn (lt' (wr .i64 ((List.length u0_0 : Int) - (1 : Int))) fun x30 => gd ((0 : Int) ≤ x30 ∧ x30 < (List.length u0_0 : Int)) <| lt' (List.getD (List.getD u0_0 ((x30).toNat) []) 0 0) fun x32 => gd ((0 : Int) ≤ (0 : Int) ∧ (0 : Int) < (List.length u0_0 : Int)) <| lt' (List.getD (List.getD u0_0 0 []) 0 0) fun x34 => lt' (wr .i64 (x32 - x34)) fun x35 => lt' (decide (x35 > (2000 : Int))) fun b36 => sp b36 (some (2 : Int)) (jn (jn (some (0 : Int)) fun j45 => p21_l4 k u0_0 u0_1 j45 k (0 : Int)) fun j37 => p21_l3 k u0_1 j37 k (0 : Int))) fun j3 => p21_l1 k u0_0 j3 k (0 : Int)))
theorem hf21 : Try.prog.funcs[21]? = some Try.f21 := by kernel_rfl
theorem w21 (k : Nat) {M : Mem} {Au0_0 : Option Addr} {cu0_0 : Nat} {u0_0 : List (List Int)} {u0_1 : List Int} (hu0_0 : SlR M Au0_0 cu0_0 .i64 11 u0_0) (hu0_1 : u0_1.length = 4) {r} (h : p21 k u0_0 u0_1 = some r) :
    Fn Try.prog 21 [rval (.agg [.one (.v (.slice Au0_0 (List.length u0_0) cu0_0)), .arr .i64 4 u0_1])] M (fun x _ => x = .lf (.v (.int .i64 r))) := by
  unfold p21 at h
  refine Fn_of (P := Try.prog) (fn := Try.f21) (c := bodyOf Try.f21) [.agg [.one (.v (.slice Au0_0 (List.length u0_0) cu0_0)), .arr .i64 4 u0_1]] hf21 (by kernel_rfl) (Nat.le_of_ble_eq_true (by kernel_rfl)) (args_ok (by kernel_rfl) ⟨⟨rfl, ⟨hu0_1, trivial⟩⟩, trivial⟩) fun w => ?_
  change T _ _ _ (endQ _ _ _)
  refine T_seq (c1 := (sub [0] (bodyOf Try.f21))) (c2 := (sub [1] (bodyOf Try.f21))) (by kernel_rfl) ?_
  refine T_region (id := 0) (by kernel_rfl) ?_
  refine TI_segK (i := 0) (j := 2) (s' := { σ := [(1, .lf (.own 1 0))], H := [(1, [.one (.v (.slice Au0_0 (List.length u0_0) cu0_0)), .arr .i64 4 u0_1])], V := [], M := M, ds := [] }) [1] [1] [] (by kernel_rfl) (by kernel_rfl) ?_
  refine TI_end (by kernel_rfl) ?_
  refine thenQ_n ?_
  refine T_seq (c1 := (sub [1, 0] (bodyOf Try.f21))) (c2 := (sub [1, 1] (bodyOf Try.f21))) (by kernel_rfl) ?_
  refine T_region (id := 1) (by kernel_rfl) ?_
  refine TI_segK (i := 0) (j := 4) (s' := { σ := [(1, .lf (.own 1 0)), (3, .lf (.v (.int .i64 (List.length u0_0 : Int))))], H := [(1, [.one (.v (.slice Au0_0 (List.length u0_0) cu0_0)), .arr .i64 4 u0_1])], V := [], M := M, ds := [] }) [1, 3] [1] [] (by kernel_rfl) (by kernel_rfl) ?_
  refine TI_end (by kernel_rfl) ?_
  refine thenQ_n ?_
  refine T_seq (c1 := (sub [1, 1, 0] (bodyOf Try.f21))) (c2 := (sub [1, 1, 1] (bodyOf Try.f21))) (by kernel_rfl) ?_
  refine T_seq (c1 := (sub [1, 1, 0, 0] (bodyOf Try.f21))) (c2 := (sub [1, 1, 0, 1] (bodyOf Try.f21))) (by kernel_rfl) ?_
  refine T_region (id := 2) (by kernel_rfl) ?_
  obtain ⟨b1, e_b1, h⟩ := lt_some h
  refine TI_segK (i := 0) (j := 2) (s' := { σ := [(1, .lf (.own 1 0)), (3, .lf (.v (.int .i64 (List.length u0_0 : Int)))), (16, .lf (.v (.bool b1)))], H := [(1, [.one (.v (.slice Au0_0 (List.length u0_0) cu0_0)), .arr .i64 4 u0_1])], V := [], M := M, ds := [] }) [1, 3, 16] [1] [] (by subst e_b1; kernel_rfl) (by kernel_rfl) ?_
  refine TI_end (by kernel_rfl) ?_
  refine thenQ_n ?_
  cases b1 with
  | true =>
    replace h := sp_t h
    refine T_condT (x := (.tmp 16)) (c1 := (sub [1, 1, 0, 1, 0] (bodyOf Try.f21))) (c2 := (sub [1, 1, 0, 1, 1] (bodyOf Try.f21))) (by kernel_rfl) (by kernel_rfl) ?_
    refine T_keep (s' := { σ := [], H := [], V := [], M := M, ds := [] }) [] [] [] (by kernel_rfl) ?_
    refine T_seq (c1 := (sub [1, 1, 0, 1, 0, 0] (bodyOf Try.f21))) (c2 := (sub [1, 1, 0, 1, 0, 1] (bodyOf Try.f21))) (by kernel_rfl) ?_
    refine T_region (id := 3) (by kernel_rfl) ?_
    refine TI_segK (i := 0) (j := 1) (s' := { σ := [(2, .lf (.v (.int .i64 (6 : Int))))], H := [], V := [], M := M, ds := [] }) [2] [] [] (by kernel_rfl) (by kernel_rfl) ?_
    refine TI_end (by kernel_rfl) ?_
    refine thenQ_n ?_
    refine T_ret (by kernel_rfl) ?_
    refine thenQ_r ?_
    have h := Option.some.inj h
    subst h
    refine fin_ret (.lf (.v (.int .i64 (6 : Int)))) (by kernel_rfl) (by kernel_rfl) rfl ?_
    rfl
  | false =>
    replace h := sp_f h
    refine T_condF (x := (.tmp 16)) (c1 := (sub [1, 1, 0, 1, 0] (bodyOf Try.f21))) (c2 := (sub [1, 1, 0, 1, 1] (bodyOf Try.f21))) (by kernel_rfl) (by kernel_rfl) ?_
    refine T_keep (s' := { σ := [(1, .lf (.own 1 0)), (3, .lf (.v (.int .i64 (List.length u0_0 : Int))))], H := [(1, [.one (.v (.slice Au0_0 (List.length u0_0) cu0_0)), .arr .i64 4 u0_1])], V := [], M := M, ds := [] }) [1, 3] [1] [] (by kernel_rfl) ?_
    refine T_skip (by kernel_rfl) ?_
    refine thenQ_n ?_
    refine T_seq (c1 := (sub [1, 1, 1, 0] (bodyOf Try.f21))) (c2 := (sub [1, 1, 1, 1] (bodyOf Try.f21))) (by kernel_rfl) ?_
    refine T_seq (c1 := (sub [1, 1, 1, 0, 0] (bodyOf Try.f21))) (c2 := (sub [1, 1, 1, 0, 1] (bodyOf Try.f21))) (by kernel_rfl) ?_
    refine T_region (id := 4) (by kernel_rfl) ?_
    obtain ⟨b2, e_b2, h⟩ := lt_some h
    refine TI_segK (i := 0) (j := 2) (s' := { σ := [(1, .lf (.own 1 0)), (3, .lf (.v (.int .i64 (List.length u0_0 : Int)))), (18, .lf (.v (.bool b2)))], H := [(1, [.one (.v (.slice Au0_0 (List.length u0_0) cu0_0)), .arr .i64 4 u0_1])], V := [], M := M, ds := [] }) [1, 3, 18] [1] [] (by subst e_b2; kernel_rfl) (by kernel_rfl) ?_
    refine TI_end (by kernel_rfl) ?_
    refine thenQ_n ?_
    cases b2 with
    | true =>
      replace h := sp_t h
      refine T_condT (x := (.tmp 18)) (c1 := (sub [1, 1, 1, 0, 1, 0] (bodyOf Try.f21))) (c2 := (sub [1, 1, 1, 0, 1, 1] (bodyOf Try.f21))) (by kernel_rfl) (by kernel_rfl) ?_
      refine T_keep (s' := { σ := [], H := [], V := [], M := M, ds := [] }) [] [] [] (by kernel_rfl) ?_
      refine T_seq (c1 := (sub [1, 1, 1, 0, 1, 0, 0] (bodyOf Try.f21))) (c2 := (sub [1, 1, 1, 0, 1, 0, 1] (bodyOf Try.f21))) (by kernel_rfl) ?_
      refine T_region (id := 5) (by kernel_rfl) ?_
      refine TI_segK (i := 0) (j := 1) (s' := { σ := [(2, .lf (.v (.int .i64 (2 : Int))))], H := [], V := [], M := M, ds := [] }) [2] [] [] (by kernel_rfl) (by kernel_rfl) ?_
      refine TI_end (by kernel_rfl) ?_
      refine thenQ_n ?_
      refine T_ret (by kernel_rfl) ?_
      refine thenQ_r ?_
      have h := Option.some.inj h
      subst h
      refine fin_ret (.lf (.v (.int .i64 (2 : Int)))) (by kernel_rfl) (by kernel_rfl) rfl ?_
      rfl
    | false =>
      replace h := sp_f h
      refine T_condF (x := (.tmp 18)) (c1 := (sub [1, 1, 1, 0, 1, 0] (bodyOf Try.f21))) (c2 := (sub [1, 1, 1, 0, 1, 1] (bodyOf Try.f21))) (by kernel_rfl) (by kernel_rfl) ?_
      refine T_keep (s' := { σ := [(1, .lf (.own 1 0)), (3, .lf (.v (.int .i64 (List.length u0_0 : Int))))], H := [(1, [.one (.v (.slice Au0_0 (List.length u0_0) cu0_0)), .arr .i64 4 u0_1])], V := [], M := M, ds := [] }) [1, 3] [1] [] (by kernel_rfl) ?_
      refine T_skip (by kernel_rfl) ?_
      refine thenQ_n ?_
      refine T_seq (c1 := (sub [1, 1, 1, 1, 0] (bodyOf Try.f21))) (c2 := (sub [1, 1, 1, 1, 1] (bodyOf Try.f21))) (by kernel_rfl) ?_
      refine T_seq (c1 := (sub [1, 1, 1, 1, 0, 0] (bodyOf Try.f21))) (c2 := (sub [1, 1, 1, 1, 0, 1] (bodyOf Try.f21))) (by kernel_rfl) ?_
      refine T_region (id := 6) (by kernel_rfl) ?_
      refine TI_segK (i := 0) (j := 1) (s' := { σ := [(1, .lf (.own 1 0)), (3, .lf (.v (.int .i64 (List.length u0_0 : Int)))), (4, .lf (.v (.int .i64 (0 : Int))))], H := [(1, [.one (.v (.slice Au0_0 (List.length u0_0) cu0_0)), .arr .i64 4 u0_1])], V := [], M := M, ds := [] }) [1, 3, 4] [1] [] (by kernel_rfl) (by kernel_rfl) ?_
      refine TI_end (by kernel_rfl) ?_
      refine thenQ_n ?_
      obtain ⟨j3, e_j3, h⟩ := jn_some h
      refine T_bcut (id := 0) (c1 := (sub [1, 1, 1, 1, 0, 1, 0] (bodyOf Try.f21))) (fun s' => Sub { σ := [(1, .lf (.own 1 0)), (3, .lf (.v (.int .i64 (List.length u0_0 : Int))))], H := [(1, [.one (.v (.slice Au0_0 (List.length u0_0) cu0_0)), .arr .i64 4 u0_1])], V := [], M := M, ds := [] } s' ∧ j3 = some r) (by kernel_rfl) ?_ ?_
      · refine T_loop (c1 := (sub [1, 1, 1, 1, 0, 1, 0, 0] (bodyOf Try.f21))) (by kernel_rfl) (fun n5 s' => ∃ (x4 : Int), Sub { σ := [(1, .lf (.own 1 0)), (3, .lf (.v (.int .i64 (List.length u0_0 : Int)))), (4, .lf (.v (.int .i64 x4)))], H := [(1, [.one (.v (.slice Au0_0 (List.length u0_0) cu0_0)), .arr .i64 4 u0_1])], V := [], M := M, ds := [] } s' ∧ p21_l1 k u0_0 j3 n5 x4 = some r) (k := k) ⟨(0 : Int), keep_sub (ts := [1, 3, 4]) (hs := [1]) (vs := []) (by kernel_rfl), h⟩ ?_
        rintro n5 s' ⟨x4, hsub, h⟩
        cases n5 with
        | zero => rw [p21_l1] at h; cases h
        | succ n5 =>
          rw [p21_l1] at h
          refine T_sub hsub ?_
          refine T_seq (c1 := (sub [1, 1, 1, 1, 0, 1, 0, 0, 0] (bodyOf Try.f21))) (c2 := (sub [1, 1, 1, 1, 0, 1, 0, 0, 1] (bodyOf Try.f21))) (by kernel_rfl) ?_
          refine T_seq (c1 := (sub [1, 1, 1, 1, 0, 1, 0, 0, 0, 0] (bodyOf Try.f21))) (c2 := (sub [1, 1, 1, 1, 0, 1, 0, 0, 0, 1] (bodyOf Try.f21))) (by kernel_rfl) ?_
          refine T_region (id := 7) (by kernel_rfl) ?_
          obtain ⟨b6, e_b6, h⟩ := lt_some h
          refine TI_segK (i := 0) (j := 3) (s' := { σ := [(1, .lf (.own 1 0)), (3, .lf (.v (.int .i64 (List.length u0_0 : Int)))), (4, .lf (.v (.int .i64 x4))), (21, .lf (.v (.bool b6)))], H := [(1, [.one (.v (.slice Au0_0 (List.length u0_0) cu0_0)), .arr .i64 4 u0_1])], V := [], M := M, ds := [] }) [1, 3, 4, 21] [1] [] (by subst e_b6; kernel_rfl) (by kernel_rfl) ?_
          refine TI_end (by kernel_rfl) ?_
          refine thenQ_n ?_
          cases b6 with
          | true =>
            replace h := sp_t h
            refine T_condT (x := (.tmp 21)) (c1 := (sub [1, 1, 1, 1, 0, 1, 0, 0, 0, 1, 0] (bodyOf Try.f21))) (c2 := (sub [1, 1, 1, 1, 0, 1, 0, 0, 0, 1, 1] (bodyOf Try.f21))) (by kernel_rfl) (by kernel_rfl) ?_
            refine T_keep (s' := { σ := [(1, .lf (.own 1 0)), (3, .lf (.v (.int .i64 (List.length u0_0 : Int)))), (4, .lf (.v (.int .i64 x4)))], H := [(1, [.one (.v (.slice Au0_0 (List.length u0_0) cu0_0)), .arr .i64 4 u0_1])], V := [], M := M, ds := [] }) [1, 3, 4] [1] [] (by kernel_rfl) ?_
            refine T_skip (by kernel_rfl) ?_
            refine thenQ_n ?_
            refine T_seq (c1 := (sub [1, 1, 1, 1, 0, 1, 0, 0, 1, 0] (bodyOf Try.f21))) (c2 := (sub [1, 1, 1, 1, 0, 1, 0, 0, 1, 1] (bodyOf Try.f21))) (by kernel_rfl) ?_
            refine T_block (id := 1) (c1 := (sub [1, 1, 1, 1, 0, 1, 0, 0, 1, 0, 0] (bodyOf Try.f21))) (by kernel_rfl) ?_
            refine T_seq (c1 := (sub [1, 1, 1, 1, 0, 1, 0, 0, 1, 0, 0, 0] (bodyOf Try.f21))) (c2 := (sub [1, 1, 1, 1, 0, 1, 0, 0, 1, 0, 0, 1] (bodyOf Try.f21))) (by kernel_rfl) ?_
            refine T_region (id := 9) (by kernel_rfl) ?_
            refine TI_segK (i := 0) (j := 3) (s' := { σ := [(1, .lf (.own 1 0)), (3, .lf (.v (.int .i64 (List.length u0_0 : Int)))), (4, .lf (.v (.int .i64 x4))), (25, .lf (.v (.slice Au0_0 (List.length u0_0) cu0_0))), (26, .lf (.v (.int .i64 x4)))], H := [(1, [.one (.v (.slice Au0_0 (List.length u0_0) cu0_0)), .arr .i64 4 u0_1])], V := [], M := M, ds := [] }) [1, 3, 4, 25, 26] [1] [] (by kernel_rfl) (by kernel_rfl) ?_
            obtain ⟨g7, h⟩ := gd_some h
            refine TI_at (i := 3) (d := 27) (x := .lf (.ep (.slice Au0_0 (List.length u0_0) cu0_0) 11 ((x4).toNat) 0)) (by exact At_idxR (d := 27) (z := x4) (by kernel_rfl) g7 hu0_0) (by kernel_rfl) trivial ?_
            obtain ⟨L8, e_L8, h⟩ := lt_some h
            have l_L8 : (L8).length = 11 := by rw [e_L8]; exact SlR_row hu0_0 (toNat_lt g7)
            refine TI_at (i := 4) (d := 28) (x := .agg [.arr .i64 11 L8]) (by rw [e_L8]; exact At_ldRow (d := 28) (q := (x4).toNat) (by subst e_L8; kernel_rfl) (toNat_lt g7) hu0_0) (by kernel_rfl) ⟨l_L8, trivial⟩ ?_
            refine TI_segK (i := 5) (j := 7) (s' := { σ := [(1, .lf (.own 1 0)), (3, .lf (.v (.int .i64 (List.length u0_0 : Int)))), (4, .lf (.v (.int .i64 x4))), (5, .lf (.own 5 0))], H := [(1, [.one (.v (.slice Au0_0 (List.length u0_0) cu0_0)), .arr .i64 4 u0_1]), (5, [.arr .i64 11 L8])], V := [], M := M, ds := [] }) [1, 3, 4, 5] [1, 5] [] (by kernel_rfl) (by kernel_rfl) ?_
            refine TI_end (by kernel_rfl) ?_
            refine thenQ_n ?_
            refine T_seq (c1 := (sub [1, 1, 1, 1, 0, 1, 0, 0, 1, 0, 0, 1, 0] (bodyOf Try.f21))) (c2 := (sub [1, 1, 1, 1, 0, 1, 0, 0, 1, 0, 0, 1, 1] (bodyOf Try.f21))) (by kernel_rfl) ?_
            obtain ⟨j10, e_j10, h⟩ := jn_some h
            refine T_cut (c1 := (sub [1, 1, 1, 1, 0, 1, 0, 0, 1, 0, 0, 1, 0, 0] (bodyOf Try.f21))) (c2 := (sub [1, 1, 1, 1, 0, 1, 0, 0, 1, 0, 0, 1, 0, 1] (bodyOf Try.f21))) (fun s' => ∃ (b9 : Bool), Sub { σ := [(1, .lf (.own 1 0)), (3, .lf (.v (.int .i64 (List.length u0_0 : Int)))), (4, .lf (.v (.int .i64 x4))), (5, .lf (.own 5 0)), (54, .lf (.v (.bool b9)))], H := [(1, [.one (.v (.slice Au0_0 (List.length u0_0) cu0_0)), .arr .i64 4 u0_1]), (5, [.arr .i64 11 L8])], V := [], M := M, ds := [] } s' ∧ j10 b9 = some r) (by kernel_rfl) ?_ ?_
            · obtain ⟨x11, e_x11, h⟩ := lt_some h
              obtain ⟨v12, c_v12, h⟩ := cl_some h
              cases v12 with
              | true =>
                replace h := sp_t h
                obtain ⟨b13, e_b13, h⟩ := lt_some h
                cases b13 with
                | true =>
                  replace h := sp_t h
                  obtain ⟨x14, e_x14, h⟩ := lt_some h
                  obtain ⟨x15, e_x15, h⟩ := lt_some h
                  obtain ⟨g16, h⟩ := gd_some h
                  obtain ⟨x17, e_x17, h⟩ := lt_some h
                  obtain ⟨b18, e_b18, h⟩ := lt_some h
                  cases b18 with
                  | true =>
                    replace h := sp_t h
                    refine T_draw' (id := 10) [] [0, 0, 0, 0, 0, 0, 0, 0, 0, 0, 0, 0, 0, 0, 0, 0, 0, 0, 0, 0, 0, 0, 0, 0, 0, 0] (by kernel_rfl) (by kernel_rfl) (by kernel_rfl) (by kernel_rfl) [(29, .lf (.own 5 0)), (30, .lf (.v (.int .i64 x11))), (31, .lf (.v (.bool true))), (32, .lf (.v (.bool false))), (33, .lf (.v (.bool false))), (34, .lf (.v (.int .i64 x4))), (35, .lf (.v (.bool true))), (36, .lf (.v (.bool true))), (37, .lf (.own 5 0)), (38, .lf (.v (.int .i64 x14))), (39, .lf (.own 1 0)), (40, .lf (.v (.slice Au0_0 (List.length u0_0) cu0_0))), (41, .lf (.v (.int .i64 x4))), (42, .lf (.v (.int .i64 x15))), (43, .lf (.ep (.slice Au0_0 (List.length u0_0) cu0_0) 11 ((x15).toNat) 0)), (44, .lf (.ep (.slice Au0_0 (List.length u0_0) cu0_0) 11 ((x15).toNat) 0)), (45, .lf (.v (.int .i64 x17))), (46, .lf (.v (.bool true))), (47, .lf (.v (.bool true))), (48, .lf (.v (.bool true))), (49, .lf (.v (.bool true))), (50, .tup []), (51, .tup []), (52, .tup []), (53, .tup []), (54, .lf (.v (.bool true)))] (by kernel_rfl) ⟨trivial, ⟨trivial, ⟨trivial, ⟨trivial, ⟨trivial, ⟨trivial, ⟨trivial, ⟨trivial, ⟨trivial, ⟨trivial, ⟨trivial, ⟨trivial, ⟨trivial, ⟨trivial, ⟨trivial, ⟨trivial, ⟨trivial, ⟨trivial, ⟨trivial, ⟨trivial, ⟨trivial, ⟨(by intro y hy; cases hy), ⟨(by intro y hy; cases hy), ⟨(by intro y hy; cases hy), ⟨(by intro y hy; cases hy), ⟨trivial, trivial⟩⟩⟩⟩⟩⟩⟩⟩⟩⟩⟩⟩⟩⟩⟩⟩⟩⟩⟩⟩⟩⟩⟩⟩⟩⟩ ?_
                    refine Stage_nil (stage_all' [0, 1, 3, 4, 5, 7, 8, 9, 10, 11, 12, 13, 15, 18, 19, 20, 21, 22, 23, 24, 25] [2, 6, 14, 16, 17] (by kernel_rfl) (by subst e_x17 e_x15 e_x14 e_x11; kernel_rfl) (by kernel_rfl) ⟨QF_at (i := 2) (d := 31) (x := .lf (.v (.bool true))) (show OpAt _ _ _ 2 31 (.lf (.v (.bool true))) from by exact At_call (d := 31) (f := 50) (args := [rval (.lf (.v (.int .i64 x11))), rval (.lf (.v (.int .i64 (0 : Int)))), rval (.lf (.v (.int .i64 (1099511627776 : Int))))]) (x := .lf (.v (.bool true))) (by subst e_x17 e_x15 e_x14 e_x11; kernel_rfl) (w50 k  c_v12)) (by kernel_rfl) (by subst e_x17 e_x15 e_x14 e_x11; kernel_rfl), ⟨QF_at (i := 6) (d := 35) (x := .lf (.v (.bool true))) (show OpAt _ _ _ 6 35 (.lf (.v (.bool true))) from by exact At_bin (d := 35) (b := .gtr) (u := .int .i64 x4) (v := .int .i64 (0 : Int)) (w' := .bool true) (by subst e_x17 e_x15 e_x14 e_x11; kernel_rfl) (by rw [show exBin .gtr (.int .i64 x4) (.int .i64 (0 : Int)) = some (.bool (decide (x4 > (0 : Int)))) from by kernel_rfl, ← e_b13])) (by kernel_rfl) (by subst e_x17 e_x15 e_x14 e_x11; kernel_rfl), ⟨QF_at (i := 14) (d := 43) (x := .lf (.ep (.slice Au0_0 (List.length u0_0) cu0_0) 11 ((x15).toNat) 0)) (show OpAt _ _ _ 14 43 (.lf (.ep (.slice Au0_0 (List.length u0_0) cu0_0) 11 ((x15).toNat) 0)) from by exact At_idxR (d := 43) (z := x15) (by subst e_x17 e_x15 e_x14 e_x11; kernel_rfl) g16 hu0_0) (by kernel_rfl) (by subst e_x17 e_x15 e_x14 e_x11; kernel_rfl), ⟨QF_at (i := 16) (d := 45) (x := .lf (.v (.int .i64 x17))) (show OpAt _ _ _ 16 45 (.lf (.v (.int .i64 x17))) from by rw [e_x17]; exact At_ldR1 (d := 45) (q := (x15).toNat) (j := 0) (by subst e_x17 e_x15 e_x14 e_x11; kernel_rfl) rfl (toNat_lt g16) hu0_0) (by kernel_rfl) (by subst e_x17 e_x15 e_x14 e_x11; kernel_rfl), ⟨QF_at (i := 17) (d := 46) (x := .lf (.v (.bool true))) (show OpAt _ _ _ 17 46 (.lf (.v (.bool true))) from by exact At_bin (d := 46) (b := .leq) (u := .int .i64 x14) (v := .int .i64 x17) (w' := .bool true) (by subst e_x17 e_x15 e_x14 e_x11; kernel_rfl) (by rw [show exBin .leq (.int .i64 x14) (.int .i64 x17) = some (.bool (decide (x14 ≤ x17))) from by kernel_rfl, ← e_b18])) (by kernel_rfl) (by subst e_x17 e_x15 e_x14 e_x11; kernel_rfl), trivial⟩⟩⟩⟩⟩) ?_
                    refine thenQ_n ?_
                    exact ⟨true, keep_sub (ts := [1, 3, 4, 5, 54]) (hs := [1, 5]) (vs := []) (by subst e_x17 e_x15 e_x14 e_x11; kernel_rfl), h⟩
                  | false =>
                    replace h := sp_f h
                    obtain ⟨v19, c_v19, h⟩ := cl_some h
                    refine T_draw' (id := 10) [] [0, 0, 0, 0, 0, 0, 0, 0, 0, 0, 0, 0, 0, 0, 0, 0, 0, 0, 0, 0, 0, 0, 0, 0, 0, 0] (by kernel_rfl) (by kernel_rfl) (by kernel_rfl) (by kernel_rfl) [(29, .lf (.own 5 0)), (30, .lf (.v (.int .i64 x11))), (31, .lf (.v (.bool true))), (32, .lf (.v (.bool false))), (33, .lf (.v (.bool false))), (34, .lf (.v (.int .i64 x4))), (35, .lf (.v (.bool true))), (36, .lf (.v (.bool true))), (37, .lf (.own 5 0)), (38, .lf (.v (.int .i64 x14))), (39, .lf (.own 1 0)), (40, .lf (.v (.slice Au0_0 (List.length u0_0) cu0_0))), (41, .lf (.v (.int .i64 x4))), (42, .lf (.v (.int .i64 x15))), (43, .lf (.ep (.slice Au0_0 (List.length u0_0) cu0_0) 11 ((x15).toNat) 0)), (44, .lf (.ep (.slice Au0_0 (List.length u0_0) cu0_0) 11 ((x15).toNat) 0)), (45, .lf (.v (.int .i64 x17))), (46, .lf (.v (.bool false))), (47, .lf (.v (.bool false))), (48, .lf (.v (.bool false))), (49, .lf (.v (.bool false))), (50, .lf (.own 5 1)), (51, .agg [.arr .i64 2 (List.take 2 (List.drop 1 L8))]), (52, .lf (.v (.bool v19))), (53, .lf (.v (.bool (!v19)))), (54, .lf (.v (.bool (!v19))))] (by kernel_rfl) ⟨trivial, ⟨trivial, ⟨trivial, ⟨trivial, ⟨trivial, ⟨trivial, ⟨trivial, ⟨trivial, ⟨trivial, ⟨trivial, ⟨trivial, ⟨trivial, ⟨trivial, ⟨trivial, ⟨trivial, ⟨trivial, ⟨trivial, ⟨trivial, ⟨trivial, ⟨trivial, ⟨trivial, ⟨trivial, ⟨⟨(len_dt l_L8 (Nat.le_of_ble_eq_true rfl)), trivial⟩, ⟨trivial, ⟨trivial, ⟨trivial, trivial⟩⟩⟩⟩⟩⟩⟩⟩⟩⟩⟩⟩⟩⟩⟩⟩⟩⟩⟩⟩⟩⟩⟩⟩⟩⟩ ?_
                    refine Stage_nil (stage_all' [0, 1, 3, 4, 5, 7, 8, 9, 10, 11, 12, 13, 15, 18, 19, 20, 21, 22, 24, 25] [2, 6, 14, 16, 17, 23] (by kernel_rfl) (by subst e_x17 e_x15 e_x14 e_x11; kernel_rfl) (by kernel_rfl) ⟨QF_at (i := 2) (d := 31) (x := .lf (.v (.bool true))) (show OpAt _ _ _ 2 31 (.lf (.v (.bool true))) from by exact At_call (d := 31) (f := 50) (args := [rval (.lf (.v (.int .i64 x11))), rval (.lf (.v (.int .i64 (0 : Int)))), rval (.lf (.v (.int .i64 (1099511627776 : Int))))]) (x := .lf (.v (.bool true))) (by subst e_x17 e_x15 e_x14 e_x11; kernel_rfl) (w50 k  c_v12)) (by kernel_rfl) (by subst e_x17 e_x15 e_x14 e_x11; kernel_rfl), ⟨QF_at (i := 6) (d := 35) (x := .lf (.v (.bool true))) (show OpAt _ _ _ 6 35 (.lf (.v (.bool true))) from by exact At_bin (d := 35) (b := .gtr) (u := .int .i64 x4) (v := .int .i64 (0 : Int)) (w' := .bool true) (by subst e_x17 e_x15 e_x14 e_x11; kernel_rfl) (by rw [show exBin .gtr (.int .i64 x4) (.int .i64 (0 : Int)) = some (.bool (decide (x4 > (0 : Int)))) from by kernel_rfl, ← e_b13])) (by kernel_rfl) (by subst e_x17 e_x15 e_x14 e_x11; kernel_rfl), ⟨QF_at (i := 14) (d := 43) (x := .lf (.ep (.slice Au0_0 (List.length u0_0) cu0_0) 11 ((x15).toNat) 0)) (show OpAt _ _ _ 14 43 (.lf (.ep (.slice Au0_0 (List.length u0_0) cu0_0) 11 ((x15).toNat) 0)) from by exact At_idxR (d := 43) (z := x15) (by subst e_x17 e_x15 e_x14 e_x11; kernel_rfl) g16 hu0_0) (by kernel_rfl) (by subst e_x17 e_x15 e_x14 e_x11; kernel_rfl), ⟨QF_at (i := 16) (d := 45) (x := .lf (.v (.int .i64 x17))) (show OpAt _ _ _ 16 45 (.lf (.v (.int .i64 x17))) from by rw [e_x17]; exact At_ldR1 (d := 45) (q := (x15).toNat) (j := 0) (by subst e_x17 e_x15 e_x14 e_x11; kernel_rfl) rfl (toNat_lt g16) hu0_0) (by kernel_rfl) (by subst e_x17 e_x15 e_x14 e_x11; kernel_rfl), ⟨QF_at (i := 17) (d := 46) (x := .lf (.v (.bool false))) (show OpAt _ _ _ 17 46 (.lf (.v (.bool false))) from by exact At_bin (d := 46) (b := .leq) (u := .int .i64 x14) (v := .int .i64 x17) (w' := .bool false) (by subst e_x17 e_x15 e_x14 e_x11; kernel_rfl) (by rw [show exBin .leq (.int .i64 x14) (.int .i64 x17) = some (.bool (decide (x14 ≤ x17))) from by kernel_rfl, ← e_b18])) (by kernel_rfl) (by subst e_x17 e_x15 e_x14 e_x11; kernel_rfl), ⟨QF_at (i := 23) (d := 52) (x := .lf (.v (.bool v19))) (show OpAt _ _ _ 23 52 (.lf (.v (.bool v19))) from by exact At_call (d := 52) (f := 52) (args := [rval (.agg [.arr .i64 2 (List.take 2 (List.drop 1 L8))])]) (x := .lf (.v (.bool v19))) (by subst e_x17 e_x15 e_x14 e_x11; kernel_rfl) (w52 k (len_dt l_L8 (Nat.le_of_ble_eq_true rfl)) c_v19)) (by kernel_rfl) (by subst e_x17 e_x15 e_x14 e_x11; kernel_rfl), trivial⟩⟩⟩⟩⟩⟩) ?_
                    refine thenQ_n ?_
                    exact ⟨(!v19), keep_sub (ts := [1, 3, 4, 5, 54]) (hs := [1, 5]) (vs := []) (by subst e_x17 e_x15 e_x14 e_x11; kernel_rfl), h⟩
                | false =>
                  replace h := sp_f h
                  obtain ⟨v20, c_v20, h⟩ := cl_some h
                  refine T_draw' (id := 10) [] [0, 0, 0, 0, 0, 0, 0, 0, 0, 0, 0, 0, 0, 0, 0, 0, 0, 0, 0, 0, 0, 0, 0, 0, 0, 0] (by kernel_rfl) (by kernel_rfl) (by kernel_rfl) (by kernel_rfl) [(29, .lf (.own 5 0)), (30, .lf (.v (.int .i64 x11))), (31, .lf (.v (.bool true))), (32, .lf (.v (.bool false))), (33, .lf (.v (.bool false))), (34, .lf (.v (.int .i64 x4))), (35, .lf (.v (.bool false))), (36, .lf (.v (.bool false))), (37, .tup []), (38, .tup []), (39, .tup []), (40, .tup []), (41, .tup []), (42, .tup []), (43, .tup []), (44, .tup []), (45, .tup []), (46, .tup []), (47, .lf (.v (.bool false))), (48, .lf (.v (.bool false))), (49, .lf (.v (.bool false))), (50, .lf (.own 5 1)), (51, .agg [.arr .i64 2 (List.take 2 (List.drop 1 L8))]), (52, .lf (.v (.bool v20))), (53, .lf (.v (.bool (!v20)))), (54, .lf (.v (.bool (!v20))))] (by kernel_rfl) ⟨trivial, ⟨trivial, ⟨trivial, ⟨trivial, ⟨trivial, ⟨trivial, ⟨trivial, ⟨trivial, ⟨(by intro y hy; cases hy), ⟨(by intro y hy; cases hy), ⟨(by intro y hy; cases hy), ⟨(by intro y hy; cases hy), ⟨(by intro y hy; cases hy), ⟨(by intro y hy; cases hy), ⟨(by intro y hy; cases hy), ⟨(by intro y hy; cases hy), ⟨(by intro y hy; cases hy), ⟨(by intro y hy; cases hy), ⟨trivial, ⟨trivial, ⟨trivial, ⟨trivial, ⟨⟨(len_dt l_L8 (Nat.le_of_ble_eq_true rfl)), trivial⟩, ⟨trivial, ⟨trivial, ⟨trivial, trivial⟩⟩⟩⟩⟩⟩⟩⟩⟩⟩⟩⟩⟩⟩⟩⟩⟩⟩⟩⟩⟩⟩⟩⟩⟩⟩ ?_
                  refine Stage_nil (stage_all' [0, 1, 3, 4, 5, 7, 8, 9, 10, 11, 12, 13, 14, 15, 16, 17, 18, 19, 20, 21, 22, 24, 25] [2, 6, 23] (by kernel_rfl) (by subst e_x11; kernel_rfl) (by kernel_rfl) ⟨QF_at (i := 2) (d := 31) (x := .lf (.v (.bool true))) (show OpAt _ _ _ 2 31 (.lf (.v (.bool true))) from by exact At_call (d := 31) (f := 50) (args := [rval (.lf (.v (.int .i64 x11))), rval (.lf (.v (.int .i64 (0 : Int)))), rval (.lf (.v (.int .i64 (1099511627776 : Int))))]) (x := .lf (.v (.bool true))) (by subst e_x11; kernel_rfl) (w50 k  c_v12)) (by kernel_rfl) (by subst e_x11; kernel_rfl), ⟨QF_at (i := 6) (d := 35) (x := .lf (.v (.bool false))) (show OpAt _ _ _ 6 35 (.lf (.v (.bool false))) from by exact At_bin (d := 35) (b := .gtr) (u := .int .i64 x4) (v := .int .i64 (0 : Int)) (w' := .bool false) (by subst e_x11; kernel_rfl) (by rw [show exBin .gtr (.int .i64 x4) (.int .i64 (0 : Int)) = some (.bool (decide (x4 > (0 : Int)))) from by kernel_rfl, ← e_b13])) (by kernel_rfl) (by subst e_x11; kernel_rfl), ⟨QF_at (i := 23) (d := 52) (x := .lf (.v (.bool v20))) (show OpAt _ _ _ 23 52 (.lf (.v (.bool v20))) from by exact At_call (d := 52) (f := 52) (args := [rval (.agg [.arr .i64 2 (List.take 2 (List.drop 1 L8))])]) (x := .lf (.v (.bool v20))) (by subst e_x11; kernel_rfl) (w52 k (len_dt l_L8 (Nat.le_of_ble_eq_true rfl)) c_v20)) (by kernel_rfl) (by subst e_x11; kernel_rfl), trivial⟩⟩⟩) ?_
                  refine thenQ_n ?_
                  exact ⟨(!v20), keep_sub (ts := [1, 3, 4, 5, 54]) (hs := [1, 5]) (vs := []) (by subst e_x11; kernel_rfl), h⟩
              | false =>
                replace h := sp_f h
                refine T_draw' (id := 10) [] [0, 0, 0, 0, 0, 0, 0, 0, 0, 0, 0, 0, 0, 0, 0, 0, 0, 0, 0, 0, 0, 0, 0, 0, 0, 0] (by kernel_rfl) (by kernel_rfl) (by kernel_rfl) (by kernel_rfl) [(29, .lf (.own 5 0)), (30, .lf (.v (.int .i64 x11))), (31, .lf (.v (.bool false))), (32, .lf (.v (.bool true))), (33, .lf (.v (.bool true))), (34, .tup []), (35, .tup []), (36, .tup []), (37, .tup []), (38, .tup []), (39, .tup []), (40, .tup []), (41, .tup []), (42, .tup []), (43, .tup []), (44, .tup []), (45, .tup []), (46, .tup []), (47, .tup []), (48, .lf (.v (.bool true))), (49, .lf (.v (.bool true))), (50, .tup []), (51, .tup []), (52, .tup []), (53, .tup []), (54, .lf (.v (.bool true)))] (by kernel_rfl) ⟨trivial, ⟨trivial, ⟨trivial, ⟨trivial, ⟨trivial, ⟨(by intro y hy; cases hy), ⟨(by intro y hy; cases hy), ⟨(by intro y hy; cases hy), ⟨(by intro y hy; cases hy), ⟨(by intro y hy; cases hy), ⟨(by intro y hy; cases hy), ⟨(by intro y hy; cases hy), ⟨(by intro y hy; cases hy), ⟨(by intro y hy; cases hy), ⟨(by intro y hy; cases hy), ⟨(by intro y hy; cases hy), ⟨(by intro y hy; cases hy), ⟨(by intro y hy; cases hy), ⟨(by intro y hy; cases hy), ⟨trivial, ⟨trivial, ⟨(by intro y hy; cases hy), ⟨(by intro y hy; cases hy), ⟨(by intro y hy; cases hy), ⟨(by intro y hy; cases hy), ⟨trivial, trivial⟩⟩⟩⟩⟩⟩⟩⟩⟩⟩⟩⟩⟩⟩⟩⟩⟩⟩⟩⟩⟩⟩⟩⟩⟩⟩ ?_
                refine Stage_nil (stage_all' [0, 1, 3, 4, 5, 6, 7, 8, 9, 10, 11, 12, 13, 14, 15, 16, 17, 18, 19, 20, 21, 22, 23, 24, 25] [2] (by kernel_rfl) (by subst e_x11; kernel_rfl) (by kernel_rfl) ⟨QF_at (i := 2) (d := 31) (x := .lf (.v (.bool false))) (show OpAt _ _ _ 2 31 (.lf (.v (.bool false))) from by exact At_call (d := 31) (f := 50) (args := [rval (.lf (.v (.int .i64 x11))), rval (.lf (.v (.int .i64 (0 : Int)))), rval (.lf (.v (.int .i64 (1099511627776 : Int))))]) (x := .lf (.v (.bool false))) (by subst e_x11; kernel_rfl) (w50 k  c_v12)) (by kernel_rfl) (by subst e_x11; kernel_rfl), trivial⟩) ?_
                refine thenQ_n ?_
                exact ⟨true, keep_sub (ts := [1, 3, 4, 5, 54]) (hs := [1, 5]) (vs := []) (by subst e_x11; kernel_rfl), h⟩
            · rintro s' ⟨b9, hsub, h⟩
              subst e_j10
              refine T_sub hsub ?_
              cases b9 with
              | true =>
                replace h := sp_t h
                refine T_condT (x := (.tmp 54)) (c1 := (sub [1, 1, 1, 1, 0, 1, 0, 0, 1, 0, 0, 1, 0, 1, 0] (bodyOf Try.f21))) (c2 := (sub [1, 1, 1, 1, 0, 1, 0, 0, 1, 0, 0, 1, 0, 1, 1] (bodyOf Try.f21))) (by kernel_rfl) (by kernel_rfl) ?_
                refine T_keep (s' := { σ := [], H := [], V := [], M := M, ds := [] }) [] [] [] (by kernel_rfl) ?_
                refine T_seq (c1 := (sub [1, 1, 1, 1, 0, 1, 0, 0, 1, 0, 0, 1, 0, 1, 0, 0] (bodyOf Try.f21))) (c2 := (sub [1, 1, 1, 1, 0, 1, 0, 0, 1, 0, 0, 1, 0, 1, 0, 1] (bodyOf Try.f21))) (by kernel_rfl) ?_
                refine T_region (id := 11) (by kernel_rfl) ?_
                refine TI_segK (i := 0) (j := 1) (s' := { σ := [(2, .lf (.v (.int .i64 (2 : Int))))], H := [], V := [], M := M, ds := [] }) [2] [] [] (by kernel_rfl) (by kernel_rfl) ?_
                refine TI_end (by kernel_rfl) ?_
                refine thenQ_n ?_
                refine T_ret (by kernel_rfl) ?_
                refine thenQ_r ?_
                refine blockQ_r ?_
                refine thenQ_r ?_
                refine thenQ_r ?_
                refine blockQ_r ?_
                refine thenQ_r ?_
                refine thenQ_r ?_
                have h := Option.some.inj h
                subst h
                refine fin_ret (.lf (.v (.int .i64 (2 : Int)))) (by kernel_rfl) (by kernel_rfl) rfl ?_
                rfl
              | false =>
                replace h := sp_f h
                refine T_condF (x := (.tmp 54)) (c1 := (sub [1, 1, 1, 1, 0, 1, 0, 0, 1, 0, 0, 1, 0, 1, 0] (bodyOf Try.f21))) (c2 := (sub [1, 1, 1, 1, 0, 1, 0, 0, 1, 0, 0, 1, 0, 1, 1] (bodyOf Try.f21))) (by kernel_rfl) (by kernel_rfl) ?_
                refine T_keep (s' := { σ := [(1, .lf (.own 1 0)), (3, .lf (.v (.int .i64 (List.length u0_0 : Int)))), (4, .lf (.v (.int .i64 x4))), (5, .lf (.own 5 0))], H := [(1, [.one (.v (.slice Au0_0 (List.length u0_0) cu0_0)), .arr .i64 4 u0_1]), (5, [.arr .i64 11 L8])], V := [], M := M, ds := [] }) [1, 3, 4, 5] [1, 5] [] (by kernel_rfl) ?_
                refine T_skip (by kernel_rfl) ?_
                refine thenQ_n ?_
                refine T_seq (c1 := (sub [1, 1, 1, 1, 0, 1, 0, 0, 1, 0, 0, 1, 1, 0] (bodyOf Try.f21))) (c2 := (sub [1, 1, 1, 1, 0, 1, 0, 0, 1, 0, 0, 1, 1, 1] (bodyOf Try.f21))) (by kernel_rfl) ?_
                refine T_region (id := 12) (by kernel_rfl) ?_
                refine TI_segK (i := 0) (j := 1) (s' := { σ := [(1, .lf (.own 1 0)), (3, .lf (.v (.int .i64 (List.length u0_0 : Int)))), (4, .lf (.v (.int .i64 x4))), (5, .lf (.own 5 0)), (6, .lf (.v (.int .i64 (0 : Int))))], H := [(1, [.one (.v (.slice Au0_0 (List.length u0_0) cu0_0)), .arr .i64 4 u0_1]), (5, [.arr .i64 11 L8])], V := [], M := M, ds := [] }) [1, 3, 4, 5, 6] [1, 5] [] (by kernel_rfl) (by kernel_rfl) ?_
                refine TI_end (by kernel_rfl) ?_
                refine thenQ_n ?_
                obtain ⟨j21, e_j21, h⟩ := jn_some h
                refine T_bcut (id := 2) (c1 := (sub [1, 1, 1, 1, 0, 1, 0, 0, 1, 0, 0, 1, 1, 1, 0] (bodyOf Try.f21))) (fun s' => Sub { σ := [(1, .lf (.own 1 0)), (3, .lf (.v (.int .i64 (List.length u0_0 : Int)))), (4, .lf (.v (.int .i64 x4)))], H := [(1, [.one (.v (.slice Au0_0 (List.length u0_0) cu0_0)), .arr .i64 4 u0_1])], V := [], M := M, ds := [] } s' ∧ j21 = some r) (by kernel_rfl) ?_ ?_
                · refine T_loop (c1 := (sub [1, 1, 1, 1, 0, 1, 0, 0, 1, 0, 0, 1, 1, 1, 0, 0] (bodyOf Try.f21))) (by kernel_rfl) (fun n23 s' => ∃ (x22 : Int), Sub { σ := [(1, .lf (.own 1 0)), (3, .lf (.v (.int .i64 (List.length u0_0 : Int)))), (4, .lf (.v (.int .i64 x4))), (5, .lf (.own 5 0)), (6, .lf (.v (.int .i64 x22)))], H := [(1, [.one (.v (.slice Au0_0 (List.length u0_0) cu0_0)), .arr .i64 4 u0_1]), (5, [.arr .i64 11 L8])], V := [], M := M, ds := [] } s' ∧ p21_l2 k j21 L8 n23 x22 = some r) (k := k) ⟨(0 : Int), keep_sub (ts := [1, 3, 4, 5, 6]) (hs := [1, 5]) (vs := []) (by kernel_rfl), h⟩ ?_
                  rintro n23 s' ⟨x22, hsub, h⟩
                  cases n23 with
                  | zero => rw [p21_l2] at h; cases h
                  | succ n23 =>
                    rw [p21_l2] at h
                    refine T_sub hsub ?_
                    refine T_seq (c1 := (sub [1, 1, 1, 1, 0, 1, 0, 0, 1, 0, 0, 1, 1, 1, 0, 0, 0] (bodyOf Try.f21))) (c2 := (sub [1, 1, 1, 1, 0, 1, 0, 0, 1, 0, 0, 1, 1, 1, 0, 0, 1] (bodyOf Try.f21))) (by kernel_rfl) ?_
                    refine T_seq (c1 := (sub [1, 1, 1, 1, 0, 1, 0, 0, 1, 0, 0, 1, 1, 1, 0, 0, 0, 0] (bodyOf Try.f21))) (c2 := (sub [1, 1, 1, 1, 0, 1, 0, 0, 1, 0, 0, 1, 1, 1, 0, 0, 0, 1] (bodyOf Try.f21))) (by kernel_rfl) ?_
                    refine T_region (id := 13) (by kernel_rfl) ?_
                    obtain ⟨b24, e_b24, h⟩ := lt_some h
                    refine TI_segK (i := 0) (j := 2) (s' := { σ := [(1, .lf (.own 1 0)), (3, .lf (.v (.int .i64 (List.length u0_0 : Int)))), (4, .lf (.v (.int .i64 x4))), (5, .lf (.own 5 0)), (6, .lf (.v (.int .i64 x22))), (56, .lf (.v (.bool b24)))], H := [(1, [.one (.v (.slice Au0_0 (List.length u0_0) cu0_0)), .arr .i64 4 u0_1]), (5, [.arr .i64 11 L8])], V := [], M := M, ds := [] }) [1, 3, 4, 5, 6, 56] [1, 5] [] (by subst e_b24; kernel_rfl) (by kernel_rfl) ?_
                    refine TI_end (by kernel_rfl) ?_
                    refine thenQ_n ?_
                    cases b24 with
                    | true =>
                      replace h := sp_t h
                      refine T_condT (x := (.tmp 56)) (c1 := (sub [1, 1, 1, 1, 0, 1, 0, 0, 1, 0, 0, 1, 1, 1, 0, 0, 0, 1, 0] (bodyOf Try.f21))) (c2 := (sub [1, 1, 1, 1, 0, 1, 0, 0, 1, 0, 0, 1, 1, 1, 0, 0, 0, 1, 1] (bodyOf Try.f21))) (by kernel_rfl) (by kernel_rfl) ?_
                      refine T_keep (s' := { σ := [(1, .lf (.own 1 0)), (3, .lf (.v (.int .i64 (List.length u0_0 : Int)))), (4, .lf (.v (.int .i64 x4))), (5, .lf (.own 5 0)), (6, .lf (.v (.int .i64 x22)))], H := [(1, [.one (.v (.slice Au0_0 (List.length u0_0) cu0_0)), .arr .i64 4 u0_1]), (5, [.arr .i64 11 L8])], V := [], M := M, ds := [] }) [1, 3, 4, 5, 6] [1, 5] [] (by kernel_rfl) ?_
                      refine T_skip (by kernel_rfl) ?_
                      refine thenQ_n ?_
                      refine T_seq (c1 := (sub [1, 1, 1, 1, 0, 1, 0, 0, 1, 0, 0, 1, 1, 1, 0, 0, 1, 0] (bodyOf Try.f21))) (c2 := (sub [1, 1, 1, 1, 0, 1, 0, 0, 1, 0, 0, 1, 1, 1, 0, 0, 1, 1] (bodyOf Try.f21))) (by kernel_rfl) ?_
                      refine T_block (id := 3) (c1 := (sub [1, 1, 1, 1, 0, 1, 0, 0, 1, 0, 0, 1, 1, 1, 0, 0, 1, 0, 0] (bodyOf Try.f21))) (by kernel_rfl) ?_
                      refine T_seq (c1 := (sub [1, 1, 1, 1, 0, 1, 0, 0, 1, 0, 0, 1, 1, 1, 0, 0, 1, 0, 0, 0] (bodyOf Try.f21))) (c2 := (sub [1, 1, 1, 1, 0, 1, 0, 0, 1, 0, 0, 1, 1, 1, 0, 0, 1, 0, 0, 1] (bodyOf Try.f21))) (by kernel_rfl) ?_
                      refine T_region (id := 15) (by kernel_rfl) ?_
                      refine TI_segK (i := 0) (j := 2) (s' := { σ := [(1, .lf (.own 1 0)), (3, .lf (.v (.int .i64 (List.length u0_0 : Int)))), (4, .lf (.v (.int .i64 x4))), (5, .lf (.own 5 0)), (6, .lf (.v (.int .i64 x22))), (59, .lf (.v (.int .i64 x22))), (60, .lf (.own 5 3))], H := [(1, [.one (.v (.slice Au0_0 (List.length u0_0) cu0_0)), .arr .i64 4 u0_1]), (5, [.arr .i64 11 L8])], V := [], M := M, ds := [] }) [1, 3, 4, 5, 6, 59, 60] [1, 5] [] (by kernel_rfl) (by kernel_rfl) ?_
                      obtain ⟨g25, h⟩ := gd_some h
                      refine TI_at (i := 2) (d := 61) (x := .lf (.oel 5 (3 + (x22).toNat * 2))) (by exact At_idxO (d := 61) (z := x22) (b := 5) (off := 3) (sz := 2) (n := 4) (by kernel_rfl) g25) (by kernel_rfl) trivial ?_
                      obtain ⟨L26, e_L26, h⟩ := lt_some h
                      have l_L26 : (L26).length = 2 := by rw [e_L26]; exact len_dt l_L8 (by omega)
                      refine TI_at (i := 3) (d := 62) (x := .agg [.arr .i64 2 L26]) (by rw [e_L26]; exact At_ldO (d := 62) (b := 5) (off := 3 + (x22).toNat * 2) (base := 0) (q := 3 + (x22).toNat * 2) (n := 11) (k := .i64) (L := L8) (by subst e_L26; kernel_rfl) (by subst e_L26; kernel_rfl) (by omega) (by omega)) (by kernel_rfl) ⟨l_L26, trivial⟩ ?_
                      obtain ⟨v27, c_v27, h⟩ := cl_some h
                      refine TI_at (i := 4) (d := 63) (x := .lf (.v (.bool v27))) (At_call (d := 63) (f := 52) (args := [rval (.agg [.arr .i64 2 L26])]) (x := .lf (.v (.bool v27))) (by kernel_rfl) (w52 k l_L26 c_v27)) (by kernel_rfl) trivial ?_
                      refine TI_segK (i := 5) (j := 6) (s' := { σ := [(1, .lf (.own 1 0)), (3, .lf (.v (.int .i64 (List.length u0_0 : Int)))), (4, .lf (.v (.int .i64 x4))), (5, .lf (.own 5 0)), (6, .lf (.v (.int .i64 x22))), (64, .lf (.v (.bool (!v27))))], H := [(1, [.one (.v (.slice Au0_0 (List.length u0_0) cu0_0)), .arr .i64 4 u0_1]), (5, [.arr .i64 11 L8])], V := [], M := M, ds := [] }) [1, 3, 4, 5, 6, 64] [1, 5] [] (by kernel_rfl) (by kernel_rfl) ?_
                      refine TI_end (by kernel_rfl) ?_
                      refine thenQ_n ?_
                      cases v27 with
                      | true =>
                        replace h := sp_t h
                        refine T_condF (x := (.tmp 64)) (c1 := (sub [1, 1, 1, 1, 0, 1, 0, 0, 1, 0, 0, 1, 1, 1, 0, 0, 1, 0, 0, 1, 0] (bodyOf Try.f21))) (c2 := (sub [1, 1, 1, 1, 0, 1, 0, 0, 1, 0, 0, 1, 1, 1, 0, 0, 1, 0, 0, 1, 1] (bodyOf Try.f21))) (by kernel_rfl) (by kernel_rfl) ?_
                        refine T_keep (s' := { σ := [(1, .lf (.own 1 0)), (3, .lf (.v (.int .i64 (List.length u0_0 : Int)))), (4, .lf (.v (.int .i64 x4))), (5, .lf (.own 5 0)), (6, .lf (.v (.int .i64 x22)))], H := [(1, [.one (.v (.slice Au0_0 (List.length u0_0) cu0_0)), .arr .i64 4 u0_1]), (5, [.arr .i64 11 L8])], V := [], M := M, ds := [] }) [1, 3, 4, 5, 6] [1, 5] [] (by kernel_rfl) ?_
                        refine T_skip (by kernel_rfl) ?_
                        refine blockQ_n ?_
                        refine thenQ_n ?_
                        refine T_region (id := 14) (by kernel_rfl) ?_
                        obtain ⟨x28, e_x28, h⟩ := lt_some h
                        refine TI_segK (i := 0) (j := 3) (s' := { σ := [(1, .lf (.own 1 0)), (3, .lf (.v (.int .i64 (List.length u0_0 : Int)))), (4, .lf (.v (.int .i64 x4))), (5, .lf (.own 5 0)), (6, .lf (.v (.int .i64 x28)))], H := [(1, [.one (.v (.slice Au0_0 (List.length u0_0) cu0_0)), .arr .i64 4 u0_1]), (5, [.arr .i64 11 L8])], V := [], M := M, ds := [] }) [1, 3, 4, 5, 6] [1, 5] [] (by subst e_x28; kernel_rfl) (by kernel_rfl) ?_
                        refine TI_end (by kernel_rfl) ?_
                        refine thenQ_n ?_
                        exact ⟨n23, Nat.lt_succ_self _, x28, keep_sub (ts := [1, 3, 4, 5, 6]) (hs := [1, 5]) (vs := []) (by kernel_rfl), h⟩
                      | false =>
                        replace h := sp_f h
                        refine T_condT (x := (.tmp 64)) (c1 := (sub [1, 1, 1, 1, 0, 1, 0, 0, 1, 0, 0, 1, 1, 1, 0, 0, 1, 0, 0, 1, 0] (bodyOf Try.f21))) (c2 := (sub [1, 1, 1, 1, 0, 1, 0, 0, 1, 0, 0, 1, 1, 1, 0, 0, 1, 0, 0, 1, 1] (bodyOf Try.f21))) (by kernel_rfl) (by kernel_rfl) ?_
                        refine T_keep (s' := { σ := [], H := [], V := [], M := M, ds := [] }) [] [] [] (by kernel_rfl) ?_
                        refine T_seq (c1 := (sub [1, 1, 1, 1, 0, 1, 0, 0, 1, 0, 0, 1, 1, 1, 0, 0, 1, 0, 0, 1, 0, 0] (bodyOf Try.f21))) (c2 := (sub [1, 1, 1, 1, 0, 1, 0, 0, 1, 0, 0, 1, 1, 1, 0, 0, 1, 0, 0, 1, 0, 1] (bodyOf Try.f21))) (by kernel_rfl) ?_
                        refine T_region (id := 16) (by kernel_rfl) ?_
                        refine TI_segK (i := 0) (j := 1) (s' := { σ := [(2, .lf (.v (.int .i64 (2 : Int))))], H := [], V := [], M := M, ds := [] }) [2] [] [] (by kernel_rfl) (by kernel_rfl) ?_
                        refine TI_end (by kernel_rfl) ?_
                        refine thenQ_n ?_
                        refine T_ret (by kernel_rfl) ?_
                        refine blockQ_r ?_
                        refine thenQ_r ?_
                        refine thenQ_r ?_
                        refine blockQ_r ?_
                        refine thenQ_r ?_
                        refine blockQ_r ?_
                        refine thenQ_r ?_
                        refine thenQ_r ?_
                        refine blockQ_r ?_
                        refine thenQ_r ?_
                        refine thenQ_r ?_
                        have h := Option.some.inj h
                        subst h
                        refine fin_ret (.lf (.v (.int .i64 (2 : Int)))) (by kernel_rfl) (by kernel_rfl) rfl ?_
                        rfl
                    | false =>
                      replace h := sp_f h
                      refine T_condF (x := (.tmp 56)) (c1 := (sub [1, 1, 1, 1, 0, 1, 0, 0, 1, 0, 0, 1, 1, 1, 0, 0, 0, 1, 0] (bodyOf Try.f21))) (c2 := (sub [1, 1, 1, 1, 0, 1, 0, 0, 1, 0, 0, 1, 1, 1, 0, 0, 0, 1, 1] (bodyOf Try.f21))) (by kernel_rfl) (by kernel_rfl) ?_
                      refine T_keep (s' := { σ := [(1, .lf (.own 1 0)), (3, .lf (.v (.int .i64 (List.length u0_0 : Int)))), (4, .lf (.v (.int .i64 x4)))], H := [(1, [.one (.v (.slice Au0_0 (List.length u0_0) cu0_0)), .arr .i64 4 u0_1])], V := [], M := M, ds := [] }) [1, 3, 4] [1] [] (by kernel_rfl) ?_
                      refine T_exit (id := 2) (by kernel_rfl) ?_
                      refine thenQ_x ?_
                      refine thenQ_x ?_
                      refine blockQ_x ?_
                      refine thenQ_n ?_
                      exact ⟨keep_sub (ts := [1, 3, 4]) (hs := [1]) (vs := []) (by kernel_rfl), h⟩
                · rintro s' ⟨hsub, h⟩
                  subst e_j21
                  refine blockQ_n ?_
                  refine thenQ_n ?_
                  refine T_sub hsub ?_
                  refine T_region (id := 8) (by kernel_rfl) ?_
                  obtain ⟨x29, e_x29, h⟩ := lt_some h
                  refine TI_segK (i := 0) (j := 3) (s' := { σ := [(1, .lf (.own 1 0)), (3, .lf (.v (.int .i64 (List.length u0_0 : Int)))), (4, .lf (.v (.int .i64 x29)))], H := [(1, [.one (.v (.slice Au0_0 (List.length u0_0) cu0_0)), .arr .i64 4 u0_1])], V := [], M := M, ds := [] }) [1, 3, 4] [1] [] (by subst e_x29; kernel_rfl) (by kernel_rfl) ?_
                  refine TI_end (by kernel_rfl) ?_
                  refine thenQ_n ?_
                  exact ⟨n5, Nat.lt_succ_self _, x29, keep_sub (ts := [1, 3, 4]) (hs := [1]) (vs := []) (by kernel_rfl), h⟩
          | false =>
            replace h := sp_f h
            refine T_condF (x := (.tmp 21)) (c1 := (sub [1, 1, 1, 1, 0, 1, 0, 0, 0, 1, 0] (bodyOf Try.f21))) (c2 := (sub [1, 1, 1, 1, 0, 1, 0, 0, 0, 1, 1] (bodyOf Try.f21))) (by kernel_rfl) (by kernel_rfl) ?_
            refine T_keep (s' := { σ := [(1, .lf (.own 1 0)), (3, .lf (.v (.int .i64 (List.length u0_0 : Int))))], H := [(1, [.one (.v (.slice Au0_0 (List.length u0_0) cu0_0)), .arr .i64 4 u0_1])], V := [], M := M, ds := [] }) [1, 3] [1] [] (by kernel_rfl) ?_
            refine T_exit (id := 0) (by kernel_rfl) ?_
            refine thenQ_x ?_
            refine thenQ_x ?_
            refine blockQ_x ?_
            refine thenQ_n ?_
            exact ⟨keep_sub (ts := [1, 3]) (hs := [1]) (vs := []) (by kernel_rfl), h⟩
      · rintro s' ⟨hsub, h⟩
        subst e_j3
        refine thenQ_n ?_
        refine T_sub hsub ?_
        refine T_seq (c1 := (sub [1, 1, 1, 1, 1, 0] (bodyOf Try.f21))) (c2 := (sub [1, 1, 1, 1, 1, 1] (bodyOf Try.f21))) (by kernel_rfl) ?_
        refine T_seq (c1 := (sub [1, 1, 1, 1, 1, 0, 0] (bodyOf Try.f21))) (c2 := (sub [1, 1, 1, 1, 1, 0, 1] (bodyOf Try.f21))) (by kernel_rfl) ?_
        obtain ⟨x30, e_x30, h⟩ := lt_some h
        obtain ⟨g31, h⟩ := gd_some h
        obtain ⟨x32, e_x32, h⟩ := lt_some h
        obtain ⟨g33, h⟩ := gd_some h
        obtain ⟨x34, e_x34, h⟩ := lt_some h
        obtain ⟨x35, e_x35, h⟩ := lt_some h
        obtain ⟨b36, e_b36, h⟩ := lt_some h
        refine T_draw' (id := 17) [] [0, 0, 0, 0, 0, 0, 0, 0, 0, 0, 0, 0, 0, 0] (by kernel_rfl) (by kernel_rfl) (by kernel_rfl) (by kernel_rfl) [(65, .lf (.own 1 0)), (66, .lf (.v (.slice Au0_0 (List.length u0_0) cu0_0))), (67, .lf (.v (.int .i64 (List.length u0_0 : Int)))), (68, .lf (.v (.int .i64 x30))), (69, .lf (.ep (.slice Au0_0 (List.length u0_0) cu0_0) 11 ((x30).toNat) 0)), (70, .lf (.ep (.slice Au0_0 (List.length u0_0) cu0_0) 11 ((x30).toNat) 0)), (71, .lf (.v (.int .i64 x32))), (72, .lf (.own 1 0)), (73, .lf (.v (.slice Au0_0 (List.length u0_0) cu0_0))), (74, .lf (.ep (.slice Au0_0 (List.length u0_0) cu0_0) 11 0 0)), (75, .lf (.ep (.slice Au0_0 (List.length u0_0) cu0_0) 11 0 0)), (76, .lf (.v (.int .i64 x34))), (77, .lf (.v (.int .i64 x35))), (78, .lf (.v (.bool b36)))] (by kernel_rfl) ⟨trivial, ⟨trivial, ⟨trivial, ⟨trivial, ⟨trivial, ⟨trivial, ⟨trivial, ⟨trivial, ⟨trivial, ⟨trivial, ⟨trivial, ⟨trivial, ⟨trivial, ⟨trivial, trivial⟩⟩⟩⟩⟩⟩⟩⟩⟩⟩⟩⟩⟩⟩ ?_
        refine Stage_nil (stage_all' [0, 1, 2, 3, 5, 7, 8, 10, 12, 13] [4, 6, 9, 11] (by kernel_rfl) (by subst e_b36 e_x35 e_x34 e_x32 e_x30; kernel_rfl) (by kernel_rfl) ⟨QF_at (i := 4) (d := 69) (x := .lf (.ep (.slice Au0_0 (List.length u0_0) cu0_0) 11 ((x30).toNat) 0)) (show OpAt _ _ _ 4 69 (.lf (.ep (.slice Au0_0 (List.length u0_0) cu0_0) 11 ((x30).toNat) 0)) from by exact At_idxR (d := 69) (z := x30) (by subst e_b36 e_x35 e_x34 e_x32 e_x30; kernel_rfl) g31 hu0_0) (by kernel_rfl) (by subst e_b36 e_x35 e_x34 e_x32 e_x30; kernel_rfl), ⟨QF_at (i := 6) (d := 71) (x := .lf (.v (.int .i64 x32))) (show OpAt _ _ _ 6 71 (.lf (.v (.int .i64 x32))) from by rw [e_x32]; exact At_ldR1 (d := 71) (q := (x30).toNat) (j := 0) (by subst e_b36 e_x35 e_x34 e_x32 e_x30; kernel_rfl) rfl (toNat_lt g31) hu0_0) (by kernel_rfl) (by subst e_b36 e_x35 e_x34 e_x32 e_x30; kernel_rfl), ⟨QF_at (i := 9) (d := 74) (x := .lf (.ep (.slice Au0_0 (List.length u0_0) cu0_0) 11 0 0)) (show OpAt _ _ _ 9 74 (.lf (.ep (.slice Au0_0 (List.length u0_0) cu0_0) 11 0 0)) from by exact At_idxR (d := 74) (z := (0 : Int)) (by subst e_b36 e_x35 e_x34 e_x32 e_x30; kernel_rfl) g33 hu0_0) (by kernel_rfl) (by subst e_b36 e_x35 e_x34 e_x32 e_x30; kernel_rfl), ⟨QF_at (i := 11) (d := 76) (x := .lf (.v (.int .i64 x34))) (show OpAt _ _ _ 11 76 (.lf (.v (.int .i64 x34))) from by rw [e_x34]; exact At_ldR1 (d := 76) (q := 0) (j := 0) (by subst e_b36 e_x35 e_x34 e_x32 e_x30; kernel_rfl) rfl (toNat_lt g33) hu0_0) (by kernel_rfl) (by subst e_b36 e_x35 e_x34 e_x32 e_x30; kernel_rfl), trivial⟩⟩⟩⟩) ?_
        refine thenQ_n ?_
        refine T_keep (s' := { σ := [(1, .lf (.own 1 0)), (78, .lf (.v (.bool b36)))], H := [(1, [.one (.v (.slice Au0_0 (List.length u0_0) cu0_0)), .arr .i64 4 u0_1])], V := [], M := M, ds := [] }) [1, 78] [1] [] (by subst e_b36 e_x35 e_x34 e_x32 e_x30; kernel_rfl) ?_
        cases b36 with
        | true =>
          replace h := sp_t h
          refine T_condT (x := (.tmp 78)) (c1 := (sub [1, 1, 1, 1, 1, 0, 1, 0] (bodyOf Try.f21))) (c2 := (sub [1, 1, 1, 1, 1, 0, 1, 1] (bodyOf Try.f21))) (by kernel_rfl) (by kernel_rfl) ?_
          refine T_keep (s' := { σ := [], H := [], V := [], M := M, ds := [] }) [] [] [] (by kernel_rfl) ?_
          refine T_seq (c1 := (sub [1, 1, 1, 1, 1, 0, 1, 0, 0] (bodyOf Try.f21))) (c2 := (sub [1, 1, 1, 1, 1, 0, 1, 0, 1] (bodyOf Try.f21))) (by kernel_rfl) ?_
          refine T_region (id := 18) (by kernel_rfl) ?_
          refine TI_segK (i := 0) (j := 1) (s' := { σ := [(2, .lf (.v (.int .i64 (2 : Int))))], H := [], V := [], M := M, ds := [] }) [2] [] [] (by kernel_rfl) (by kernel_rfl) ?_
          refine TI_end (by kernel_rfl) ?_
          refine thenQ_n ?_
          refine T_ret (by kernel_rfl) ?_
          refine thenQ_r ?_
          have h := Option.some.inj h
          subst h
          refine fin_ret (.lf (.v (.int .i64 (2 : Int)))) (by kernel_rfl) (by kernel_rfl) rfl ?_
          rfl
        | false =>
          replace h := sp_f h
          refine T_condF (x := (.tmp 78)) (c1 := (sub [1, 1, 1, 1, 1, 0, 1, 0] (bodyOf Try.f21))) (c2 := (sub [1, 1, 1, 1, 1, 0, 1, 1] (bodyOf Try.f21))) (by kernel_rfl) (by kernel_rfl) ?_
          refine T_keep (s' := { σ := [(1, .lf (.own 1 0))], H := [(1, [.one (.v (.slice Au0_0 (List.length u0_0) cu0_0)), .arr .i64 4 u0_1])], V := [], M := M, ds := [] }) [1] [1] [] (by kernel_rfl) ?_
          refine T_skip (by kernel_rfl) ?_
          refine thenQ_n ?_
          refine T_seq (c1 := (sub [1, 1, 1, 1, 1, 1, 0] (bodyOf Try.f21))) (c2 := (sub [1, 1, 1, 1, 1, 1, 1] (bodyOf Try.f21))) (by kernel_rfl) ?_
          refine T_seq (c1 := (sub [1, 1, 1, 1, 1, 1, 0, 0] (bodyOf Try.f21))) (c2 := (sub [1, 1, 1, 1, 1, 1, 0, 1] (bodyOf Try.f21))) (by kernel_rfl) ?_
          refine T_region (id := 19) (by kernel_rfl) ?_
          refine TI_segK (i := 0) (j := 1) (s' := { σ := [(1, .lf (.own 1 0)), (7, .lf (.v (.int .i64 (0 : Int))))], H := [(1, [.one (.v (.slice Au0_0 (List.length u0_0) cu0_0)), .arr .i64 4 u0_1])], V := [], M := M, ds := [] }) [1, 7] [1] [] (by kernel_rfl) (by kernel_rfl) ?_
          refine TI_end (by kernel_rfl) ?_
          refine thenQ_n ?_
          obtain ⟨j37, e_j37, h⟩ := jn_some h
          refine T_bcut (id := 4) (c1 := (sub [1, 1, 1, 1, 1, 1, 0, 1, 0] (bodyOf Try.f21))) (fun s' => Sub { σ := [(1, .lf (.own 1 0))], H := [(1, [.one (.v (.slice Au0_0 (List.length u0_0) cu0_0)), .arr .i64 4 u0_1])], V := [], M := M, ds := [] } s' ∧ j37 = some r) (by kernel_rfl) ?_ ?_
          · refine T_loop (c1 := (sub [1, 1, 1, 1, 1, 1, 0, 1, 0, 0] (bodyOf Try.f21))) (by kernel_rfl) (fun n39 s' => ∃ (x38 : Int), Sub { σ := [(1, .lf (.own 1 0)), (7, .lf (.v (.int .i64 x38)))], H := [(1, [.one (.v (.slice Au0_0 (List.length u0_0) cu0_0)), .arr .i64 4 u0_1])], V := [], M := M, ds := [] } s' ∧ p21_l3 k u0_1 j37 n39 x38 = some r) (k := k) ⟨(0 : Int), keep_sub (ts := [1, 7]) (hs := [1]) (vs := []) (by kernel_rfl), h⟩ ?_
            rintro n39 s' ⟨x38, hsub, h⟩
            cases n39 with
            | zero => rw [p21_l3] at h; cases h
            | succ n39 =>
              rw [p21_l3] at h
              refine T_sub hsub ?_
              refine T_seq (c1 := (sub [1, 1, 1, 1, 1, 1, 0, 1, 0, 0, 0] (bodyOf Try.f21))) (c2 := (sub [1, 1, 1, 1, 1, 1, 0, 1, 0, 0, 1] (bodyOf Try.f21))) (by kernel_rfl) ?_
              refine T_seq (c1 := (sub [1, 1, 1, 1, 1, 1, 0, 1, 0, 0, 0, 0] (bodyOf Try.f21))) (c2 := (sub [1, 1, 1, 1, 1, 1, 0, 1, 0, 0, 0, 1] (bodyOf Try.f21))) (by kernel_rfl) ?_
              refine T_region (id := 20) (by kernel_rfl) ?_
              obtain ⟨b40, e_b40, h⟩ := lt_some h
              refine TI_segK (i := 0) (j := 2) (s' := { σ := [(1, .lf (.own 1 0)), (7, .lf (.v (.int .i64 x38))), (80, .lf (.v (.bool b40)))], H := [(1, [.one (.v (.slice Au0_0 (List.length u0_0) cu0_0)), .arr .i64 4 u0_1])], V := [], M := M, ds := [] }) [1, 7, 80] [1] [] (by subst e_b40; kernel_rfl) (by kernel_rfl) ?_
              refine TI_end (by kernel_rfl) ?_
              refine thenQ_n ?_
              cases b40 with
              | true =>
                replace h := sp_t h
                refine T_condT (x := (.tmp 80)) (c1 := (sub [1, 1, 1, 1, 1, 1, 0, 1, 0, 0, 0, 1, 0] (bodyOf Try.f21))) (c2 := (sub [1, 1, 1, 1, 1, 1, 0, 1, 0, 0, 0, 1, 1] (bodyOf Try.f21))) (by kernel_rfl) (by kernel_rfl) ?_
                refine T_keep (s' := { σ := [(1, .lf (.own 1 0)), (7, .lf (.v (.int .i64 x38)))], H := [(1, [.one (.v (.slice Au0_0 (List.length u0_0) cu0_0)), .arr .i64 4 u0_1])], V := [], M := M, ds := [] }) [1, 7] [1] [] (by kernel_rfl) ?_
                refine T_skip (by kernel_rfl) ?_
                refine thenQ_n ?_
                refine T_seq (c1 := (sub [1, 1, 1, 1, 1, 1, 0, 1, 0, 0, 1, 0] (bodyOf Try.f21))) (c2 := (sub [1, 1, 1, 1, 1, 1, 0, 1, 0, 0, 1, 1] (bodyOf Try.f21))) (by kernel_rfl) ?_
                refine T_block (id := 5) (c1 := (sub [1, 1, 1, 1, 1, 1, 0, 1, 0, 0, 1, 0, 0] (bodyOf Try.f21))) (by kernel_rfl) ?_
                refine T_seq (c1 := (sub [1, 1, 1, 1, 1, 1, 0, 1, 0, 0, 1, 0, 0, 0] (bodyOf Try.f21))) (c2 := (sub [1, 1, 1, 1, 1, 1, 0, 1, 0, 0, 1, 0, 0, 1] (bodyOf Try.f21))) (by kernel_rfl) ?_
                refine T_region (id := 22) (by kernel_rfl) ?_
                refine TI_segK (i := 0) (j := 2) (s' := { σ := [(1, .lf (.own 1 0)), (7, .lf (.v (.int .i64 x38))), (83, .lf (.v (.int .i64 x38))), (84, .lf (.own 1 1))], H := [(1, [.one (.v (.slice Au0_0 (List.length u0_0) cu0_0)), .arr .i64 4 u0_1])], V := [], M := M, ds := [] }) [1, 7, 83, 84] [1] [] (by kernel_rfl) (by kernel_rfl) ?_
                obtain ⟨g41, h⟩ := gd_some h
                refine TI_at (i := 2) (d := 85) (x := .lf (.oel 1 (1 + (x38).toNat * 1))) (by exact At_idxO (d := 85) (z := x38) (b := 1) (off := 1) (sz := 1) (n := 4) (by kernel_rfl) g41) (by kernel_rfl) trivial ?_
                obtain ⟨x42, e_x42, h⟩ := lt_some h
                refine TI_at (i := 3) (d := 86) (x := .lf (.v (.int .i64 x42))) (by rw [e_x42]; exact At_ldO1 (d := 86) (b := 1) (off := 1 + (x38).toNat * 1) (base := 1) (q := 0 + (x38).toNat * 1) (n := 4) (k := .i64) (L := u0_1) (by subst e_x42; kernel_rfl) (by subst e_x42; kernel_rfl) (by omega) (by omega)) (by kernel_rfl) trivial ?_
                obtain ⟨v43, c_v43, h⟩ := cl_some h
                refine TI_at (i := 4) (d := 87) (x := .lf (.v (.bool v43))) (At_call (d := 87) (f := 50) (args := [rval (.lf (.v (.int .i64 x42))), rval (.lf (.v (.int .i64 (0 : Int)))), rval (.lf (.v (.int .i64 (1048576 : Int))))]) (x := .lf (.v (.bool v43))) (by kernel_rfl) (w50 k  c_v43)) (by kernel_rfl) trivial ?_
                refine TI_segK (i := 5) (j := 6) (s' := { σ := [(1, .lf (.own 1 0)), (7, .lf (.v (.int .i64 x38))), (88, .lf (.v (.bool (!v43))))], H := [(1, [.one (.v (.slice Au0_0 (List.length u0_0) cu0_0)), .arr .i64 4 u0_1])], V := [], M := M, ds := [] }) [1, 7, 88] [1] [] (by kernel_rfl) (by kernel_rfl) ?_
                refine TI_end (by kernel_rfl) ?_
                refine thenQ_n ?_
                cases v43 with
                | true =>
                  replace h := sp_t h
                  refine T_condF (x := (.tmp 88)) (c1 := (sub [1, 1, 1, 1, 1, 1, 0, 1, 0, 0, 1, 0, 0, 1, 0] (bodyOf Try.f21))) (c2 := (sub [1, 1, 1, 1, 1, 1, 0, 1, 0, 0, 1, 0, 0, 1, 1] (bodyOf Try.f21))) (by kernel_rfl) (by kernel_rfl) ?_
                  refine T_keep (s' := { σ := [(1, .lf (.own 1 0)), (7, .lf (.v (.int .i64 x38)))], H := [(1, [.one (.v (.slice Au0_0 (List.length u0_0) cu0_0)), .arr .i64 4 u0_1])], V := [], M := M, ds := [] }) [1, 7] [1] [] (by kernel_rfl) ?_
                  refine T_skip (by kernel_rfl) ?_
                  refine blockQ_n ?_
                  refine thenQ_n ?_
                  refine T_region (id := 21) (by kernel_rfl) ?_
                  obtain ⟨x44, e_x44, h⟩ := lt_some h
                  refine TI_segK (i := 0) (j := 3) (s' := { σ := [(1, .lf (.own 1 0)), (7, .lf (.v (.int .i64 x44)))], H := [(1, [.one (.v (.slice Au0_0 (List.length u0_0) cu0_0)), .arr .i64 4 u0_1])], V := [], M := M, ds := [] }) [1, 7] [1] [] (by subst e_x44; kernel_rfl) (by kernel_rfl) ?_
                  refine TI_end (by kernel_rfl) ?_
                  refine thenQ_n ?_
                  exact ⟨n39, Nat.lt_succ_self _, x44, keep_sub (ts := [1, 7]) (hs := [1]) (vs := []) (by kernel_rfl), h⟩
                | false =>
                  replace h := sp_f h
                  refine T_condT (x := (.tmp 88)) (c1 := (sub [1, 1, 1, 1, 1, 1, 0, 1, 0, 0, 1, 0, 0, 1, 0] (bodyOf Try.f21))) (c2 := (sub [1, 1, 1, 1, 1, 1, 0, 1, 0, 0, 1, 0, 0, 1, 1] (bodyOf Try.f21))) (by kernel_rfl) (by kernel_rfl) ?_
                  refine T_keep (s' := { σ := [], H := [], V := [], M := M, ds := [] }) [] [] [] (by kernel_rfl) ?_
                  refine T_seq (c1 := (sub [1, 1, 1, 1, 1, 1, 0, 1, 0, 0, 1, 0, 0, 1, 0, 0] (bodyOf Try.f21))) (c2 := (sub [1, 1, 1, 1, 1, 1, 0, 1, 0, 0, 1, 0, 0, 1, 0, 1] (bodyOf Try.f21))) (by kernel_rfl) ?_
                  refine T_region (id := 23) (by kernel_rfl) ?_
                  refine TI_segK (i := 0) (j := 1) (s' := { σ := [(2, .lf (.v (.int .i64 (2 : Int))))], H := [], V := [], M := M, ds := [] }) [2] [] [] (by kernel_rfl) (by kernel_rfl) ?_
                  refine TI_end (by kernel_rfl) ?_
                  refine thenQ_n ?_
                  refine T_ret (by kernel_rfl) ?_
                  refine blockQ_r ?_
                  refine thenQ_r ?_
                  refine thenQ_r ?_
                  refine blockQ_r ?_
                  refine thenQ_r ?_
                  refine thenQ_r ?_
                  have h := Option.some.inj h
                  subst h
                  refine fin_ret (.lf (.v (.int .i64 (2 : Int)))) (by kernel_rfl) (by kernel_rfl) rfl ?_
                  rfl
              | false =>
                replace h := sp_f h
                refine T_condF (x := (.tmp 80)) (c1 := (sub [1, 1, 1, 1, 1, 1, 0, 1, 0, 0, 0, 1, 0] (bodyOf Try.f21))) (c2 := (sub [1, 1, 1, 1, 1, 1, 0, 1, 0, 0, 0, 1, 1] (bodyOf Try.f21))) (by kernel_rfl) (by kernel_rfl) ?_
                refine T_keep (s' := { σ := [(1, .lf (.own 1 0))], H := [(1, [.one (.v (.slice Au0_0 (List.length u0_0) cu0_0)), .arr .i64 4 u0_1])], V := [], M := M, ds := [] }) [1] [1] [] (by kernel_rfl) ?_
                refine T_exit (id := 4) (by kernel_rfl) ?_
                refine thenQ_x ?_
                refine thenQ_x ?_
                refine blockQ_x ?_
                refine thenQ_n ?_
                exact ⟨keep_sub (ts := [1]) (hs := [1]) (vs := []) (by kernel_rfl), h⟩
          · rintro s' ⟨hsub, h⟩
            subst e_j37
            refine thenQ_n ?_
            refine T_sub hsub ?_
            refine T_seq (c1 := (sub [1, 1, 1, 1, 1, 1, 1, 0] (bodyOf Try.f21))) (c2 := (sub [1, 1, 1, 1, 1, 1, 1, 1] (bodyOf Try.f21))) (by kernel_rfl) ?_
            refine T_seq (c1 := (sub [1, 1, 1, 1, 1, 1, 1, 0, 0] (bodyOf Try.f21))) (c2 := (sub [1, 1, 1, 1, 1, 1, 1, 0, 1] (bodyOf Try.f21))) (by kernel_rfl) ?_
            refine T_region (id := 24) (by kernel_rfl) ?_
            refine TI_segK (i := 0) (j := 1) (s' := { σ := [(1, .lf (.own 1 0)), (8, .lf (.v (.int .i64 (0 : Int))))], H := [(1, [.one (.v (.slice Au0_0 (List.length u0_0) cu0_0)), .arr .i64 4 u0_1])], V := [], M := M, ds := [] }) [1, 8] [1] [] (by kernel_rfl) (by kernel_rfl) ?_
            refine TI_end (by kernel_rfl) ?_
            refine thenQ_n ?_
            obtain ⟨j45, e_j45, h⟩ := jn_some h
            refine T_bcut (id := 6) (c1 := (sub [1, 1, 1, 1, 1, 1, 1, 0, 1, 0] (bodyOf Try.f21))) (fun s' => Sub { σ := [], H := [], V := [], M := M, ds := [] } s' ∧ j45 = some r) (by kernel_rfl) ?_ ?_
            · refine T_loop (c1 := (sub [1, 1, 1, 1, 1, 1, 1, 0, 1, 0, 0] (bodyOf Try.f21))) (by kernel_rfl) (fun n47 s' => ∃ (x46 : Int), Sub { σ := [(1, .lf (.own 1 0)), (8, .lf (.v (.int .i64 x46)))], H := [(1, [.one (.v (.slice Au0_0 (List.length u0_0) cu0_0)), .arr .i64 4 u0_1])], V := [], M := M, ds := [] } s' ∧ p21_l4 k u0_0 u0_1 j45 n47 x46 = some r) (k := k) ⟨(0 : Int), keep_sub (ts := [1, 8]) (hs := [1]) (vs := []) (by kernel_rfl), h⟩ ?_
              rintro n47 s' ⟨x46, hsub, h⟩
              cases n47 with
              | zero => rw [p21_l4] at h; cases h
              | succ n47 =>
                rw [p21_l4] at h
                refine T_sub hsub ?_
                refine T_seq (c1 := (sub [1, 1, 1, 1, 1, 1, 1, 0, 1, 0, 0, 0] (bodyOf Try.f21))) (c2 := (sub [1, 1, 1, 1, 1, 1, 1, 0, 1, 0, 0, 1] (bodyOf Try.f21))) (by kernel_rfl) ?_
                refine T_seq (c1 := (sub [1, 1, 1, 1, 1, 1, 1, 0, 1, 0, 0, 0, 0] (bodyOf Try.f21))) (c2 := (sub [1, 1, 1, 1, 1, 1, 1, 0, 1, 0, 0, 0, 1] (bodyOf Try.f21))) (by kernel_rfl) ?_
                refine T_region (id := 25) (by kernel_rfl) ?_
                refine TI_segK (i := 0) (j := 2) (s' := { σ := [(1, .lf (.own 1 0)), (8, .lf (.v (.int .i64 x46))), (89, .lf (.v (.int .i64 x46))), (90, .agg [.one (.v (.slice Au0_0 (List.length u0_0) cu0_0)), .arr .i64 4 u0_1])], H := [(1, [.one (.v (.slice Au0_0 (List.length u0_0) cu0_0)), .arr .i64 4 u0_1])], V := [], M := M, ds := [] }) [1, 8, 89, 90] [1] [] (by kernel_rfl) (by kernel_rfl) ?_
                obtain ⟨v48, c_v48, h⟩ := cl_some h
                refine TI_at (i := 2) (d := 91) (x := .lf (.v (.int .i64 v48))) (At_call (d := 91) (f := 53) (args := [rval (.agg [.one (.v (.slice Au0_0 (List.length u0_0) cu0_0)), .arr .i64 4 u0_1])]) (x := .lf (.v (.int .i64 v48))) (by kernel_rfl) (w53 k hu0_0 hu0_1 c_v48)) (by kernel_rfl) trivial ?_
                obtain ⟨b49, e_b49, h⟩ := lt_some h
                refine TI_segK (i := 3) (j := 4) (s' := { σ := [(1, .lf (.own 1 0)), (8, .lf (.v (.int .i64 x46))), (92, .lf (.v (.bool b49)))], H := [(1, [.one (.v (.slice Au0_0 (List.length u0_0) cu0_0)), .arr .i64 4 u0_1])], V := [], M := M, ds := [] }) [1, 8, 92] [1] [] (by subst e_b49; kernel_rfl) (by kernel_rfl) ?_
                refine TI_end (by kernel_rfl) ?_
                refine thenQ_n ?_
                cases b49 with
                | true =>
                  replace h := sp_t h
                  refine T_condT (x := (.tmp 92)) (c1 := (sub [1, 1, 1, 1, 1, 1, 1, 0, 1, 0, 0, 0, 1, 0] (bodyOf Try.f21))) (c2 := (sub [1, 1, 1, 1, 1, 1, 1, 0, 1, 0, 0, 0, 1, 1] (bodyOf Try.f21))) (by kernel_rfl) (by kernel_rfl) ?_
                  refine T_keep (s' := { σ := [(1, .lf (.own 1 0)), (8, .lf (.v (.int .i64 x46)))], H := [(1, [.one (.v (.slice Au0_0 (List.length u0_0) cu0_0)), .arr .i64 4 u0_1])], V := [], M := M, ds := [] }) [1, 8] [1] [] (by kernel_rfl) ?_
                  refine T_skip (by kernel_rfl) ?_
                  refine thenQ_n ?_
                  refine T_seq (c1 := (sub [1, 1, 1, 1, 1, 1, 1, 0, 1, 0, 0, 1, 0] (bodyOf Try.f21))) (c2 := (sub [1, 1, 1, 1, 1, 1, 1, 0, 1, 0, 0, 1, 1] (bodyOf Try.f21))) (by kernel_rfl) ?_
                  refine T_block (id := 7) (c1 := (sub [1, 1, 1, 1, 1, 1, 1, 0, 1, 0, 0, 1, 0, 0] (bodyOf Try.f21))) (by kernel_rfl) ?_
                  refine T_seq (c1 := (sub [1, 1, 1, 1, 1, 1, 1, 0, 1, 0, 0, 1, 0, 0, 0] (bodyOf Try.f21))) (c2 := (sub [1, 1, 1, 1, 1, 1, 1, 0, 1, 0, 0, 1, 0, 0, 1] (bodyOf Try.f21))) (by kernel_rfl) ?_
                  refine T_region (id := 27) (by kernel_rfl) ?_
                  refine TI_segK (i := 0) (j := 2) (s' := { σ := [(1, .lf (.own 1 0)), (8, .lf (.v (.int .i64 x46))), (95, .agg [.one (.v (.slice Au0_0 (List.length u0_0) cu0_0)), .arr .i64 4 u0_1]), (96, .lf (.v (.int .i64 x46)))], H := [(1, [.one (.v (.slice Au0_0 (List.length u0_0) cu0_0)), .arr .i64 4 u0_1])], V := [], M := M, ds := [] }) [1, 8, 95, 96] [1] [] (by kernel_rfl) (by kernel_rfl) ?_
                  obtain ⟨v50, c_v50, h⟩ := cl_some h
                  obtain ⟨g51, h⟩ := gd_some h
                  refine TI_at (i := 2) (d := 97) (x := .agg [.arr .i64 2 v50]) (At_call (d := 97) (f := 16) (args := [rval (.agg [.one (.v (.slice Au0_0 (List.length u0_0) cu0_0)), .arr .i64 4 u0_1]), rval (.lf (.v (.int .i64 x46)))]) (x := .agg [.arr .i64 2 v50]) (by kernel_rfl) (w16 k hu0_0 hu0_1 c_v50)) (by kernel_rfl) ⟨g51, trivial⟩ ?_
                  refine TI_segK (i := 3) (j := 5) (s' := { σ := [(1, .lf (.own 1 0)), (8, .lf (.v (.int .i64 x46))), (9, .lf (.own 9 0))], H := [(1, [.one (.v (.slice Au0_0 (List.length u0_0) cu0_0)), .arr .i64 4 u0_1]), (9, [.arr .i64 2 v50])], V := [], M := M, ds := [] }) [1, 8, 9] [1, 9] [] (by kernel_rfl) (by kernel_rfl) ?_
                  refine TI_end (by kernel_rfl) ?_
                  refine thenQ_n ?_
                  refine T_seq (c1 := (sub [1, 1, 1, 1, 1, 1, 1, 0, 1, 0, 0, 1, 0, 0, 1, 0] (bodyOf Try.f21))) (c2 := (sub [1, 1, 1, 1, 1, 1, 1, 0, 1, 0, 0, 1, 0, 0, 1, 1] (bodyOf Try.f21))) (by kernel_rfl) ?_
                  refine T_seq (c1 := (sub [1, 1, 1, 1, 1, 1, 1, 0, 1, 0, 0, 1, 0, 0, 1, 0, 0] (bodyOf Try.f21))) (c2 := (sub [1, 1, 1, 1, 1, 1, 1, 0, 1, 0, 0, 1, 0, 0, 1, 0, 1] (bodyOf Try.f21))) (by kernel_rfl) ?_
                  refine T_region (id := 28) (by kernel_rfl) ?_
                  obtain ⟨x52, e_x52, h⟩ := lt_some h
                  obtain ⟨x53, e_x53, h⟩ := lt_some h
                  obtain ⟨b54, e_b54, h⟩ := lt_some h
                  refine TI_segK (i := 0) (j := 5) (s' := { σ := [(1, .lf (.own 1 0)), (8, .lf (.v (.int .i64 x46))), (102, .lf (.v (.bool b54)))], H := [(1, [.one (.v (.slice Au0_0 (List.length u0_0) cu0_0)), .arr .i64 4 u0_1])], V := [], M := M, ds := [] }) [1, 8, 102] [1] [] (by subst e_b54 e_x53 e_x52; kernel_rfl) (by kernel_rfl) ?_
                  refine TI_end (by kernel_rfl) ?_
                  refine thenQ_n ?_
                  cases b54 with
                  | true =>
                    replace h := sp_t h
                    refine T_condT (x := (.tmp 102)) (c1 := (sub [1, 1, 1, 1, 1, 1, 1, 0, 1, 0, 0, 1, 0, 0, 1, 0, 1, 0] (bodyOf Try.f21))) (c2 := (sub [1, 1, 1, 1, 1, 1, 1, 0, 1, 0, 0, 1, 0, 0, 1, 0, 1, 1] (bodyOf Try.f21))) (by kernel_rfl) (by kernel_rfl) ?_
                    refine T_keep (s' := { σ := [], H := [], V := [], M := M, ds := [] }) [] [] [] (by kernel_rfl) ?_
                    refine T_seq (c1 := (sub [1, 1, 1, 1, 1, 1, 1, 0, 1, 0, 0, 1, 0, 0, 1, 0, 1, 0, 0] (bodyOf Try.f21))) (c2 := (sub [1, 1, 1, 1, 1, 1, 1, 0, 1, 0, 0, 1, 0, 0, 1, 0, 1, 0, 1] (bodyOf Try.f21))) (by kernel_rfl) ?_
                    refine T_region (id := 29) (by kernel_rfl) ?_
                    refine TI_segK (i := 0) (j := 1) (s' := { σ := [(2, .lf (.v (.int .i64 (16 : Int))))], H := [], V := [], M := M, ds := [] }) [2] [] [] (by kernel_rfl) (by kernel_rfl) ?_
                    refine TI_end (by kernel_rfl) ?_
                    refine thenQ_n ?_
                    refine T_ret (by kernel_rfl) ?_
                    refine thenQ_r ?_
                    refine blockQ_r ?_
                    refine thenQ_r ?_
                    refine thenQ_r ?_
                    refine blockQ_r ?_
                    refine thenQ_r ?_
                    refine thenQ_r ?_
                    have h := Option.some.inj h
                    subst h
                    refine fin_ret (.lf (.v (.int .i64 (16 : Int)))) (by kernel_rfl) (by kernel_rfl) rfl ?_
                    rfl
                  | false =>
                    replace h := sp_f h
                    refine T_condF (x := (.tmp 102)) (c1 := (sub [1, 1, 1, 1, 1, 1, 1, 0, 1, 0, 0, 1, 0, 0, 1, 0, 1, 0] (bodyOf Try.f21))) (c2 := (sub [1, 1, 1, 1, 1, 1, 1, 0, 1, 0, 0, 1, 0, 0, 1, 0, 1, 1] (bodyOf Try.f21))) (by kernel_rfl) (by kernel_rfl) ?_
                    refine T_keep (s' := { σ := [(1, .lf (.own 1 0)), (8, .lf (.v (.int .i64 x46)))], H := [(1, [.one (.v (.slice Au0_0 (List.length u0_0) cu0_0)), .arr .i64 4 u0_1])], V := [], M := M, ds := [] }) [1, 8] [1] [] (by kernel_rfl) ?_
                    refine T_skip (by kernel_rfl) ?_
                    refine thenQ_n ?_
                    refine T_seq (c1 := (sub [1, 1, 1, 1, 1, 1, 1, 0, 1, 0, 0, 1, 0, 0, 1, 1, 0] (bodyOf Try.f21))) (c2 := (sub [1, 1, 1, 1, 1, 1, 1, 0, 1, 0, 0, 1, 0, 0, 1, 1, 1] (bodyOf Try.f21))) (by kernel_rfl) ?_
                    refine T_region (id := 30) (by kernel_rfl) ?_
                    refine TI_segK (i := 0) (j := 1) (s' := { σ := [(1, .lf (.own 1 0)), (8, .lf (.v (.int .i64 x46))), (10, .lf (.v (.int .i64 (0 : Int))))], H := [(1, [.one (.v (.slice Au0_0 (List.length u0_0) cu0_0)), .arr .i64 4 u0_1])], V := [], M := M, ds := [] }) [1, 8, 10] [1] [] (by kernel_rfl) (by kernel_rfl) ?_
                    refine TI_end (by kernel_rfl) ?_
                    refine thenQ_n ?_
                    obtain ⟨j55, e_j55, h⟩ := jn_some h
                    refine T_bcut (id := 8) (c1 := (sub [1, 1, 1, 1, 1, 1, 1, 0, 1, 0, 0, 1, 0, 0, 1, 1, 1, 0] (bodyOf Try.f21))) (fun s' => Sub { σ := [(1, .lf (.own 1 0)), (8, .lf (.v (.int .i64 x46)))], H := [(1, [.one (.v (.slice Au0_0 (List.length u0_0) cu0_0)), .arr .i64 4 u0_1])], V := [], M := M, ds := [] } s' ∧ j55 = some r) (by kernel_rfl) ?_ ?_
                    · refine T_loop (c1 := (sub [1, 1, 1, 1, 1, 1, 1, 0, 1, 0, 0, 1, 0, 0, 1, 1, 1, 0, 0] (bodyOf Try.f21))) (by kernel_rfl) (fun n57 s' => ∃ (x56 : Int), Sub { σ := [(1, .lf (.own 1 0)), (8, .lf (.v (.int .i64 x46))), (10, .lf (.v (.int .i64 x56)))], H := [(1, [.one (.v (.slice Au0_0 (List.length u0_0) cu0_0)), .arr .i64 4 u0_1])], V := [], M := M, ds := [] } s' ∧ p21_l5 k u0_0 u0_1 x46 j55 n57 x56 = some r) (k := k) ⟨(0 : Int), keep_sub (ts := [1, 8, 10]) (hs := [1]) (vs := []) (by kernel_rfl), h⟩ ?_
                      rintro n57 s' ⟨x56, hsub, h⟩
                      cases n57 with
                      | zero => rw [p21_l5] at h; cases h
                      | succ n57 =>
                        rw [p21_l5] at h
                        refine T_sub hsub ?_
                        refine T_seq (c1 := (sub [1, 1, 1, 1, 1, 1, 1, 0, 1, 0, 0, 1, 0, 0, 1, 1, 1, 0, 0, 0] (bodyOf Try.f21))) (c2 := (sub [1, 1, 1, 1, 1, 1, 1, 0, 1, 0, 0, 1, 0, 0, 1, 1, 1, 0, 0, 1] (bodyOf Try.f21))) (by kernel_rfl) ?_
                        refine T_seq (c1 := (sub [1, 1, 1, 1, 1, 1, 1, 0, 1, 0, 0, 1, 0, 0, 1, 1, 1, 0, 0, 0, 0] (bodyOf Try.f21))) (c2 := (sub [1, 1, 1, 1, 1, 1, 1, 0, 1, 0, 0, 1, 0, 0, 1, 1, 1, 0, 0, 0, 1] (bodyOf Try.f21))) (by kernel_rfl) ?_
                        refine T_region (id := 31) (by kernel_rfl) ?_
                        obtain ⟨b58, e_b58, h⟩ := lt_some h
                        refine TI_segK (i := 0) (j := 2) (s' := { σ := [(1, .lf (.own 1 0)), (8, .lf (.v (.int .i64 x46))), (10, .lf (.v (.int .i64 x56))), (104, .lf (.v (.bool b58)))], H := [(1, [.one (.v (.slice Au0_0 (List.length u0_0) cu0_0)), .arr .i64 4 u0_1])], V := [], M := M, ds := [] }) [1, 8, 10, 104] [1] [] (by subst e_b58; kernel_rfl) (by kernel_rfl) ?_
                        refine TI_end (by kernel_rfl) ?_
                        refine thenQ_n ?_
                        cases b58 with
                        | true =>
                          replace h := sp_t h
                          refine T_condT (x := (.tmp 104)) (c1 := (sub [1, 1, 1, 1, 1, 1, 1, 0, 1, 0, 0, 1, 0, 0, 1, 1, 1, 0, 0, 0, 1, 0] (bodyOf Try.f21))) (c2 := (sub [1, 1, 1, 1, 1, 1, 1, 0, 1, 0, 0, 1, 0, 0, 1, 1, 1, 0, 0, 0, 1, 1] (bodyOf Try.f21))) (by kernel_rfl) (by kernel_rfl) ?_
                          refine T_keep (s' := { σ := [(1, .lf (.own 1 0)), (8, .lf (.v (.int .i64 x46))), (10, .lf (.v (.int .i64 x56)))], H := [(1, [.one (.v (.slice Au0_0 (List.length u0_0) cu0_0)), .arr .i64 4 u0_1])], V := [], M := M, ds := [] }) [1, 8, 10] [1] [] (by kernel_rfl) ?_
                          refine T_skip (by kernel_rfl) ?_
                          refine thenQ_n ?_
                          refine T_seq (c1 := (sub [1, 1, 1, 1, 1, 1, 1, 0, 1, 0, 0, 1, 0, 0, 1, 1, 1, 0, 0, 1, 0] (bodyOf Try.f21))) (c2 := (sub [1, 1, 1, 1, 1, 1, 1, 0, 1, 0, 0, 1, 0, 0, 1, 1, 1, 0, 0, 1, 1] (bodyOf Try.f21))) (by kernel_rfl) ?_
                          refine T_block (id := 9) (c1 := (sub [1, 1, 1, 1, 1, 1, 1, 0, 1, 0, 0, 1, 0, 0, 1, 1, 1, 0, 0, 1, 0, 0] (bodyOf Try.f21))) (by kernel_rfl) ?_
                          refine T_seq (c1 := (sub [1, 1, 1, 1, 1, 1, 1, 0, 1, 0, 0, 1, 0, 0, 1, 1, 1, 0, 0, 1, 0, 0, 0] (bodyOf Try.f21))) (c2 := (sub [1, 1, 1, 1, 1, 1, 1, 0, 1, 0, 0, 1, 0, 0, 1, 1, 1, 0, 0, 1, 0, 0, 1] (bodyOf Try.f21))) (by kernel_rfl) ?_
                          refine T_region (id := 33) (by kernel_rfl) ?_
                          refine TI_segK (i := 0) (j := 3) (s' := { σ := [(1, .lf (.own 1 0)), (8, .lf (.v (.int .i64 x46))), (10, .lf (.v (.int .i64 x56))), (107, .agg [.one (.v (.slice Au0_0 (List.length u0_0) cu0_0)), .arr .i64 4 u0_1]), (108, .lf (.v (.int .i64 x46))), (109, .lf (.v (.int .i64 x56)))], H := [(1, [.one (.v (.slice Au0_0 (List.length u0_0) cu0_0)), .arr .i64 4 u0_1])], V := [], M := M, ds := [] }) [1, 8, 10, 107, 108, 109] [1] [] (by kernel_rfl) (by kernel_rfl) ?_
                          obtain ⟨v59, c_v59, h⟩ := cl_some h
                          obtain ⟨g60, h⟩ := gd_some h
                          refine TI_at (i := 3) (d := 110) (x := .agg [.arr .i64 2 v59]) (At_call (d := 110) (f := 17) (args := [rval (.agg [.one (.v (.slice Au0_0 (List.length u0_0) cu0_0)), .arr .i64 4 u0_1]), rval (.lf (.v (.int .i64 x46))), rval (.lf (.v (.int .i64 x56)))]) (x := .agg [.arr .i64 2 v59]) (by kernel_rfl) (w17 k hu0_0 hu0_1 c_v59)) (by kernel_rfl) ⟨g60, trivial⟩ ?_
                          refine TI_segK (i := 4) (j := 6) (s' := { σ := [(1, .lf (.own 1 0)), (8, .lf (.v (.int .i64 x46))), (10, .lf (.v (.int .i64 x56))), (11, .lf (.own 11 0))], H := [(1, [.one (.v (.slice Au0_0 (List.length u0_0) cu0_0)), .arr .i64 4 u0_1]), (11, [.arr .i64 2 v59])], V := [], M := M, ds := [] }) [1, 8, 10, 11] [1, 11] [] (by kernel_rfl) (by kernel_rfl) ?_
                          refine TI_end (by kernel_rfl) ?_
                          refine thenQ_n ?_
                          refine T_seq (c1 := (sub [1, 1, 1, 1, 1, 1, 1, 0, 1, 0, 0, 1, 0, 0, 1, 1, 1, 0, 0, 1, 0, 0, 1, 0] (bodyOf Try.f21))) (c2 := (sub [1, 1, 1, 1, 1, 1, 1, 0, 1, 0, 0, 1, 0, 0, 1, 1, 1, 0, 0, 1, 0, 0, 1, 1] (bodyOf Try.f21))) (by kernel_rfl) ?_
                          refine T_region (id := 34) (by kernel_rfl) ?_
                          obtain ⟨x61, e_x61, h⟩ := lt_some h
                          obtain ⟨x62, e_x62, h⟩ := lt_some h
                          obtain ⟨b63, e_b63, h⟩ := lt_some h
                          refine TI_segK (i := 0) (j := 5) (s' := { σ := [(1, .lf (.own 1 0)), (8, .lf (.v (.int .i64 x46))), (10, .lf (.v (.int .i64 x56))), (115, .lf (.v (.bool b63)))], H := [(1, [.one (.v (.slice Au0_0 (List.length u0_0) cu0_0)), .arr .i64 4 u0_1])], V := [], M := M, ds := [] }) [1, 8, 10, 115] [1] [] (by subst e_b63 e_x62 e_x61; kernel_rfl) (by kernel_rfl) ?_
                          refine TI_end (by kernel_rfl) ?_
                          refine thenQ_n ?_
                          cases b63 with
                          | true =>
                            replace h := sp_t h
                            refine T_condT (x := (.tmp 115)) (c1 := (sub [1, 1, 1, 1, 1, 1, 1, 0, 1, 0, 0, 1, 0, 0, 1, 1, 1, 0, 0, 1, 0, 0, 1, 1, 0] (bodyOf Try.f21))) (c2 := (sub [1, 1, 1, 1, 1, 1, 1, 0, 1, 0, 0, 1, 0, 0, 1, 1, 1, 0, 0, 1, 0, 0, 1, 1, 1] (bodyOf Try.f21))) (by kernel_rfl) (by kernel_rfl) ?_
                            refine T_keep (s' := { σ := [], H := [], V := [], M := M, ds := [] }) [] [] [] (by kernel_rfl) ?_
                            refine T_seq (c1 := (sub [1, 1, 1, 1, 1, 1, 1, 0, 1, 0, 0, 1, 0, 0, 1, 1, 1, 0, 0, 1, 0, 0, 1, 1, 0, 0] (bodyOf Try.f21))) (c2 := (sub [1, 1, 1, 1, 1, 1, 1, 0, 1, 0, 0, 1, 0, 0, 1, 1, 1, 0, 0, 1, 0, 0, 1, 1, 0, 1] (bodyOf Try.f21))) (by kernel_rfl) ?_
                            refine T_region (id := 35) (by kernel_rfl) ?_
                            refine TI_segK (i := 0) (j := 1) (s' := { σ := [(2, .lf (.v (.int .i64 (16 : Int))))], H := [], V := [], M := M, ds := [] }) [2] [] [] (by kernel_rfl) (by kernel_rfl) ?_
                            refine TI_end (by kernel_rfl) ?_
                            refine thenQ_n ?_
                            refine T_ret (by kernel_rfl) ?_
                            refine blockQ_r ?_
                            refine thenQ_r ?_
                            refine thenQ_r ?_
                            refine blockQ_r ?_
                            refine thenQ_r ?_
                            refine blockQ_r ?_
                            refine thenQ_r ?_
                            refine thenQ_r ?_
                            refine blockQ_r ?_
                            refine thenQ_r ?_
                            refine thenQ_r ?_
                            have h := Option.some.inj h
                            subst h
                            refine fin_ret (.lf (.v (.int .i64 (16 : Int)))) (by kernel_rfl) (by kernel_rfl) rfl ?_
                            rfl
                          | false =>
                            replace h := sp_f h
                            refine T_condF (x := (.tmp 115)) (c1 := (sub [1, 1, 1, 1, 1, 1, 1, 0, 1, 0, 0, 1, 0, 0, 1, 1, 1, 0, 0, 1, 0, 0, 1, 1, 0] (bodyOf Try.f21))) (c2 := (sub [1, 1, 1, 1, 1, 1, 1, 0, 1, 0, 0, 1, 0, 0, 1, 1, 1, 0, 0, 1, 0, 0, 1, 1, 1] (bodyOf Try.f21))) (by kernel_rfl) (by kernel_rfl) ?_
                            refine T_keep (s' := { σ := [(1, .lf (.own 1 0)), (8, .lf (.v (.int .i64 x46))), (10, .lf (.v (.int .i64 x56)))], H := [(1, [.one (.v (.slice Au0_0 (List.length u0_0) cu0_0)), .arr .i64 4 u0_1])], V := [], M := M, ds := [] }) [1, 8, 10] [1] [] (by kernel_rfl) ?_
                            refine T_skip (by kernel_rfl) ?_
                            refine blockQ_n ?_
                            refine thenQ_n ?_
                            refine T_region (id := 32) (by kernel_rfl) ?_
                            obtain ⟨x64, e_x64, h⟩ := lt_some h
                            refine TI_segK (i := 0) (j := 3) (s' := { σ := [(1, .lf (.own 1 0)), (8, .lf (.v (.int .i64 x46))), (10, .lf (.v (.int .i64 x64)))], H := [(1, [.one (.v (.slice Au0_0 (List.length u0_0) cu0_0)), .arr .i64 4 u0_1])], V := [], M := M, ds := [] }) [1, 8, 10] [1] [] (by subst e_x64; kernel_rfl) (by kernel_rfl) ?_
                            refine TI_end (by kernel_rfl) ?_
                            refine thenQ_n ?_
                            exact ⟨n57, Nat.lt_succ_self _, x64, keep_sub (ts := [1, 8, 10]) (hs := [1]) (vs := []) (by kernel_rfl), h⟩
                        | false =>
                          replace h := sp_f h
                          refine T_condF (x := (.tmp 104)) (c1 := (sub [1, 1, 1, 1, 1, 1, 1, 0, 1, 0, 0, 1, 0, 0, 1, 1, 1, 0, 0, 0, 1, 0] (bodyOf Try.f21))) (c2 := (sub [1, 1, 1, 1, 1, 1, 1, 0, 1, 0, 0, 1, 0, 0, 1, 1, 1, 0, 0, 0, 1, 1] (bodyOf Try.f21))) (by kernel_rfl) (by kernel_rfl) ?_
                          refine T_keep (s' := { σ := [(1, .lf (.own 1 0)), (8, .lf (.v (.int .i64 x46)))], H := [(1, [.one (.v (.slice Au0_0 (List.length u0_0) cu0_0)), .arr .i64 4 u0_1])], V := [], M := M, ds := [] }) [1, 8] [1] [] (by kernel_rfl) ?_
                          refine T_exit (id := 8) (by kernel_rfl) ?_
                          refine thenQ_x ?_
                          refine thenQ_x ?_
                          refine blockQ_x ?_
                          refine thenQ_n ?_
                          exact ⟨keep_sub (ts := [1, 8]) (hs := [1]) (vs := []) (by kernel_rfl), h⟩
                    · rintro s' ⟨hsub, h⟩
                      subst e_j55
                      refine blockQ_n ?_
                      refine thenQ_n ?_
                      refine T_sub hsub ?_
                      refine T_region (id := 26) (by kernel_rfl) ?_
                      obtain ⟨x65, e_x65, h⟩ := lt_some h
                      refine TI_segK (i := 0) (j := 3) (s' := { σ := [(1, .lf (.own 1 0)), (8, .lf (.v (.int .i64 x65)))], H := [(1, [.one (.v (.slice Au0_0 (List.length u0_0) cu0_0)), .arr .i64 4 u0_1])], V := [], M := M, ds := [] }) [1, 8] [1] [] (by subst e_x65; kernel_rfl) (by kernel_rfl) ?_
                      refine TI_end (by kernel_rfl) ?_
                      refine thenQ_n ?_
                      exact ⟨n47, Nat.lt_succ_self _, x65, keep_sub (ts := [1, 8]) (hs := [1]) (vs := []) (by kernel_rfl), h⟩
                | false =>
                  replace h := sp_f h
                  refine T_condF (x := (.tmp 92)) (c1 := (sub [1, 1, 1, 1, 1, 1, 1, 0, 1, 0, 0, 0, 1, 0] (bodyOf Try.f21))) (c2 := (sub [1, 1, 1, 1, 1, 1, 1, 0, 1, 0, 0, 0, 1, 1] (bodyOf Try.f21))) (by kernel_rfl) (by kernel_rfl) ?_
                  refine T_keep (s' := { σ := [], H := [], V := [], M := M, ds := [] }) [] [] [] (by kernel_rfl) ?_
                  refine T_exit (id := 6) (by kernel_rfl) ?_
                  refine thenQ_x ?_
                  refine thenQ_x ?_
                  refine blockQ_x ?_
                  refine thenQ_n ?_
                  exact ⟨keep_sub (ts := []) (hs := []) (vs := []) (by kernel_rfl), h⟩
            · rintro s' ⟨hsub, h⟩
              subst e_j45
              refine thenQ_n ?_
              refine T_sub hsub ?_
              refine T_seq (c1 := (sub [1, 1, 1, 1, 1, 1, 1, 1, 0] (bodyOf Try.f21))) (c2 := (sub [1, 1, 1, 1, 1, 1, 1, 1, 1] (bodyOf Try.f21))) (by kernel_rfl) ?_
              refine T_region (id := 36) (by kernel_rfl) ?_
              refine TI_segK (i := 0) (j := 1) (s' := { σ := [(2, .lf (.v (.int .i64 (0 : Int))))], H := [], V := [], M := M, ds := [] }) [2] [] [] (by kernel_rfl) (by kernel_rfl) ?_
              refine TI_end (by kernel_rfl) ?_
              refine thenQ_n ?_
              refine T_ret (by kernel_rfl) ?_
              have h := Option.some.inj h
              subst h
              refine fin_ret (.lf (.v (.int .i64 (0 : Int)))) (by kernel_rfl) (by kernel_rfl) rfl ?_
              rfl
end Go.Proofs.Ythjkejbgknemgaa
namespace Go.Proofs.Ythjkejbgknemgaa
open Go.RowKit
/-- gooseneck goosenecklaw11.great -/
def p18 (k : Nat) (u0_0 : List (List Int)) (u0_1 : List Int) : Option Bool :=
  jn (fun (b1 : Bool) => sp b1 (some true) (jn (fun (b6 : Bool) => some b6) fun j7 => lt' (decide ((List.length u0_0 : Int) > (1 : Int))) fun b8 => sp b8 (lt' (wr .i64 ((List.length u0_0 : Int) - (1 : Int))) fun x9 => gd ((0 : Int) ≤ x9 ∧ x9 < (List.length u0_0 : Int)) <| lt' (List.getD (List.getD u0_0 ((x9).toNat) []) 0 0) fun x11 => gd ((0 : Int) ≤ (0 : Int) ∧ (0 : Int) < (List.length u0_0 : Int)) <| lt' (List.getD (List.getD u0_0 0 []) 0 0) fun x13 => lt' (decide (x11 > x13)) fun b14 => sp b14 (lt' (wr .i64 ((List.length u0_0 : Int) - (1 : Int))) fun x15 => gd ((0 : Int) ≤ x15 ∧ x15 < (List.length u0_0 : Int)) <| lt' (List.getD (List.getD u0_0 ((x15).toNat) []) 0 0) fun x17 => gd ((0 : Int) ≤ (0 : Int) ∧ (0 : Int) < (List.length u0_0 : Int)) <| lt' (List.getD (List.getD u0_0 0 []) 0 0) fun x19 => lt' (wr .i64 (x17 - x19)) fun x20 => lt' (decide (x20 > (120 : Int))) fun b21 => sp b21 (lt' (wr .i64 ((List.length u0_0 : Int) - (1 : Int))) fun x22 => gd ((0 : Int) ≤ x22 ∧ x22 < (List.length u0_0 : Int)) <| lt' (List.getD (List.getD u0_0 ((x22).toNat) []) 0 0) fun x24 => gd ((0 : Int) ≤ (0 : Int) ∧ (0 : Int) < (List.length u0_0 : Int)) <| lt' (List.getD (List.getD u0_0 0 []) 0 0) fun x26 => lt' (wr .i64 (x24 - x26)) fun x27 => lt' (decide (x27 ≤ (2000 : Int))) fun b28 => j7 b28) (j7 false)) (j7 false)) (j7 false))) fun j2 => lt' (decide ((List.length u0_0 : Int) > (100 : Int))) fun b3 => sp b3 (j2 true) (lt' (decide ((List.length u0_0 : Int) > (20 : Int))) fun b4 => sp b4 (lt' (decide ((List.length u0_0 : Int) ≤ (64 : Int))) fun b5 => j2 b5) (j2 false))
theorem hf18 : Try.prog.funcs[18]? = some Try.f18 := by kernel_rfl
theorem w18 (k : Nat) {M : Mem} {Au0_0 : Option Addr} {cu0_0 : Nat} {u0_0 : List (List Int)} {u0_1 : List Int} (hu0_0 : SlR M Au0_0 cu0_0 .i64 11 u0_0) (hu0_1 : u0_1.length = 4) {r} (h : p18 k u0_0 u0_1 = some r) :
    Fn Try.prog 18 [rval (.agg [.one (.v (.slice Au0_0 (List.length u0_0) cu0_0)), .arr .i64 4 u0_1])] M (fun x _ => x = .lf (.v (.bool r))) := by
  unfold p18 at h
  refine Fn_of (P := Try.prog) (fn := Try.f18) (c := bodyOf Try.f18) [.agg [.one (.v (.slice Au0_0 (List.length u0_0) cu0_0)), .arr .i64 4 u0_1]] hf18 (by kernel_rfl) (Nat.le_of_ble_eq_true (by kernel_rfl)) (args_ok (by kernel_rfl) ⟨⟨rfl, ⟨hu0_1, trivial⟩⟩, trivial⟩) fun w => ?_
  change T _ _ _ (endQ _ _ _)
  refine T_seq (c1 := (sub [0] (bodyOf Try.f18))) (c2 := (sub [1] (bodyOf Try.f18))) (by kernel_rfl) ?_
  refine T_region (id := 0) (by kernel_rfl) ?_
  refine TI_segK (i := 0) (j := 2) (s' := { σ := [(1, .lf (.own 1 0))], H := [(1, [.one (.v (.slice Au0_0 (List.length u0_0) cu0_0)), .arr .i64 4 u0_1])], V := [], M := M, ds := [] }) [1] [1] [] (by kernel_rfl) (by kernel_rfl) ?_
  refine TI_end (by kernel_rfl) ?_
  refine thenQ_n ?_
  refine T_seq (c1 := (sub [1, 0] (bodyOf Try.f18))) (c2 := (sub [1, 1] (bodyOf Try.f18))) (by kernel_rfl) ?_
  refine T_region (id := 1) (by kernel_rfl) ?_
  refine TI_segK (i := 0) (j := 4) (s' := { σ := [(1, .lf (.own 1 0)), (3, .lf (.v (.int .i64 (List.length u0_0 : Int))))], H := [(1, [.one (.v (.slice Au0_0 (List.length u0_0) cu0_0)), .arr .i64 4 u0_1])], V := [], M := M, ds := [] }) [1, 3] [1] [] (by kernel_rfl) (by kernel_rfl) ?_
  refine TI_end (by kernel_rfl) ?_
  refine thenQ_n ?_
  refine T_seq (c1 := (sub [1, 1, 0] (bodyOf Try.f18))) (c2 := (sub [1, 1, 1] (bodyOf Try.f18))) (by kernel_rfl) ?_
  obtain ⟨j2, e_j2, h⟩ := jn_some h
  refine T_cut (c1 := (sub [1, 1, 0, 0] (bodyOf Try.f18))) (c2 := (sub [1, 1, 0, 1] (bodyOf Try.f18))) (fun s' => ∃ (b1 : Bool), Sub { σ := [(1, .lf (.own 1 0)), (3, .lf (.v (.int .i64 (List.length u0_0 : Int)))), (16, .lf (.v (.bool b1)))], H := [(1, [.one (.v (.slice Au0_0 (List.length u0_0) cu0_0)), .arr .i64 4 u0_1])], V := [], M := M, ds := [] } s' ∧ j2 b1 = some r) (by kernel_rfl) ?_ ?_
  · refine T_region (id := 2) (by kernel_rfl) ?_
    obtain ⟨b3, e_b3, h⟩ := lt_some h
    refine TI_segK (i := 0) (j := 3) (s' := { σ := [(1, .lf (.own 1 0)), (3, .lf (.v (.int .i64 (List.length u0_0 : Int)))), (9, .lf (.v (.bool b3)))], H := [(1, [.one (.v (.slice Au0_0 (List.length u0_0) cu0_0)), .arr .i64 4 u0_1])], V := [], M := M, ds := [] }) [1, 3, 9] [1] [] (by subst e_b3; kernel_rfl) (by kernel_rfl) ?_
    cases b3 with
    | true =>
      replace h := sp_t h
      refine TI_segK (i := 3) (j := 10) (s' := { σ := [(1, .lf (.own 1 0)), (3, .lf (.v (.int .i64 (List.length u0_0 : Int)))), (16, .lf (.v (.bool true)))], H := [(1, [.one (.v (.slice Au0_0 (List.length u0_0) cu0_0)), .arr .i64 4 u0_1])], V := [], M := M, ds := [] }) [1, 3, 16] [1] [] (by kernel_rfl) (by kernel_rfl) ?_
      refine TI_end (by kernel_rfl) ?_
      refine thenQ_n ?_
      exact ⟨true, keep_sub (ts := [1, 3, 16]) (hs := [1]) (vs := []) (by kernel_rfl), h⟩
    | false =>
      replace h := sp_f h
      obtain ⟨b4, e_b4, h⟩ := lt_some h
      refine TI_segK (i := 3) (j := 6) (s' := { σ := [(1, .lf (.own 1 0)), (3, .lf (.v (.int .i64 (List.length u0_0 : Int)))), (9, .lf (.v (.bool false))), (12, .lf (.v (.bool b4)))], H := [(1, [.one (.v (.slice Au0_0 (List.length u0_0) cu0_0)), .arr .i64 4 u0_1])], V := [], M := M, ds := [] }) [1, 3, 9, 12] [1] [] (by subst e_b4; kernel_rfl) (by kernel_rfl) ?_
      cases b4 with
      | true =>
        replace h := sp_t h
        obtain ⟨b5, e_b5, h⟩ := lt_some h
        refine TI_segK (i := 6) (j := 10) (s' := { σ := [(1, .lf (.own 1 0)), (3, .lf (.v (.int .i64 (List.length u0_0 : Int)))), (16, .lf (.v (.bool b5)))], H := [(1, [.one (.v (.slice Au0_0 (List.length u0_0) cu0_0)), .arr .i64 4 u0_1])], V := [], M := M, ds := [] }) [1, 3, 16] [1] [] (by subst e_b5; kernel_rfl) (by kernel_rfl) ?_
        refine TI_end (by kernel_rfl) ?_
        refine thenQ_n ?_
        exact ⟨b5, keep_sub (ts := [1, 3, 16]) (hs := [1]) (vs := []) (by kernel_rfl), h⟩
      | false =>
        replace h := sp_f h
        refine TI_segK (i := 6) (j := 10) (s' := { σ := [(1, .lf (.own 1 0)), (3, .lf (.v (.int .i64 (List.length u0_0 : Int)))), (16, .lf (.v (.bool false)))], H := [(1, [.one (.v (.slice Au0_0 (List.length u0_0) cu0_0)), .arr .i64 4 u0_1])], V := [], M := M, ds := [] }) [1, 3, 16] [1] [] (by kernel_rfl) (by kernel_rfl) ?_
        refine TI_end (by kernel_rfl) ?_
        refine thenQ_n ?_
        exact ⟨false, keep_sub (ts := [1, 3, 16]) (hs := [1]) (vs := []) (by kernel_rfl), h⟩
  · rintro s' ⟨b1, hsub, h⟩
    subst e_j2
    refine T_sub hsub ?_
    cases b1 with
    | true =>
      replace h := sp_t h
      refine T_condT (x := (.tmp 16)) (c1 := (sub [1, 1, 0, 1, 0] (bodyOf Try.f18))) (c2 := (sub [1, 1, 0, 1, 1] (bodyOf Try.f18))) (by kernel_rfl) (by kernel_rfl) ?_
      refine T_keep (s' := { σ := [], H := [], V := [], M := M, ds := [] }) [] [] [] (by kernel_rfl) ?_
      refine T_seq (c1 := (sub [1, 1, 0, 1, 0, 0] (bodyOf Try.f18))) (c2 := (sub [1, 1, 0, 1, 0, 1] (bodyOf Try.f18))) (by kernel_rfl) ?_
      refine T_region (id := 3) (by kernel_rfl) ?_
      refine TI_segK (i := 0) (j := 1) (s' := { σ := [(2, .lf (.v (.bool true)))], H := [], V := [], M := M, ds := [] }) [2] [] [] (by kernel_rfl) (by kernel_rfl) ?_
      refine TI_end (by kernel_rfl) ?_
      refine thenQ_n ?_
      refine T_ret (by kernel_rfl) ?_
      refine thenQ_r ?_
      have h := Option.some.inj h
      subst h
      refine fin_ret (.lf (.v (.bool true))) (by kernel_rfl) (by kernel_rfl) rfl ?_
      rfl
    | false =>
      replace h := sp_f h
      refine T_condF (x := (.tmp 16)) (c1 := (sub [1, 1, 0, 1, 0] (bodyOf Try.f18))) (c2 := (sub [1, 1, 0, 1, 1] (bodyOf Try.f18))) (by kernel_rfl) (by kernel_rfl) ?_
      refine T_keep (s' := { σ := [(1, .lf (.own 1 0)), (3, .lf (.v (.int .i64 (List.length u0_0 : Int))))], H := [(1, [.one (.v (.slice Au0_0 (List.length u0_0) cu0_0)), .arr .i64 4 u0_1])], V := [], M := M, ds := [] }) [1, 3] [1] [] (by kernel_rfl) ?_
      refine T_skip (by kernel_rfl) ?_
      refine thenQ_n ?_
      obtain ⟨j7, e_j7, h⟩ := jn_some h
      refine T_cut (c1 := (sub [1, 1, 1, 0] (bodyOf Try.f18))) (c2 := (sub [1, 1, 1, 1] (bodyOf Try.f18))) (fun s' => ∃ (b6 : Bool), Sub { σ := [(2, .lf (.v (.bool b6)))], H := [], V := [], M := M, ds := [] } s' ∧ j7 b6 = some r) (by kernel_rfl) ?_ ?_
      · obtain ⟨b8, e_b8, h⟩ := lt_some h
        cases b8 with
        | true =>
          replace h := sp_t h
          obtain ⟨x9, e_x9, h⟩ := lt_some h
          obtain ⟨g10, h⟩ := gd_some h
          obtain ⟨x11, e_x11, h⟩ := lt_some h
          obtain ⟨g12, h⟩ := gd_some h
          obtain ⟨x13, e_x13, h⟩ := lt_some h
          obtain ⟨b14, e_b14, h⟩ := lt_some h
          cases b14 with
          | true =>
            replace h := sp_t h
            obtain ⟨x15, e_x15, h⟩ := lt_some h
            obtain ⟨g16, h⟩ := gd_some h
            obtain ⟨x17, e_x17, h⟩ := lt_some h
            obtain ⟨g18, h⟩ := gd_some h
            obtain ⟨x19, e_x19, h⟩ := lt_some h
            obtain ⟨x20, e_x20, h⟩ := lt_some h
            obtain ⟨b21, e_b21, h⟩ := lt_some h
            cases b21 with
            | true =>
              replace h := sp_t h
              obtain ⟨x22, e_x22, h⟩ := lt_some h
              obtain ⟨g23, h⟩ := gd_some h
              obtain ⟨x24, e_x24, h⟩ := lt_some h
              obtain ⟨g25, h⟩ := gd_some h
              obtain ⟨x26, e_x26, h⟩ := lt_some h
              obtain ⟨x27, e_x27, h⟩ := lt_some h
              obtain ⟨b28, e_b28, h⟩ := lt_some h
              refine T_draw' (id := 4) [] [0, 0, 0, 0, 0, 0, 0, 0, 0, 0, 0, 0, 0, 0, 0, 0, 0, 0, 0, 0, 0, 0, 0, 0, 0, 0, 0, 0, 0, 0, 0, 0, 0, 0, 0, 0, 0, 0, 0, 0, 0, 0, 0, 0, 0, 0, 0, 0, 0, 0] (by kernel_rfl) (by kernel_rfl) (by kernel_rfl) (by kernel_rfl) ((17, .lf (.v (.int .i64 (List.length u0_0 : Int)))) :: (18, .lf (.v (.bool true))) :: (19, .lf (.v (.bool true))) :: (20, .lf (.own 1 0)) :: (21, .lf (.v (.slice Au0_0 (List.length u0_0) cu0_0))) :: (22, .lf (.v (.int .i64 (List.length u0_0 : Int)))) :: (23, .lf (.v (.int .i64 x9))) :: (24, .lf (.ep (.slice Au0_0 (List.length u0_0) cu0_0) 11 ((x9).toNat) 0)) :: (25, .lf (.ep (.slice Au0_0 (List.length u0_0) cu0_0) 11 ((x9).toNat) 0)) :: (26, .lf (.v (.int .i64 x11))) :: (27, .lf (.own 1 0)) :: (28, .lf (.v (.slice Au0_0 (List.length u0_0) cu0_0))) :: (29, .lf (.ep (.slice Au0_0 (List.length u0_0) cu0_0) 11 0 0)) :: (30, .lf (.ep (.slice Au0_0 (List.length u0_0) cu0_0) 11 0 0)) :: (31, .lf (.v (.int .i64 x13))) :: (32, .lf (.v (.bool true))) :: (33, .lf (.v (.bool true))) :: (34, .lf (.v (.bool true))) :: (35, .lf (.own 1 0)) :: (36, .lf (.v (.slice Au0_0 (List.length u0_0) cu0_0))) :: (37, .lf (.v (.int .i64 (List.length u0_0 : Int)))) :: (38, .lf (.v (.int .i64 x15))) :: (39, .lf (.ep (.slice Au0_0 (List.length u0_0) cu0_0) 11 ((x15).toNat) 0)) :: (40, .lf (.ep (.slice Au0_0 (List.length u0_0) cu0_0) 11 ((x15).toNat) 0)) :: (41, .lf (.v (.int .i64 x17))) :: (42, .lf (.own 1 0)) :: (43, .lf (.v (.slice Au0_0 (List.length u0_0) cu0_0))) :: (44, .lf (.ep (.slice Au0_0 (List.length u0_0) cu0_0) 11 0 0)) :: (45, .lf (.ep (.slice Au0_0 (List.length u0_0) cu0_0) 11 0 0)) :: (46, .lf (.v (.int .i64 x19))) :: (47, .lf (.v (.int .i64 x20))) :: (48, .lf (.v (.bool true))) :: (49, .lf (.v (.bool true))) :: (50, .lf (.v (.bool true))) :: (51, .lf (.own 1 0)) :: (52, .lf (.v (.slice Au0_0 (List.length u0_0) cu0_0))) :: (53, .lf (.v (.int .i64 (List.length u0_0 : Int)))) :: (54, .lf (.v (.int .i64 x22))) :: (55, .lf (.ep (.slice Au0_0 (List.length u0_0) cu0_0) 11 ((x22).toNat) 0)) :: (56, .lf (.ep (.slice Au0_0 (List.length u0_0) cu0_0) 11 ((x22).toNat) 0)) :: (57, .lf (.v (.int .i64 x24))) :: (58, .lf (.own 1 0)) :: (59, .lf (.v (.slice Au0_0 (List.length u0_0) cu0_0))) :: (60, .lf (.ep (.slice Au0_0 (List.length u0_0) cu0_0) 11 0 0)) :: (61, .lf (.ep (.slice Au0_0 (List.length u0_0) cu0_0) 11 0 0)) :: (62, .lf (.v (.int .i64 x26))) :: (63, .lf (.v (.int .i64 x27))) :: (64, .lf (.v (.bool b28))) :: (65, .lf (.v (.bool b28))) :: (2, .lf (.v (.bool b28))) :: []) (by kernel_rfl) ⟨trivial, ⟨trivial, ⟨trivial, ⟨trivial, ⟨trivial, ⟨trivial, ⟨trivial, ⟨trivial, ⟨trivial, ⟨trivial, ⟨trivial, ⟨trivial, ⟨trivial, ⟨trivial, ⟨trivial, ⟨trivial, ⟨trivial, ⟨trivial, ⟨trivial, ⟨trivial, ⟨trivial, ⟨trivial, ⟨trivial, ⟨trivial, ⟨trivial, ⟨trivial, ⟨trivial, ⟨trivial, ⟨trivial, ⟨trivial, ⟨trivial, ⟨trivial, ⟨trivial, ⟨trivial, ⟨trivial, ⟨trivial, ⟨trivial, ⟨trivial, ⟨trivial, ⟨trivial, ⟨trivial, ⟨trivial, ⟨trivial, ⟨trivial, ⟨trivial, ⟨trivial, ⟨trivial, ⟨trivial, ⟨trivial, ⟨trivial, trivial⟩⟩⟩⟩⟩⟩⟩⟩⟩⟩⟩⟩⟩⟩⟩⟩⟩⟩⟩⟩⟩⟩⟩⟩⟩⟩⟩⟩⟩⟩⟩⟩⟩⟩⟩⟩⟩⟩⟩⟩⟩⟩⟩⟩⟩⟩⟩⟩⟩⟩ ?_
              refine Stage_nil (stage_all' [0, 2, 3, 4, 5, 6, 8, 10, 11, 13, 16, 17, 18, 19, 20, 21, 23, 25, 26, 28, 30, 32, 33, 34, 35, 36, 37, 39, 41, 42, 44, 46, 47, 48, 49] [1, 7, 9, 12, 14, 15, 22, 24, 27, 29, 31, 38, 40, 43, 45] (by kernel_rfl) (by subst e_b28 e_x27 e_x26 e_x24 e_x22 e_x20 e_x19 e_x17 e_x15 e_x13 e_x11 e_x9; kernel_rfl) (by kernel_rfl) ⟨QF_at (i := 1) (d := 18) (x := .lf (.v (.bool true))) (show OpAt _ _ _ 1 18 (.lf (.v (.bool true))) from by exact At_bin (d := 18) (b := .gtr) (u := .int .i64 (List.length u0_0 : Int)) (v := .int .i64 (1 : Int)) (w' := .bool true) (by subst e_b28 e_x27 e_x26 e_x24 e_x22 e_x20 e_x19 e_x17 e_x15 e_x13 e_x11 e_x9; kernel_rfl) (by rw [show exBin .gtr (.int .i64 (List.length u0_0 : Int)) (.int .i64 (1 : Int)) = some (.bool (decide ((List.length u0_0 : Int) > (1 : Int)))) from by kernel_rfl, ← e_b8])) (by kernel_rfl) (by subst e_b28 e_x27 e_x26 e_x24 e_x22 e_x20 e_x19 e_x17 e_x15 e_x13 e_x11 e_x9; kernel_rfl), ⟨QF_at (i := 7) (d := 24) (x := .lf (.ep (.slice Au0_0 (List.length u0_0) cu0_0) 11 ((x9).toNat) 0)) (show OpAt _ _ _ 7 24 (.lf (.ep (.slice Au0_0 (List.length u0_0) cu0_0) 11 ((x9).toNat) 0)) from by exact At_idxR (d := 24) (z := x9) (by subst e_b28 e_x27 e_x26 e_x24 e_x22 e_x20 e_x19 e_x17 e_x15 e_x13 e_x11 e_x9; kernel_rfl) g10 hu0_0) (by kernel_rfl) (by subst e_b28 e_x27 e_x26 e_x24 e_x22 e_x20 e_x19 e_x17 e_x15 e_x13 e_x11 e_x9; kernel_rfl), ⟨QF_at (i := 9) (d := 26) (x := .lf (.v (.int .i64 x11))) (show OpAt _ _ _ 9 26 (.lf (.v (.int .i64 x11))) from by rw [e_x11]; exact At_ldR1 (d := 26) (q := (x9).toNat) (j := 0) (by subst e_b28 e_x27 e_x26 e_x24 e_x22 e_x20 e_x19 e_x17 e_x15 e_x13 e_x11 e_x9; kernel_rfl) rfl (toNat_lt g10) hu0_0) (by kernel_rfl) (by subst e_b28 e_x27 e_x26 e_x24 e_x22 e_x20 e_x19 e_x17 e_x15 e_x13 e_x11 e_x9; kernel_rfl), ⟨QF_at (i := 12) (d := 29) (x := .lf (.ep (.slice Au0_0 (List.length u0_0) cu0_0) 11 0 0)) (show OpAt _ _ _ 12 29 (.lf (.ep (.slice Au0_0 (List.length u0_0) cu0_0) 11 0 0)) from by exact At_idxR (d := 29) (z := (0 : Int)) (by subst e_b28 e_x27 e_x26 e_x24 e_x22 e_x20 e_x19 e_x17 e_x15 e_x13 e_x11 e_x9; kernel_rfl) g12 hu0_0) (by kernel_rfl) (by subst e_b28 e_x27 e_x26 e_x24 e_x22 e_x20 e_x19 e_x17 e_x15 e_x13 e_x11 e_x9; kernel_rfl), ⟨QF_at (i := 14) (d := 31) (x := .lf (.v (.int .i64 x13))) (show OpAt _ _ _ 14 31 (.lf (.v (.int .i64 x13))) from by rw [e_x13]; exact At_ldR1 (d := 31) (q := 0) (j := 0) (by subst e_b28 e_x27 e_x26 e_x24 e_x22 e_x20 e_x19 e_x17 e_x15 e_x13 e_x11 e_x9; kernel_rfl) rfl (toNat_lt g12) hu0_0) (by kernel_rfl) (by subst e_b28 e_x27 e_x26 e_x24 e_x22 e_x20 e_x19 e_x17 e_x15 e_x13 e_x11 e_x9; kernel_rfl), ⟨QF_at (i := 15) (d := 32) (x := .lf (.v (.bool true))) (show OpAt _ _ _ 15 32 (.lf (.v (.bool true))) from by exact At_bin (d := 32) (b := .gtr) (u := .int .i64 x11) (v := .int .i64 x13) (w' := .bool true) (by subst e_b28 e_x27 e_x26 e_x24 e_x22 e_x20 e_x19 e_x17 e_x15 e_x13 e_x11 e_x9; kernel_rfl) (by rw [show exBin .gtr (.int .i64 x11) (.int .i64 x13) = some (.bool (decide (x11 > x13))) from by kernel_rfl, ← e_b14])) (by kernel_rfl) (by subst e_b28 e_x27 e_x26 e_x24 e_x22 e_x20 e_x19 e_x17 e_x15 e_x13 e_x11 e_x9; kernel_rfl), ⟨QF_at (i := 22) (d := 39) (x := .lf (.ep (.slice Au0_0 (List.length u0_0) cu0_0) 11 ((x15).toNat) 0)) (show OpAt _ _ _ 22 39 (.lf (.ep (.slice Au0_0 (List.length u0_0) cu0_0) 11 ((x15).toNat) 0)) from by exact At_idxR (d := 39) (z := x15) (by subst e_b28 e_x27 e_x26 e_x24 e_x22 e_x20 e_x19 e_x17 e_x15 e_x13 e_x11 e_x9; kernel_rfl) g16 hu0_0) (by kernel_rfl) (by subst e_b28 e_x27 e_x26 e_x24 e_x22 e_x20 e_x19 e_x17 e_x15 e_x13 e_x11 e_x9; kernel_rfl), ⟨QF_at (i := 24) (d := 41) (x := .lf (.v (.int .i64 x17))) (show OpAt _ _ _ 24 41 (.lf (.v (.int .i64 x17))) from by rw [e_x17]; exact At_ldR1 (d := 41) (q := (x15).toNat) (j := 0) (by subst e_b28 e_x27 e_x26 e_x24 e_x22 e_x20 e_x19 e_x17 e_x15 e_x13 e_x11 e_x9; kernel_rfl) rfl (toNat_lt g16) hu0_0) (by kernel_rfl) (by subst e_b28 e_x27 e_x26 e_x24 e_x22 e_x20 e_x19 e_x17 e_x15 e_x13 e_x11 e_x9; kernel_rfl), ⟨QF_at (i := 27) (d := 44) (x := .lf (.ep (.slice Au0_0 (List.length u0_0) cu0_0) 11 0 0)) (show OpAt _ _ _ 27 44 (.lf (.ep (.slice Au0_0 (List.length u0_0) cu0_0) 11 0 0)) from by exact At_idxR (d := 44) (z := (0 : Int)) (by subst e_b28 e_x27 e_x26 e_x24 e_x22 e_x20 e_x19 e_x17 e_x15 e_x13 e_x11 e_x9; kernel_rfl) g18 hu0_0) (by kernel_rfl) (by subst e_b28 e_x27 e_x26 e_x24 e_x22 e_x20 e_x19 e_x17 e_x15 e_x13 e_x11 e_x9; kernel_rfl), ⟨QF_at (i := 29) (d := 46) (x := .lf (.v (.int .i64 x19))) (show OpAt _ _ _ 29 46 (.lf (.v (.int .i64 x19))) from by rw [e_x19]; exact At_ldR1 (d := 46) (q := 0) (j := 0) (by subst e_b28 e_x27 e_x26 e_x24 e_x22 e_x20 e_x19 e_x17 e_x15 e_x13 e_x11 e_x9; kernel_rfl) rfl (toNat_lt g18) hu0_0) (by kernel_rfl) (by subst e_b28 e_x27 e_x26 e_x24 e_x22 e_x20 e_x19 e_x17 e_x15 e_x13 e_x11 e_x9; kernel_rfl), ⟨QF_at (i := 31) (d := 48) (x := .lf (.v (.bool true))) (show OpAt _ _ _ 31 48 (.lf (.v (.bool true))) from by exact At_bin (d := 48) (b := .gtr) (u := .int .i64 x20) (v := .int .i64 (120 : Int)) (w' := .bool true) (by subst e_b28 e_x27 e_x26 e_x24 e_x22 e_x20 e_x19 e_x17 e_x15 e_x13 e_x11 e_x9; kernel_rfl) (by rw [show exBin .gtr (.int .i64 x20) (.int .i64 (120 : Int)) = some (.bool (decide (x20 > (120 : Int)))) from by kernel_rfl, ← e_b21])) (by kernel_rfl) (by subst e_b28 e_x27 e_x26 e_x24 e_x22 e_x20 e_x19 e_x17 e_x15 e_x13 e_x11 e_x9; kernel_rfl), ⟨QF_at (i := 38) (d := 55) (x := .lf (.ep (.slice Au0_0 (List.length u0_0) cu0_0) 11 ((x22).toNat) 0)) (show OpAt _ _ _ 38 55 (.lf (.ep (.slice Au0_0 (List.length u0_0) cu0_0) 11 ((x22).toNat) 0)) from by exact At_idxR (d := 55) (z := x22) (by subst e_b28 e_x27 e_x26 e_x24 e_x22 e_x20 e_x19 e_x17 e_x15 e_x13 e_x11 e_x9; kernel_rfl) g23 hu0_0) (by kernel_rfl) (by subst e_b28 e_x27 e_x26 e_x24 e_x22 e_x20 e_x19 e_x17 e_x15 e_x13 e_x11 e_x9; kernel_rfl), ⟨QF_at (i := 40) (d := 57) (x := .lf (.v (.int .i64 x24))) (show OpAt _ _ _ 40 57 (.lf (.v (.int .i64 x24))) from by rw [e_x24]; exact At_ldR1 (d := 57) (q := (x22).toNat) (j := 0) (by subst e_b28 e_x27 e_x26 e_x24 e_x22 e_x20 e_x19 e_x17 e_x15 e_x13 e_x11 e_x9; kernel_rfl) rfl (toNat_lt g23) hu0_0) (by kernel_rfl) (by subst e_b28 e_x27 e_x26 e_x24 e_x22 e_x20 e_x19 e_x17 e_x15 e_x13 e_x11 e_x9; kernel_rfl), ⟨QF_at (i := 43) (d := 60) (x := .lf (.ep (.slice Au0_0 (List.length u0_0) cu0_0) 11 0 0)) (show OpAt _ _ _ 43 60 (.lf (.ep (.slice Au0_0 (List.length u0_0) cu0_0) 11 0 0)) from by exact At_idxR (d := 60) (z := (0 : Int)) (by subst e_b28 e_x27 e_x26 e_x24 e_x22 e_x20 e_x19 e_x17 e_x15 e_x13 e_x11 e_x9; kernel_rfl) g25 hu0_0) (by kernel_rfl) (by subst e_b28 e_x27 e_x26 e_x24 e_x22 e_x20 e_x19 e_x17 e_x15 e_x13 e_x11 e_x9; kernel_rfl), ⟨QF_at (i := 45) (d := 62) (x := .lf (.v (.int .i64 x26))) (show OpAt _ _ _ 45 62 (.lf (.v (.int .i64 x26))) from by rw [e_x26]; exact At_ldR1 (d := 62) (q := 0) (j := 0) (by subst e_b28 e_x27 e_x26 e_x24 e_x22 e_x20 e_x19 e_x17 e_x15 e_x13 e_x11 e_x9; kernel_rfl) rfl (toNat_lt g25) hu0_0) (by kernel_rfl) (by subst e_b28 e_x27 e_x26 e_x24 e_x22 e_x20 e_x19 e_x17 e_x15 e_x13 e_x11 e_x9; kernel_rfl), trivial⟩⟩⟩⟩⟩⟩⟩⟩⟩⟩⟩⟩⟩⟩⟩) ?_
              refine thenQ_n ?_
              exact ⟨b28, keep_sub (ts := [2]) (hs := []) (vs := []) (by subst e_b28 e_x27 e_x26 e_x24 e_x22 e_x20 e_x19 e_x17 e_x15 e_x13 e_x11 e_x9; kernel_rfl), h⟩
            | false =>
              replace h := sp_f h
              refine T_draw' (id := 4) [] [0, 0, 0, 0, 0, 0, 0, 0, 0, 0, 0, 0, 0, 0, 0, 0, 0, 0, 0, 0, 0, 0, 0, 0, 0, 0, 0, 0, 0, 0, 0, 0, 0, 0, 0, 0, 0, 0, 0, 0, 0, 0, 0, 0, 0, 0, 0, 0, 0, 0] (by kernel_rfl) (by kernel_rfl) (by kernel_rfl) (by kernel_rfl) ((17, .lf (.v (.int .i64 (List.length u0_0 : Int)))) :: (18, .lf (.v (.bool true))) :: (19, .lf (.v (.bool true))) :: (20, .lf (.own 1 0)) :: (21, .lf (.v (.slice Au0_0 (List.length u0_0) cu0_0))) :: (22, .lf (.v (.int .i64 (List.length u0_0 : Int)))) :: (23, .lf (.v (.int .i64 x9))) :: (24, .lf (.ep (.slice Au0_0 (List.length u0_0) cu0_0) 11 ((x9).toNat) 0)) :: (25, .lf (.ep (.slice Au0_0 (List.length u0_0) cu0_0) 11 ((x9).toNat) 0)) :: (26, .lf (.v (.int .i64 x11))) :: (27, .lf (.own 1 0)) :: (28, .lf (.v (.slice Au0_0 (List.length u0_0) cu0_0))) :: (29, .lf (.ep (.slice Au0_0 (List.length u0_0) cu0_0) 11 0 0)) :: (30, .lf (.ep (.slice Au0_0 (List.length u0_0) cu0_0) 11 0 0)) :: (31, .lf (.v (.int .i64 x13))) :: (32, .lf (.v (.bool true))) :: (33, .lf (.v (.bool true))) :: (34, .lf (.v (.bool true))) :: (35, .lf (.own 1 0)) :: (36, .lf (.v (.slice Au0_0 (List.length u0_0) cu0_0))) :: (37, .lf (.v (.int .i64 (List.length u0_0 : Int)))) :: (38, .lf (.v (.int .i64 x15))) :: (39, .lf (.ep (.slice Au0_0 (List.length u0_0) cu0_0) 11 ((x15).toNat) 0)) :: (40, .lf (.ep (.slice Au0_0 (List.length u0_0) cu0_0) 11 ((x15).toNat) 0)) :: (41, .lf (.v (.int .i64 x17))) :: (42, .lf (.own 1 0)) :: (43, .lf (.v (.slice Au0_0 (List.length u0_0) cu0_0))) :: (44, .lf (.ep (.slice Au0_0 (List.length u0_0) cu0_0) 11 0 0)) :: (45, .lf (.ep (.slice Au0_0 (List.length u0_0) cu0_0) 11 0 0)) :: (46, .lf (.v (.int .i64 x19))) :: (47, .lf (.v (.int .i64 x20))) :: (48, .lf (.v (.bool false))) :: (49, .lf (.v (.bool false))) :: (50, .lf (.v (.bool false))) :: (51, .tup []) :: (52, .tup []) :: (53, .tup []) :: (54, .tup []) :: (55, .tup []) :: (56, .tup []) :: (57, .tup []) :: (58, .tup []) :: (59, .tup []) :: (60, .tup []) :: (61, .tup []) :: (62, .tup []) :: (63, .tup []) :: (64, .tup []) :: (65, .lf (.v (.bool false))) :: (2, .lf (.v (.bool false))) :: []) (by kernel_rfl) ⟨trivial, ⟨trivial, ⟨trivial, ⟨trivial, ⟨trivial, ⟨trivial, ⟨trivial, ⟨trivial, ⟨trivial, ⟨trivial, ⟨trivial, ⟨trivial, ⟨trivial, ⟨trivial, ⟨trivial, ⟨trivial, ⟨trivial, ⟨trivial, ⟨trivial, ⟨trivial, ⟨trivial, ⟨trivial, ⟨trivial, ⟨trivial, ⟨trivial, ⟨trivial, ⟨trivial, ⟨trivial, ⟨trivial, ⟨trivial, ⟨trivial, ⟨trivial, ⟨trivial, ⟨trivial, ⟨(by intro y hy; cases hy), ⟨(by intro y hy; cases hy), ⟨(by intro y hy; cases hy), ⟨(by intro y hy; cases hy), ⟨(by intro y hy; cases hy), ⟨(by intro y hy; cases hy), ⟨(by intro y hy; cases hy), ⟨(by intro y hy; cases hy), ⟨(by intro y hy; cases hy), ⟨(by intro y hy; cases hy), ⟨(by intro y hy; cases hy), ⟨(by intro y hy; cases hy), ⟨(by intro y hy; cases hy), ⟨(by intro y hy; cases hy), ⟨trivial, ⟨trivial, trivial⟩⟩⟩⟩⟩⟩⟩⟩⟩⟩⟩⟩⟩⟩⟩⟩⟩⟩⟩⟩⟩⟩⟩⟩⟩⟩⟩⟩⟩⟩⟩⟩⟩⟩⟩⟩⟩⟩⟩⟩⟩⟩⟩⟩⟩⟩⟩⟩⟩⟩ ?_
              refine Stage_nil (stage_all' [0, 2, 3, 4, 5, 6, 8, 10, 11, 13, 16, 17, 18, 19, 20, 21, 23, 25, 26, 28, 30, 32, 33, 34, 35, 36, 37, 38, 39, 40, 41, 42, 43, 44, 45, 46, 47, 48, 49] [1, 7, 9, 12, 14, 15, 22, 24, 27, 29, 31] (by kernel_rfl) (by subst e_x20 e_x19 e_x17 e_x15 e_x13 e_x11 e_x9; kernel_rfl) (by kernel_rfl) ⟨QF_at (i := 1) (d := 18) (x := .lf (.v (.bool true))) (show OpAt _ _ _ 1 18 (.lf (.v (.bool true))) from by exact At_bin (d := 18) (b := .gtr) (u := .int .i64 (List.length u0_0 : Int)) (v := .int .i64 (1 : Int)) (w' := .bool true) (by subst e_x20 e_x19 e_x17 e_x15 e_x13 e_x11 e_x9; kernel_rfl) (by rw [show exBin .gtr (.int .i64 (List.length u0_0 : Int)) (.int .i64 (1 : Int)) = some (.bool (decide ((List.length u0_0 : Int) > (1 : Int)))) from by kernel_rfl, ← e_b8])) (by kernel_rfl) (by subst e_x20 e_x19 e_x17 e_x15 e_x13 e_x11 e_x9; kernel_rfl), ⟨QF_at (i := 7) (d := 24) (x := .lf (.ep (.slice Au0_0 (List.length u0_0) cu0_0) 11 ((x9).toNat) 0)) (show OpAt _ _ _ 7 24 (.lf (.ep (.slice Au0_0 (List.length u0_0) cu0_0) 11 ((x9).toNat) 0)) from by exact At_idxR (d := 24) (z := x9) (by subst e_x20 e_x19 e_x17 e_x15 e_x13 e_x11 e_x9; kernel_rfl) g10 hu0_0) (by kernel_rfl) (by subst e_x20 e_x19 e_x17 e_x15 e_x13 e_x11 e_x9; kernel_rfl), ⟨QF_at (i := 9) (d := 26) (x := .lf (.v (.int .i64 x11))) (show OpAt _ _ _ 9 26 (.lf (.v (.int .i64 x11))) from by rw [e_x11]; exact At_ldR1 (d := 26) (q := (x9).toNat) (j := 0) (by subst e_x20 e_x19 e_x17 e_x15 e_x13 e_x11 e_x9; kernel_rfl) rfl (toNat_lt g10) hu0_0) (by kernel_rfl) (by subst e_x20 e_x19 e_x17 e_x15 e_x13 e_x11 e_x9; kernel_rfl), ⟨QF_at (i := 12) (d := 29) (x := .lf (.ep (.slice Au0_0 (List.length u0_0) cu0_0) 11 0 0)) (show OpAt _ _ _ 12 29 (.lf (.ep (.slice Au0_0 (List.length u0_0) cu0_0) 11 0 0)) from by exact At_idxR (d := 29) (z := (0 : Int)) (by subst e_x20 e_x19 e_x17 e_x15 e_x13 e_x11 e_x9; kernel_rfl) g12 hu0_0) (by kernel_rfl) (by subst e_x20 e_x19 e_x17 e_x15 e_x13 e_x11 e_x9; kernel_rfl), ⟨QF_at (i := 14) (d := 31) (x := .lf (.v (.int .i64 x13))) (show OpAt _ _ _ 14 31 (.lf (.v (.int .i64 x13))) from by rw [e_x13]; exact At_ldR1 (d := 31) (q := 0) (j := 0) (by subst e_x20 e_x19 e_x17 e_x15 e_x13 e_x11 e_x9; kernel_rfl) rfl (toNat_lt g12) hu0_0) (by kernel_rfl) (by subst e_x20 e_x19 e_x17 e_x15 e_x13 e_x11 e_x9; kernel_rfl), ⟨QF_at (i := 15) (d := 32) (x := .lf (.v (.bool true))) (show OpAt _ _ _ 15 32 (.lf (.v (.bool true))) from by exact At_bin (d := 32) (b := .gtr) (u := .int .i64 x11) (v := .int .i64 x13) (w' := .bool true) (by subst e_x20 e_x19 e_x17 e_x15 e_x13 e_x11 e_x9; kernel_rfl) (by rw [show exBin .gtr (.int .i64 x11) (.int .i64 x13) = some (.bool (decide (x11 > x13))) from by kernel_rfl, ← e_b14])) (by kernel_rfl) (by subst e_x20 e_x19 e_x17 e_x15 e_x13 e_x11 e_x9; kernel_rfl), ⟨QF_at (i := 22) (d := 39) (x := .lf (.ep (.slice Au0_0 (List.length u0_0) cu0_0) 11 ((x15).toNat) 0)) (show OpAt _ _ _ 22 39 (.lf (.ep (.slice Au0_0 (List.length u0_0) cu0_0) 11 ((x15).toNat) 0)) from by exact At_idxR (d := 39) (z := x15) (by subst e_x20 e_x19 e_x17 e_x15 e_x13 e_x11 e_x9; kernel_rfl) g16 hu0_0) (by kernel_rfl) (by subst e_x20 e_x19 e_x17 e_x15 e_x13 e_x11 e_x9; kernel_rfl), ⟨QF_at (i := 24) (d := 41) (x := .lf (.v (.int .i64 x17))) (show OpAt _ _ _ 24 41 (.lf (.v (.int .i64 x17))) from by rw [e_x17]; exact At_ldR1 (d := 41) (q := (x15).toNat) (j := 0) (by subst e_x20 e_x19 e_x17 e_x15 e_x13 e_x11 e_x9; kernel_rfl) rfl (toNat_lt g16) hu0_0) (by kernel_rfl) (by subst e_x20 e_x19 e_x17 e_x15 e_x13 e_x11 e_x9; kernel_rfl), ⟨QF_at (i := 27) (d := 44) (x := .lf (.ep (.slice Au0_0 (List.length u0_0) cu0_0) 11 0 0)) (show OpAt _ _ _ 27 44 (.lf (.ep (.slice Au0_0 (List.length u0_0) cu0_0) 11 0 0)) from by exact At_idxR (d := 44) (z := (0 : Int)) (by subst e_x20 e_x19 e_x17 e_x15 e_x13 e_x11 e_x9; kernel_rfl) g18 hu0_0) (by kernel_rfl) (by subst e_x20 e_x19 e_x17 e_x15 e_x13 e_x11 e_x9; kernel_rfl), ⟨QF_at (i := 29) (d := 46) (x := .lf (.v (.int .i64 x19))) (show OpAt _ _ _ 29 46 (.lf (.v (.int .i64 x19))) from by rw [e_x19]; exact At_ldR1 (d := 46) (q := 0) (j := 0) (by subst e_x20 e_x19 e_x17 e_x15 e_x13 e_x11 e_x9; kernel_rfl) rfl (toNat_lt g18) hu0_0) (by kernel_rfl) (by subst e_x20 e_x19 e_x17 e_x15 e_x13 e_x11 e_x9; kernel_rfl), ⟨QF_at (i := 31) (d := 48) (x := .lf (.v (.bool false))) (show OpAt _ _ _ 31 48 (.lf (.v (.bool false))) from by exact At_bin (d := 48) (b := .gtr) (u := .int .i64 x20) (v := .int .i64 (120 : Int)) (w' := .bool false) (by subst e_x20 e_x19 e_x17 e_x15 e_x13 e_x11 e_x9; kernel_rfl) (by rw [show exBin .gtr (.int .i64 x20) (.int .i64 (120 : Int)) = some (.bool (decide (x20 > (120 : Int)))) from by kernel_rfl, ← e_b21])) (by kernel_rfl) (by subst e_x20 e_x19 e_x17 e_x15 e_x13 e_x11 e_x9; kernel_rfl), trivial⟩⟩⟩⟩⟩⟩⟩⟩⟩⟩⟩) ?_
              refine thenQ_n ?_
              exact ⟨false, keep_sub (ts := [2]) (hs := []) (vs := []) (by subst e_x20 e_x19 e_x17 e_x15 e_x13 e_x11 e_x9; kernel_rfl), h⟩
          | false =>
            replace h := sp_f h
            refine T_draw' (id := 4) [] [0, 0, 0, 0, 0, 0, 0, 0, 0, 0, 0, 0, 0, 0, 0, 0, 0, 0, 0, 0, 0, 0, 0, 0, 0, 0, 0, 0, 0, 0, 0, 0, 0, 0, 0, 0, 0, 0, 0, 0, 0, 0, 0, 0, 0, 0, 0, 0, 0, 0] (by kernel_rfl) (by kernel_rfl) (by kernel_rfl) (by kernel_rfl) ((17, .lf (.v (.int .i64 (List.length u0_0 : Int)))) :: (18, .lf (.v (.bool true))) :: (19, .lf (.v (.bool true))) :: (20, .lf (.own 1 0)) :: (21, .lf (.v (.slice Au0_0 (List.length u0_0) cu0_0))) :: (22, .lf (.v (.int .i64 (List.length u0_0 : Int)))) :: (23, .lf (.v (.int .i64 x9))) :: (24, .lf (.ep (.slice Au0_0 (List.length u0_0) cu0_0) 11 ((x9).toNat) 0)) :: (25, .lf (.ep (.slice Au0_0 (List.length u0_0) cu0_0) 11 ((x9).toNat) 0)) :: (26, .lf (.v (.int .i64 x11))) :: (27, .lf (.own 1 0)) :: (28, .lf (.v (.slice Au0_0 (List.length u0_0) cu0_0))) :: (29, .lf (.ep (.slice Au0_0 (List.length u0_0) cu0_0) 11 0 0)) :: (30, .lf (.ep (.slice Au0_0 (List.length u0_0) cu0_0) 11 0 0)) :: (31, .lf (.v (.int .i64 x13))) :: (32, .lf (.v (.bool false))) :: (33, .lf (.v (.bool false))) :: (34, .lf (.v (.bool false))) :: (35, .tup []) :: (36, .tup []) :: (37, .tup []) :: (38, .tup []) :: (39, .tup []) :: (40, .tup []) :: (41, .tup []) :: (42, .tup []) :: (43, .tup []) :: (44, .tup []) :: (45, .tup []) :: (46, .tup []) :: (47, .tup []) :: (48, .tup []) :: (49, .lf (.v (.bool false))) :: (50, .lf (.v (.bool false))) :: (51, .tup []) :: (52, .tup []) :: (53, .tup []) :: (54, .tup []) :: (55, .tup []) :: (56, .tup []) :: (57, .tup []) :: (58, .tup []) :: (59, .tup []) :: (60, .tup []) :: (61, .tup []) :: (62, .tup []) :: (63, .tup []) :: (64, .tup []) :: (65, .lf (.v (.bool false))) :: (2, .lf (.v (.bool false))) :: []) (by kernel_rfl) ⟨trivial, ⟨trivial, ⟨trivial, ⟨trivial, ⟨trivial, ⟨trivial, ⟨trivial, ⟨trivial, ⟨trivial, ⟨trivial, ⟨trivial, ⟨trivial, ⟨trivial, ⟨trivial, ⟨trivial, ⟨trivial, ⟨trivial, ⟨trivial, ⟨(by intro y hy; cases hy), ⟨(by intro y hy; cases hy), ⟨(by intro y hy; cases hy), ⟨(by intro y hy; cases hy), ⟨(by intro y hy; cases hy), ⟨(by intro y hy; cases hy), ⟨(by intro y hy; cases hy), ⟨(by intro y hy; cases hy), ⟨(by intro y hy; cases hy), ⟨(by intro y hy; cases hy), ⟨(by intro y hy; cases hy), ⟨(by intro y hy; cases hy), ⟨(by intro y hy; cases hy), ⟨(by intro y hy; cases hy), ⟨trivial, ⟨trivial, ⟨(by intro y hy; cases hy), ⟨(by intro y hy; cases hy), ⟨(by intro y hy; cases hy), ⟨(by intro y hy; cases hy), ⟨(by intro y hy; cases hy), ⟨(by intro y hy; cases hy), ⟨(by intro y hy; cases hy), ⟨(by intro y hy; cases hy), ⟨(by intro y hy; cases hy), ⟨(by intro y hy; cases hy), ⟨(by intro y hy; cases hy), ⟨(by intro y hy; cases hy), ⟨(by intro y hy; cases hy), ⟨(by intro y hy; cases hy), ⟨trivial, ⟨trivial, trivial⟩⟩⟩⟩⟩⟩⟩⟩⟩⟩⟩⟩⟩⟩⟩⟩⟩⟩⟩⟩⟩⟩⟩⟩⟩⟩⟩⟩⟩⟩⟩⟩⟩⟩⟩⟩⟩⟩⟩⟩⟩⟩⟩⟩⟩⟩⟩⟩⟩⟩ ?_
            refine Stage_nil (stage_all' [0, 2, 3, 4, 5, 6, 8, 10, 11, 13, 16, 17, 18, 19, 20, 21, 22, 23, 24, 25, 26, 27, 28, 29, 30, 31, 32, 33, 34, 35, 36, 37, 38, 39, 40, 41, 42, 43, 44, 45, 46, 47, 48, 49] [1, 7, 9, 12, 14, 15] (by kernel_rfl) (by subst e_x13 e_x11 e_x9; kernel_rfl) (by kernel_rfl) ⟨QF_at (i := 1) (d := 18) (x := .lf (.v (.bool true))) (show OpAt _ _ _ 1 18 (.lf (.v (.bool true))) from by exact At_bin (d := 18) (b := .gtr) (u := .int .i64 (List.length u0_0 : Int)) (v := .int .i64 (1 : Int)) (w' := .bool true) (by subst e_x13 e_x11 e_x9; kernel_rfl) (by rw [show exBin .gtr (.int .i64 (List.length u0_0 : Int)) (.int .i64 (1 : Int)) = some (.bool (decide ((List.length u0_0 : Int) > (1 : Int)))) from by kernel_rfl, ← e_b8])) (by kernel_rfl) (by subst e_x13 e_x11 e_x9; kernel_rfl), ⟨QF_at (i := 7) (d := 24) (x := .lf (.ep (.slice Au0_0 (List.length u0_0) cu0_0) 11 ((x9).toNat) 0)) (show OpAt _ _ _ 7 24 (.lf (.ep (.slice Au0_0 (List.length u0_0) cu0_0) 11 ((x9).toNat) 0)) from by exact At_idxR (d := 24) (z := x9) (by subst e_x13 e_x11 e_x9; kernel_rfl) g10 hu0_0) (by kernel_rfl) (by subst e_x13 e_x11 e_x9; kernel_rfl), ⟨QF_at (i := 9) (d := 26) (x := .lf (.v (.int .i64 x11))) (show OpAt _ _ _ 9 26 (.lf (.v (.int .i64 x11))) from by rw [e_x11]; exact At_ldR1 (d := 26) (q := (x9).toNat) (j := 0) (by subst e_x13 e_x11 e_x9; kernel_rfl) rfl (toNat_lt g10) hu0_0) (by kernel_rfl) (by subst e_x13 e_x11 e_x9; kernel_rfl), ⟨QF_at (i := 12) (d := 29) (x := .lf (.ep (.slice Au0_0 (List.length u0_0) cu0_0) 11 0 0)) (show OpAt _ _ _ 12 29 (.lf (.ep (.slice Au0_0 (List.length u0_0) cu0_0) 11 0 0)) from by exact At_idxR (d := 29) (z := (0 : Int)) (by subst e_x13 e_x11 e_x9; kernel_rfl) g12 hu0_0) (by kernel_rfl) (by subst e_x13 e_x11 e_x9; kernel_rfl), ⟨QF_at (i := 14) (d := 31) (x := .lf (.v (.int .i64 x13))) (show OpAt _ _ _ 14 31 (.lf (.v (.int .i64 x13))) from by rw [e_x13]; exact At_ldR1 (d := 31) (q := 0) (j := 0) (by subst e_x13 e_x11 e_x9; kernel_rfl) rfl (toNat_lt g12) hu0_0) (by kernel_rfl) (by subst e_x13 e_x11 e_x9; kernel_rfl), ⟨QF_at (i := 15) (d := 32) (x := .lf (.v (.bool false))) (show OpAt _ _ _ 15 32 (.lf (.v (.bool false))) from by exact At_bin (d := 32) (b := .gtr) (u := .int .i64 x11) (v := .int .i64 x13) (w' := .bool false) (by subst e_x13 e_x11 e_x9; kernel_rfl) (by rw [show exBin .gtr (.int .i64 x11) (.int .i64 x13) = some (.bool (decide (x11 > x13))) from by kernel_rfl, ← e_b14])) (by kernel_rfl) (by subst e_x13 e_x11 e_x9; kernel_rfl), trivial⟩⟩⟩⟩⟩⟩) ?_
            refine thenQ_n ?_
            exact ⟨false, keep_sub (ts := [2]) (hs := []) (vs := []) (by subst e_x13 e_x11 e_x9; kernel_rfl), h⟩
        | false =>
          replace h := sp_f h
          refine T_draw' (id := 4) [] [0, 0, 0, 0, 0, 0, 0, 0, 0, 0, 0, 0, 0, 0, 0, 0, 0, 0, 0, 0, 0, 0, 0, 0, 0, 0, 0, 0, 0, 0, 0, 0, 0, 0, 0, 0, 0, 0, 0, 0, 0, 0, 0, 0, 0, 0, 0, 0, 0, 0] (by kernel_rfl) (by kernel_rfl) (by kernel_rfl) (by kernel_rfl) ((17, .lf (.v (.int .i64 (List.length u0_0 : Int)))) :: (18, .lf (.v (.bool false))) :: (19, .lf (.v (.bool false))) :: (20, .tup []) :: (21, .tup []) :: (22, .tup []) :: (23, .tup []) :: (24, .tup []) :: (25, .tup []) :: (26, .tup []) :: (27, .tup []) :: (28, .tup []) :: (29, .tup []) :: (30, .tup []) :: (31, .tup []) :: (32, .tup []) :: (33, .lf (.v (.bool false))) :: (34, .lf (.v (.bool false))) :: (35, .tup []) :: (36, .tup []) :: (37, .tup []) :: (38, .tup []) :: (39, .tup []) :: (40, .tup []) :: (41, .tup []) :: (42, .tup []) :: (43, .tup []) :: (44, .tup []) :: (45, .tup []) :: (46, .tup []) :: (47, .tup []) :: (48, .tup []) :: (49, .lf (.v (.bool false))) :: (50, .lf (.v (.bool false))) :: (51, .tup []) :: (52, .tup []) :: (53, .tup []) :: (54, .tup []) :: (55, .tup []) :: (56, .tup []) :: (57, .tup []) :: (58, .tup []) :: (59, .tup []) :: (60, .tup []) :: (61, .tup []) :: (62, .tup []) :: (63, .tup []) :: (64, .tup []) :: (65, .lf (.v (.bool false))) :: (2, .lf (.v (.bool false))) :: []) (by kernel_rfl) ⟨trivial, ⟨trivial, ⟨trivial, ⟨(by intro y hy; cases hy), ⟨(by intro y hy; cases hy), ⟨(by intro y hy; cases hy), ⟨(by intro y hy; cases hy), ⟨(by intro y hy; cases hy), ⟨(by intro y hy; cases hy), ⟨(by intro y hy; cases hy), ⟨(by intro y hy; cases hy), ⟨(by intro y hy; cases hy), ⟨(by intro y hy; cases hy), ⟨(by intro y hy; cases hy), ⟨(by intro y hy; cases hy), ⟨(by intro y hy; cases hy), ⟨trivial, ⟨trivial, ⟨(by intro y hy; cases hy), ⟨(by intro y hy; cases hy), ⟨(by intro y hy; cases hy), ⟨(by intro y hy; cases hy), ⟨(by intro y hy; cases hy), ⟨(by intro y hy; cases hy), ⟨(by intro y hy; cases hy), ⟨(by intro y hy; cases hy), ⟨(by intro y hy; cases hy), ⟨(by intro y hy; cases hy), ⟨(by intro y hy; cases hy), ⟨(by intro y hy; cases hy), ⟨(by intro y hy; cases hy), ⟨(by intro y hy; cases hy), ⟨trivial, ⟨trivial, ⟨(by intro y hy; cases hy), ⟨(by intro y hy; cases hy), ⟨(by intro y hy; cases hy), ⟨(by intro y hy; cases hy), ⟨(by intro y hy; cases hy), ⟨(by intro y hy; cases hy), ⟨(by intro y hy; cases hy), ⟨(by intro y hy; cases hy), ⟨(by intro y hy; cases hy), ⟨(by intro y hy; cases hy), ⟨(by intro y hy; cases hy), ⟨(by intro y hy; cases hy), ⟨(by intro y hy; cases hy), ⟨(by intro y hy; cases hy), ⟨trivial, ⟨trivial, trivial⟩⟩⟩⟩⟩⟩⟩⟩⟩⟩⟩⟩⟩⟩⟩⟩⟩⟩⟩⟩⟩⟩⟩⟩⟩⟩⟩⟩⟩⟩⟩⟩⟩⟩⟩⟩⟩⟩⟩⟩⟩⟩⟩⟩⟩⟩⟩⟩⟩⟩ ?_
          refine Stage_nil (stage_all' [0, 2, 3, 4, 5, 6, 7, 8, 9, 10, 11, 12, 13, 14, 15, 16, 17, 18, 19, 20, 21, 22, 23, 24, 25, 26, 27, 28, 29, 30, 31, 32, 33, 34, 35, 36, 37, 38, 39, 40, 41, 42, 43, 44, 45, 46, 47, 48, 49] [1] (by kernel_rfl) (by kernel_rfl) (by kernel_rfl) ⟨QF_at (i := 1) (d := 18) (x := .lf (.v (.bool false))) (show OpAt _ _ _ 1 18 (.lf (.v (.bool false))) from by exact At_bin (d := 18) (b := .gtr) (u := .int .i64 (List.length u0_0 : Int)) (v := .int .i64 (1 : Int)) (w' := .bool false) (by kernel_rfl) (by rw [show exBin .gtr (.int .i64 (List.length u0_0 : Int)) (.int .i64 (1 : Int)) = some (.bool (decide ((List.length u0_0 : Int) > (1 : Int)))) from by kernel_rfl, ← e_b8])) (by kernel_rfl) (by kernel_rfl), trivial⟩) ?_
          refine thenQ_n ?_
          exact ⟨false, keep_sub (ts := [2]) (hs := []) (vs := []) (by kernel_rfl), h⟩
      · rintro s' ⟨b6, hsub, h⟩
        subst e_j7
        refine T_sub hsub ?_
        refine T_ret (by kernel_rfl) ?_
        have h := Option.some.inj h
        subst h
        refine fin_ret (.lf (.v (.bool b6))) (by kernel_rfl) (by kernel_rfl) rfl ?_
        rfl
/-- gooseneck goosenecklaw11.valid -/
def p11 (k : Nat) (u0_0 : List (List Int)) (u0_1 : List Int) (u1 : List Int) : Option Bool :=
  jn (fun (b1 : Bool) => some b1) fun j2 => cl (p18 k u0_0 u0_1) fun v3 => sp v3 (j2 false) (cl (p21 k u0_0 u0_1) fun v4 => lt' (v4 == (0 : Int)) fun b5 => sp b5 (cl (p33 k u1) fun v6 => lt' (v6 == (0 : Int)) fun b7 => j2 b7) (j2 false))
theorem hf11 : Try.prog.funcs[11]? = some Try.f11 := by kernel_rfl
theorem w11 (k : Nat) {M : Mem} {Au0_0 : Option Addr} {cu0_0 : Nat} {u0_0 : List (List Int)} {u0_1 : List Int} {u1 : List Int} (hu0_0 : SlR M Au0_0 cu0_0 .i64 11 u0_0) (hu0_1 : u0_1.length = 4) (hu1 : u1.length = 7) {r} (h : p11 k u0_0 u0_1 u1 = some r) :
    Fn Try.prog 11 [rval (.agg [.one (.v (.slice Au0_0 (List.length u0_0) cu0_0)), .arr .i64 4 u0_1]), rval (.agg [.arr .i64 7 u1])] M (fun x _ => x = .lf (.v (.bool r))) := by
  unfold p11 at h
  refine Fn_of (P := Try.prog) (fn := Try.f11) (c := bodyOf Try.f11) [.agg [.one (.v (.slice Au0_0 (List.length u0_0) cu0_0)), .arr .i64 4 u0_1], .agg [.arr .i64 7 u1]] hf11 (by kernel_rfl) (Nat.le_of_ble_eq_true (by kernel_rfl)) (args_ok (by kernel_rfl) ⟨⟨rfl, ⟨hu0_1, trivial⟩⟩, ⟨⟨hu1, trivial⟩, trivial⟩⟩) fun w => ?_
  change T _ _ _ (endQ _ _ _)
  refine T_seq (c1 := (sub [0] (bodyOf Try.f11))) (c2 := (sub [1] (bodyOf Try.f11))) (by kernel_rfl) ?_
  refine T_region (id := 0) (by kernel_rfl) ?_
  refine TI_segK (i := 0) (j := 3) (s' := { σ := [(2, .lf (.own 2 0)), (3, .lf (.own 3 0))], H := [(2, [.one (.v (.slice Au0_0 (List.length u0_0) cu0_0)), .arr .i64 4 u0_1]), (3, [.arr .i64 7 u1])], V := [], M := M, ds := [] }) [2, 3] [2, 3] [] (by kernel_rfl) (by kernel_rfl) ?_
  refine TI_end (by kernel_rfl) ?_
  refine thenQ_n ?_
  obtain ⟨j2, e_j2, h⟩ := jn_some h
  refine T_cut (c1 := (sub [1, 0] (bodyOf Try.f11))) (c2 := (sub [1, 1] (bodyOf Try.f11))) (fun s' => ∃ (b1 : Bool), Sub { σ := [(4, .lf (.v (.bool b1)))], H := [], V := [], M := M, ds := [] } s' ∧ j2 b1 = some r) (by kernel_rfl) ?_ ?_
  · refine T_region (id := 1) (by kernel_rfl) ?_
    refine TI_segK (i := 0) (j := 1) (s' := { σ := [(2, .lf (.own 2 0)), (3, .lf (.own 3 0)), (5, .agg [.one (.v (.slice Au0_0 (List.length u0_0) cu0_0)), .arr .i64 4 u0_1])], H := [(2, [.one (.v (.slice Au0_0 (List.length u0_0) cu0_0)), .arr .i64 4 u0_1]), (3, [.arr .i64 7 u1])], V := [], M := M, ds := [] }) [2, 3, 5] [2, 3] [] (by kernel_rfl) (by kernel_rfl) ?_
    obtain ⟨v3, c_v3, h⟩ := cl_some h
    refine TI_at (i := 1) (d := 6) (x := .lf (.v (.bool v3))) (At_call (d := 6) (f := 18) (args := [rval (.agg [.one (.v (.slice Au0_0 (List.length u0_0) cu0_0)), .arr .i64 4 u0_1])]) (x := .lf (.v (.bool v3))) (by kernel_rfl) (w18 k hu0_0 hu0_1 c_v3)) (by kernel_rfl) trivial ?_
    refine TI_segK (i := 2) (j := 4) (s' := { σ := [(2, .lf (.own 2 0)), (3, .lf (.own 3 0)), (8, .lf (.v (.bool (!v3))))], H := [(2, [.one (.v (.slice Au0_0 (List.length u0_0) cu0_0)), .arr .i64 4 u0_1]), (3, [.arr .i64 7 u1])], V := [], M := M, ds := [] }) [2, 3, 8] [2, 3] [] (by kernel_rfl) (by kernel_rfl) ?_
    cases v3 with
    | true =>
      replace h := sp_t h
      refine TI_segK (i := 4) (j := 14) (s' := { σ := [(4, .lf (.v (.bool false)))], H := [], V := [], M := M, ds := [] }) [4] [] [] (by kernel_rfl) (by kernel_rfl) ?_
      refine TI_end (by kernel_rfl) ?_
      refine thenQ_n ?_
      exact ⟨false, keep_sub (ts := [4]) (hs := []) (vs := []) (by kernel_rfl), h⟩
    | false =>
      replace h := sp_f h
      refine TI_segK (i := 4) (j := 5) (s' := { σ := [(3, .lf (.own 3 0)), (8, .lf (.v (.bool true))), (9, .agg [.one (.v (.slice Au0_0 (List.length u0_0) cu0_0)), .arr .i64 4 u0_1])], H := [(3, [.arr .i64 7 u1])], V := [], M := M, ds := [] }) [3, 8, 9] [3] [] (by kernel_rfl) (by kernel_rfl) ?_
      obtain ⟨v4, c_v4, h⟩ := cl_some h
      refine TI_at (i := 5) (d := 10) (x := .lf (.v (.int .i64 v4))) (At_call (d := 10) (f := 21) (args := [rval (.agg [.one (.v (.slice Au0_0 (List.length u0_0) cu0_0)), .arr .i64 4 u0_1])]) (x := .lf (.v (.int .i64 v4))) (by kernel_rfl) (w21 k hu0_0 hu0_1 c_v4)) (by kernel_rfl) trivial ?_
      obtain ⟨b5, e_b5, h⟩ := lt_some h
      refine TI_segK (i := 6) (j := 9) (s' := { σ := [(3, .lf (.own 3 0)), (13, .lf (.v (.bool b5)))], H := [(3, [.arr .i64 7 u1])], V := [], M := M, ds := [] }) [3, 13] [3] [] (by subst e_b5; kernel_rfl) (by kernel_rfl) ?_
      cases b5 with
      | true =>
        replace h := sp_t h
        refine TI_segK (i := 9) (j := 10) (s' := { σ := [(13, .lf (.v (.bool true))), (14, .agg [.arr .i64 7 u1])], H := [], V := [], M := M, ds := [] }) [13, 14] [] [] (by kernel_rfl) (by kernel_rfl) ?_
        obtain ⟨v6, c_v6, h⟩ := cl_some h
        refine TI_at (i := 10) (d := 15) (x := .lf (.v (.int .i64 v6))) (At_call (d := 15) (f := 33) (args := [rval (.agg [.arr .i64 7 u1])]) (x := .lf (.v (.int .i64 v6))) (by kernel_rfl) (w33 k hu1 c_v6)) (by kernel_rfl) trivial ?_
        obtain ⟨b7, e_b7, h⟩ := lt_some h
        refine TI_segK (i := 11) (j := 14) (s' := { σ := [(4, .lf (.v (.bool b7)))], H := [], V := [], M := M, ds := [] }) [4] [] [] (by subst e_b7; kernel_rfl) (by kernel_rfl) ?_
        refine TI_end (by kernel_rfl) ?_
        refine thenQ_n ?_
        exact ⟨b7, keep_sub (ts := [4]) (hs := []) (vs := []) (by kernel_rfl), h⟩
      | false =>
        replace h := sp_f h
        refine TI_segK (i := 9) (j := 14) (s' := { σ := [(4, .lf (.v (.bool false)))], H := [], V := [], M := M, ds := [] }) [4] [] [] (by kernel_rfl) (by kernel_rfl) ?_
        refine TI_end (by kernel_rfl) ?_
        refine thenQ_n ?_
        exact ⟨false, keep_sub (ts := [4]) (hs := []) (vs := []) (by kernel_rfl), h⟩
  · rintro s' ⟨b1, hsub, h⟩
    subst e_j2
    refine T_sub hsub ?_
    refine T_ret (by kernel_rfl) ?_
    have h := Option.some.inj h
    subst h
    refine fin_ret (.lf (.v (.bool b1))) (by kernel_rfl) (by kernel_rfl) rfl ?_
    rfl
/-- gooseneck claim.open$1 -/
def p69 (k : Nat) (u0 : Int) : Option Bool :=
  cl (p49 k u0 (0 : Int) (1048576 : Int)) fun v1 => some (!v1)
theorem hf69 : Try.prog.funcs[69]? = some Try.f69 := by kernel_rfl
theorem w69 (k : Nat) {M : Mem} {u0 : Int} {r} (h : p69 k u0 = some r) :
    Fn Try.prog 69 [rval (.lf (.v (.int .i64 u0)))] M (fun x _ => x = .lf (.v (.bool r))) := by
  unfold p69 at h
  refine Fn_of (P := Try.prog) (fn := Try.f69) (c := bodyOf Try.f69) [.lf (.v (.int .i64 u0))] hf69 (by kernel_rfl) (Nat.le_of_ble_eq_true (by kernel_rfl)) (args_ok (by kernel_rfl) ⟨trivial, trivial⟩) fun w => ?_
  change T _ _ _ (endQ _ _ _)
  refine T_seq (c1 := (sub [0] (bodyOf Try.f69))) (c2 := (sub [1] (bodyOf Try.f69))) (by kernel_rfl) ?_
  refine T_region (id := 0) (by kernel_rfl) ?_
  refine TI_segK (i := 0) (j := 1) (s' := { σ := [(0, .lf (.v (.int .i64 u0)))], H := [], V := [], M := M, ds := [] }) [0] [] [] (by kernel_rfl) (by kernel_rfl) ?_
  refine TI_end (by kernel_rfl) ?_
  refine thenQ_n ?_
  refine T_seq (c1 := (sub [1, 0] (bodyOf Try.f69))) (c2 := (sub [1, 1] (bodyOf Try.f69))) (by kernel_rfl) ?_
  refine T_region (id := 1) (by kernel_rfl) ?_
  refine TI_segK (i := 0) (j := 1) (s' := { σ := [(3, .lf (.v (.int .i64 u0)))], H := [], V := [], M := M, ds := [] }) [3] [] [] (by kernel_rfl) (by kernel_rfl) ?_
  obtain ⟨v1, c_v1, h⟩ := cl_some h
  refine TI_at (i := 1) (d := 4) (x := .lf (.v (.bool v1))) (At_call (d := 4) (f := 49) (args := [rval (.lf (.v (.int .i64 u0))), rval (.lf (.v (.int .i64 (0 : Int)))), rval (.lf (.v (.int .i64 (1048576 : Int))))]) (x := .lf (.v (.bool v1))) (by kernel_rfl) (w49 k  c_v1)) (by kernel_rfl) trivial ?_
  refine TI_segK (i := 2) (j := 4) (s' := { σ := [(2, .lf (.v (.bool (!v1))))], H := [], V := [], M := M, ds := [] }) [2] [] [] (by kernel_rfl) (by kernel_rfl) ?_
  refine TI_end (by kernel_rfl) ?_
  refine thenQ_n ?_
  refine T_ret (by kernel_rfl) ?_
  have h := Option.some.inj h
  subst h
  refine fin_ret (.lf (.v (.bool (!v1)))) (by kernel_rfl) (by kernel_rfl) rfl ?_
  rfl
/-- gooseneck claim.open$2 -/
def p71 (k : Nat) (u0 : List Int) : Option Bool :=
  cl (p61 k u0) fun v1 => some (!v1)
theorem hf71 : Try.prog.funcs[71]? = some Try.f71 := by kernel_rfl
theorem w71 (k : Nat) {M : Mem} {u0 : List Int} (hu0 : u0.length = 2) {r} (h : p71 k u0 = some r) :
    Fn Try.prog 71 [rval (.agg [.arr .i64 2 u0])] M (fun x _ => x = .lf (.v (.bool r))) := by
  unfold p71 at h
  refine Fn_of (P := Try.prog) (fn := Try.f71) (c := bodyOf Try.f71) [.agg [.arr .i64 2 u0]] hf71 (by kernel_rfl) (Nat.le_of_ble_eq_true (by kernel_rfl)) (args_ok (by kernel_rfl) ⟨⟨hu0, trivial⟩, trivial⟩) fun w => ?_
  change T _ _ _ (endQ _ _ _)
  refine T_seq (c1 := (sub [0] (bodyOf Try.f71))) (c2 := (sub [1] (bodyOf Try.f71))) (by kernel_rfl) ?_
  refine T_region (id := 0) (by kernel_rfl) ?_
  refine TI_segK (i := 0) (j := 2) (s' := { σ := [(1, .lf (.own 1 0))], H := [(1, [.arr .i64 2 u0])], V := [], M := M, ds := [] }) [1] [1] [] (by kernel_rfl) (by kernel_rfl) ?_
  refine TI_end (by kernel_rfl) ?_
  refine thenQ_n ?_
  refine T_seq (c1 := (sub [1, 0] (bodyOf Try.f71))) (c2 := (sub [1, 1] (bodyOf Try.f71))) (by kernel_rfl) ?_
  refine T_region (id := 1) (by kernel_rfl) ?_
  refine TI_segK (i := 0) (j := 1) (s' := { σ := [(3, .agg [.arr .i64 2 u0])], H := [], V := [], M := M, ds := [] }) [3] [] [] (by kernel_rfl) (by kernel_rfl) ?_
  obtain ⟨v1, c_v1, h⟩ := cl_some h
  refine TI_at (i := 1) (d := 4) (x := .lf (.v (.bool v1))) (At_call (d := 4) (f := 61) (args := [rval (.agg [.arr .i64 2 u0])]) (x := .lf (.v (.bool v1))) (by kernel_rfl) (w61 k hu0 c_v1)) (by kernel_rfl) trivial ?_
  refine TI_segK (i := 2) (j := 4) (s' := { σ := [(2, .lf (.v (.bool (!v1))))], H := [], V := [], M := M, ds := [] }) [2] [] [] (by kernel_rfl) (by kernel_rfl) ?_
  refine TI_end (by kernel_rfl) ?_
  refine thenQ_n ?_
  refine T_ret (by kernel_rfl) ?_
  have h := Option.some.inj h
  subst h
  refine fin_ret (.lf (.v (.bool (!v1)))) (by kernel_rfl) (by kernel_rfl) rfl ?_
  rfl
/-- gooseneck claim.Settle$1 -/
def p48 (k : Nat) (u0 : List Int) : Option Bool :=
  cl (p32 k u0) fun v1 => lt' (v1 != (0 : Int)) fun b2 => some b2
theorem hf48 : Try.prog.funcs[48]? = some Try.f48 := by kernel_rfl
theorem w48 (k : Nat) {M : Mem} {u0 : List Int} (hu0 : u0.length = 7) {r} (h : p48 k u0 = some r) :
    Fn Try.prog 48 [rval (.agg [.arr .i64 7 u0])] M (fun x _ => x = .lf (.v (.bool r))) := by
  unfold p48 at h
  refine Fn_of (P := Try.prog) (fn := Try.f48) (c := bodyOf Try.f48) [.agg [.arr .i64 7 u0]] hf48 (by kernel_rfl) (Nat.le_of_ble_eq_true (by kernel_rfl)) (args_ok (by kernel_rfl) ⟨⟨hu0, trivial⟩, trivial⟩) fun w => ?_
  change T _ _ _ (endQ _ _ _)
  refine T_seq (c1 := (sub [0] (bodyOf Try.f48))) (c2 := (sub [1] (bodyOf Try.f48))) (by kernel_rfl) ?_
  refine T_region (id := 0) (by kernel_rfl) ?_
  refine TI_segK (i := 0) (j := 2) (s' := { σ := [(1, .lf (.own 1 0))], H := [(1, [.arr .i64 7 u0])], V := [], M := M, ds := [] }) [1] [1] [] (by kernel_rfl) (by kernel_rfl) ?_
  refine TI_end (by kernel_rfl) ?_
  refine thenQ_n ?_
  refine T_seq (c1 := (sub [1, 0] (bodyOf Try.f48))) (c2 := (sub [1, 1] (bodyOf Try.f48))) (by kernel_rfl) ?_
  refine T_region (id := 1) (by kernel_rfl) ?_
  refine TI_segK (i := 0) (j := 1) (s' := { σ := [(3, .agg [.arr .i64 7 u0])], H := [], V := [], M := M, ds := [] }) [3] [] [] (by kernel_rfl) (by kernel_rfl) ?_
  obtain ⟨v1, c_v1, h⟩ := cl_some h
  refine TI_at (i := 1) (d := 4) (x := .lf (.v (.int .i64 v1))) (At_call (d := 4) (f := 32) (args := [rval (.agg [.arr .i64 7 u0])]) (x := .lf (.v (.int .i64 v1))) (by kernel_rfl) (w32 k hu0 c_v1)) (by kernel_rfl) trivial ?_
  obtain ⟨b2, e_b2, h⟩ := lt_some h
  refine TI_segK (i := 2) (j := 4) (s' := { σ := [(2, .lf (.v (.bool b2)))], H := [], V := [], M := M, ds := [] }) [2] [] [] (by subst e_b2; kernel_rfl) (by kernel_rfl) ?_
  refine TI_end (by kernel_rfl) ?_
  refine thenQ_n ?_
  refine T_ret (by kernel_rfl) ?_
  have h := Option.some.inj h
  subst h
  refine fin_ret (.lf (.v (.bool b2))) (by kernel_rfl) (by kernel_rfl) rfl ?_
  rfl
end Go.Proofs.Ythjkejbgknemgaa
namespace Go.Proofs.Ythjkejbgknemgaa
open Go.RowKit
def p83_l1 (k : Nat) (j6 : List Int → Option (List Int)) (P4 : List (List Int)) : Nat → Int → List Int → Option (List Int)
  | 0, _, _ => none
  | n9 + 1, x7, L8 => lt' (decide (x7 < (List.length P4 : Int))) fun b10 => sp b10 (gd ((0 : Int) ≤ x7 ∧ x7 < (List.length P4 : Int)) <| lt' (List.getD P4 ((x7).toNat) []) fun L12 => lt' (List.getD L8 0 0) fun x13 => lt' (List.getD L12 0 0) fun x14 => lt' (mx x13 x14) fun x15 => lt' (List.getD L8 1 0) fun x16 => lt' (List.getD L12 1 0) fun x17 => lt' (mn x16 x17) fun x18 => lt' (List.set L8 0 x15) fun L19 => lt' (List.set L19 1 x18) fun L20 => lt' (wr .i64 (x7 + (1 : Int))) fun x21 => p83_l1 k j6 P4 n9 x21 L20) (j6 L8)
/-- gooseneck claim.meet -/
def p83 (k : Nat) (u0 : List (List Int)) : Option (List Int) :=
  gd ((0 : Int) ≤ (0 : Int) ∧ (0 : Int) < (List.length u0 : Int)) <| lt' (List.getD u0 0 []) fun L2 => gd ((0 : Int) ≤ (1 : Int) ∧ (0 : Int) ≤ (0 : Int) ∧ ((1 : Int)).toNat ≤ List.length u0 ∧ List.length u0 ≤ List.length u0) <| lt' (part u0 (((1 : Int)).toNat) (List.length u0)) fun P4 => jn (fun (L5 : List Int) => some L5) fun j6 => p83_l1 k j6 P4 k (0 : Int) L2
theorem hf83 : Try.prog.funcs[83]? = some Try.f83 := by kernel_rfl
theorem w83 (k : Nat) {M : Mem} {Au0 : Option Addr} {cu0 : Nat} {u0 : List (List Int)} (hu0 : SlR M Au0 cu0 .i64 2 u0) {r} (h : p83 k u0 = some r) :
    Fn Try.prog 83 [rval (.lf (.v (.slice Au0 (List.length u0) cu0)))] M (fun x _ => x = .agg [.arr .i64 2 r]) := by
  unfold p83 at h
  refine Fn_of (P := Try.prog) (fn := Try.f83) (c := bodyOf Try.f83) [.lf (.v (.slice Au0 (List.length u0) cu0))] hf83 (by kernel_rfl) (Nat.le_of_ble_eq_true (by kernel_rfl)) (args_ok (by kernel_rfl) ⟨trivial, trivial⟩) fun w => ?_
  change T _ _ _ (endQ _ _ _)
  refine T_seq (c1 := (sub [0] (bodyOf Try.f83))) (c2 := (sub [1] (bodyOf Try.f83))) (by kernel_rfl) ?_
  refine T_region (id := 0) (by kernel_rfl) ?_
  refine TI_segK (i := 0) (j := 1) (s' := { σ := [(0, .lf (.v (.slice Au0 (List.length u0) cu0))), (2, .lf (.own 2 0))], H := [(2, [.arr .i64 2 [(0 : Int), (0 : Int)]])], V := [], M := M, ds := [] }) [0, 2] [2] [] (by kernel_rfl) (by kernel_rfl) ?_
  refine TI_end (by kernel_rfl) ?_
  refine thenQ_n ?_
  refine T_seq (c1 := (sub [1, 0] (bodyOf Try.f83))) (c2 := (sub [1, 1] (bodyOf Try.f83))) (by kernel_rfl) ?_
  refine T_region (id := 1) (by kernel_rfl) ?_
  refine TI_segK (i := 0) (j := 1) (s' := { σ := [(0, .lf (.v (.slice Au0 (List.length u0) cu0))), (2, .lf (.own 2 0)), (6, .lf (.v (.slice Au0 (List.length u0) cu0)))], H := [(2, [.arr .i64 2 [(0 : Int), (0 : Int)]])], V := [], M := M, ds := [] }) [0, 2, 6] [2] [] (by kernel_rfl) (by kernel_rfl) ?_
  obtain ⟨g1, h⟩ := gd_some h
  refine TI_at (i := 1) (d := 7) (x := .lf (.ep (.slice Au0 (List.length u0) cu0) 2 0 0)) (by exact At_idxR (d := 7) (z := (0 : Int)) (by kernel_rfl) g1 hu0) (by kernel_rfl) trivial ?_
  obtain ⟨L2, e_L2, h⟩ := lt_some h
  have l_L2 : (L2).length = 2 := by rw [e_L2]; exact SlR_row hu0 (toNat_lt g1)
  refine TI_at (i := 2) (d := 8) (x := .agg [.arr .i64 2 L2]) (by rw [e_L2]; exact At_ldRow (d := 8) (q := 0) (by subst e_L2; kernel_rfl) (toNat_lt g1) hu0) (by kernel_rfl) ⟨l_L2, trivial⟩ ?_
  refine TI_segK (i := 3) (j := 5) (s' := { σ := [(0, .lf (.v (.slice Au0 (List.length u0) cu0))), (2, .lf (.own 2 0)), (3, .lf (.own 3 0))], H := [(2, [.arr .i64 2 [(0 : Int), (0 : Int)]]), (3, [.arr .i64 2 L2])], V := [], M := M, ds := [] }) [0, 2, 3] [2, 3] [] (by kernel_rfl) (by kernel_rfl) ?_
  refine TI_end (by kernel_rfl) ?_
  refine thenQ_n ?_
  refine T_seq (c1 := (sub [1, 1, 0] (bodyOf Try.f83))) (c2 := (sub [1, 1, 1] (bodyOf Try.f83))) (by kernel_rfl) ?_
  refine T_seq (c1 := (sub [1, 1, 0, 0] (bodyOf Try.f83))) (c2 := (sub [1, 1, 0, 1] (bodyOf Try.f83))) (by kernel_rfl) ?_
  refine T_region (id := 2) (by kernel_rfl) ?_
  refine TI_segK (i := 0) (j := 1) (s' := { σ := [(2, .lf (.own 2 0)), (3, .lf (.own 3 0)), (9, .lf (.v (.slice Au0 (List.length u0) cu0)))], H := [(2, [.arr .i64 2 [(0 : Int), (0 : Int)]]), (3, [.arr .i64 2 L2])], V := [], M := M, ds := [] }) [2, 3, 9] [2, 3] [] (by kernel_rfl) (by kernel_rfl) ?_
  obtain ⟨g3, h⟩ := gd_some h
  obtain ⟨P4, e_P4, h⟩ := lt_some h
  refine TI_at (i := 1) (d := 10) (x := .lf (.v (.slice (cutA Au0 cu0 (((1 : Int)).toNat) 2) (List.length P4) (cu0 - ((1 : Int)).toNat)))) (by exact At_slR (d := 10) (a := (some (1 : Int))) (b := none) (P := P4) (by subst e_P4; kernel_rfl) hu0 (some_nn g3.1) none_nn g3.2.2.1 g3.2.2.2 e_P4) (by kernel_rfl) trivial ?_
  refine TI_segK (i := 2) (j := 4) (s' := { σ := [(2, .lf (.own 2 0)), (3, .lf (.own 3 0)), (10, .lf (.v (.slice (cutA Au0 cu0 (((1 : Int)).toNat) 2) (List.length P4) (cu0 - ((1 : Int)).toNat)))), (11, .lf (.v (.int .i64 (List.length P4 : Int)))), (12, .lf (.v (.int .i64 (0 : Int))))], H := [(2, [.arr .i64 2 [(0 : Int), (0 : Int)]]), (3, [.arr .i64 2 L2])], V := [], M := M, ds := [] }) [2, 3, 10, 11, 12] [2, 3] [] (by kernel_rfl) (by kernel_rfl) ?_
  refine TI_end (by kernel_rfl) ?_
  refine thenQ_n ?_
  obtain ⟨j6, e_j6, h⟩ := jn_some h
  refine T_bcut (id := 0) (c1 := (sub [1, 1, 0, 1, 0] (bodyOf Try.f83))) (fun s' => ∃ (L5 : List Int), Sub { σ := [(2, .lf (.own 2 0)), (3, .lf (.own 3 0))], H := [(2, [.arr .i64 2 [(0 : Int), (0 : Int)]]), (3, [.arr .i64 2 L5])], V := [], M := M, ds := [] } s' ∧ (L5).length = 2 ∧ j6 L5 = some r) (by kernel_rfl) ?_ ?_
  · refine T_loop (c1 := (sub [1, 1, 0, 1, 0, 0] (bodyOf Try.f83))) (by kernel_rfl) (fun n9 s' => ∃ (x7 : Int) (L8 : List Int), Sub { σ := [(2, .lf (.own 2 0)), (3, .lf (.own 3 0)), (10, .lf (.v (.slice (cutA Au0 cu0 (((1 : Int)).toNat) 2) (List.length P4) (cu0 - ((1 : Int)).toNat)))), (11, .lf (.v (.int .i64 (List.length P4 : Int)))), (12, .lf (.v (.int .i64 x7)))], H := [(2, [.arr .i64 2 [(0 : Int), (0 : Int)]]), (3, [.arr .i64 2 L8])], V := [], M := M, ds := [] } s' ∧ (L8).length = 2 ∧ p83_l1 k j6 P4 n9 x7 L8 = some r) (k := k) ⟨(0 : Int), L2, keep_sub (ts := [2, 3, 10, 11, 12]) (hs := [2, 3]) (vs := []) (by kernel_rfl), l_L2, h⟩ ?_
    rintro n9 s' ⟨x7, L8, hsub, l_L8, h⟩
    cases n9 with
    | zero => rw [p83_l1] at h; cases h
    | succ n9 =>
      rw [p83_l1] at h
      refine T_sub hsub ?_
      refine T_seq (c1 := (sub [1, 1, 0, 1, 0, 0, 0] (bodyOf Try.f83))) (c2 := (sub [1, 1, 0, 1, 0, 0, 1] (bodyOf Try.f83))) (by kernel_rfl) ?_
      refine T_region (id := 3) (by kernel_rfl) ?_
      obtain ⟨b10, e_b10, h⟩ := lt_some h
      refine TI_segK (i := 0) (j := 1) (s' := { σ := [(2, .lf (.own 2 0)), (3, .lf (.own 3 0)), (10, .lf (.v (.slice (cutA Au0 cu0 (((1 : Int)).toNat) 2) (List.length P4) (cu0 - ((1 : Int)).toNat)))), (11, .lf (.v (.int .i64 (List.length P4 : Int)))), (12, .lf (.v (.int .i64 x7))), (13, .lf (.v (.bool b10)))], H := [(2, [.arr .i64 2 [(0 : Int), (0 : Int)]]), (3, [.arr .i64 2 L8])], V := [], M := M, ds := [] }) [2, 3, 10, 11, 12, 13] [2, 3] [] (by subst e_b10; kernel_rfl) (by kernel_rfl) ?_
      refine TI_end (by kernel_rfl) ?_
      refine thenQ_n ?_
      refine T_seq (c1 := (sub [1, 1, 0, 1, 0, 0, 1, 0] (bodyOf Try.f83))) (c2 := (sub [1, 1, 0, 1, 0, 0, 1, 1] (bodyOf Try.f83))) (by kernel_rfl) ?_
      cases b10 with
      | true =>
        replace h := sp_t h
        refine T_condT (x := (.tmp 13)) (c1 := (sub [1, 1, 0, 1, 0, 0, 1, 0, 0] (bodyOf Try.f83))) (c2 := (sub [1, 1, 0, 1, 0, 0, 1, 0, 1] (bodyOf Try.f83))) (by kernel_rfl) (by kernel_rfl) ?_
        refine T_keep (s' := { σ := [(2, .lf (.own 2 0)), (3, .lf (.own 3 0)), (10, .lf (.v (.slice (cutA Au0 cu0 (((1 : Int)).toNat) 2) (List.length P4) (cu0 - ((1 : Int)).toNat)))), (11, .lf (.v (.int .i64 (List.length P4 : Int)))), (12, .lf (.v (.int .i64 x7)))], H := [(2, [.arr .i64 2 [(0 : Int), (0 : Int)]]), (3, [.arr .i64 2 L8])], V := [], M := M, ds := [] }) [2, 3, 10, 11, 12] [2, 3] [] (by kernel_rfl) ?_
        refine T_skip (by kernel_rfl) ?_
        refine thenQ_n ?_
        refine T_seq (c1 := (sub [1, 1, 0, 1, 0, 0, 1, 1, 0] (bodyOf Try.f83))) (c2 := (sub [1, 1, 0, 1, 0, 0, 1, 1, 1] (bodyOf Try.f83))) (by kernel_rfl) ?_
        refine T_block (id := 1) (c1 := (sub [1, 1, 0, 1, 0, 0, 1, 1, 0, 0] (bodyOf Try.f83))) (by kernel_rfl) ?_
        refine T_seq (c1 := (sub [1, 1, 0, 1, 0, 0, 1, 1, 0, 0, 0] (bodyOf Try.f83))) (c2 := (sub [1, 1, 0, 1, 0, 0, 1, 1, 0, 0, 1] (bodyOf Try.f83))) (by kernel_rfl) ?_
        refine T_region (id := 4) (by kernel_rfl) ?_
        obtain ⟨g11, h⟩ := gd_some h
        refine TI_at (i := 0) (d := 14) (x := .lf (.ep (.slice (cutA Au0 cu0 (((1 : Int)).toNat) 2) (List.length P4) (cu0 - ((1 : Int)).toNat)) 2 ((x7).toNat) 0)) (by exact At_idxR (d := 14) (z := x7) (by kernel_rfl) g11 (SlR.part hu0 e_P4 g3.2.2.1 g3.2.2.2)) (by kernel_rfl) trivial ?_
        obtain ⟨L12, e_L12, h⟩ := lt_some h
        have l_L12 : (L12).length = 2 := by rw [e_L12]; exact SlR_row (SlR.part hu0 e_P4 g3.2.2.1 g3.2.2.2) (toNat_lt g11)
        refine TI_at (i := 1) (d := 15) (x := .agg [.arr .i64 2 L12]) (by rw [e_L12]; exact At_ldRow (d := 15) (q := (x7).toNat) (by subst e_L12; kernel_rfl) (toNat_lt g11) (SlR.part hu0 e_P4 g3.2.2.1 g3.2.2.2)) (by kernel_rfl) ⟨l_L12, trivial⟩ ?_
        refine TI_segK (i := 2) (j := 4) (s' := { σ := [(2, .lf (.own 2 0)), (3, .lf (.own 3 0)), (5, .lf (.own 5 0)), (10, .lf (.v (.slice (cutA Au0 cu0 (((1 : Int)).toNat) 2) (List.length P4) (cu0 - ((1 : Int)).toNat)))), (11, .lf (.v (.int .i64 (List.length P4 : Int)))), (12, .lf (.v (.int .i64 x7)))], H := [(2, [.arr .i64 2 [(0 : Int), (0 : Int)]]), (3, [.arr .i64 2 L8]), (5, [.arr .i64 2 L12])], V := [], M := M, ds := [] }) [2, 3, 5, 10, 11, 12] [2, 3, 5] [] (by kernel_rfl) (by kernel_rfl) ?_
        refine TI_end (by kernel_rfl) ?_
        refine thenQ_n ?_
        obtain ⟨x13, e_x13, h⟩ := lt_some h
        obtain ⟨x14, e_x14, h⟩ := lt_some h
        obtain ⟨x15, e_x15, h⟩ := lt_some h
        obtain ⟨x16, e_x16, h⟩ := lt_some h
        obtain ⟨x17, e_x17, h⟩ := lt_some h
        obtain ⟨x18, e_x18, h⟩ := lt_some h
        obtain ⟨L19, e_L19, h⟩ := lt_some h
        have l_L19 : (L19).length = 2 := by rw [e_L19]; exact (by rw [List.length_set]; exact l_L8)
        obtain ⟨L20, e_L20, h⟩ := lt_some h
        have l_L20 : (L20).length = 2 := by rw [e_L20]; exact (by rw [List.length_set]; exact l_L19)
        refine T_draw' (id := 5) [11, 13] [0, 0, 0, 0, 0, 0, 0, 0, 0, 0, 0, 0, 1, 0] (by kernel_rfl) (by kernel_rfl) (by kernel_rfl) (by kernel_rfl) [(16, .lf (.own 3 0)), (17, .lf (.v (.int .i64 x13))), (18, .lf (.own 5 0)), (19, .lf (.v (.int .i64 x14))), (20, .lf (.v (.int .i64 x15))), (21, .lf (.own 3 1)), (22, .lf (.v (.int .i64 x16))), (23, .lf (.own 5 1)), (24, .lf (.v (.int .i64 x17))), (25, .lf (.v (.int .i64 x18))), (26, .lf (.own 3 0))] (by kernel_rfl) ⟨trivial, ⟨trivial, ⟨trivial, ⟨trivial, ⟨trivial, ⟨trivial, ⟨trivial, ⟨trivial, ⟨trivial, ⟨trivial, ⟨trivial, trivial⟩⟩⟩⟩⟩⟩⟩⟩⟩⟩⟩ ?_
        refine Stage_ex (stage_all' [0, 1, 2, 3, 4, 5, 6, 7, 8, 9, 10] [] (by kernel_rfl) (by subst e_L20 e_L19 e_x18 e_x17 e_x16 e_x15 e_x14 e_x13; kernel_rfl) (by kernel_rfl) trivial) ({ σ := [(16, .lf (.own 3 0)), (17, .lf (.v (.int .i64 x13))), (18, .lf (.own 5 0)), (19, .lf (.v (.int .i64 x14))), (20, .lf (.v (.int .i64 x15))), (21, .lf (.own 3 1)), (22, .lf (.v (.int .i64 x16))), (23, .lf (.own 5 1)), (24, .lf (.v (.int .i64 x17))), (25, .lf (.v (.int .i64 x18))), (26, .lf (.own 3 0)), (2, .lf (.own 2 0)), (3, .lf (.own 3 0)), (5, .lf (.own 5 0)), (10, .lf (.v (.slice (cutA Au0 cu0 (((1 : Int)).toNat) 2) (List.length P4) (cu0 - ((1 : Int)).toNat)))), (11, .lf (.v (.int .i64 (List.length P4 : Int)))), (12, .lf (.v (.int .i64 x7)))], H := [(3, [.arr .i64 2 L19]), (2, [.arr .i64 2 [(0 : Int), (0 : Int)]]), (3, [.arr .i64 2 L8]), (5, [.arr .i64 2 L12])], V := [], M := M, ds := [] }) (by subst e_L20 e_L19 e_x18 e_x17 e_x16 e_x15 e_x14 e_x13; kernel_rfl) [(27, .lf (.own 3 1))] (by kernel_rfl) ⟨trivial, trivial⟩ ?_
        refine Stage_ex (stage_all' [7, 8, 9, 12] [] (by kernel_rfl) (by subst e_L20 e_L19 e_x18 e_x17 e_x16 e_x15 e_x14 e_x13; kernel_rfl) (by kernel_rfl) trivial) ({ σ := [(27, .lf (.own 3 1)), (16, .lf (.own 3 0)), (17, .lf (.v (.int .i64 x13))), (18, .lf (.own 5 0)), (19, .lf (.v (.int .i64 x14))), (20, .lf (.v (.int .i64 x15))), (21, .lf (.own 3 1)), (22, .lf (.v (.int .i64 x16))), (23, .lf (.own 5 1)), (24, .lf (.v (.int .i64 x17))), (25, .lf (.v (.int .i64 x18))), (26, .lf (.own 3 0)), (2, .lf (.own 2 0)), (3, .lf (.own 3 0)), (5, .lf (.own 5 0)), (10, .lf (.v (.slice (cutA Au0 cu0 (((1 : Int)).toNat) 2) (List.length P4) (cu0 - ((1 : Int)).toNat)))), (11, .lf (.v (.int .i64 (List.length P4 : Int)))), (12, .lf (.v (.int .i64 x7)))], H := [(3, [.arr .i64 2 L20]), (3, [.arr .i64 2 L19]), (2, [.arr .i64 2 [(0 : Int), (0 : Int)]]), (3, [.arr .i64 2 L8]), (5, [.arr .i64 2 L12])], V := [], M := M, ds := [] }) (by subst e_L20 e_L19 e_x18 e_x17 e_x16 e_x15 e_x14 e_x13; kernel_rfl) [] (by kernel_rfl) trivial ?_
        refine Stage_nil (stage_all' [] [] (by kernel_rfl) (by subst e_L20 e_L19 e_x18 e_x17 e_x16 e_x15 e_x14 e_x13; kernel_rfl) (by kernel_rfl) trivial) ?_
        refine blockQ_n ?_
        refine thenQ_n ?_
        refine T_keep (s' := { σ := [(2, .lf (.own 2 0)), (3, .lf (.own 3 0)), (10, .lf (.v (.slice (cutA Au0 cu0 (((1 : Int)).toNat) 2) (List.length P4) (cu0 - ((1 : Int)).toNat)))), (11, .lf (.v (.int .i64 (List.length P4 : Int)))), (12, .lf (.v (.int .i64 x7)))], H := [(2, [.arr .i64 2 [(0 : Int), (0 : Int)]]), (3, [.arr .i64 2 L20])], V := [], M := M, ds := [] }) [2, 3, 10, 11, 12] [2, 3] [] (by subst e_L20 e_L19 e_x18 e_x17 e_x16 e_x15 e_x14 e_x13; kernel_rfl) ?_
        refine T_region (id := 6) (by kernel_rfl) ?_
        obtain ⟨x21, e_x21, h⟩ := lt_some h
        refine TI_segK (i := 0) (j := 2) (s' := { σ := [(2, .lf (.own 2 0)), (3, .lf (.own 3 0)), (10, .lf (.v (.slice (cutA Au0 cu0 (((1 : Int)).toNat) 2) (List.length P4) (cu0 - ((1 : Int)).toNat)))), (11, .lf (.v (.int .i64 (List.length P4 : Int)))), (12, .lf (.v (.int .i64 x21)))], H := [(2, [.arr .i64 2 [(0 : Int), (0 : Int)]]), (3, [.arr .i64 2 L20])], V := [], M := M, ds := [] }) [2, 3, 10, 11, 12] [2, 3] [] (by subst e_x21; kernel_rfl) (by kernel_rfl) ?_
        refine TI_end (by kernel_rfl) ?_
        refine thenQ_n ?_
        exact ⟨n9, Nat.lt_succ_self _, x21, L20, keep_sub (ts := [2, 3, 10, 11, 12]) (hs := [2, 3]) (vs := []) (by kernel_rfl), l_L20, h⟩
      | false =>
        replace h := sp_f h
        refine T_condF (x := (.tmp 13)) (c1 := (sub [1, 1, 0, 1, 0, 0, 1, 0, 0] (bodyOf Try.f83))) (c2 := (sub [1, 1, 0, 1, 0, 0, 1, 0, 1] (bodyOf Try.f83))) (by kernel_rfl) (by kernel_rfl) ?_
        refine T_keep (s' := { σ := [(2, .lf (.own 2 0)), (3, .lf (.own 3 0))], H := [(2, [.arr .i64 2 [(0 : Int), (0 : Int)]]), (3, [.arr .i64 2 L8])], V := [], M := M, ds := [] }) [2, 3] [2, 3] [] (by kernel_rfl) ?_
        refine T_exit (id := 0) (by kernel_rfl) ?_
        refine thenQ_x ?_
        refine thenQ_x ?_
        refine blockQ_x ?_
        refine thenQ_n ?_
        exact ⟨L8, keep_sub (ts := [2, 3]) (hs := [2, 3]) (vs := []) (by kernel_rfl), l_L8, h⟩
  · rintro s' ⟨L5, hsub, l_L5, h⟩
    subst e_j6
    refine thenQ_n ?_
    refine T_sub hsub ?_
    refine T_seq (c1 := (sub [1, 1, 1, 0] (bodyOf Try.f83))) (c2 := (sub [1, 1, 1, 1] (bodyOf Try.f83))) (by kernel_rfl) ?_
    refine T_region (id := 7) (by kernel_rfl) ?_
    refine TI_segK (i := 0) (j := 2) (s' := { σ := [(2, .lf (.own 2 0))], H := [(2, [.arr .i64 2 L5])], V := [], M := M, ds := [] }) [2] [2] [] (by kernel_rfl) (by kernel_rfl) ?_
    refine TI_end (by kernel_rfl) ?_
    refine thenQ_n ?_
    refine T_ret (by kernel_rfl) ?_
    have h := Option.some.inj h
    subst h
    refine fin_ret (.agg [.arr .i64 2 L5]) (by kernel_rfl) (by kernel_rfl) rfl ?_
    rfl
/-- gooseneck goosenecklaw11.Example -/
def p40 (k : Nat) : Option (List (List Int) × List Int) :=
  some ([[(100 : Int), (0 : Int), (10 : Int), (5 : Int), (5 : Int), (0 : Int), (0 : Int), (0 : Int), (0 : Int), (0 : Int), (0 : Int)], [(104 : Int), (90 : Int), (100 : Int), (9 : Int), (9 : Int), (0 : Int), (0 : Int), (0 : Int), (0 : Int), (0 : Int), (0 : Int)]], [(2 : Int), (0 : Int), (0 : Int), (0 : Int)])
theorem hf40 : Try.prog.funcs[40]? = some Try.f40 := by kernel_rfl
theorem w40 (k : Nat) {M : Mem} {r} (h : p40 k = some r) :
    Fn Try.prog 40 [] M (fun x M' => ∃ (A1 : Option Addr) (c2 : Nat), x = .agg [.one (.v (.slice A1 (List.length r.1) c2)), .arr .i64 4 r.2] ∧ SlR M' A1 c2 .i64 11 r.1) := by
  unfold p40 at h
  refine Fn_of (P := Try.prog) (fn := Try.f40) (c := bodyOf Try.f40) [] hf40 (by kernel_rfl) (Nat.le_of_ble_eq_true (by kernel_rfl)) (args_ok (by kernel_rfl) trivial) fun w => ?_
  change T _ _ _ (endQ _ _ _)
  refine T_seq (c1 := (sub [0] (bodyOf Try.f40))) (c2 := (sub [1] (bodyOf Try.f40))) (by kernel_rfl) ?_
  refine T_region (id := 0) (by kernel_rfl) ?_
  refine TI_segK (i := 0) (j := 1) (s' := { σ := [(0, .lf (.own 0 0))], H := [(0, [.one (.v (.slice none (List.length ([] : List (List Int))) 0)), .arr .i64 4 [(0 : Int), (0 : Int), (0 : Int), (0 : Int)]])], V := [], M := M, ds := [] }) [0] [0] [] (by kernel_rfl) (by kernel_rfl) ?_
  refine TI_end (by kernel_rfl) ?_
  refine thenQ_n ?_
  refine T_seq (c1 := (sub [1, 0] (bodyOf Try.f40))) (c2 := (sub [1, 1] (bodyOf Try.f40))) (by kernel_rfl) ?_
  refine T_region (id := 1) (by kernel_rfl) ?_
  refine TI_segK (i := 0) (j := 9) (s' := { σ := [(0, .lf (.own 0 0)), (1, .agg [.arr .i64 4 [(2 : Int), (0 : Int), (0 : Int), (0 : Int)]]), (5, .agg [.arr .i64 11 [(100 : Int), (0 : Int), (10 : Int), (5 : Int), (5 : Int), (0 : Int), (0 : Int), (0 : Int), (0 : Int), (0 : Int), (0 : Int)]]), (9, .agg [.arr .i64 11 [(104 : Int), (90 : Int), (100 : Int), (9 : Int), (9 : Int), (0 : Int), (0 : Int), (0 : Int), (0 : Int), (0 : Int), (0 : Int)]])], H := [(0, [.one (.v (.slice none (List.length ([] : List (List Int))) 0)), .arr .i64 4 [(0 : Int), (0 : Int), (0 : Int), (0 : Int)]])], V := [], M := M, ds := [] }) [0, 1, 5, 9] [0] [] (by kernel_rfl) (by kernel_rfl) ?_
  refine TI_of (i := 9) (by kernel_rfl) (TE_litC (d := 10) (e := 43) (sz := 11) (len := 2) (cs := rowsC .i64 ([[(100 : Int), (0 : Int), (10 : Int), (5 : Int), (5 : Int), (0 : Int), (0 : Int), (0 : Int), (0 : Int), (0 : Int), (0 : Int)], [(104 : Int), (90 : Int), (100 : Int), (9 : Int), (9 : Int), (0 : Int), (0 : Int), (0 : Int), (0 : Int), (0 : Int), (0 : Int)]])) (by kernel_rfl) (by kernel_rfl) (by kernel_rfl) ?_)
  refine TI_segK (i := 10) (j := 12) (s' := { σ := [(0, .lf (.own 0 0))], H := [(0, [.one (.vec 10), .arr .i64 4 [(2 : Int), (0 : Int), (0 : Int), (0 : Int)]])], V := [(10, ⟨43, 11, List.length ([[(100 : Int), (0 : Int), (10 : Int), (5 : Int), (5 : Int), (0 : Int), (0 : Int), (0 : Int), (0 : Int), (0 : Int), (0 : Int)], [(104 : Int), (90 : Int), (100 : Int), (9 : Int), (9 : Int), (0 : Int), (0 : Int), (0 : Int), (0 : Int), (0 : Int), (0 : Int)]]), rowsC .i64 ([[(100 : Int), (0 : Int), (10 : Int), (5 : Int), (5 : Int), (0 : Int), (0 : Int), (0 : Int), (0 : Int), (0 : Int), (0 : Int)], [(104 : Int), (90 : Int), (100 : Int), (9 : Int), (9 : Int), (0 : Int), (0 : Int), (0 : Int), (0 : Int), (0 : Int), (0 : Int)]])⟩)], M := M, ds := [] }) [0] [0] [10] (by kernel_rfl) (by kernel_rfl) ?_
  refine TI_end (by kernel_rfl) ?_
  refine thenQ_n ?_
  refine T_turn (turn_pubV 10 (v := ⟨43, 11, List.length ([[(100 : Int), (0 : Int), (10 : Int), (5 : Int), (5 : Int), (0 : Int), (0 : Int), (0 : Int), (0 : Int), (0 : Int), (0 : Int)], [(104 : Int), (90 : Int), (100 : Int), (9 : Int), (9 : Int), (0 : Int), (0 : Int), (0 : Int), (0 : Int), (0 : Int), (0 : Int)]]), rowsC .i64 ([[(100 : Int), (0 : Int), (10 : Int), (5 : Int), (5 : Int), (0 : Int), (0 : Int), (0 : Int), (0 : Int), (0 : Int), (0 : Int)], [(104 : Int), (90 : Int), (100 : Int), (9 : Int), (9 : Int), (0 : Int), (0 : Int), (0 : Int), (0 : Int), (0 : Int), (0 : Int)]])⟩) (by kernel_rfl)) ?_
  rintro _ ⟨A3, c4, M5, rfl, hSA3, hcA3, -, hNA3, hM5⟩
  have fA3 : SlR M5 A3 c4 .i64 11 ([[(100 : Int), (0 : Int), (10 : Int), (5 : Int), (5 : Int), (0 : Int), (0 : Int), (0 : Int), (0 : Int), (0 : Int), (0 : Int)], [(104 : Int), (90 : Int), (100 : Int), (9 : Int), (9 : Int), (0 : Int), (0 : Int), (0 : Int), (0 : Int), (0 : Int), (0 : Int)]]) := ⟨(rows_cons rfl (rows_cons rfl rows_nil)), hSA3, hcA3⟩
  refine T_keep (s' := { σ := [(0, .lf (.own 0 0))], H := [(0, [.one (.v (.slice A3 (List.length ([[(100 : Int), (0 : Int), (10 : Int), (5 : Int), (5 : Int), (0 : Int), (0 : Int), (0 : Int), (0 : Int), (0 : Int), (0 : Int)], [(104 : Int), (90 : Int), (100 : Int), (9 : Int), (9 : Int), (0 : Int), (0 : Int), (0 : Int), (0 : Int), (0 : Int), (0 : Int)]])) c4)), .arr .i64 4 [(2 : Int), (0 : Int), (0 : Int), (0 : Int)]])], V := [], M := M5, ds := [] }) [0] [0] [] (by kernel_rfl) ?_
  refine T_ret (by kernel_rfl) ?_
  have h := Option.some.inj h
  subst h
  refine fin_ret (.agg [.one (.v (.slice A3 (List.length ([[(100 : Int), (0 : Int), (10 : Int), (5 : Int), (5 : Int), (0 : Int), (0 : Int), (0 : Int), (0 : Int), (0 : Int), (0 : Int)], [(104 : Int), (90 : Int), (100 : Int), (9 : Int), (9 : Int), (0 : Int), (0 : Int), (0 : Int), (0 : Int), (0 : Int), (0 : Int)]])) c4)), .arr .i64 4 [(2 : Int), (0 : Int), (0 : Int), (0 : Int)]]) (by kernel_rfl) (by kernel_rfl) rfl ?_
  exact ⟨A3, c4, rfl, fA3⟩
end Go.Proofs.Ythjkejbgknemgaa
namespace Go.Proofs.Ythjkejbgknemgaa
open Go.RowKit
abbrev CT := List (List Int) × List Int × Int × List (List Int) × List (List (List Int))
structure Crs (M : Mem) (b : Nat) (A : Option Addr) (c : Nat) (AP : Option Addr) (cP : Nat) (AV : Nat → Option Addr) (cV : Nat → Nat) (R : List (List Int)) (D : List Int) (st : Int) (P : List (List Int)) (V : List (List (List Int))) : Prop where
  log : memCell M b 0 = some (.slice A (List.length R) c)
  lR : SlR M A c .i64 11 R
  lD : D.length = 4
  dr : ∀ j, j < 4 → memCell M b (1 + j) = some (.int .i64 (D.getD j 0))
  start : memCell M b 5 = some (.int .i64 st)
  plc : memCell M b 6 = some (.slice AP (List.length P) cP)
  lP : SlR M AP cP .i64 2 P
  lV : V.length = 4
  val : ∀ k, k < 4 → memCell M b (7 + k) = some (.slice (AV k) (List.length (V.getD k [])) (cV k)) ∧ SlR M (AV k) (cV k) .i64 2 (V.getD k [])
theorem Crs.le {M M' : Mem} {b A c AP cP AV cV R D st P V} (h : Crs M b A c AP cP AV cV R D st P V) (hM : Mem.le M M') : Crs M' b A c AP cP AV cV R D st P V :=
  ⟨memCell_le hM h.log, h.lR.le hM, h.lD, fun j hj => memCell_le hM (h.dr j hj), memCell_le hM h.start, memCell_le hM h.plc, h.lP.le hM, h.lV, fun k hk => ⟨memCell_le hM (h.val k hk).1, (h.val k hk).2.le hM⟩⟩
def PtrR (M : Mem) (pv : Value) : Option CT → Prop
  | none => pv = .pointer none
  | some t => ∃ b A c AP cP AV cV, pv = .pointer (some ⟨b, 0, none⟩) ∧ Crs M b A c AP cP AV cV t.1 t.2.1 t.2.2.1 t.2.2.2.1 t.2.2.2.2
theorem PtrR.le {M M' : Mem} {pv : Value} : ∀ {o : Option CT}, PtrR M pv o → Mem.le M M' → PtrR M' pv o
  | none, h, _ => h
  | some _, ⟨b, A, c, AP, cP, AV, cV, h1, h2⟩, hM => ⟨b, A, c, AP, cP, AV, cV, h1, h2.le hM⟩
def AVof (A0 A1 A2 A3 : Option Addr) : Nat → Option Addr := fun k => [A0, A1, A2, A3].getD k none
def cVof (c0 c1 c2 c3 : Nat) : Nat → Nat := fun k => [c0, c1, c2, c3].getD k 0
/-- a block that holds a course -/
theorem Crs_mk {M : Mem} {b c cP c0 c1 c2 c3 : Nat} {A AP A0 A1 A2 A3 : Option Addr} {R P V0 V1 V2 V3 : List (List Int)} {D : List Int} {st : Int}
    (hM : M b = some (sgCells (fun _ => 0) (fun _ => .slice none 0 0) [.one (.v (.slice A (List.length R) c)), .arr .i64 4 D, .one (.v (.int .i64 st)), .one (.v (.slice AP (List.length P) cP)), .one (.v (.slice A0 (List.length V0) c0)), .one (.v (.slice A1 (List.length V1) c1)), .one (.v (.slice A2 (List.length V2) c2)), .one (.v (.slice A3 (List.length V3) c3))]).toArray)
    (hD : D.length = 4) (hR : SlR M A c .i64 11 R) (hP : SlR M AP cP .i64 2 P) (h0 : SlR M A0 c0 .i64 2 V0) (h1 : SlR M A1 c1 .i64 2 V1) (h2 : SlR M A2 c2 .i64 2 V2) (h3 : SlR M A3 c3 .i64 2 V3) :
    Crs M b A c AP cP (AVof A0 A1 A2 A3) (cVof c0 c1 c2 c3) R D st P [V0, V1, V2, V3] := by
  obtain ⟨d0, d1, d2, d3, rfl⟩ : ∃ d0 d1 d2 d3, D = [d0, d1, d2, d3] := by
    match D, hD with
    | [d0, d1, d2, d3], _ => exact ⟨d0, d1, d2, d3, rfl⟩
  have g : ∀ {off v}, (sgCells (fun _ => 0) (fun _ => Value.slice none 0 0) [.one (.v (.slice A (List.length R) c)), .arr .i64 4 [d0, d1, d2, d3], .one (.v (.int .i64 st)), .one (.v (.slice AP (List.length P) cP)), .one (.v (.slice A0 (List.length V0) c0)), .one (.v (.slice A1 (List.length V1) c1)), .one (.v (.slice A2 (List.length V2) c2)), .one (.v (.slice A3 (List.length V3) c3))])[off]? = some v → memCell M b off = some v := fun h => cell_block hM h
  refine ⟨g rfl, hR, rfl, ?_, g rfl, g rfl, hP, rfl, ?_⟩
  · intro j hj
    match j, hj with
    | 0, _ => exact g rfl
    | 1, _ => exact g rfl
    | 2, _ => exact g rfl
    | 3, _ => exact g rfl
  · intro k hk
    match k, hk with
    | 0, _ => exact ⟨g rfl, h0⟩
    | 1, _ => exact ⟨g rfl, h1⟩
    | 2, _ => exact ⟨g rfl, h2⟩
    | 3, _ => exact ⟨g rfl, h3⟩
/-- four bands out of a reading -/
def bands4 (L : List Int) : List (List Int) := [List.take 2 (List.drop 3 L), List.take 2 (List.drop 5 L), List.take 2 (List.drop 7 L), List.take 2 (List.drop 9 L)]
theorem bands4_rows {L : List Int} (h : L.length = 11) : ∀ r ∈ bands4 L, r.length = 2 := by
  intro r hr
  simp only [bands4, List.mem_cons, List.mem_nil_iff, or_false] at hr
  rcases hr with rfl | rfl | rfl | rfl <;> (rw [List.length_take, List.length_drop, h]; rfl)
theorem bands4_cells {k : IntKind} {L : List Int} (h : L.length = 11) : ((sgCells (fun _ => 0) (fun _ => Value.slice none 0 0) [.arr k 11 L]).drop 3).take 8 = rowsC k (bands4 L) := by
  match L, h with
  | [a0, a1, a2, a3, a4, a5, a6, a7, a8, a9, a10], _ => rfl
end Go.Proofs.Ythjkejbgknemgaa
namespace Go.Proofs.Ythjkejbgknemgaa
open Go.RowKit
/-- (*gooseneck claim.course).steps -/
def p86 (k : Nat) (u0R : List (List Int)) (u0D : List Int) (u0st : Int) (u0P : List (List Int)) (u0V : List (List (List Int))) : Option Int :=
  lt' (wr .i64 ((List.length u0P : Int) - (1 : Int))) fun x1 => some x1
theorem hf86 : Try.prog.funcs[86]? = some Try.f86 := by kernel_rfl
theorem w86 (k : Nat) {M : Mem} {u0b : Nat} {u0A : Option Addr} {u0c : Nat} {u0AP : Option Addr} {u0cP : Nat} {u0AV : Nat → Option Addr} {u0cV : Nat → Nat} {u0R : List (List Int)} {u0D : List Int} {u0st : Int} {u0P : List (List Int)} {u0V : List (List (List Int))} (hu0 : Crs M u0b u0A u0c u0AP u0cP u0AV u0cV u0R u0D u0st u0P u0V) {r} (h : p86 k u0R u0D u0st u0P u0V = some r) :
    Fn Try.prog 86 [rval (.lf (.v (.pointer (some ⟨u0b, 0, none⟩))))] M (fun x _ => x = .lf (.v (.int .i64 r))) := by
  unfold p86 at h
  refine Fn_of (P := Try.prog) (fn := Try.f86) (c := bodyOf Try.f86) [.lf (.v (.pointer (some ⟨u0b, 0, none⟩)))] hf86 (by kernel_rfl) (Nat.le_of_ble_eq_true (by kernel_rfl)) (args_ok (by kernel_rfl) ⟨trivial, trivial⟩) fun w => ?_
  change T _ _ _ (endQ _ _ _)
  refine T_seq (c1 := (sub [0] (bodyOf Try.f86))) (c2 := (sub [1] (bodyOf Try.f86))) (by kernel_rfl) ?_
  refine T_region (id := 0) (by kernel_rfl) ?_
  refine TI_segK (i := 0) (j := 1) (s' := { σ := [(0, .lf (.v (.pointer (some ⟨u0b, 0, none⟩))))], H := [], V := [], M := M, ds := [] }) [0] [] [] (by kernel_rfl) (by kernel_rfl) ?_
  refine TI_end (by kernel_rfl) ?_
  refine thenQ_n ?_
  refine T_seq (c1 := (sub [1, 0] (bodyOf Try.f86))) (c2 := (sub [1, 1] (bodyOf Try.f86))) (by kernel_rfl) ?_
  refine T_region (id := 1) (by kernel_rfl) ?_
  refine TI_segK (i := 0) (j := 3) (s' := { σ := [(5, .lf (.v (.pointer (some ⟨u0b, 6, none⟩))))], H := [], V := [], M := M, ds := [] }) [5] [] [] (by kernel_rfl) (by kernel_rfl) ?_
  refine TI_at (i := 3) (d := 6) (x := .lf (.v (.slice u0AP (List.length u0P) u0cP))) (by exact At_ldP (d := 6) (b := u0b) (off := 6) (m := 1) (v := (.slice u0AP (List.length u0P) u0cP)) (by kernel_rfl) (hu0).plc) (by kernel_rfl) trivial ?_
  obtain ⟨x1, e_x1, h⟩ := lt_some h
  refine TI_segK (i := 4) (j := 7) (s' := { σ := [(2, .lf (.v (.int .i64 x1)))], H := [], V := [], M := M, ds := [] }) [2] [] [] (by subst e_x1; kernel_rfl) (by kernel_rfl) ?_
  refine TI_end (by kernel_rfl) ?_
  refine thenQ_n ?_
  refine T_ret (by kernel_rfl) ?_
  have h := Option.some.inj h
  subst h
  refine fin_ret (.lf (.v (.int .i64 x1))) (by kernel_rfl) (by kernel_rfl) rfl ?_
  rfl
def p73_l1 (k : Nat) (u0R : List (List Int)) (u1 : Int) (j3 : List Int → Option (List Int)) : Nat → Int → List Int → Option (List Int)
  | 0, _, _ => none
  | n7 + 1, x4, L5 => lt' (decide (x4 < (List.length u0R : Int))) fun b8 => sp b8 (jn (fun (L9 : List Int) => lt' (wr .i64 (x4 + (1 : Int))) fun x33 => p73_l1 k u0R u1 j3 n7 x33 L9) fun j11 => gd ((0 : Int) ≤ x4 ∧ x4 < (List.length u0R : Int)) <| lt' (List.getD u0R ((x4).toNat) []) fun L13 => jn (fun (L14 : List Int) => lt' (List.getD L13 0 0) fun x25 => lt' (decide (x25 ≥ u1)) fun b26 => sp b26 (lt' (List.getD L13 2 0) fun x27 => cl (p83 k ([L14, [(-1073741824 : Int), x27]])) fun v31 => gd ((v31).length = 2) <| j11 v31) (j11 L14)) fun j16 => lt' (List.getD L13 0 0) fun x17 => lt' (decide (x17 ≤ u1)) fun b18 => sp b18 (lt' (List.getD L13 1 0) fun x19 => cl (p83 k ([L5, [x19, (1073741824 : Int)]])) fun v23 => gd ((v23).length = 2) <| j16 v23) (j16 L5)) (j3 L5)
/-- (*gooseneck claim.course).place -/
def p73 (k : Nat) (u0R : List (List Int)) (u0D : List Int) (u0st : Int) (u0P : List (List Int)) (u0V : List (List (List Int))) (u1 : Int) : Option (List Int) :=
  jn (fun (L1 : List Int) => some L1) fun j3 => p73_l1 k u0R u1 j3 k (0 : Int) ([(-1073741824 : Int), (1073741824 : Int)])
theorem hf73 : Try.prog.funcs[73]? = some Try.f73 := by kernel_rfl
theorem w73 (k : Nat) {M : Mem} {u0b : Nat} {u0A : Option Addr} {u0c : Nat} {u0AP : Option Addr} {u0cP : Nat} {u0AV : Nat → Option Addr} {u0cV : Nat → Nat} {u0R : List (List Int)} {u0D : List Int} {u0st : Int} {u0P : List (List Int)} {u0V : List (List (List Int))} {u1 : Int} (hu0 : Crs M u0b u0A u0c u0AP u0cP u0AV u0cV u0R u0D u0st u0P u0V) {r} (h : p73 k u0R u0D u0st u0P u0V u1 = some r) :
    Fn Try.prog 73 [rval (.lf (.v (.pointer (some ⟨u0b, 0, none⟩)))), rval (.lf (.v (.int .i64 u1)))] M (fun x _ => x = .agg [.arr .i64 2 r]) := by
  unfold p73 at h
  refine Fn_of (P := Try.prog) (fn := Try.f73) (c := bodyOf Try.f73) [.lf (.v (.pointer (some ⟨u0b, 0, none⟩))), .lf (.v (.int .i64 u1))] hf73 (by kernel_rfl) (Nat.le_of_ble_eq_true (by kernel_rfl)) (args_ok (by kernel_rfl) ⟨trivial, ⟨trivial, trivial⟩⟩) fun w => ?_
  change T _ _ _ (endQ _ _ _)
  refine T_seq (c1 := (sub [0] (bodyOf Try.f73))) (c2 := (sub [1] (bodyOf Try.f73))) (by kernel_rfl) ?_
  refine T_region (id := 0) (by kernel_rfl) ?_
  refine TI_segK (i := 0) (j := 1) (s' := { σ := [(0, .lf (.v (.pointer (some ⟨u0b, 0, none⟩)))), (1, .lf (.v (.int .i64 u1))), (4, .lf (.own 4 0))], H := [(4, [.arr .i64 2 [(0 : Int), (0 : Int)]])], V := [], M := M, ds := [] }) [0, 1, 4] [4] [] (by kernel_rfl) (by kernel_rfl) ?_
  refine TI_end (by kernel_rfl) ?_
  refine thenQ_n ?_
  refine T_seq (c1 := (sub [1, 0] (bodyOf Try.f73))) (c2 := (sub [1, 1] (bodyOf Try.f73))) (by kernel_rfl) ?_
  refine T_region (id := 1) (by kernel_rfl) ?_
  refine TI_segK (i := 0) (j := 3) (s' := { σ := [(0, .lf (.v (.pointer (some ⟨u0b, 0, none⟩)))), (1, .lf (.v (.int .i64 u1))), (4, .lf (.own 4 0)), (5, .lf (.own 5 0))], H := [(4, [.arr .i64 2 [(0 : Int), (0 : Int)]]), (5, [.arr .i64 2 [(-1073741824 : Int), (1073741824 : Int)]])], V := [], M := M, ds := [] }) [0, 1, 4, 5] [4, 5] [] (by kernel_rfl) (by kernel_rfl) ?_
  refine TI_end (by kernel_rfl) ?_
  refine thenQ_n ?_
  refine T_seq (c1 := (sub [1, 1, 0] (bodyOf Try.f73))) (c2 := (sub [1, 1, 1] (bodyOf Try.f73))) (by kernel_rfl) ?_
  refine T_seq (c1 := (sub [1, 1, 0, 0] (bodyOf Try.f73))) (c2 := (sub [1, 1, 0, 1] (bodyOf Try.f73))) (by kernel_rfl) ?_
  refine T_region (id := 2) (by kernel_rfl) ?_
  refine TI_segK (i := 0) (j := 4) (s' := { σ := [(1, .lf (.v (.int .i64 u1))), (4, .lf (.own 4 0)), (5, .lf (.own 5 0)), (12, .lf (.v (.pointer (some ⟨u0b, 0, none⟩))))], H := [(4, [.arr .i64 2 [(0 : Int), (0 : Int)]]), (5, [.arr .i64 2 [(-1073741824 : Int), (1073741824 : Int)]])], V := [], M := M, ds := [] }) [1, 4, 5, 12] [4, 5] [] (by kernel_rfl) (by kernel_rfl) ?_
  refine TI_at (i := 4) (d := 13) (x := .lf (.v (.slice u0A (List.length u0R) u0c))) (by exact At_ldP (d := 13) (b := u0b) (off := 0) (m := 1) (v := (.slice u0A (List.length u0R) u0c)) (by kernel_rfl) (hu0).log) (by kernel_rfl) trivial ?_
  refine TI_segK (i := 5) (j := 7) (s' := { σ := [(1, .lf (.v (.int .i64 u1))), (4, .lf (.own 4 0)), (5, .lf (.own 5 0)), (13, .lf (.v (.slice u0A (List.length u0R) u0c))), (14, .lf (.v (.int .i64 (List.length u0R : Int)))), (15, .lf (.v (.int .i64 (0 : Int))))], H := [(4, [.arr .i64 2 [(0 : Int), (0 : Int)]]), (5, [.arr .i64 2 [(-1073741824 : Int), (1073741824 : Int)]])], V := [], M := M, ds := [] }) [1, 4, 5, 13, 14, 15] [4, 5] [] (by kernel_rfl) (by kernel_rfl) ?_
  refine TI_end (by kernel_rfl) ?_
  refine thenQ_n ?_
  obtain ⟨j3, e_j3, h⟩ := jn_some h
  refine T_bcut (id := 0) (c1 := (sub [1, 1, 0, 1, 0] (bodyOf Try.f73))) (fun s' => ∃ (L1 : List Int) (M2 : Mem), Sub { σ := [(4, .lf (.own 4 0)), (5, .lf (.own 5 0))], H := [(4, [.arr .i64 2 [(0 : Int), (0 : Int)]]), (5, [.arr .i64 2 L1])], V := [], M := M2, ds := [] } s' ∧ Mem.le M M2 ∧ (L1).length = 2 ∧ j3 L1 = some r) (by kernel_rfl) ?_ ?_
  · refine T_loop (c1 := (sub [1, 1, 0, 1, 0, 0] (bodyOf Try.f73))) (by kernel_rfl) (fun n7 s' => ∃ (x4 : Int) (L5 : List Int) (M6 : Mem), Sub { σ := [(1, .lf (.v (.int .i64 u1))), (4, .lf (.own 4 0)), (5, .lf (.own 5 0)), (13, .lf (.v (.slice u0A (List.length u0R) u0c))), (14, .lf (.v (.int .i64 (List.length u0R : Int)))), (15, .lf (.v (.int .i64 x4)))], H := [(4, [.arr .i64 2 [(0 : Int), (0 : Int)]]), (5, [.arr .i64 2 L5])], V := [], M := M6, ds := [] } s' ∧ Mem.le M M6 ∧ (L5).length = 2 ∧ p73_l1 k u0R u1 j3 n7 x4 L5 = some r) (k := k) ⟨(0 : Int), ([(-1073741824 : Int), (1073741824 : Int)]), M, keep_sub (ts := [1, 4, 5, 13, 14, 15]) (hs := [4, 5]) (vs := []) (by kernel_rfl), (Mem.le_refl _), rfl, h⟩ ?_
    rintro n7 s' ⟨x4, L5, M6, hsub, hM6, l_L5, h⟩
    cases n7 with
    | zero => rw [p73_l1] at h; cases h
    | succ n7 =>
      rw [p73_l1] at h
      refine T_sub hsub ?_
      refine T_seq (c1 := (sub [1, 1, 0, 1, 0, 0, 0] (bodyOf Try.f73))) (c2 := (sub [1, 1, 0, 1, 0, 0, 1] (bodyOf Try.f73))) (by kernel_rfl) ?_
      refine T_region (id := 3) (by kernel_rfl) ?_
      obtain ⟨b8, e_b8, h⟩ := lt_some h
      refine TI_segK (i := 0) (j := 1) (s' := { σ := [(1, .lf (.v (.int .i64 u1))), (4, .lf (.own 4 0)), (5, .lf (.own 5 0)), (13, .lf (.v (.slice u0A (List.length u0R) u0c))), (14, .lf (.v (.int .i64 (List.length u0R : Int)))), (15, .lf (.v (.int .i64 x4))), (16, .lf (.v (.bool b8)))], H := [(4, [.arr .i64 2 [(0 : Int), (0 : Int)]]), (5, [.arr .i64 2 L5])], V := [], M := M6, ds := [] }) [1, 4, 5, 13, 14, 15, 16] [4, 5] [] (by subst e_b8; kernel_rfl) (by kernel_rfl) ?_
      refine TI_end (by kernel_rfl) ?_
      refine thenQ_n ?_
      refine T_seq (c1 := (sub [1, 1, 0, 1, 0, 0, 1, 0] (bodyOf Try.f73))) (c2 := (sub [1, 1, 0, 1, 0, 0, 1, 1] (bodyOf Try.f73))) (by kernel_rfl) ?_
      cases b8 with
      | true =>
        replace h := sp_t h
        refine T_condT (x := (.tmp 16)) (c1 := (sub [1, 1, 0, 1, 0, 0, 1, 0, 0] (bodyOf Try.f73))) (c2 := (sub [1, 1, 0, 1, 0, 0, 1, 0, 1] (bodyOf Try.f73))) (by kernel_rfl) (by kernel_rfl) ?_
        refine T_keep (s' := { σ := [(1, .lf (.v (.int .i64 u1))), (4, .lf (.own 4 0)), (5, .lf (.own 5 0)), (13, .lf (.v (.slice u0A (List.length u0R) u0c))), (14, .lf (.v (.int .i64 (List.length u0R : Int)))), (15, .lf (.v (.int .i64 x4)))], H := [(4, [.arr .i64 2 [(0 : Int), (0 : Int)]]), (5, [.arr .i64 2 L5])], V := [], M := M6, ds := [] }) [1, 4, 5, 13, 14, 15] [4, 5] [] (by kernel_rfl) ?_
        refine T_skip (by kernel_rfl) ?_
        refine thenQ_n ?_
        obtain ⟨j11, e_j11, h⟩ := jn_some h
        refine T_cut (c1 := (sub [1, 1, 0, 1, 0, 0, 1, 1, 0] (bodyOf Try.f73))) (c2 := (sub [1, 1, 0, 1, 0, 0, 1, 1, 1] (bodyOf Try.f73))) (fun s' => ∃ (L9 : List Int) (M10 : Mem), Sub { σ := [(1, .lf (.v (.int .i64 u1))), (4, .lf (.own 4 0)), (5, .lf (.own 5 0)), (13, .lf (.v (.slice u0A (List.length u0R) u0c))), (14, .lf (.v (.int .i64 (List.length u0R : Int)))), (15, .lf (.v (.int .i64 x4)))], H := [(4, [.arr .i64 2 [(0 : Int), (0 : Int)]]), (5, [.arr .i64 2 L9])], V := [], M := M10, ds := [] } s' ∧ Mem.le M6 M10 ∧ (L9).length = 2 ∧ j11 L9 = some r) (by kernel_rfl) ?_ ?_
        · refine T_block (id := 1) (c1 := (sub [1, 1, 0, 1, 0, 0, 1, 1, 0, 0] (bodyOf Try.f73))) (by kernel_rfl) ?_
          refine T_seq (c1 := (sub [1, 1, 0, 1, 0, 0, 1, 1, 0, 0, 0] (bodyOf Try.f73))) (c2 := (sub [1, 1, 0, 1, 0, 0, 1, 1, 0, 0, 1] (bodyOf Try.f73))) (by kernel_rfl) ?_
          refine T_region (id := 4) (by kernel_rfl) ?_
          obtain ⟨g12, h⟩ := gd_some h
          refine TI_at (i := 0) (d := 17) (x := .lf (.ep (.slice u0A (List.length u0R) u0c) 11 ((x4).toNat) 0)) (by exact At_idxR (d := 17) (z := x4) (by kernel_rfl) g12 ((hu0).lR.le hM6)) (by kernel_rfl) trivial ?_
          obtain ⟨L13, e_L13, h⟩ := lt_some h
          have l_L13 : (L13).length = 11 := by rw [e_L13]; exact SlR_row ((hu0).lR.le hM6) (toNat_lt g12)
          refine TI_at (i := 1) (d := 18) (x := .agg [.arr .i64 11 L13]) (by rw [e_L13]; exact At_ldRow (d := 18) (q := (x4).toNat) (by subst e_L13; kernel_rfl) (toNat_lt g12) ((hu0).lR.le hM6)) (by kernel_rfl) ⟨l_L13, trivial⟩ ?_
          refine TI_segK (i := 2) (j := 4) (s' := { σ := [(1, .lf (.v (.int .i64 u1))), (4, .lf (.own 4 0)), (5, .lf (.own 5 0)), (7, .lf (.own 7 0)), (13, .lf (.v (.slice u0A (List.length u0R) u0c))), (14, .lf (.v (.int .i64 (List.length u0R : Int)))), (15, .lf (.v (.int .i64 x4)))], H := [(4, [.arr .i64 2 [(0 : Int), (0 : Int)]]), (5, [.arr .i64 2 L5]), (7, [.arr .i64 11 L13])], V := [], M := M6, ds := [] }) [1, 4, 5, 7, 13, 14, 15] [4, 5, 7] [] (by kernel_rfl) (by kernel_rfl) ?_
          refine TI_end (by kernel_rfl) ?_
          refine thenQ_n ?_
          obtain ⟨j16, e_j16, h⟩ := jn_some h
          refine T_cut (c1 := (sub [1, 1, 0, 1, 0, 0, 1, 1, 0, 0, 1, 0] (bodyOf Try.f73))) (c2 := (sub [1, 1, 0, 1, 0, 0, 1, 1, 0, 0, 1, 1] (bodyOf Try.f73))) (fun s' => ∃ (L14 : List Int) (M15 : Mem), Sub { σ := [(1, .lf (.v (.int .i64 u1))), (4, .lf (.own 4 0)), (5, .lf (.own 5 0)), (7, .lf (.own 7 0)), (13, .lf (.v (.slice u0A (List.length u0R) u0c))), (14, .lf (.v (.int .i64 (List.length u0R : Int)))), (15, .lf (.v (.int .i64 x4)))], H := [(4, [.arr .i64 2 [(0 : Int), (0 : Int)]]), (5, [.arr .i64 2 L14]), (7, [.arr .i64 11 L13])], V := [], M := M15, ds := [] } s' ∧ Mem.le M6 M15 ∧ (L14).length = 2 ∧ j16 L14 = some r) (by kernel_rfl) ?_ ?_
          · refine T_seq (c1 := (sub [1, 1, 0, 1, 0, 0, 1, 1, 0, 0, 1, 0, 0] (bodyOf Try.f73))) (c2 := (sub [1, 1, 0, 1, 0, 0, 1, 1, 0, 0, 1, 0, 1] (bodyOf Try.f73))) (by kernel_rfl) ?_
            refine T_region (id := 5) (by kernel_rfl) ?_
            obtain ⟨x17, e_x17, h⟩ := lt_some h
            obtain ⟨b18, e_b18, h⟩ := lt_some h
            refine TI_segK (i := 0) (j := 4) (s' := { σ := [(1, .lf (.v (.int .i64 u1))), (4, .lf (.own 4 0)), (5, .lf (.own 5 0)), (7, .lf (.own 7 0)), (13, .lf (.v (.slice u0A (List.length u0R) u0c))), (14, .lf (.v (.int .i64 (List.length u0R : Int)))), (15, .lf (.v (.int .i64 x4))), (22, .lf (.v (.bool b18)))], H := [(4, [.arr .i64 2 [(0 : Int), (0 : Int)]]), (5, [.arr .i64 2 L5]), (7, [.arr .i64 11 L13])], V := [], M := M6, ds := [] }) [1, 4, 5, 7, 13, 14, 15, 22] [4, 5, 7] [] (by subst e_b18 e_x17; kernel_rfl) (by kernel_rfl) ?_
            refine TI_end (by kernel_rfl) ?_
            refine thenQ_n ?_
            cases b18 with
            | true =>
              replace h := sp_t h
              refine T_condT (x := (.tmp 22)) (c1 := (sub [1, 1, 0, 1, 0, 0, 1, 1, 0, 0, 1, 0, 1, 0] (bodyOf Try.f73))) (c2 := (sub [1, 1, 0, 1, 0, 0, 1, 1, 0, 0, 1, 0, 1, 1] (bodyOf Try.f73))) (by kernel_rfl) (by kernel_rfl) ?_
              refine T_keep (s' := { σ := [(1, .lf (.v (.int .i64 u1))), (4, .lf (.own 4 0)), (5, .lf (.own 5 0)), (7, .lf (.own 7 0)), (13, .lf (.v (.slice u0A (List.length u0R) u0c))), (14, .lf (.v (.int .i64 (List.length u0R : Int)))), (15, .lf (.v (.int .i64 x4)))], H := [(4, [.arr .i64 2 [(0 : Int), (0 : Int)]]), (5, [.arr .i64 2 L5]), (7, [.arr .i64 11 L13])], V := [], M := M6, ds := [] }) [1, 4, 5, 7, 13, 14, 15] [4, 5, 7] [] (by kernel_rfl) ?_
              refine T_region (id := 6) (by kernel_rfl) ?_
              obtain ⟨x19, e_x19, h⟩ := lt_some h
              refine TI_segK (i := 0) (j := 5) (s' := { σ := [(1, .lf (.v (.int .i64 u1))), (4, .lf (.own 4 0)), (5, .lf (.own 5 0)), (7, .lf (.own 7 0)), (13, .lf (.v (.slice u0A (List.length u0R) u0c))), (14, .lf (.v (.int .i64 (List.length u0R : Int)))), (15, .lf (.v (.int .i64 x4))), (23, .agg [.arr .i64 2 L5]), (27, .agg [.arr .i64 2 [x19, (1073741824 : Int)]])], H := [(4, [.arr .i64 2 [(0 : Int), (0 : Int)]]), (5, [.arr .i64 2 L5]), (7, [.arr .i64 11 L13])], V := [], M := M6, ds := [] }) [1, 4, 5, 7, 13, 14, 15, 23, 27] [4, 5, 7] [] (by subst e_x19; kernel_rfl) (by kernel_rfl) ?_
              refine TI_of (i := 5) (by kernel_rfl) (TE_litC (d := 28) (e := 40) (sz := 2) (len := 2) (cs := rowsC .i64 ([L5, [x19, (1073741824 : Int)]])) (by kernel_rfl) (by kernel_rfl) (by kernel_rfl) ?_)
              refine TI_segK (i := 6) (j := 6) (s' := { σ := [(1, .lf (.v (.int .i64 u1))), (4, .lf (.own 4 0)), (5, .lf (.own 5 0)), (7, .lf (.own 7 0)), (13, .lf (.v (.slice u0A (List.length u0R) u0c))), (14, .lf (.v (.int .i64 (List.length u0R : Int)))), (15, .lf (.v (.int .i64 x4))), (28, .lf (.vec 28))], H := [(4, [.arr .i64 2 [(0 : Int), (0 : Int)]]), (5, [.arr .i64 2 L5]), (7, [.arr .i64 11 L13])], V := [(28, ⟨40, 2, List.length ([L5, [x19, (1073741824 : Int)]]), rowsC .i64 ([L5, [x19, (1073741824 : Int)]])⟩)], M := M6, ds := [] }) [1, 4, 5, 7, 13, 14, 15, 28] [4, 5, 7] [28] (by kernel_rfl) (by kernel_rfl) ?_
              refine TI_turn (turn_pubV 28 (v := ⟨40, 2, List.length ([L5, [x19, (1073741824 : Int)]]), rowsC .i64 ([L5, [x19, (1073741824 : Int)]])⟩) (by kernel_rfl)) ?_
              rintro _ ⟨A20, c21, M22, rfl, hSA20, hcA20, -, hNA20, hM22⟩
              have fA20 : SlR M22 A20 c21 .i64 2 ([L5, [x19, (1073741824 : Int)]]) := ⟨(rows_cons l_L5 (rows_cons rfl rows_nil)), hSA20, hcA20⟩
              obtain ⟨v23, c_v23, h⟩ := cl_some h
              obtain ⟨g24, h⟩ := gd_some h
              refine TI_at (i := 6) (d := 29) (x := .agg [.arr .i64 2 v23]) (At_call (d := 29) (f := 83) (args := [rval (.lf (.v (.slice A20 (List.length ([L5, [x19, (1073741824 : Int)]])) c21)))]) (x := .agg [.arr .i64 2 v23]) (by kernel_rfl) (w83 k fA20 c_v23)) (by kernel_rfl) ⟨g24, trivial⟩ ?_
              refine TI_segK (i := 7) (j := 8) (s' := { σ := [(1, .lf (.v (.int .i64 u1))), (4, .lf (.own 4 0)), (5, .lf (.own 5 0)), (7, .lf (.own 7 0)), (13, .lf (.v (.slice u0A (List.length u0R) u0c))), (14, .lf (.v (.int .i64 (List.length u0R : Int)))), (15, .lf (.v (.int .i64 x4)))], H := [(4, [.arr .i64 2 [(0 : Int), (0 : Int)]]), (5, [.arr .i64 2 v23]), (7, [.arr .i64 11 L13])], V := [], M := M22, ds := [] }) [1, 4, 5, 7, 13, 14, 15] [4, 5, 7] [] (by kernel_rfl) (by kernel_rfl) ?_
              refine TI_end (by kernel_rfl) ?_
              refine thenQ_n ?_
              exact ⟨v23, M22, keep_sub (ts := [1, 4, 5, 7, 13, 14, 15]) (hs := [4, 5, 7]) (vs := []) (by kernel_rfl), (Mem.le_trans (Mem.le_refl _) hM22), g24, h⟩
            | false =>
              replace h := sp_f h
              refine T_condF (x := (.tmp 22)) (c1 := (sub [1, 1, 0, 1, 0, 0, 1, 1, 0, 0, 1, 0, 1, 0] (bodyOf Try.f73))) (c2 := (sub [1, 1, 0, 1, 0, 0, 1, 1, 0, 0, 1, 0, 1, 1] (bodyOf Try.f73))) (by kernel_rfl) (by kernel_rfl) ?_
              refine T_keep (s' := { σ := [(1, .lf (.v (.int .i64 u1))), (4, .lf (.own 4 0)), (5, .lf (.own 5 0)), (7, .lf (.own 7 0)), (13, .lf (.v (.slice u0A (List.length u0R) u0c))), (14, .lf (.v (.int .i64 (List.length u0R : Int)))), (15, .lf (.v (.int .i64 x4)))], H := [(4, [.arr .i64 2 [(0 : Int), (0 : Int)]]), (5, [.arr .i64 2 L5]), (7, [.arr .i64 11 L13])], V := [], M := M6, ds := [] }) [1, 4, 5, 7, 13, 14, 15] [4, 5, 7] [] (by kernel_rfl) ?_
              refine T_skip (by kernel_rfl) ?_
              refine thenQ_n ?_
              exact ⟨L5, M6, keep_sub (ts := [1, 4, 5, 7, 13, 14, 15]) (hs := [4, 5, 7]) (vs := []) (by kernel_rfl), (Mem.le_refl _), l_L5, h⟩
          · rintro s' ⟨L14, M15, hsub, hM15, l_L14, h⟩
            subst e_j16
            refine T_sub hsub ?_
            refine T_seq (c1 := (sub [1, 1, 0, 1, 0, 0, 1, 1, 0, 0, 1, 1, 0] (bodyOf Try.f73))) (c2 := (sub [1, 1, 0, 1, 0, 0, 1, 1, 0, 0, 1, 1, 1] (bodyOf Try.f73))) (by kernel_rfl) ?_
            refine T_region (id := 7) (by kernel_rfl) ?_
            obtain ⟨x25, e_x25, h⟩ := lt_some h
            obtain ⟨b26, e_b26, h⟩ := lt_some h
            refine TI_segK (i := 0) (j := 4) (s' := { σ := [(1, .lf (.v (.int .i64 u1))), (4, .lf (.own 4 0)), (5, .lf (.own 5 0)), (7, .lf (.own 7 0)), (13, .lf (.v (.slice u0A (List.length u0R) u0c))), (14, .lf (.v (.int .i64 (List.length u0R : Int)))), (15, .lf (.v (.int .i64 x4))), (33, .lf (.v (.bool b26)))], H := [(4, [.arr .i64 2 [(0 : Int), (0 : Int)]]), (5, [.arr .i64 2 L14]), (7, [.arr .i64 11 L13])], V := [], M := M15, ds := [] }) [1, 4, 5, 7, 13, 14, 15, 33] [4, 5, 7] [] (by subst e_b26 e_x25; kernel_rfl) (by kernel_rfl) ?_
            refine TI_end (by kernel_rfl) ?_
            refine thenQ_n ?_
            cases b26 with
            | true =>
              replace h := sp_t h
              refine T_condT (x := (.tmp 33)) (c1 := (sub [1, 1, 0, 1, 0, 0, 1, 1, 0, 0, 1, 1, 1, 0] (bodyOf Try.f73))) (c2 := (sub [1, 1, 0, 1, 0, 0, 1, 1, 0, 0, 1, 1, 1, 1] (bodyOf Try.f73))) (by kernel_rfl) (by kernel_rfl) ?_
              refine T_keep (s' := { σ := [(1, .lf (.v (.int .i64 u1))), (4, .lf (.own 4 0)), (5, .lf (.own 5 0)), (7, .lf (.own 7 0)), (13, .lf (.v (.slice u0A (List.length u0R) u0c))), (14, .lf (.v (.int .i64 (List.length u0R : Int)))), (15, .lf (.v (.int .i64 x4)))], H := [(4, [.arr .i64 2 [(0 : Int), (0 : Int)]]), (5, [.arr .i64 2 L14]), (7, [.arr .i64 11 L13])], V := [], M := M15, ds := [] }) [1, 4, 5, 7, 13, 14, 15] [4, 5, 7] [] (by kernel_rfl) ?_
              refine T_region (id := 8) (by kernel_rfl) ?_
              obtain ⟨x27, e_x27, h⟩ := lt_some h
              refine TI_segK (i := 0) (j := 5) (s' := { σ := [(1, .lf (.v (.int .i64 u1))), (4, .lf (.own 4 0)), (5, .lf (.own 5 0)), (13, .lf (.v (.slice u0A (List.length u0R) u0c))), (14, .lf (.v (.int .i64 (List.length u0R : Int)))), (15, .lf (.v (.int .i64 x4))), (34, .agg [.arr .i64 2 L14]), (38, .agg [.arr .i64 2 [(-1073741824 : Int), x27]])], H := [(4, [.arr .i64 2 [(0 : Int), (0 : Int)]]), (5, [.arr .i64 2 L14])], V := [], M := M15, ds := [] }) [1, 4, 5, 13, 14, 15, 34, 38] [4, 5] [] (by subst e_x27; kernel_rfl) (by kernel_rfl) ?_
              refine TI_of (i := 5) (by kernel_rfl) (TE_litC (d := 39) (e := 40) (sz := 2) (len := 2) (cs := rowsC .i64 ([L14, [(-1073741824 : Int), x27]])) (by kernel_rfl) (by kernel_rfl) (by kernel_rfl) ?_)
              refine TI_segK (i := 6) (j := 6) (s' := { σ := [(1, .lf (.v (.int .i64 u1))), (4, .lf (.own 4 0)), (5, .lf (.own 5 0)), (13, .lf (.v (.slice u0A (List.length u0R) u0c))), (14, .lf (.v (.int .i64 (List.length u0R : Int)))), (15, .lf (.v (.int .i64 x4))), (39, .lf (.vec 39))], H := [(4, [.arr .i64 2 [(0 : Int), (0 : Int)]]), (5, [.arr .i64 2 L14])], V := [(39, ⟨40, 2, List.length ([L14, [(-1073741824 : Int), x27]]), rowsC .i64 ([L14, [(-1073741824 : Int), x27]])⟩)], M := M15, ds := [] }) [1, 4, 5, 13, 14, 15, 39] [4, 5] [39] (by kernel_rfl) (by kernel_rfl) ?_
              refine TI_turn (turn_pubV 39 (v := ⟨40, 2, List.length ([L14, [(-1073741824 : Int), x27]]), rowsC .i64 ([L14, [(-1073741824 : Int), x27]])⟩) (by kernel_rfl)) ?_
              rintro _ ⟨A28, c29, M30, rfl, hSA28, hcA28, -, hNA28, hM30⟩
              have fA28 : SlR M30 A28 c29 .i64 2 ([L14, [(-1073741824 : Int), x27]]) := ⟨(rows_cons l_L14 (rows_cons rfl rows_nil)), hSA28, hcA28⟩
              obtain ⟨v31, c_v31, h⟩ := cl_some h
              obtain ⟨g32, h⟩ := gd_some h
              refine TI_at (i := 6) (d := 40) (x := .agg [.arr .i64 2 v31]) (At_call (d := 40) (f := 83) (args := [rval (.lf (.v (.slice A28 (List.length ([L14, [(-1073741824 : Int), x27]])) c29)))]) (x := .agg [.arr .i64 2 v31]) (by kernel_rfl) (w83 k fA28 c_v31)) (by kernel_rfl) ⟨g32, trivial⟩ ?_
              refine TI_segK (i := 7) (j := 8) (s' := { σ := [(1, .lf (.v (.int .i64 u1))), (4, .lf (.own 4 0)), (5, .lf (.own 5 0)), (13, .lf (.v (.slice u0A (List.length u0R) u0c))), (14, .lf (.v (.int .i64 (List.length u0R : Int)))), (15, .lf (.v (.int .i64 x4)))], H := [(4, [.arr .i64 2 [(0 : Int), (0 : Int)]]), (5, [.arr .i64 2 v31])], V := [], M := M30, ds := [] }) [1, 4, 5, 13, 14, 15] [4, 5] [] (by kernel_rfl) (by kernel_rfl) ?_
              refine TI_end (by kernel_rfl) ?_
              refine blockQ_n ?_
              refine thenQ_n ?_
              exact ⟨v31, M30, keep_sub (ts := [1, 4, 5, 13, 14, 15]) (hs := [4, 5]) (vs := []) (by kernel_rfl), (Mem.le_trans (Mem.le_trans (Mem.le_refl _) hM15) hM30), g32, h⟩
            | false =>
              replace h := sp_f h
              refine T_condF (x := (.tmp 33)) (c1 := (sub [1, 1, 0, 1, 0, 0, 1, 1, 0, 0, 1, 1, 1, 0] (bodyOf Try.f73))) (c2 := (sub [1, 1, 0, 1, 0, 0, 1, 1, 0, 0, 1, 1, 1, 1] (bodyOf Try.f73))) (by kernel_rfl) (by kernel_rfl) ?_
              refine T_keep (s' := { σ := [(1, .lf (.v (.int .i64 u1))), (4, .lf (.own 4 0)), (5, .lf (.own 5 0)), (13, .lf (.v (.slice u0A (List.length u0R) u0c))), (14, .lf (.v (.int .i64 (List.length u0R : Int)))), (15, .lf (.v (.int .i64 x4)))], H := [(4, [.arr .i64 2 [(0 : Int), (0 : Int)]]), (5, [.arr .i64 2 L14])], V := [], M := M15, ds := [] }) [1, 4, 5, 13, 14, 15] [4, 5] [] (by kernel_rfl) ?_
              refine T_skip (by kernel_rfl) ?_
              refine blockQ_n ?_
              refine thenQ_n ?_
              exact ⟨L14, M15, keep_sub (ts := [1, 4, 5, 13, 14, 15]) (hs := [4, 5]) (vs := []) (by kernel_rfl), (Mem.le_trans (Mem.le_refl _) hM15), l_L14, h⟩
        · rintro s' ⟨L9, M10, hsub, hM10, l_L9, h⟩
          subst e_j11
          refine T_sub hsub ?_
          refine T_region (id := 9) (by kernel_rfl) ?_
          obtain ⟨x33, e_x33, h⟩ := lt_some h
          refine TI_segK (i := 0) (j := 2) (s' := { σ := [(1, .lf (.v (.int .i64 u1))), (4, .lf (.own 4 0)), (5, .lf (.own 5 0)), (13, .lf (.v (.slice u0A (List.length u0R) u0c))), (14, .lf (.v (.int .i64 (List.length u0R : Int)))), (15, .lf (.v (.int .i64 x33)))], H := [(4, [.arr .i64 2 [(0 : Int), (0 : Int)]]), (5, [.arr .i64 2 L9])], V := [], M := M10, ds := [] }) [1, 4, 5, 13, 14, 15] [4, 5] [] (by subst e_x33; kernel_rfl) (by kernel_rfl) ?_
          refine TI_end (by kernel_rfl) ?_
          refine thenQ_n ?_
          exact ⟨n7, Nat.lt_succ_self _, x33, L9, M10, keep_sub (ts := [1, 4, 5, 13, 14, 15]) (hs := [4, 5]) (vs := []) (by kernel_rfl), (Mem.le_trans (Mem.le_trans (Mem.le_refl _) hM6) hM10), l_L9, h⟩
      | false =>
        replace h := sp_f h
        refine T_condF (x := (.tmp 16)) (c1 := (sub [1, 1, 0, 1, 0, 0, 1, 0, 0] (bodyOf Try.f73))) (c2 := (sub [1, 1, 0, 1, 0, 0, 1, 0, 1] (bodyOf Try.f73))) (by kernel_rfl) (by kernel_rfl) ?_
        refine T_keep (s' := { σ := [(4, .lf (.own 4 0)), (5, .lf (.own 5 0))], H := [(4, [.arr .i64 2 [(0 : Int), (0 : Int)]]), (5, [.arr .i64 2 L5])], V := [], M := M6, ds := [] }) [4, 5] [4, 5] [] (by kernel_rfl) ?_
        refine T_exit (id := 0) (by kernel_rfl) ?_
        refine thenQ_x ?_
        refine thenQ_x ?_
        refine blockQ_x ?_
        refine thenQ_n ?_
        exact ⟨L5, M6, keep_sub (ts := [4, 5]) (hs := [4, 5]) (vs := []) (by kernel_rfl), (Mem.le_trans (Mem.le_refl _) hM6), l_L5, h⟩
  · rintro s' ⟨L1, M2, hsub, hM2, l_L1, h⟩
    subst e_j3
    refine thenQ_n ?_
    refine T_sub hsub ?_
    refine T_seq (c1 := (sub [1, 1, 1, 0] (bodyOf Try.f73))) (c2 := (sub [1, 1, 1, 1] (bodyOf Try.f73))) (by kernel_rfl) ?_
    refine T_region (id := 10) (by kernel_rfl) ?_
    refine TI_segK (i := 0) (j := 2) (s' := { σ := [(4, .lf (.own 4 0))], H := [(4, [.arr .i64 2 L1])], V := [], M := M2, ds := [] }) [4] [4] [] (by kernel_rfl) (by kernel_rfl) ?_
    refine TI_end (by kernel_rfl) ?_
    refine thenQ_n ?_
    refine T_ret (by kernel_rfl) ?_
    have h := Option.some.inj h
    subst h
    refine fin_ret (.agg [.arr .i64 2 L1]) (by kernel_rfl) (by kernel_rfl) rfl ?_
    rfl
def p81_l1 (k : Nat) (u0 : List Int) (j1 : Option Int) : Nat → Int → Option Int
  | 0, _ => none
  | n3 + 1, x2 => lt' (decide (x2 < (List.length u0 : Int))) fun b4 => sp b4 (gd ((0 : Int) ≤ x2 ∧ x2 < (List.length u0 : Int)) <| lt' (List.getD u0 ((x2).toNat) 0) fun x6 => cl (p69 k x6) fun v7 => sp v7 (some x2) (lt' (wr .i64 (x2 + (1 : Int))) fun x8 => p81_l1 k u0 j1 n3 x8)) (j1)
/-- slices.IndexFunc[[]int64,int64] -/
def p81 (k : Nat) (u0 : List Int) : Option Int :=
  jn (some (-1 : Int)) fun j1 => p81_l1 k u0 j1 k (0 : Int)
theorem hf81 : Try.prog.funcs[81]? = some Try.f81 := by kernel_rfl
theorem w81 (k : Nat) {M : Mem} {Au0 : Option Addr} {cu0 : Nat} {u0 : List Int} (hu0 : SlI M Au0 cu0 .i64 u0) {r} (h : p81 k u0 = some r) :
    Fn Try.prog 81 [rval (.lf (.v (.slice Au0 (List.length u0) cu0))), rval (.lf (.v (.func (.func 69) #[] #[])))] M (fun x _ => x = .lf (.v (.int .i64 r))) := by
  unfold p81 at h
  refine Fn_of (P := Try.prog) (fn := Try.f81) (c := bodyOf Try.f81) [.lf (.v (.slice Au0 (List.length u0) cu0)), .lf (.v (.func (.func 69) #[] #[]))] hf81 (by kernel_rfl) (Nat.le_of_ble_eq_true (by kernel_rfl)) (args_ok (by kernel_rfl) ⟨trivial, ⟨trivial, trivial⟩⟩) fun w => ?_
  change T _ _ _ (endQ _ _ _)
  refine T_seq (c1 := (sub [0] (bodyOf Try.f81))) (c2 := (sub [1] (bodyOf Try.f81))) (by kernel_rfl) ?_
  refine T_region (id := 0) (by kernel_rfl) ?_
  refine TI_segK (i := 0) (j := 1) (s' := { σ := [(0, .lf (.v (.slice Au0 (List.length u0) cu0))), (1, .lf (.v (.func (.func 69) #[] #[])))], H := [], V := [], M := M, ds := [] }) [0, 1] [] [] (by kernel_rfl) (by kernel_rfl) ?_
  refine TI_end (by kernel_rfl) ?_
  refine thenQ_n ?_
  refine T_seq (c1 := (sub [1, 0] (bodyOf Try.f81))) (c2 := (sub [1, 1] (bodyOf Try.f81))) (by kernel_rfl) ?_
  refine T_seq (c1 := (sub [1, 0, 0] (bodyOf Try.f81))) (c2 := (sub [1, 0, 1] (bodyOf Try.f81))) (by kernel_rfl) ?_
  refine T_region (id := 1) (by kernel_rfl) ?_
  refine TI_segK (i := 0) (j := 3) (s' := { σ := [(0, .lf (.v (.slice Au0 (List.length u0) cu0))), (1, .lf (.v (.func (.func 69) #[] #[]))), (7, .lf (.v (.int .i64 (List.length u0 : Int)))), (8, .lf (.v (.int .i64 (0 : Int))))], H := [], V := [], M := M, ds := [] }) [0, 1, 7, 8] [] [] (by kernel_rfl) (by kernel_rfl) ?_
  refine TI_end (by kernel_rfl) ?_
  refine thenQ_n ?_
  obtain ⟨j1, e_j1, h⟩ := jn_some h
  refine T_bcut (id := 0) (c1 := (sub [1, 0, 1, 0] (bodyOf Try.f81))) (fun s' => Sub { σ := [], H := [], V := [], M := M, ds := [] } s' ∧ j1 = some r) (by kernel_rfl) ?_ ?_
  · refine T_loop (c1 := (sub [1, 0, 1, 0, 0] (bodyOf Try.f81))) (by kernel_rfl) (fun n3 s' => ∃ (x2 : Int), Sub { σ := [(0, .lf (.v (.slice Au0 (List.length u0) cu0))), (1, .lf (.v (.func (.func 69) #[] #[]))), (7, .lf (.v (.int .i64 (List.length u0 : Int)))), (8, .lf (.v (.int .i64 x2)))], H := [], V := [], M := M, ds := [] } s' ∧ p81_l1 k u0 j1 n3 x2 = some r) (k := k) ⟨(0 : Int), keep_sub (ts := [0, 1, 7, 8]) (hs := []) (vs := []) (by kernel_rfl), h⟩ ?_
    rintro n3 s' ⟨x2, hsub, h⟩
    cases n3 with
    | zero => rw [p81_l1] at h; cases h
    | succ n3 =>
      rw [p81_l1] at h
      refine T_sub hsub ?_
      refine T_seq (c1 := (sub [1, 0, 1, 0, 0, 0] (bodyOf Try.f81))) (c2 := (sub [1, 0, 1, 0, 0, 1] (bodyOf Try.f81))) (by kernel_rfl) ?_
      refine T_region (id := 2) (by kernel_rfl) ?_
      obtain ⟨b4, e_b4, h⟩ := lt_some h
      refine TI_segK (i := 0) (j := 1) (s' := { σ := [(0, .lf (.v (.slice Au0 (List.length u0) cu0))), (1, .lf (.v (.func (.func 69) #[] #[]))), (7, .lf (.v (.int .i64 (List.length u0 : Int)))), (8, .lf (.v (.int .i64 x2))), (9, .lf (.v (.bool b4)))], H := [], V := [], M := M, ds := [] }) [0, 1, 7, 8, 9] [] [] (by subst e_b4; kernel_rfl) (by kernel_rfl) ?_
      refine TI_end (by kernel_rfl) ?_
      refine thenQ_n ?_
      refine T_seq (c1 := (sub [1, 0, 1, 0, 0, 1, 0] (bodyOf Try.f81))) (c2 := (sub [1, 0, 1, 0, 0, 1, 1] (bodyOf Try.f81))) (by kernel_rfl) ?_
      cases b4 with
      | true =>
        replace h := sp_t h
        refine T_condT (x := (.tmp 9)) (c1 := (sub [1, 0, 1, 0, 0, 1, 0, 0] (bodyOf Try.f81))) (c2 := (sub [1, 0, 1, 0, 0, 1, 0, 1] (bodyOf Try.f81))) (by kernel_rfl) (by kernel_rfl) ?_
        refine T_keep (s' := { σ := [(0, .lf (.v (.slice Au0 (List.length u0) cu0))), (1, .lf (.v (.func (.func 69) #[] #[]))), (7, .lf (.v (.int .i64 (List.length u0 : Int)))), (8, .lf (.v (.int .i64 x2)))], H := [], V := [], M := M, ds := [] }) [0, 1, 7, 8] [] [] (by kernel_rfl) ?_
        refine T_skip (by kernel_rfl) ?_
        refine thenQ_n ?_
        refine T_seq (c1 := (sub [1, 0, 1, 0, 0, 1, 1, 0] (bodyOf Try.f81))) (c2 := (sub [1, 0, 1, 0, 0, 1, 1, 1] (bodyOf Try.f81))) (by kernel_rfl) ?_
        refine T_block (id := 1) (c1 := (sub [1, 0, 1, 0, 0, 1, 1, 0, 0] (bodyOf Try.f81))) (by kernel_rfl) ?_
        refine T_seq (c1 := (sub [1, 0, 1, 0, 0, 1, 1, 0, 0, 0] (bodyOf Try.f81))) (c2 := (sub [1, 0, 1, 0, 0, 1, 1, 0, 0, 1] (bodyOf Try.f81))) (by kernel_rfl) ?_
        refine T_region (id := 3) (by kernel_rfl) ?_
        refine TI_segK (i := 0) (j := 2) (s' := { σ := [(0, .lf (.v (.slice Au0 (List.length u0) cu0))), (1, .lf (.v (.func (.func 69) #[] #[]))), (5, .lf (.v (.int .i64 x2))), (7, .lf (.v (.int .i64 (List.length u0 : Int)))), (8, .lf (.v (.int .i64 x2)))], H := [], V := [], M := M, ds := [] }) [0, 1, 5, 7, 8] [] [] (by kernel_rfl) (by kernel_rfl) ?_
        refine TI_end (by kernel_rfl) ?_
        refine thenQ_n ?_
        refine T_seq (c1 := (sub [1, 0, 1, 0, 0, 1, 1, 0, 0, 1, 0] (bodyOf Try.f81))) (c2 := (sub [1, 0, 1, 0, 0, 1, 1, 0, 0, 1, 1] (bodyOf Try.f81))) (by kernel_rfl) ?_
        refine T_region (id := 4) (by kernel_rfl) ?_
        refine TI_segK (i := 0) (j := 3) (s' := { σ := [(0, .lf (.v (.slice Au0 (List.length u0) cu0))), (1, .lf (.v (.func (.func 69) #[] #[]))), (5, .lf (.v (.int .i64 x2))), (7, .lf (.v (.int .i64 (List.length u0 : Int)))), (8, .lf (.v (.int .i64 x2))), (11, .lf (.v (.func (.func 69) #[] #[]))), (12, .lf (.v (.slice Au0 (List.length u0) cu0))), (13, .lf (.v (.int .i64 x2)))], H := [], V := [], M := M, ds := [] }) [0, 1, 5, 7, 8, 11, 12, 13] [] [] (by kernel_rfl) (by kernel_rfl) ?_
        obtain ⟨g5, h⟩ := gd_some h
        refine TI_at (i := 3) (d := 14) (x := .lf (.ep (.slice Au0 (List.length u0) cu0) 1 ((x2).toNat) 0)) (by exact At_idxI (d := 14) (z := x2) (by kernel_rfl) g5 hu0) (by kernel_rfl) trivial ?_
        obtain ⟨x6, e_x6, h⟩ := lt_some h
        refine TI_at (i := 4) (d := 15) (x := .lf (.v (.int .i64 x6))) (by rw [e_x6]; exact At_ldI (d := 15) (q := (x2).toNat) (by subst e_x6; kernel_rfl) (toNat_lt g5) hu0) (by kernel_rfl) trivial ?_
        obtain ⟨v7, c_v7, h⟩ := cl_some h
        refine TI_at (i := 5) (d := 16) (x := .lf (.v (.bool v7))) (At_call (d := 16) (f := 69) (args := [rval (.lf (.v (.int .i64 x6)))]) (x := .lf (.v (.bool v7))) (by kernel_rfl) (w69 k  c_v7)) (by kernel_rfl) trivial ?_
        refine TI_segK (i := 6) (j := 6) (s' := { σ := [(0, .lf (.v (.slice Au0 (List.length u0) cu0))), (1, .lf (.v (.func (.func 69) #[] #[]))), (5, .lf (.v (.int .i64 x2))), (7, .lf (.v (.int .i64 (List.length u0 : Int)))), (8, .lf (.v (.int .i64 x2))), (16, .lf (.v (.bool v7)))], H := [], V := [], M := M, ds := [] }) [0, 1, 5, 7, 8, 16] [] [] (by kernel_rfl) (by kernel_rfl) ?_
        refine TI_end (by kernel_rfl) ?_
        refine thenQ_n ?_
        cases v7 with
        | true =>
          replace h := sp_t h
          refine T_condT (x := (.tmp 16)) (c1 := (sub [1, 0, 1, 0, 0, 1, 1, 0, 0, 1, 1, 0] (bodyOf Try.f81))) (c2 := (sub [1, 0, 1, 0, 0, 1, 1, 0, 0, 1, 1, 1] (bodyOf Try.f81))) (by kernel_rfl) (by kernel_rfl) ?_
          refine T_keep (s' := { σ := [(5, .lf (.v (.int .i64 x2)))], H := [], V := [], M := M, ds := [] }) [5] [] [] (by kernel_rfl) ?_
          refine T_seq (c1 := (sub [1, 0, 1, 0, 0, 1, 1, 0, 0, 1, 1, 0, 0] (bodyOf Try.f81))) (c2 := (sub [1, 0, 1, 0, 0, 1, 1, 0, 0, 1, 1, 0, 1] (bodyOf Try.f81))) (by kernel_rfl) ?_
          refine T_region (id := 5) (by kernel_rfl) ?_
          refine TI_segK (i := 0) (j := 2) (s' := { σ := [(4, .lf (.v (.int .i64 x2)))], H := [], V := [], M := M, ds := [] }) [4] [] [] (by kernel_rfl) (by kernel_rfl) ?_
          refine TI_end (by kernel_rfl) ?_
          refine thenQ_n ?_
          refine T_ret (by kernel_rfl) ?_
          refine blockQ_r ?_
          refine thenQ_r ?_
          refine thenQ_r ?_
          refine blockQ_r ?_
          refine thenQ_r ?_
          refine thenQ_r ?_
          have h := Option.some.inj h
          subst h
          refine fin_ret (.lf (.v (.int .i64 x2))) (by kernel_rfl) (by kernel_rfl) rfl ?_
          rfl
        | false =>
          replace h := sp_f h
          refine T_condF (x := (.tmp 16)) (c1 := (sub [1, 0, 1, 0, 0, 1, 1, 0, 0, 1, 1, 0] (bodyOf Try.f81))) (c2 := (sub [1, 0, 1, 0, 0, 1, 1, 0, 0, 1, 1, 1] (bodyOf Try.f81))) (by kernel_rfl) (by kernel_rfl) ?_
          refine T_keep (s' := { σ := [(0, .lf (.v (.slice Au0 (List.length u0) cu0))), (1, .lf (.v (.func (.func 69) #[] #[]))), (7, .lf (.v (.int .i64 (List.length u0 : Int)))), (8, .lf (.v (.int .i64 x2)))], H := [], V := [], M := M, ds := [] }) [0, 1, 7, 8] [] [] (by kernel_rfl) ?_
          refine T_skip (by kernel_rfl) ?_
          refine blockQ_n ?_
          refine thenQ_n ?_
          refine T_region (id := 6) (by kernel_rfl) ?_
          obtain ⟨x8, e_x8, h⟩ := lt_some h
          refine TI_segK (i := 0) (j := 2) (s' := { σ := [(0, .lf (.v (.slice Au0 (List.length u0) cu0))), (1, .lf (.v (.func (.func 69) #[] #[]))), (7, .lf (.v (.int .i64 (List.length u0 : Int)))), (8, .lf (.v (.int .i64 x8)))], H := [], V := [], M := M, ds := [] }) [0, 1, 7, 8] [] [] (by subst e_x8; kernel_rfl) (by kernel_rfl) ?_
          refine TI_end (by kernel_rfl) ?_
          refine thenQ_n ?_
          exact ⟨n3, Nat.lt_succ_self _, x8, keep_sub (ts := [0, 1, 7, 8]) (hs := []) (vs := []) (by kernel_rfl), h⟩
      | false =>
        replace h := sp_f h
        refine T_condF (x := (.tmp 9)) (c1 := (sub [1, 0, 1, 0, 0, 1, 0, 0] (bodyOf Try.f81))) (c2 := (sub [1, 0, 1, 0, 0, 1, 0, 1] (bodyOf Try.f81))) (by kernel_rfl) (by kernel_rfl) ?_
        refine T_keep (s' := { σ := [], H := [], V := [], M := M, ds := [] }) [] [] [] (by kernel_rfl) ?_
        refine T_exit (id := 0) (by kernel_rfl) ?_
        refine thenQ_x ?_
        refine thenQ_x ?_
        refine blockQ_x ?_
        refine thenQ_n ?_
        exact ⟨keep_sub (ts := []) (hs := []) (vs := []) (by kernel_rfl), h⟩
  · rintro s' ⟨hsub, h⟩
    subst e_j1
    refine thenQ_n ?_
    refine T_sub hsub ?_
    refine T_seq (c1 := (sub [1, 1, 0] (bodyOf Try.f81))) (c2 := (sub [1, 1, 1] (bodyOf Try.f81))) (by kernel_rfl) ?_
    refine T_region (id := 7) (by kernel_rfl) ?_
    refine TI_segK (i := 0) (j := 1) (s' := { σ := [(4, .lf (.v (.int .i64 (-1 : Int))))], H := [], V := [], M := M, ds := [] }) [4] [] [] (by kernel_rfl) (by kernel_rfl) ?_
    refine TI_end (by kernel_rfl) ?_
    refine thenQ_n ?_
    refine T_ret (by kernel_rfl) ?_
    have h := Option.some.inj h
    subst h
    refine fin_ret (.lf (.v (.int .i64 (-1 : Int)))) (by kernel_rfl) (by kernel_rfl) rfl ?_
    rfl
def p82_l1 (k : Nat) (u0 : List (List Int)) (j1 : Option Int) : Nat → Int → Option Int
  | 0, _ => none
  | n3 + 1, x2 => lt' (decide (x2 < (List.length u0 : Int))) fun b4 => sp b4 (gd ((0 : Int) ≤ x2 ∧ x2 < (List.length u0 : Int)) <| lt' (List.getD u0 ((x2).toNat) []) fun L6 => cl (p71 k L6) fun v7 => sp v7 (some x2) (lt' (wr .i64 (x2 + (1 : Int))) fun x8 => p82_l1 k u0 j1 n3 x8)) (j1)
/-- slices.IndexFunc[[]gooseneck api.Band,gooseneck api.Band] -/
def p82 (k : Nat) (u0 : List (List Int)) : Option Int :=
  jn (some (-1 : Int)) fun j1 => p82_l1 k u0 j1 k (0 : Int)
theorem hf82 : Try.prog.funcs[82]? = some Try.f82 := by kernel_rfl
theorem w82 (k : Nat) {M : Mem} {Au0 : Option Addr} {cu0 : Nat} {u0 : List (List Int)} (hu0 : SlR M Au0 cu0 .i64 2 u0) {r} (h : p82 k u0 = some r) :
    Fn Try.prog 82 [rval (.lf (.v (.slice Au0 (List.length u0) cu0))), rval (.lf (.v (.func (.func 71) #[] #[])))] M (fun x _ => x = .lf (.v (.int .i64 r))) := by
  unfold p82 at h
  refine Fn_of (P := Try.prog) (fn := Try.f82) (c := bodyOf Try.f82) [.lf (.v (.slice Au0 (List.length u0) cu0)), .lf (.v (.func (.func 71) #[] #[]))] hf82 (by kernel_rfl) (Nat.le_of_ble_eq_true (by kernel_rfl)) (args_ok (by kernel_rfl) ⟨trivial, ⟨trivial, trivial⟩⟩) fun w => ?_
  change T _ _ _ (endQ _ _ _)
  refine T_seq (c1 := (sub [0] (bodyOf Try.f82))) (c2 := (sub [1] (bodyOf Try.f82))) (by kernel_rfl) ?_
  refine T_region (id := 0) (by kernel_rfl) ?_
  refine TI_segK (i := 0) (j := 1) (s' := { σ := [(0, .lf (.v (.slice Au0 (List.length u0) cu0))), (1, .lf (.v (.func (.func 71) #[] #[])))], H := [], V := [], M := M, ds := [] }) [0, 1] [] [] (by kernel_rfl) (by kernel_rfl) ?_
  refine TI_end (by kernel_rfl) ?_
  refine thenQ_n ?_
  refine T_seq (c1 := (sub [1, 0] (bodyOf Try.f82))) (c2 := (sub [1, 1] (bodyOf Try.f82))) (by kernel_rfl) ?_
  refine T_seq (c1 := (sub [1, 0, 0] (bodyOf Try.f82))) (c2 := (sub [1, 0, 1] (bodyOf Try.f82))) (by kernel_rfl) ?_
  refine T_region (id := 1) (by kernel_rfl) ?_
  refine TI_segK (i := 0) (j := 3) (s' := { σ := [(0, .lf (.v (.slice Au0 (List.length u0) cu0))), (1, .lf (.v (.func (.func 71) #[] #[]))), (7, .lf (.v (.int .i64 (List.length u0 : Int)))), (8, .lf (.v (.int .i64 (0 : Int))))], H := [], V := [], M := M, ds := [] }) [0, 1, 7, 8] [] [] (by kernel_rfl) (by kernel_rfl) ?_
  refine TI_end (by kernel_rfl) ?_
  refine thenQ_n ?_
  obtain ⟨j1, e_j1, h⟩ := jn_some h
  refine T_bcut (id := 0) (c1 := (sub [1, 0, 1, 0] (bodyOf Try.f82))) (fun s' => Sub { σ := [], H := [], V := [], M := M, ds := [] } s' ∧ j1 = some r) (by kernel_rfl) ?_ ?_
  · refine T_loop (c1 := (sub [1, 0, 1, 0, 0] (bodyOf Try.f82))) (by kernel_rfl) (fun n3 s' => ∃ (x2 : Int), Sub { σ := [(0, .lf (.v (.slice Au0 (List.length u0) cu0))), (1, .lf (.v (.func (.func 71) #[] #[]))), (7, .lf (.v (.int .i64 (List.length u0 : Int)))), (8, .lf (.v (.int .i64 x2)))], H := [], V := [], M := M, ds := [] } s' ∧ p82_l1 k u0 j1 n3 x2 = some r) (k := k) ⟨(0 : Int), keep_sub (ts := [0, 1, 7, 8]) (hs := []) (vs := []) (by kernel_rfl), h⟩ ?_
    rintro n3 s' ⟨x2, hsub, h⟩
    cases n3 with
    | zero => rw [p82_l1] at h; cases h
    | succ n3 =>
      rw [p82_l1] at h
      refine T_sub hsub ?_
      refine T_seq (c1 := (sub [1, 0, 1, 0, 0, 0] (bodyOf Try.f82))) (c2 := (sub [1, 0, 1, 0, 0, 1] (bodyOf Try.f82))) (by kernel_rfl) ?_
      refine T_region (id := 2) (by kernel_rfl) ?_
      obtain ⟨b4, e_b4, h⟩ := lt_some h
      refine TI_segK (i := 0) (j := 1) (s' := { σ := [(0, .lf (.v (.slice Au0 (List.length u0) cu0))), (1, .lf (.v (.func (.func 71) #[] #[]))), (7, .lf (.v (.int .i64 (List.length u0 : Int)))), (8, .lf (.v (.int .i64 x2))), (9, .lf (.v (.bool b4)))], H := [], V := [], M := M, ds := [] }) [0, 1, 7, 8, 9] [] [] (by subst e_b4; kernel_rfl) (by kernel_rfl) ?_
      refine TI_end (by kernel_rfl) ?_
      refine thenQ_n ?_
      refine T_seq (c1 := (sub [1, 0, 1, 0, 0, 1, 0] (bodyOf Try.f82))) (c2 := (sub [1, 0, 1, 0, 0, 1, 1] (bodyOf Try.f82))) (by kernel_rfl) ?_
      cases b4 with
      | true =>
        replace h := sp_t h
        refine T_condT (x := (.tmp 9)) (c1 := (sub [1, 0, 1, 0, 0, 1, 0, 0] (bodyOf Try.f82))) (c2 := (sub [1, 0, 1, 0, 0, 1, 0, 1] (bodyOf Try.f82))) (by kernel_rfl) (by kernel_rfl) ?_
        refine T_keep (s' := { σ := [(0, .lf (.v (.slice Au0 (List.length u0) cu0))), (1, .lf (.v (.func (.func 71) #[] #[]))), (7, .lf (.v (.int .i64 (List.length u0 : Int)))), (8, .lf (.v (.int .i64 x2)))], H := [], V := [], M := M, ds := [] }) [0, 1, 7, 8] [] [] (by kernel_rfl) ?_
        refine T_skip (by kernel_rfl) ?_
        refine thenQ_n ?_
        refine T_seq (c1 := (sub [1, 0, 1, 0, 0, 1, 1, 0] (bodyOf Try.f82))) (c2 := (sub [1, 0, 1, 0, 0, 1, 1, 1] (bodyOf Try.f82))) (by kernel_rfl) ?_
        refine T_block (id := 1) (c1 := (sub [1, 0, 1, 0, 0, 1, 1, 0, 0] (bodyOf Try.f82))) (by kernel_rfl) ?_
        refine T_seq (c1 := (sub [1, 0, 1, 0, 0, 1, 1, 0, 0, 0] (bodyOf Try.f82))) (c2 := (sub [1, 0, 1, 0, 0, 1, 1, 0, 0, 1] (bodyOf Try.f82))) (by kernel_rfl) ?_
        refine T_region (id := 3) (by kernel_rfl) ?_
        refine TI_segK (i := 0) (j := 2) (s' := { σ := [(0, .lf (.v (.slice Au0 (List.length u0) cu0))), (1, .lf (.v (.func (.func 71) #[] #[]))), (5, .lf (.v (.int .i64 x2))), (7, .lf (.v (.int .i64 (List.length u0 : Int)))), (8, .lf (.v (.int .i64 x2)))], H := [], V := [], M := M, ds := [] }) [0, 1, 5, 7, 8] [] [] (by kernel_rfl) (by kernel_rfl) ?_
        refine TI_end (by kernel_rfl) ?_
        refine thenQ_n ?_
        refine T_seq (c1 := (sub [1, 0, 1, 0, 0, 1, 1, 0, 0, 1, 0] (bodyOf Try.f82))) (c2 := (sub [1, 0, 1, 0, 0, 1, 1, 0, 0, 1, 1] (bodyOf Try.f82))) (by kernel_rfl) ?_
        refine T_region (id := 4) (by kernel_rfl) ?_
        refine TI_segK (i := 0) (j := 3) (s' := { σ := [(0, .lf (.v (.slice Au0 (List.length u0) cu0))), (1, .lf (.v (.func (.func 71) #[] #[]))), (5, .lf (.v (.int .i64 x2))), (7, .lf (.v (.int .i64 (List.length u0 : Int)))), (8, .lf (.v (.int .i64 x2))), (11, .lf (.v (.func (.func 71) #[] #[]))), (12, .lf (.v (.slice Au0 (List.length u0) cu0))), (13, .lf (.v (.int .i64 x2)))], H := [], V := [], M := M, ds := [] }) [0, 1, 5, 7, 8, 11, 12, 13] [] [] (by kernel_rfl) (by kernel_rfl) ?_
        obtain ⟨g5, h⟩ := gd_some h
        refine TI_at (i := 3) (d := 14) (x := .lf (.ep (.slice Au0 (List.length u0) cu0) 2 ((x2).toNat) 0)) (by exact At_idxR (d := 14) (z := x2) (by kernel_rfl) g5 hu0) (by kernel_rfl) trivial ?_
        obtain ⟨L6, e_L6, h⟩ := lt_some h
        have l_L6 : (L6).length = 2 := by rw [e_L6]; exact SlR_row hu0 (toNat_lt g5)
        refine TI_at (i := 4) (d := 15) (x := .agg [.arr .i64 2 L6]) (by rw [e_L6]; exact At_ldRow (d := 15) (q := (x2).toNat) (by subst e_L6; kernel_rfl) (toNat_lt g5) hu0) (by kernel_rfl) ⟨l_L6, trivial⟩ ?_
        obtain ⟨v7, c_v7, h⟩ := cl_some h
        refine TI_at (i := 5) (d := 16) (x := .lf (.v (.bool v7))) (At_call (d := 16) (f := 71) (args := [rval (.agg [.arr .i64 2 L6])]) (x := .lf (.v (.bool v7))) (by kernel_rfl) (w71 k l_L6 c_v7)) (by kernel_rfl) trivial ?_
        refine TI_segK (i := 6) (j := 6) (s' := { σ := [(0, .lf (.v (.slice Au0 (List.length u0) cu0))), (1, .lf (.v (.func (.func 71) #[] #[]))), (5, .lf (.v (.int .i64 x2))), (7, .lf (.v (.int .i64 (List.length u0 : Int)))), (8, .lf (.v (.int .i64 x2))), (16, .lf (.v (.bool v7)))], H := [], V := [], M := M, ds := [] }) [0, 1, 5, 7, 8, 16] [] [] (by kernel_rfl) (by kernel_rfl) ?_
        refine TI_end (by kernel_rfl) ?_
        refine thenQ_n ?_
        cases v7 with
        | true =>
          replace h := sp_t h
          refine T_condT (x := (.tmp 16)) (c1 := (sub [1, 0, 1, 0, 0, 1, 1, 0, 0, 1, 1, 0] (bodyOf Try.f82))) (c2 := (sub [1, 0, 1, 0, 0, 1, 1, 0, 0, 1, 1, 1] (bodyOf Try.f82))) (by kernel_rfl) (by kernel_rfl) ?_
          refine T_keep (s' := { σ := [(5, .lf (.v (.int .i64 x2)))], H := [], V := [], M := M, ds := [] }) [5] [] [] (by kernel_rfl) ?_
          refine T_seq (c1 := (sub [1, 0, 1, 0, 0, 1, 1, 0, 0, 1, 1, 0, 0] (bodyOf Try.f82))) (c2 := (sub [1, 0, 1, 0, 0, 1, 1, 0, 0, 1, 1, 0, 1] (bodyOf Try.f82))) (by kernel_rfl) ?_
          refine T_region (id := 5) (by kernel_rfl) ?_
          refine TI_segK (i := 0) (j := 2) (s' := { σ := [(4, .lf (.v (.int .i64 x2)))], H := [], V := [], M := M, ds := [] }) [4] [] [] (by kernel_rfl) (by kernel_rfl) ?_
          refine TI_end (by kernel_rfl) ?_
          refine thenQ_n ?_
          refine T_ret (by kernel_rfl) ?_
          refine blockQ_r ?_
          refine thenQ_r ?_
          refine thenQ_r ?_
          refine blockQ_r ?_
          refine thenQ_r ?_
          refine thenQ_r ?_
          have h := Option.some.inj h
          subst h
          refine fin_ret (.lf (.v (.int .i64 x2))) (by kernel_rfl) (by kernel_rfl) rfl ?_
          rfl
        | false =>
          replace h := sp_f h
          refine T_condF (x := (.tmp 16)) (c1 := (sub [1, 0, 1, 0, 0, 1, 1, 0, 0, 1, 1, 0] (bodyOf Try.f82))) (c2 := (sub [1, 0, 1, 0, 0, 1, 1, 0, 0, 1, 1, 1] (bodyOf Try.f82))) (by kernel_rfl) (by kernel_rfl) ?_
          refine T_keep (s' := { σ := [(0, .lf (.v (.slice Au0 (List.length u0) cu0))), (1, .lf (.v (.func (.func 71) #[] #[]))), (7, .lf (.v (.int .i64 (List.length u0 : Int)))), (8, .lf (.v (.int .i64 x2)))], H := [], V := [], M := M, ds := [] }) [0, 1, 7, 8] [] [] (by kernel_rfl) ?_
          refine T_skip (by kernel_rfl) ?_
          refine blockQ_n ?_
          refine thenQ_n ?_
          refine T_region (id := 6) (by kernel_rfl) ?_
          obtain ⟨x8, e_x8, h⟩ := lt_some h
          refine TI_segK (i := 0) (j := 2) (s' := { σ := [(0, .lf (.v (.slice Au0 (List.length u0) cu0))), (1, .lf (.v (.func (.func 71) #[] #[]))), (7, .lf (.v (.int .i64 (List.length u0 : Int)))), (8, .lf (.v (.int .i64 x8)))], H := [], V := [], M := M, ds := [] }) [0, 1, 7, 8] [] [] (by subst e_x8; kernel_rfl) (by kernel_rfl) ?_
          refine TI_end (by kernel_rfl) ?_
          refine thenQ_n ?_
          exact ⟨n3, Nat.lt_succ_self _, x8, keep_sub (ts := [0, 1, 7, 8]) (hs := []) (vs := []) (by kernel_rfl), h⟩
      | false =>
        replace h := sp_f h
        refine T_condF (x := (.tmp 9)) (c1 := (sub [1, 0, 1, 0, 0, 1, 0, 0] (bodyOf Try.f82))) (c2 := (sub [1, 0, 1, 0, 0, 1, 0, 1] (bodyOf Try.f82))) (by kernel_rfl) (by kernel_rfl) ?_
        refine T_keep (s' := { σ := [], H := [], V := [], M := M, ds := [] }) [] [] [] (by kernel_rfl) ?_
        refine T_exit (id := 0) (by kernel_rfl) ?_
        refine thenQ_x ?_
        refine thenQ_x ?_
        refine blockQ_x ?_
        refine thenQ_n ?_
        exact ⟨keep_sub (ts := []) (hs := []) (vs := []) (by kernel_rfl), h⟩
  · rintro s' ⟨hsub, h⟩
    subst e_j1
    refine thenQ_n ?_
    refine T_sub hsub ?_
    refine T_seq (c1 := (sub [1, 1, 0] (bodyOf Try.f82))) (c2 := (sub [1, 1, 1] (bodyOf Try.f82))) (by kernel_rfl) ?_
    refine T_region (id := 7) (by kernel_rfl) ?_
    refine TI_segK (i := 0) (j := 1) (s' := { σ := [(4, .lf (.v (.int .i64 (-1 : Int))))], H := [], V := [], M := M, ds := [] }) [4] [] [] (by kernel_rfl) (by kernel_rfl) ?_
    refine TI_end (by kernel_rfl) ?_
    refine thenQ_n ?_
    refine T_ret (by kernel_rfl) ?_
    have h := Option.some.inj h
    subst h
    refine fin_ret (.lf (.v (.int .i64 (-1 : Int)))) (by kernel_rfl) (by kernel_rfl) rfl ?_
    rfl
def p75_l1 (k : Nat) (u0 : List (List Int)) (j1 : Option Int) : Nat → Int → Option Int
  | 0, _ => none
  | n3 + 1, x2 => lt' (decide (x2 < (List.length u0 : Int))) fun b4 => sp b4 (gd ((0 : Int) ≤ x2 ∧ x2 < (List.length u0 : Int)) <| lt' (List.getD u0 ((x2).toNat) []) fun L6 => cl (p48 k L6) fun v7 => sp v7 (some x2) (lt' (wr .i64 (x2 + (1 : Int))) fun x8 => p75_l1 k u0 j1 n3 x8)) (j1)
/-- slices.IndexFunc[[]gooseneck api.Claim,gooseneck api.Claim] -/
def p75 (k : Nat) (u0 : List (List Int)) : Option Int :=
  jn (some (-1 : Int)) fun j1 => p75_l1 k u0 j1 k (0 : Int)
theorem hf75 : Try.prog.funcs[75]? = some Try.f75 := by kernel_rfl
theorem w75 (k : Nat) {M : Mem} {Au0 : Option Addr} {cu0 : Nat} {u0 : List (List Int)} (hu0 : SlR M Au0 cu0 .i64 7 u0) {r} (h : p75 k u0 = some r) :
    Fn Try.prog 75 [rval (.lf (.v (.slice Au0 (List.length u0) cu0))), rval (.lf (.v (.func (.func 48) #[] #[])))] M (fun x _ => x = .lf (.v (.int .i64 r))) := by
  unfold p75 at h
  refine Fn_of (P := Try.prog) (fn := Try.f75) (c := bodyOf Try.f75) [.lf (.v (.slice Au0 (List.length u0) cu0)), .lf (.v (.func (.func 48) #[] #[]))] hf75 (by kernel_rfl) (Nat.le_of_ble_eq_true (by kernel_rfl)) (args_ok (by kernel_rfl) ⟨trivial, ⟨trivial, trivial⟩⟩) fun w => ?_
  change T _ _ _ (endQ _ _ _)
  refine T_seq (c1 := (sub [0] (bodyOf Try.f75))) (c2 := (sub [1] (bodyOf Try.f75))) (by kernel_rfl) ?_
  refine T_region (id := 0) (by kernel_rfl) ?_
  refine TI_segK (i := 0) (j := 1) (s' := { σ := [(0, .lf (.v (.slice Au0 (List.length u0) cu0))), (1, .lf (.v (.func (.func 48) #[] #[])))], H := [], V := [], M := M, ds := [] }) [0, 1] [] [] (by kernel_rfl) (by kernel_rfl) ?_
  refine TI_end (by kernel_rfl) ?_
  refine thenQ_n ?_
  refine T_seq (c1 := (sub [1, 0] (bodyOf Try.f75))) (c2 := (sub [1, 1] (bodyOf Try.f75))) (by kernel_rfl) ?_
  refine T_seq (c1 := (sub [1, 0, 0] (bodyOf Try.f75))) (c2 := (sub [1, 0, 1] (bodyOf Try.f75))) (by kernel_rfl) ?_
  refine T_region (id := 1) (by kernel_rfl) ?_
  refine TI_segK (i := 0) (j := 3) (s' := { σ := [(0, .lf (.v (.slice Au0 (List.length u0) cu0))), (1, .lf (.v (.func (.func 48) #[] #[]))), (7, .lf (.v (.int .i64 (List.length u0 : Int)))), (8, .lf (.v (.int .i64 (0 : Int))))], H := [], V := [], M := M, ds := [] }) [0, 1, 7, 8] [] [] (by kernel_rfl) (by kernel_rfl) ?_
  refine TI_end (by kernel_rfl) ?_
  refine thenQ_n ?_
  obtain ⟨j1, e_j1, h⟩ := jn_some h
  refine T_bcut (id := 0) (c1 := (sub [1, 0, 1, 0] (bodyOf Try.f75))) (fun s' => Sub { σ := [], H := [], V := [], M := M, ds := [] } s' ∧ j1 = some r) (by kernel_rfl) ?_ ?_
  · refine T_loop (c1 := (sub [1, 0, 1, 0, 0] (bodyOf Try.f75))) (by kernel_rfl) (fun n3 s' => ∃ (x2 : Int), Sub { σ := [(0, .lf (.v (.slice Au0 (List.length u0) cu0))), (1, .lf (.v (.func (.func 48) #[] #[]))), (7, .lf (.v (.int .i64 (List.length u0 : Int)))), (8, .lf (.v (.int .i64 x2)))], H := [], V := [], M := M, ds := [] } s' ∧ p75_l1 k u0 j1 n3 x2 = some r) (k := k) ⟨(0 : Int), keep_sub (ts := [0, 1, 7, 8]) (hs := []) (vs := []) (by kernel_rfl), h⟩ ?_
    rintro n3 s' ⟨x2, hsub, h⟩
    cases n3 with
    | zero => rw [p75_l1] at h; cases h
    | succ n3 =>
      rw [p75_l1] at h
      refine T_sub hsub ?_
      refine T_seq (c1 := (sub [1, 0, 1, 0, 0, 0] (bodyOf Try.f75))) (c2 := (sub [1, 0, 1, 0, 0, 1] (bodyOf Try.f75))) (by kernel_rfl) ?_
      refine T_region (id := 2) (by kernel_rfl) ?_
      obtain ⟨b4, e_b4, h⟩ := lt_some h
      refine TI_segK (i := 0) (j := 1) (s' := { σ := [(0, .lf (.v (.slice Au0 (List.length u0) cu0))), (1, .lf (.v (.func (.func 48) #[] #[]))), (7, .lf (.v (.int .i64 (List.length u0 : Int)))), (8, .lf (.v (.int .i64 x2))), (9, .lf (.v (.bool b4)))], H := [], V := [], M := M, ds := [] }) [0, 1, 7, 8, 9] [] [] (by subst e_b4; kernel_rfl) (by kernel_rfl) ?_
      refine TI_end (by kernel_rfl) ?_
      refine thenQ_n ?_
      refine T_seq (c1 := (sub [1, 0, 1, 0, 0, 1, 0] (bodyOf Try.f75))) (c2 := (sub [1, 0, 1, 0, 0, 1, 1] (bodyOf Try.f75))) (by kernel_rfl) ?_
      cases b4 with
      | true =>
        replace h := sp_t h
        refine T_condT (x := (.tmp 9)) (c1 := (sub [1, 0, 1, 0, 0, 1, 0, 0] (bodyOf Try.f75))) (c2 := (sub [1, 0, 1, 0, 0, 1, 0, 1] (bodyOf Try.f75))) (by kernel_rfl) (by kernel_rfl) ?_
        refine T_keep (s' := { σ := [(0, .lf (.v (.slice Au0 (List.length u0) cu0))), (1, .lf (.v (.func (.func 48) #[] #[]))), (7, .lf (.v (.int .i64 (List.length u0 : Int)))), (8, .lf (.v (.int .i64 x2)))], H := [], V := [], M := M, ds := [] }) [0, 1, 7, 8] [] [] (by kernel_rfl) ?_
        refine T_skip (by kernel_rfl) ?_
        refine thenQ_n ?_
        refine T_seq (c1 := (sub [1, 0, 1, 0, 0, 1, 1, 0] (bodyOf Try.f75))) (c2 := (sub [1, 0, 1, 0, 0, 1, 1, 1] (bodyOf Try.f75))) (by kernel_rfl) ?_
        refine T_block (id := 1) (c1 := (sub [1, 0, 1, 0, 0, 1, 1, 0, 0] (bodyOf Try.f75))) (by kernel_rfl) ?_
        refine T_seq (c1 := (sub [1, 0, 1, 0, 0, 1, 1, 0, 0, 0] (bodyOf Try.f75))) (c2 := (sub [1, 0, 1, 0, 0, 1, 1, 0, 0, 1] (bodyOf Try.f75))) (by kernel_rfl) ?_
        refine T_region (id := 3) (by kernel_rfl) ?_
        refine TI_segK (i := 0) (j := 2) (s' := { σ := [(0, .lf (.v (.slice Au0 (List.length u0) cu0))), (1, .lf (.v (.func (.func 48) #[] #[]))), (5, .lf (.v (.int .i64 x2))), (7, .lf (.v (.int .i64 (List.length u0 : Int)))), (8, .lf (.v (.int .i64 x2)))], H := [], V := [], M := M, ds := [] }) [0, 1, 5, 7, 8] [] [] (by kernel_rfl) (by kernel_rfl) ?_
        refine TI_end (by kernel_rfl) ?_
        refine thenQ_n ?_
        refine T_seq (c1 := (sub [1, 0, 1, 0, 0, 1, 1, 0, 0, 1, 0] (bodyOf Try.f75))) (c2 := (sub [1, 0, 1, 0, 0, 1, 1, 0, 0, 1, 1] (bodyOf Try.f75))) (by kernel_rfl) ?_
        refine T_region (id := 4) (by kernel_rfl) ?_
        refine TI_segK (i := 0) (j := 3) (s' := { σ := [(0, .lf (.v (.slice Au0 (List.length u0) cu0))), (1, .lf (.v (.func (.func 48) #[] #[]))), (5, .lf (.v (.int .i64 x2))), (7, .lf (.v (.int .i64 (List.length u0 : Int)))), (8, .lf (.v (.int .i64 x2))), (11, .lf (.v (.func (.func 48) #[] #[]))), (12, .lf (.v (.slice Au0 (List.length u0) cu0))), (13, .lf (.v (.int .i64 x2)))], H := [], V := [], M := M, ds := [] }) [0, 1, 5, 7, 8, 11, 12, 13] [] [] (by kernel_rfl) (by kernel_rfl) ?_
        obtain ⟨g5, h⟩ := gd_some h
        refine TI_at (i := 3) (d := 14) (x := .lf (.ep (.slice Au0 (List.length u0) cu0) 7 ((x2).toNat) 0)) (by exact At_idxR (d := 14) (z := x2) (by kernel_rfl) g5 hu0) (by kernel_rfl) trivial ?_
        obtain ⟨L6, e_L6, h⟩ := lt_some h
        have l_L6 : (L6).length = 7 := by rw [e_L6]; exact SlR_row hu0 (toNat_lt g5)
        refine TI_at (i := 4) (d := 15) (x := .agg [.arr .i64 7 L6]) (by rw [e_L6]; exact At_ldRow (d := 15) (q := (x2).toNat) (by subst e_L6; kernel_rfl) (toNat_lt g5) hu0) (by kernel_rfl) ⟨l_L6, trivial⟩ ?_
        obtain ⟨v7, c_v7, h⟩ := cl_some h
        refine TI_at (i := 5) (d := 16) (x := .lf (.v (.bool v7))) (At_call (d := 16) (f := 48) (args := [rval (.agg [.arr .i64 7 L6])]) (x := .lf (.v (.bool v7))) (by kernel_rfl) (w48 k l_L6 c_v7)) (by kernel_rfl) trivial ?_
        refine TI_segK (i := 6) (j := 6) (s' := { σ := [(0, .lf (.v (.slice Au0 (List.length u0) cu0))), (1, .lf (.v (.func (.func 48) #[] #[]))), (5, .lf (.v (.int .i64 x2))), (7, .lf (.v (.int .i64 (List.length u0 : Int)))), (8, .lf (.v (.int .i64 x2))), (16, .lf (.v (.bool v7)))], H := [], V := [], M := M, ds := [] }) [0, 1, 5, 7, 8, 16] [] [] (by kernel_rfl) (by kernel_rfl) ?_
        refine TI_end (by kernel_rfl) ?_
        refine thenQ_n ?_
        cases v7 with
        | true =>
          replace h := sp_t h
          refine T_condT (x := (.tmp 16)) (c1 := (sub [1, 0, 1, 0, 0, 1, 1, 0, 0, 1, 1, 0] (bodyOf Try.f75))) (c2 := (sub [1, 0, 1, 0, 0, 1, 1, 0, 0, 1, 1, 1] (bodyOf Try.f75))) (by kernel_rfl) (by kernel_rfl) ?_
          refine T_keep (s' := { σ := [(5, .lf (.v (.int .i64 x2)))], H := [], V := [], M := M, ds := [] }) [5] [] [] (by kernel_rfl) ?_
          refine T_seq (c1 := (sub [1, 0, 1, 0, 0, 1, 1, 0, 0, 1, 1, 0, 0] (bodyOf Try.f75))) (c2 := (sub [1, 0, 1, 0, 0, 1, 1, 0, 0, 1, 1, 0, 1] (bodyOf Try.f75))) (by kernel_rfl) ?_
          refine T_region (id := 5) (by kernel_rfl) ?_
          refine TI_segK (i := 0) (j := 2) (s' := { σ := [(4, .lf (.v (.int .i64 x2)))], H := [], V := [], M := M, ds := [] }) [4] [] [] (by kernel_rfl) (by kernel_rfl) ?_
          refine TI_end (by kernel_rfl) ?_
          refine thenQ_n ?_
          refine T_ret (by kernel_rfl) ?_
          refine blockQ_r ?_
          refine thenQ_r ?_
          refine thenQ_r ?_
          refine blockQ_r ?_
          refine thenQ_r ?_
          refine thenQ_r ?_
          have h := Option.some.inj h
          subst h
          refine fin_ret (.lf (.v (.int .i64 x2))) (by kernel_rfl) (by kernel_rfl) rfl ?_
          rfl
        | false =>
          replace h := sp_f h
          refine T_condF (x := (.tmp 16)) (c1 := (sub [1, 0, 1, 0, 0, 1, 1, 0, 0, 1, 1, 0] (bodyOf Try.f75))) (c2 := (sub [1, 0, 1, 0, 0, 1, 1, 0, 0, 1, 1, 1] (bodyOf Try.f75))) (by kernel_rfl) (by kernel_rfl) ?_
          refine T_keep (s' := { σ := [(0, .lf (.v (.slice Au0 (List.length u0) cu0))), (1, .lf (.v (.func (.func 48) #[] #[]))), (7, .lf (.v (.int .i64 (List.length u0 : Int)))), (8, .lf (.v (.int .i64 x2)))], H := [], V := [], M := M, ds := [] }) [0, 1, 7, 8] [] [] (by kernel_rfl) ?_
          refine T_skip (by kernel_rfl) ?_
          refine blockQ_n ?_
          refine thenQ_n ?_
          refine T_region (id := 6) (by kernel_rfl) ?_
          obtain ⟨x8, e_x8, h⟩ := lt_some h
          refine TI_segK (i := 0) (j := 2) (s' := { σ := [(0, .lf (.v (.slice Au0 (List.length u0) cu0))), (1, .lf (.v (.func (.func 48) #[] #[]))), (7, .lf (.v (.int .i64 (List.length u0 : Int)))), (8, .lf (.v (.int .i64 x8)))], H := [], V := [], M := M, ds := [] }) [0, 1, 7, 8] [] [] (by subst e_x8; kernel_rfl) (by kernel_rfl) ?_
          refine TI_end (by kernel_rfl) ?_
          refine thenQ_n ?_
          exact ⟨n3, Nat.lt_succ_self _, x8, keep_sub (ts := [0, 1, 7, 8]) (hs := []) (vs := []) (by kernel_rfl), h⟩
      | false =>
        replace h := sp_f h
        refine T_condF (x := (.tmp 9)) (c1 := (sub [1, 0, 1, 0, 0, 1, 0, 0] (bodyOf Try.f75))) (c2 := (sub [1, 0, 1, 0, 0, 1, 0, 1] (bodyOf Try.f75))) (by kernel_rfl) (by kernel_rfl) ?_
        refine T_keep (s' := { σ := [], H := [], V := [], M := M, ds := [] }) [] [] [] (by kernel_rfl) ?_
        refine T_exit (id := 0) (by kernel_rfl) ?_
        refine thenQ_x ?_
        refine thenQ_x ?_
        refine blockQ_x ?_
        refine thenQ_n ?_
        exact ⟨keep_sub (ts := []) (hs := []) (vs := []) (by kernel_rfl), h⟩
  · rintro s' ⟨hsub, h⟩
    subst e_j1
    refine thenQ_n ?_
    refine T_sub hsub ?_
    refine T_seq (c1 := (sub [1, 1, 0] (bodyOf Try.f75))) (c2 := (sub [1, 1, 1] (bodyOf Try.f75))) (by kernel_rfl) ?_
    refine T_region (id := 7) (by kernel_rfl) ?_
    refine TI_segK (i := 0) (j := 1) (s' := { σ := [(4, .lf (.v (.int .i64 (-1 : Int))))], H := [], V := [], M := M, ds := [] }) [4] [] [] (by kernel_rfl) (by kernel_rfl) ?_
    refine TI_end (by kernel_rfl) ?_
    refine thenQ_n ?_
    refine T_ret (by kernel_rfl) ?_
    have h := Option.some.inj h
    subst h
    refine fin_ret (.lf (.v (.int .i64 (-1 : Int)))) (by kernel_rfl) (by kernel_rfl) rfl ?_
    rfl
/-- slices.ContainsFunc[[]int64,int64] -/
def p68 (k : Nat) (u0 : List Int) : Option Bool :=
  cl (p81 k u0) fun v1 => lt' (decide (v1 ≥ (0 : Int))) fun b2 => some b2
theorem hf68 : Try.prog.funcs[68]? = some Try.f68 := by kernel_rfl
theorem w68 (k : Nat) {M : Mem} {Au0 : Option Addr} {cu0 : Nat} {u0 : List Int} (hu0 : SlI M Au0 cu0 .i64 u0) {r} (h : p68 k u0 = some r) :
    Fn Try.prog 68 [rval (.lf (.v (.slice Au0 (List.length u0) cu0))), rval (.lf (.v (.func (.func 69) #[] #[])))] M (fun x _ => x = .lf (.v (.bool r))) := by
  unfold p68 at h
  refine Fn_of (P := Try.prog) (fn := Try.f68) (c := bodyOf Try.f68) [.lf (.v (.slice Au0 (List.length u0) cu0)), .lf (.v (.func (.func 69) #[] #[]))] hf68 (by kernel_rfl) (Nat.le_of_ble_eq_true (by kernel_rfl)) (args_ok (by kernel_rfl) ⟨trivial, ⟨trivial, trivial⟩⟩) fun w => ?_
  change T _ _ _ (endQ _ _ _)
  refine T_seq (c1 := (sub [0] (bodyOf Try.f68))) (c2 := (sub [1] (bodyOf Try.f68))) (by kernel_rfl) ?_
  refine T_region (id := 0) (by kernel_rfl) ?_
  refine TI_segK (i := 0) (j := 1) (s' := { σ := [(0, .lf (.v (.slice Au0 (List.length u0) cu0))), (1, .lf (.v (.func (.func 69) #[] #[])))], H := [], V := [], M := M, ds := [] }) [0, 1] [] [] (by kernel_rfl) (by kernel_rfl) ?_
  refine TI_end (by kernel_rfl) ?_
  refine thenQ_n ?_
  refine T_seq (c1 := (sub [1, 0] (bodyOf Try.f68))) (c2 := (sub [1, 1] (bodyOf Try.f68))) (by kernel_rfl) ?_
  refine T_region (id := 1) (by kernel_rfl) ?_
  refine TI_segK (i := 0) (j := 2) (s' := { σ := [(5, .lf (.v (.slice Au0 (List.length u0) cu0))), (6, .lf (.v (.func (.func 69) #[] #[])))], H := [], V := [], M := M, ds := [] }) [5, 6] [] [] (by kernel_rfl) (by kernel_rfl) ?_
  obtain ⟨v1, c_v1, h⟩ := cl_some h
  refine TI_at (i := 2) (d := 7) (x := .lf (.v (.int .i64 v1))) (At_call (d := 7) (f := 81) (args := [rval (.lf (.v (.slice Au0 (List.length u0) cu0))), rval (.lf (.v (.func (.func 69) #[] #[])))]) (x := .lf (.v (.int .i64 v1))) (by kernel_rfl) (w81 k hu0 c_v1)) (by kernel_rfl) trivial ?_
  obtain ⟨b2, e_b2, h⟩ := lt_some h
  refine TI_segK (i := 3) (j := 5) (s' := { σ := [(4, .lf (.v (.bool b2)))], H := [], V := [], M := M, ds := [] }) [4] [] [] (by subst e_b2; kernel_rfl) (by kernel_rfl) ?_
  refine TI_end (by kernel_rfl) ?_
  refine thenQ_n ?_
  refine T_ret (by kernel_rfl) ?_
  have h := Option.some.inj h
  subst h
  refine fin_ret (.lf (.v (.bool b2))) (by kernel_rfl) (by kernel_rfl) rfl ?_
  rfl
/-- slices.ContainsFunc[[]gooseneck api.Band,gooseneck api.Band] -/
def p70 (k : Nat) (u0 : List (List Int)) : Option Bool :=
  cl (p82 k u0) fun v1 => lt' (decide (v1 ≥ (0 : Int))) fun b2 => some b2
theorem hf70 : Try.prog.funcs[70]? = some Try.f70 := by kernel_rfl
theorem w70 (k : Nat) {M : Mem} {Au0 : Option Addr} {cu0 : Nat} {u0 : List (List Int)} (hu0 : SlR M Au0 cu0 .i64 2 u0) {r} (h : p70 k u0 = some r) :
    Fn Try.prog 70 [rval (.lf (.v (.slice Au0 (List.length u0) cu0))), rval (.lf (.v (.func (.func 71) #[] #[])))] M (fun x _ => x = .lf (.v (.bool r))) := by
  unfold p70 at h
  refine Fn_of (P := Try.prog) (fn := Try.f70) (c := bodyOf Try.f70) [.lf (.v (.slice Au0 (List.length u0) cu0)), .lf (.v (.func (.func 71) #[] #[]))] hf70 (by kernel_rfl) (Nat.le_of_ble_eq_true (by kernel_rfl)) (args_ok (by kernel_rfl) ⟨trivial, ⟨trivial, trivial⟩⟩) fun w => ?_
  change T _ _ _ (endQ _ _ _)
  refine T_seq (c1 := (sub [0] (bodyOf Try.f70))) (c2 := (sub [1] (bodyOf Try.f70))) (by kernel_rfl) ?_
  refine T_region (id := 0) (by kernel_rfl) ?_
  refine TI_segK (i := 0) (j := 1) (s' := { σ := [(0, .lf (.v (.slice Au0 (List.length u0) cu0))), (1, .lf (.v (.func (.func 71) #[] #[])))], H := [], V := [], M := M, ds := [] }) [0, 1] [] [] (by kernel_rfl) (by kernel_rfl) ?_
  refine TI_end (by kernel_rfl) ?_
  refine thenQ_n ?_
  refine T_seq (c1 := (sub [1, 0] (bodyOf Try.f70))) (c2 := (sub [1, 1] (bodyOf Try.f70))) (by kernel_rfl) ?_
  refine T_region (id := 1) (by kernel_rfl) ?_
  refine TI_segK (i := 0) (j := 2) (s' := { σ := [(5, .lf (.v (.slice Au0 (List.length u0) cu0))), (6, .lf (.v (.func (.func 71) #[] #[])))], H := [], V := [], M := M, ds := [] }) [5, 6] [] [] (by kernel_rfl) (by kernel_rfl) ?_
  obtain ⟨v1, c_v1, h⟩ := cl_some h
  refine TI_at (i := 2) (d := 7) (x := .lf (.v (.int .i64 v1))) (At_call (d := 7) (f := 82) (args := [rval (.lf (.v (.slice Au0 (List.length u0) cu0))), rval (.lf (.v (.func (.func 71) #[] #[])))]) (x := .lf (.v (.int .i64 v1))) (by kernel_rfl) (w82 k hu0 c_v1)) (by kernel_rfl) trivial ?_
  obtain ⟨b2, e_b2, h⟩ := lt_some h
  refine TI_segK (i := 3) (j := 5) (s' := { σ := [(4, .lf (.v (.bool b2)))], H := [], V := [], M := M, ds := [] }) [4] [] [] (by subst e_b2; kernel_rfl) (by kernel_rfl) ?_
  refine TI_end (by kernel_rfl) ?_
  refine thenQ_n ?_
  refine T_ret (by kernel_rfl) ?_
  have h := Option.some.inj h
  subst h
  refine fin_ret (.lf (.v (.bool b2))) (by kernel_rfl) (by kernel_rfl) rfl ?_
  rfl
/-- slices.ContainsFunc[[]gooseneck api.Claim,gooseneck api.Claim] -/
def p47 (k : Nat) (u0 : List (List Int)) : Option Bool :=
  cl (p75 k u0) fun v1 => lt' (decide (v1 ≥ (0 : Int))) fun b2 => some b2
theorem hf47 : Try.prog.funcs[47]? = some Try.f47 := by kernel_rfl
theorem w47 (k : Nat) {M : Mem} {Au0 : Option Addr} {cu0 : Nat} {u0 : List (List Int)} (hu0 : SlR M Au0 cu0 .i64 7 u0) {r} (h : p47 k u0 = some r) :
    Fn Try.prog 47 [rval (.lf (.v (.slice Au0 (List.length u0) cu0))), rval (.lf (.v (.func (.func 48) #[] #[])))] M (fun x _ => x = .lf (.v (.bool r))) := by
  unfold p47 at h
  refine Fn_of (P := Try.prog) (fn := Try.f47) (c := bodyOf Try.f47) [.lf (.v (.slice Au0 (List.length u0) cu0)), .lf (.v (.func (.func 48) #[] #[]))] hf47 (by kernel_rfl) (Nat.le_of_ble_eq_true (by kernel_rfl)) (args_ok (by kernel_rfl) ⟨trivial, ⟨trivial, trivial⟩⟩) fun w => ?_
  change T _ _ _ (endQ _ _ _)
  refine T_seq (c1 := (sub [0] (bodyOf Try.f47))) (c2 := (sub [1] (bodyOf Try.f47))) (by kernel_rfl) ?_
  refine T_region (id := 0) (by kernel_rfl) ?_
  refine TI_segK (i := 0) (j := 1) (s' := { σ := [(0, .lf (.v (.slice Au0 (List.length u0) cu0))), (1, .lf (.v (.func (.func 48) #[] #[])))], H := [], V := [], M := M, ds := [] }) [0, 1] [] [] (by kernel_rfl) (by kernel_rfl) ?_
  refine TI_end (by kernel_rfl) ?_
  refine thenQ_n ?_
  refine T_seq (c1 := (sub [1, 0] (bodyOf Try.f47))) (c2 := (sub [1, 1] (bodyOf Try.f47))) (by kernel_rfl) ?_
  refine T_region (id := 1) (by kernel_rfl) ?_
  refine TI_segK (i := 0) (j := 2) (s' := { σ := [(5, .lf (.v (.slice Au0 (List.length u0) cu0))), (6, .lf (.v (.func (.func 48) #[] #[])))], H := [], V := [], M := M, ds := [] }) [5, 6] [] [] (by kernel_rfl) (by kernel_rfl) ?_
  obtain ⟨v1, c_v1, h⟩ := cl_some h
  refine TI_at (i := 2) (d := 7) (x := .lf (.v (.int .i64 v1))) (At_call (d := 7) (f := 75) (args := [rval (.lf (.v (.slice Au0 (List.length u0) cu0))), rval (.lf (.v (.func (.func 48) #[] #[])))]) (x := .lf (.v (.int .i64 v1))) (by kernel_rfl) (w75 k hu0 c_v1)) (by kernel_rfl) trivial ?_
  obtain ⟨b2, e_b2, h⟩ := lt_some h
  refine TI_segK (i := 3) (j := 5) (s' := { σ := [(4, .lf (.v (.bool b2)))], H := [], V := [], M := M, ds := [] }) [4] [] [] (by subst e_b2; kernel_rfl) (by kernel_rfl) ?_
  refine TI_end (by kernel_rfl) ?_
  refine thenQ_n ?_
  refine T_ret (by kernel_rfl) ?_
  have h := Option.some.inj h
  subst h
  refine fin_ret (.lf (.v (.bool b2))) (by kernel_rfl) (by kernel_rfl) rfl ?_
  rfl
def p58_l1 (k : Nat) (u0P : List (List Int)) (u1 : List Int) (u2 : List Int) (j2 : Option Int) (x1 : Int) : Nat → Int → Option Int
  | 0, _ => none
  | n4 + 1, x3 => lt' (decide (x3 < x1)) fun b5 => sp b5 (jn (fun (b6 : Bool) => jn (fun (b17 : Bool) => jn (fun (b26 : Bool) => jn (fun (b37 : Bool) => sp b37 (some x3) (lt' (wr .i64 (x3 + (1 : Int))) fun x39 => p58_l1 k u0P u1 u2 j2 x1 n4 x39)) fun j38 => sp b6 (sp b17 (j38 b26) (j38 false)) (j38 false)) fun j27 => lt' (x3 == (0 : Int)) fun b28 => sp b28 (j27 true) (lt' (x3 == (List.length u2 : Int)) fun b29 => sp b29 (j27 true) (gd ((0 : Int) ≤ x3 ∧ x3 < (List.length u2 : Int)) <| lt' (List.getD u2 ((x3).toNat) 0) fun x31 => lt' (wr .i64 (x3 - (1 : Int))) fun x32 => gd ((0 : Int) ≤ x32 ∧ x32 < (List.length u2 : Int)) <| lt' (List.getD u2 ((x32).toNat) 0) fun x34 => lt' (wr .i64 (x34 + (1 : Int))) fun x35 => lt' (decide (x31 > x35)) fun b36 => j27 b36))) fun j18 => lt' (x3 == (List.length u2 : Int)) fun b19 => sp b19 (j18 true) (gd ((0 : Int) ≤ x3 ∧ x3 < (List.length u2 : Int)) <| lt' (List.getD u2 ((x3).toNat) 0) fun x21 => gd ((0 : Int) ≤ x21 ∧ x21 < (List.length u0P : Int)) <| lt' (List.getD (List.getD u0P ((x21).toNat) []) 1 0) fun x23 => lt' (List.getD u1 1 0) fun x24 => lt' (decide (x23 > x24)) fun b25 => j18 b25)) fun j7 => lt' (x3 == (0 : Int)) fun b8 => sp b8 (j7 true) (lt' (wr .i64 (x3 - (1 : Int))) fun x9 => gd ((0 : Int) ≤ x9 ∧ x9 < (List.length u2 : Int)) <| lt' (List.getD u2 ((x9).toNat) 0) fun x11 => lt' (wr .i64 (x11 + (1 : Int))) fun x12 => gd ((0 : Int) ≤ x12 ∧ x12 < (List.length u0P : Int)) <| lt' (List.getD (List.getD u0P ((x12).toNat) []) 0 0) fun x14 => lt' (List.getD u1 0 0) fun x15 => lt' (decide (x14 < x15)) fun b16 => j7 b16)) (j2)
/-- (*gooseneck claim.course).past -/
def p58 (k : Nat) (u0R : List (List Int)) (u0D : List Int) (u0st : Int) (u0P : List (List Int)) (u0V : List (List (List Int))) (u1 : List Int) (u2 : List Int) : Option Int :=
  lt' (wr .i64 ((List.length u2 : Int) + (1 : Int))) fun x1 => jn (some (-1 : Int)) fun j2 => p58_l1 k u0P u1 u2 j2 x1 k (0 : Int)
theorem hf58 : Try.prog.funcs[58]? = some Try.f58 := by kernel_rfl
theorem w58 (k : Nat) {M : Mem} {u0b : Nat} {u0A : Option Addr} {u0c : Nat} {u0AP : Option Addr} {u0cP : Nat} {u0AV : Nat → Option Addr} {u0cV : Nat → Nat} {Au2 : Option Addr} {cu2 : Nat} {u0R : List (List Int)} {u0D : List Int} {u0st : Int} {u0P : List (List Int)} {u0V : List (List (List Int))} {u1 : List Int} {u2 : List Int} (hu0 : Crs M u0b u0A u0c u0AP u0cP u0AV u0cV u0R u0D u0st u0P u0V) (hu1 : u1.length = 7) (hu2 : SlI M Au2 cu2 .i64 u2) {r} (h : p58 k u0R u0D u0st u0P u0V u1 u2 = some r) :
    Fn Try.prog 58 [rval (.lf (.v (.pointer (some ⟨u0b, 0, none⟩)))), rval (.agg [.arr .i64 7 u1]), rval (.lf (.v (.slice Au2 (List.length u2) cu2)))] M (fun x _ => x = .lf (.v (.int .i64 r))) := by
  unfold p58 at h
  refine Fn_of (P := Try.prog) (fn := Try.f58) (c := bodyOf Try.f58) [.lf (.v (.pointer (some ⟨u0b, 0, none⟩))), .agg [.arr .i64 7 u1], .lf (.v (.slice Au2 (List.length u2) cu2))] hf58 (by kernel_rfl) (Nat.le_of_ble_eq_true (by kernel_rfl)) (args_ok (by kernel_rfl) ⟨trivial, ⟨⟨hu1, trivial⟩, ⟨trivial, trivial⟩⟩⟩) fun w => ?_
  change T _ _ _ (endQ _ _ _)
  refine T_seq (c1 := (sub [0] (bodyOf Try.f58))) (c2 := (sub [1] (bodyOf Try.f58))) (by kernel_rfl) ?_
  refine T_region (id := 0) (by kernel_rfl) ?_
  refine TI_segK (i := 0) (j := 2) (s' := { σ := [(0, .lf (.v (.pointer (some ⟨u0b, 0, none⟩)))), (2, .lf (.v (.slice Au2 (List.length u2) cu2))), (4, .lf (.own 4 0))], H := [(4, [.arr .i64 7 u1])], V := [], M := M, ds := [] }) [0, 2, 4] [4] [] (by kernel_rfl) (by kernel_rfl) ?_
  refine TI_end (by kernel_rfl) ?_
  refine thenQ_n ?_
  refine T_seq (c1 := (sub [1, 0] (bodyOf Try.f58))) (c2 := (sub [1, 1] (bodyOf Try.f58))) (by kernel_rfl) ?_
  refine T_seq (c1 := (sub [1, 0, 0] (bodyOf Try.f58))) (c2 := (sub [1, 0, 1] (bodyOf Try.f58))) (by kernel_rfl) ?_
  refine T_region (id := 1) (by kernel_rfl) ?_
  obtain ⟨x1, e_x1, h⟩ := lt_some h
  refine TI_segK (i := 0) (j := 4) (s' := { σ := [(0, .lf (.v (.pointer (some ⟨u0b, 0, none⟩)))), (2, .lf (.v (.slice Au2 (List.length u2) cu2))), (4, .lf (.own 4 0)), (13, .lf (.v (.int .i64 x1))), (14, .lf (.v (.int .i64 (0 : Int))))], H := [(4, [.arr .i64 7 u1])], V := [], M := M, ds := [] }) [0, 2, 4, 13, 14] [4] [] (by subst e_x1; kernel_rfl) (by kernel_rfl) ?_
  refine TI_end (by kernel_rfl) ?_
  refine thenQ_n ?_
  obtain ⟨j2, e_j2, h⟩ := jn_some h
  refine T_bcut (id := 0) (c1 := (sub [1, 0, 1, 0] (bodyOf Try.f58))) (fun s' => Sub { σ := [], H := [], V := [], M := M, ds := [] } s' ∧ j2 = some r) (by kernel_rfl) ?_ ?_
  · refine T_loop (c1 := (sub [1, 0, 1, 0, 0] (bodyOf Try.f58))) (by kernel_rfl) (fun n4 s' => ∃ (x3 : Int), Sub { σ := [(0, .lf (.v (.pointer (some ⟨u0b, 0, none⟩)))), (2, .lf (.v (.slice Au2 (List.length u2) cu2))), (4, .lf (.own 4 0)), (13, .lf (.v (.int .i64 x1))), (14, .lf (.v (.int .i64 x3)))], H := [(4, [.arr .i64 7 u1])], V := [], M := M, ds := [] } s' ∧ p58_l1 k u0P u1 u2 j2 x1 n4 x3 = some r) (k := k) ⟨(0 : Int), keep_sub (ts := [0, 2, 4, 13, 14]) (hs := [4]) (vs := []) (by kernel_rfl), h⟩ ?_
    rintro n4 s' ⟨x3, hsub, h⟩
    cases n4 with
    | zero => rw [p58_l1] at h; cases h
    | succ n4 =>
      rw [p58_l1] at h
      refine T_sub hsub ?_
      refine T_seq (c1 := (sub [1, 0, 1, 0, 0, 0] (bodyOf Try.f58))) (c2 := (sub [1, 0, 1, 0, 0, 1] (bodyOf Try.f58))) (by kernel_rfl) ?_
      refine T_region (id := 2) (by kernel_rfl) ?_
      obtain ⟨b5, e_b5, h⟩ := lt_some h
      refine TI_segK (i := 0) (j := 1) (s' := { σ := [(0, .lf (.v (.pointer (some ⟨u0b, 0, none⟩)))), (2, .lf (.v (.slice Au2 (List.length u2) cu2))), (4, .lf (.own 4 0)), (13, .lf (.v (.int .i64 x1))), (14, .lf (.v (.int .i64 x3))), (15, .lf (.v (.bool b5)))], H := [(4, [.arr .i64 7 u1])], V := [], M := M, ds := [] }) [0, 2, 4, 13, 14, 15] [4] [] (by subst e_b5; kernel_rfl) (by kernel_rfl) ?_
      refine TI_end (by kernel_rfl) ?_
      refine thenQ_n ?_
      refine T_seq (c1 := (sub [1, 0, 1, 0, 0, 1, 0] (bodyOf Try.f58))) (c2 := (sub [1, 0, 1, 0, 0, 1, 1] (bodyOf Try.f58))) (by kernel_rfl) ?_
      cases b5 with
      | true =>
        replace h := sp_t h
        refine T_condT (x := (.tmp 15)) (c1 := (sub [1, 0, 1, 0, 0, 1, 0, 0] (bodyOf Try.f58))) (c2 := (sub [1, 0, 1, 0, 0, 1, 0, 1] (bodyOf Try.f58))) (by kernel_rfl) (by kernel_rfl) ?_
        refine T_keep (s' := { σ := [(0, .lf (.v (.pointer (some ⟨u0b, 0, none⟩)))), (2, .lf (.v (.slice Au2 (List.length u2) cu2))), (4, .lf (.own 4 0)), (13, .lf (.v (.int .i64 x1))), (14, .lf (.v (.int .i64 x3)))], H := [(4, [.arr .i64 7 u1])], V := [], M := M, ds := [] }) [0, 2, 4, 13, 14] [4] [] (by kernel_rfl) ?_
        refine T_skip (by kernel_rfl) ?_
        refine thenQ_n ?_
        refine T_seq (c1 := (sub [1, 0, 1, 0, 0, 1, 1, 0] (bodyOf Try.f58))) (c2 := (sub [1, 0, 1, 0, 0, 1, 1, 1] (bodyOf Try.f58))) (by kernel_rfl) ?_
        refine T_block (id := 1) (c1 := (sub [1, 0, 1, 0, 0, 1, 1, 0, 0] (bodyOf Try.f58))) (by kernel_rfl) ?_
        refine T_seq (c1 := (sub [1, 0, 1, 0, 0, 1, 1, 0, 0, 0] (bodyOf Try.f58))) (c2 := (sub [1, 0, 1, 0, 0, 1, 1, 0, 0, 1] (bodyOf Try.f58))) (by kernel_rfl) ?_
        refine T_region (id := 3) (by kernel_rfl) ?_
        refine TI_segK (i := 0) (j := 2) (s' := { σ := [(0, .lf (.v (.pointer (some ⟨u0b, 0, none⟩)))), (2, .lf (.v (.slice Au2 (List.length u2) cu2))), (4, .lf (.own 4 0)), (7, .lf (.v (.int .i64 x3))), (13, .lf (.v (.int .i64 x1))), (14, .lf (.v (.int .i64 x3)))], H := [(4, [.arr .i64 7 u1])], V := [], M := M, ds := [] }) [0, 2, 4, 7, 13, 14] [4] [] (by kernel_rfl) (by kernel_rfl) ?_
        refine TI_end (by kernel_rfl) ?_
        refine thenQ_n ?_
        obtain ⟨j7, e_j7, h⟩ := jn_some h
        refine T_cut (c1 := (sub [1, 0, 1, 0, 0, 1, 1, 0, 0, 1, 0] (bodyOf Try.f58))) (c2 := (sub [1, 0, 1, 0, 0, 1, 1, 0, 0, 1, 1] (bodyOf Try.f58))) (fun s' => ∃ (b6 : Bool), Sub { σ := [(0, .lf (.v (.pointer (some ⟨u0b, 0, none⟩)))), (2, .lf (.v (.slice Au2 (List.length u2) cu2))), (4, .lf (.own 4 0)), (7, .lf (.v (.int .i64 x3))), (8, .lf (.v (.bool b6))), (13, .lf (.v (.int .i64 x1))), (14, .lf (.v (.int .i64 x3)))], H := [(4, [.arr .i64 7 u1])], V := [], M := M, ds := [] } s' ∧ j7 b6 = some r) (by kernel_rfl) ?_ ?_
        · obtain ⟨b8, e_b8, h⟩ := lt_some h
          cases b8 with
          | true =>
            replace h := sp_t h
            refine T_draw' (id := 4) [] [0, 0, 0, 0, 0, 0, 0, 0, 0, 0, 0, 0, 0, 0, 0, 0, 0, 0, 0, 0, 0] (by kernel_rfl) (by kernel_rfl) (by kernel_rfl) (by kernel_rfl) [(17, .lf (.v (.int .i64 x3))), (18, .lf (.v (.bool true))), (19, .lf (.v (.bool true))), (20, .tup []), (21, .tup []), (22, .tup []), (23, .tup []), (24, .tup []), (25, .tup []), (26, .tup []), (27, .tup []), (28, .tup []), (29, .tup []), (30, .tup []), (31, .tup []), (32, .tup []), (33, .tup []), (34, .tup []), (35, .tup []), (36, .lf (.v (.bool true))), (8, .lf (.v (.bool true)))] (by kernel_rfl) ⟨trivial, ⟨trivial, ⟨trivial, ⟨(by intro y hy; cases hy), ⟨(by intro y hy; cases hy), ⟨(by intro y hy; cases hy), ⟨(by intro y hy; cases hy), ⟨(by intro y hy; cases hy), ⟨(by intro y hy; cases hy), ⟨(by intro y hy; cases hy), ⟨(by intro y hy; cases hy), ⟨(by intro y hy; cases hy), ⟨(by intro y hy; cases hy), ⟨(by intro y hy; cases hy), ⟨(by intro y hy; cases hy), ⟨(by intro y hy; cases hy), ⟨(by intro y hy; cases hy), ⟨(by intro y hy; cases hy), ⟨(by intro y hy; cases hy), ⟨trivial, ⟨trivial, trivial⟩⟩⟩⟩⟩⟩⟩⟩⟩⟩⟩⟩⟩⟩⟩⟩⟩⟩⟩⟩⟩ ?_
            refine Stage_nil (stage_all' [0, 2, 3, 4, 5, 6, 7, 8, 9, 10, 11, 12, 13, 14, 15, 16, 17, 18, 19, 20] [1] (by kernel_rfl) (by kernel_rfl) (by kernel_rfl) ⟨QF_at (i := 1) (d := 18) (x := .lf (.v (.bool true))) (show OpAt _ _ _ 1 18 (.lf (.v (.bool true))) from by exact At_bin (d := 18) (b := .eql) (u := .int .i64 x3) (v := .int .i64 (0 : Int)) (w' := .bool true) (by kernel_rfl) (by rw [show exBin .eql (.int .i64 x3) (.int .i64 (0 : Int)) = some (.bool (x3 == (0 : Int))) from by kernel_rfl, ← e_b8])) (by kernel_rfl) (by kernel_rfl), trivial⟩) ?_
            refine thenQ_n ?_
            exact ⟨true, keep_sub (ts := [0, 2, 4, 7, 8, 13, 14]) (hs := [4]) (vs := []) (by kernel_rfl), h⟩
          | false =>
            replace h := sp_f h
            obtain ⟨x9, e_x9, h⟩ := lt_some h
            obtain ⟨g10, h⟩ := gd_some h
            obtain ⟨x11, e_x11, h⟩ := lt_some h
            obtain ⟨x12, e_x12, h⟩ := lt_some h
            obtain ⟨g13, h⟩ := gd_some h
            obtain ⟨x14, e_x14, h⟩ := lt_some h
            obtain ⟨x15, e_x15, h⟩ := lt_some h
            obtain ⟨b16, e_b16, h⟩ := lt_some h
            refine T_draw' (id := 4) [] [0, 0, 0, 0, 0, 0, 0, 0, 0, 0, 0, 0, 0, 0, 0, 0, 0, 0, 0, 0, 0] (by kernel_rfl) (by kernel_rfl) (by kernel_rfl) (by kernel_rfl) [(17, .lf (.v (.int .i64 x3))), (18, .lf (.v (.bool false))), (19, .lf (.v (.bool false))), (20, .lf (.v (.pointer (some ⟨u0b, 0, none⟩)))), (21, .lf (.v (.pointer (some ⟨u0b, 0, none⟩)))), (22, .lf (.v (.pointer (some ⟨u0b, 6, none⟩)))), (23, .lf (.v (.slice u0AP (List.length u0P) u0cP))), (24, .lf (.v (.slice Au2 (List.length u2) cu2))), (25, .lf (.v (.int .i64 x3))), (26, .lf (.v (.int .i64 x9))), (27, .lf (.ep (.slice Au2 (List.length u2) cu2) 1 ((x9).toNat) 0)), (28, .lf (.v (.int .i64 x11))), (29, .lf (.v (.int .i64 x12))), (30, .lf (.ep (.slice u0AP (List.length u0P) u0cP) 2 ((x12).toNat) 0)), (31, .lf (.ep (.slice u0AP (List.length u0P) u0cP) 2 ((x12).toNat) 0)), (32, .lf (.v (.int .i64 x14))), (33, .lf (.own 4 0)), (34, .lf (.v (.int .i64 x15))), (35, .lf (.v (.bool b16))), (36, .lf (.v (.bool b16))), (8, .lf (.v (.bool b16)))] (by kernel_rfl) ⟨trivial, ⟨trivial, ⟨trivial, ⟨trivial, ⟨trivial, ⟨trivial, ⟨trivial, ⟨trivial, ⟨trivial, ⟨trivial, ⟨trivial, ⟨trivial, ⟨trivial, ⟨trivial, ⟨trivial, ⟨trivial, ⟨trivial, ⟨trivial, ⟨trivial, ⟨trivial, ⟨trivial, trivial⟩⟩⟩⟩⟩⟩⟩⟩⟩⟩⟩⟩⟩⟩⟩⟩⟩⟩⟩⟩⟩ ?_
            refine Stage_nil (stage_all' [0, 2, 3, 4, 5, 7, 8, 9, 12, 14, 16, 17, 18, 19, 20] [1, 6, 10, 11, 13, 15] (by kernel_rfl) (by subst e_b16 e_x15 e_x14 e_x12 e_x11 e_x9; kernel_rfl) (by kernel_rfl) ⟨QF_at (i := 1) (d := 18) (x := .lf (.v (.bool false))) (show OpAt _ _ _ 1 18 (.lf (.v (.bool false))) from by exact At_bin (d := 18) (b := .eql) (u := .int .i64 x3) (v := .int .i64 (0 : Int)) (w' := .bool false) (by subst e_b16 e_x15 e_x14 e_x12 e_x11 e_x9; kernel_rfl) (by rw [show exBin .eql (.int .i64 x3) (.int .i64 (0 : Int)) = some (.bool (x3 == (0 : Int))) from by kernel_rfl, ← e_b8])) (by kernel_rfl) (by subst e_b16 e_x15 e_x14 e_x12 e_x11 e_x9; kernel_rfl), ⟨QF_at (i := 6) (d := 23) (x := .lf (.v (.slice u0AP (List.length u0P) u0cP))) (show OpAt _ _ _ 6 23 (.lf (.v (.slice u0AP (List.length u0P) u0cP))) from by exact At_ldP (d := 23) (b := u0b) (off := 6) (m := 1) (v := (.slice u0AP (List.length u0P) u0cP)) (by subst e_b16 e_x15 e_x14 e_x12 e_x11 e_x9; kernel_rfl) (hu0).plc) (by kernel_rfl) (by subst e_b16 e_x15 e_x14 e_x12 e_x11 e_x9; kernel_rfl), ⟨QF_at (i := 10) (d := 27) (x := .lf (.ep (.slice Au2 (List.length u2) cu2) 1 ((x9).toNat) 0)) (show OpAt _ _ _ 10 27 (.lf (.ep (.slice Au2 (List.length u2) cu2) 1 ((x9).toNat) 0)) from by exact At_idxI (d := 27) (z := x9) (by subst e_b16 e_x15 e_x14 e_x12 e_x11 e_x9; kernel_rfl) g10 hu2) (by kernel_rfl) (by subst e_b16 e_x15 e_x14 e_x12 e_x11 e_x9; kernel_rfl), ⟨QF_at (i := 11) (d := 28) (x := .lf (.v (.int .i64 x11))) (show OpAt _ _ _ 11 28 (.lf (.v (.int .i64 x11))) from by rw [e_x11]; exact At_ldI (d := 28) (q := (x9).toNat) (by subst e_b16 e_x15 e_x14 e_x12 e_x11 e_x9; kernel_rfl) (toNat_lt g10) hu2) (by kernel_rfl) (by subst e_b16 e_x15 e_x14 e_x12 e_x11 e_x9; kernel_rfl), ⟨QF_at (i := 13) (d := 30) (x := .lf (.ep (.slice u0AP (List.length u0P) u0cP) 2 ((x12).toNat) 0)) (show OpAt _ _ _ 13 30 (.lf (.ep (.slice u0AP (List.length u0P) u0cP) 2 ((x12).toNat) 0)) from by exact At_idxR (d := 30) (z := x12) (by subst e_b16 e_x15 e_x14 e_x12 e_x11 e_x9; kernel_rfl) g13 (hu0).lP) (by kernel_rfl) (by subst e_b16 e_x15 e_x14 e_x12 e_x11 e_x9; kernel_rfl), ⟨QF_at (i := 15) (d := 32) (x := .lf (.v (.int .i64 x14))) (show OpAt _ _ _ 15 32 (.lf (.v (.int .i64 x14))) from by rw [e_x14]; exact At_ldR1 (d := 32) (q := (x12).toNat) (j := 0) (by subst e_b16 e_x15 e_x14 e_x12 e_x11 e_x9; kernel_rfl) rfl (toNat_lt g13) (hu0).lP) (by kernel_rfl) (by subst e_b16 e_x15 e_x14 e_x12 e_x11 e_x9; kernel_rfl), trivial⟩⟩⟩⟩⟩⟩) ?_
            refine thenQ_n ?_
            exact ⟨b16, keep_sub (ts := [0, 2, 4, 7, 8, 13, 14]) (hs := [4]) (vs := []) (by subst e_b16 e_x15 e_x14 e_x12 e_x11 e_x9; kernel_rfl), h⟩
        · rintro s' ⟨b6, hsub, h⟩
          subst e_j7
          refine T_sub hsub ?_
          obtain ⟨j18, e_j18, h⟩ := jn_some h
          refine T_cut (c1 := (sub [1, 0, 1, 0, 0, 1, 1, 0, 0, 1, 1, 0] (bodyOf Try.f58))) (c2 := (sub [1, 0, 1, 0, 0, 1, 1, 0, 0, 1, 1, 1] (bodyOf Try.f58))) (fun s' => ∃ (b17 : Bool), Sub { σ := [(0, .lf (.v (.pointer (some ⟨u0b, 0, none⟩)))), (2, .lf (.v (.slice Au2 (List.length u2) cu2))), (4, .lf (.own 4 0)), (7, .lf (.v (.int .i64 x3))), (8, .lf (.v (.bool b6))), (9, .lf (.v (.bool b17))), (13, .lf (.v (.int .i64 x1))), (14, .lf (.v (.int .i64 x3)))], H := [(4, [.arr .i64 7 u1])], V := [], M := M, ds := [] } s' ∧ j18 b17 = some r) (by kernel_rfl) ?_ ?_
          · obtain ⟨b19, e_b19, h⟩ := lt_some h
            cases b19 with
            | true =>
              replace h := sp_t h
              refine T_draw' (id := 5) [] [0, 0, 0, 0, 0, 0, 0, 0, 0, 0, 0, 0, 0, 0, 0, 0, 0, 0, 0, 0, 0] (by kernel_rfl) (by kernel_rfl) (by kernel_rfl) (by kernel_rfl) [(37, .lf (.v (.int .i64 x3))), (38, .lf (.v (.slice Au2 (List.length u2) cu2))), (39, .lf (.v (.int .i64 (List.length u2 : Int)))), (40, .lf (.v (.bool true))), (41, .lf (.v (.bool true))), (42, .tup []), (43, .tup []), (44, .tup []), (45, .tup []), (46, .tup []), (47, .tup []), (48, .tup []), (49, .tup []), (50, .tup []), (51, .tup []), (52, .tup []), (53, .tup []), (54, .tup []), (55, .tup []), (56, .lf (.v (.bool true))), (9, .lf (.v (.bool true)))] (by kernel_rfl) ⟨trivial, ⟨trivial, ⟨trivial, ⟨trivial, ⟨trivial, ⟨(by intro y hy; cases hy), ⟨(by intro y hy; cases hy), ⟨(by intro y hy; cases hy), ⟨(by intro y hy; cases hy), ⟨(by intro y hy; cases hy), ⟨(by intro y hy; cases hy), ⟨(by intro y hy; cases hy), ⟨(by intro y hy; cases hy), ⟨(by intro y hy; cases hy), ⟨(by intro y hy; cases hy), ⟨(by intro y hy; cases hy), ⟨(by intro y hy; cases hy), ⟨(by intro y hy; cases hy), ⟨(by intro y hy; cases hy), ⟨trivial, ⟨trivial, trivial⟩⟩⟩⟩⟩⟩⟩⟩⟩⟩⟩⟩⟩⟩⟩⟩⟩⟩⟩⟩⟩ ?_
              refine Stage_nil (stage_all' [0, 1, 2, 4, 5, 6, 7, 8, 9, 10, 11, 12, 13, 14, 15, 16, 17, 18, 19, 20] [3] (by kernel_rfl) (by kernel_rfl) (by kernel_rfl) ⟨QF_at (i := 3) (d := 40) (x := .lf (.v (.bool true))) (show OpAt _ _ _ 3 40 (.lf (.v (.bool true))) from by exact At_bin (d := 40) (b := .eql) (u := .int .i64 x3) (v := .int .i64 (List.length u2 : Int)) (w' := .bool true) (by kernel_rfl) (by rw [show exBin .eql (.int .i64 x3) (.int .i64 (List.length u2 : Int)) = some (.bool (x3 == (List.length u2 : Int))) from by kernel_rfl, ← e_b19])) (by kernel_rfl) (by kernel_rfl), trivial⟩) ?_
              refine thenQ_n ?_
              exact ⟨true, keep_sub (ts := [0, 2, 4, 7, 8, 9, 13, 14]) (hs := [4]) (vs := []) (by kernel_rfl), h⟩
            | false =>
              replace h := sp_f h
              obtain ⟨g20, h⟩ := gd_some h
              obtain ⟨x21, e_x21, h⟩ := lt_some h
              obtain ⟨g22, h⟩ := gd_some h
              obtain ⟨x23, e_x23, h⟩ := lt_some h
              obtain ⟨x24, e_x24, h⟩ := lt_some h
              obtain ⟨b25, e_b25, h⟩ := lt_some h
              refine T_draw' (id := 5) [] [0, 0, 0, 0, 0, 0, 0, 0, 0, 0, 0, 0, 0, 0, 0, 0, 0, 0, 0, 0, 0] (by kernel_rfl) (by kernel_rfl) (by kernel_rfl) (by kernel_rfl) [(37, .lf (.v (.int .i64 x3))), (38, .lf (.v (.slice Au2 (List.length u2) cu2))), (39, .lf (.v (.int .i64 (List.length u2 : Int)))), (40, .lf (.v (.bool false))), (41, .lf (.v (.bool false))), (42, .lf (.v (.pointer (some ⟨u0b, 0, none⟩)))), (43, .lf (.v (.pointer (some ⟨u0b, 0, none⟩)))), (44, .lf (.v (.pointer (some ⟨u0b, 6, none⟩)))), (45, .lf (.v (.slice u0AP (List.length u0P) u0cP))), (46, .lf (.v (.slice Au2 (List.length u2) cu2))), (47, .lf (.v (.int .i64 x3))), (48, .lf (.ep (.slice Au2 (List.length u2) cu2) 1 ((x3).toNat) 0)), (49, .lf (.v (.int .i64 x21))), (50, .lf (.ep (.slice u0AP (List.length u0P) u0cP) 2 ((x21).toNat) 0)), (51, .lf (.ep (.slice u0AP (List.length u0P) u0cP) 2 ((x21).toNat) 1)), (52, .lf (.v (.int .i64 x23))), (53, .lf (.own 4 1)), (54, .lf (.v (.int .i64 x24))), (55, .lf (.v (.bool b25))), (56, .lf (.v (.bool b25))), (9, .lf (.v (.bool b25)))] (by kernel_rfl) ⟨trivial, ⟨trivial, ⟨trivial, ⟨trivial, ⟨trivial, ⟨trivial, ⟨trivial, ⟨trivial, ⟨trivial, ⟨trivial, ⟨trivial, ⟨trivial, ⟨trivial, ⟨trivial, ⟨trivial, ⟨trivial, ⟨trivial, ⟨trivial, ⟨trivial, ⟨trivial, ⟨trivial, trivial⟩⟩⟩⟩⟩⟩⟩⟩⟩⟩⟩⟩⟩⟩⟩⟩⟩⟩⟩⟩⟩ ?_
              refine Stage_nil (stage_all' [0, 1, 2, 4, 5, 6, 7, 9, 10, 14, 16, 17, 18, 19, 20] [3, 8, 11, 12, 13, 15] (by kernel_rfl) (by subst e_b25 e_x24 e_x23 e_x21; kernel_rfl) (by kernel_rfl) ⟨QF_at (i := 3) (d := 40) (x := .lf (.v (.bool false))) (show OpAt _ _ _ 3 40 (.lf (.v (.bool false))) from by exact At_bin (d := 40) (b := .eql) (u := .int .i64 x3) (v := .int .i64 (List.length u2 : Int)) (w' := .bool false) (by subst e_b25 e_x24 e_x23 e_x21; kernel_rfl) (by rw [show exBin .eql (.int .i64 x3) (.int .i64 (List.length u2 : Int)) = some (.bool (x3 == (List.length u2 : Int))) from by kernel_rfl, ← e_b19])) (by kernel_rfl) (by subst e_b25 e_x24 e_x23 e_x21; kernel_rfl), ⟨QF_at (i := 8) (d := 45) (x := .lf (.v (.slice u0AP (List.length u0P) u0cP))) (show OpAt _ _ _ 8 45 (.lf (.v (.slice u0AP (List.length u0P) u0cP))) from by exact At_ldP (d := 45) (b := u0b) (off := 6) (m := 1) (v := (.slice u0AP (List.length u0P) u0cP)) (by subst e_b25 e_x24 e_x23 e_x21; kernel_rfl) (hu0).plc) (by kernel_rfl) (by subst e_b25 e_x24 e_x23 e_x21; kernel_rfl), ⟨QF_at (i := 11) (d := 48) (x := .lf (.ep (.slice Au2 (List.length u2) cu2) 1 ((x3).toNat) 0)) (show OpAt _ _ _ 11 48 (.lf (.ep (.slice Au2 (List.length u2) cu2) 1 ((x3).toNat) 0)) from by exact At_idxI (d := 48) (z := x3) (by subst e_b25 e_x24 e_x23 e_x21; kernel_rfl) g20 hu2) (by kernel_rfl) (by subst e_b25 e_x24 e_x23 e_x21; kernel_rfl), ⟨QF_at (i := 12) (d := 49) (x := .lf (.v (.int .i64 x21))) (show OpAt _ _ _ 12 49 (.lf (.v (.int .i64 x21))) from by rw [e_x21]; exact At_ldI (d := 49) (q := (x3).toNat) (by subst e_b25 e_x24 e_x23 e_x21; kernel_rfl) (toNat_lt g20) hu2) (by kernel_rfl) (by subst e_b25 e_x24 e_x23 e_x21; kernel_rfl), ⟨QF_at (i := 13) (d := 50) (x := .lf (.ep (.slice u0AP (List.length u0P) u0cP) 2 ((x21).toNat) 0)) (show OpAt _ _ _ 13 50 (.lf (.ep (.slice u0AP (List.length u0P) u0cP) 2 ((x21).toNat) 0)) from by exact At_idxR (d := 50) (z := x21) (by subst e_b25 e_x24 e_x23 e_x21; kernel_rfl) g22 (hu0).lP) (by kernel_rfl) (by subst e_b25 e_x24 e_x23 e_x21; kernel_rfl), ⟨QF_at (i := 15) (d := 52) (x := .lf (.v (.int .i64 x23))) (show OpAt _ _ _ 15 52 (.lf (.v (.int .i64 x23))) from by rw [e_x23]; exact At_ldR1 (d := 52) (q := (x21).toNat) (j := 1) (by subst e_b25 e_x24 e_x23 e_x21; kernel_rfl) rfl (toNat_lt g22) (hu0).lP) (by kernel_rfl) (by subst e_b25 e_x24 e_x23 e_x21; kernel_rfl), trivial⟩⟩⟩⟩⟩⟩) ?_
              refine thenQ_n ?_
              exact ⟨b25, keep_sub (ts := [0, 2, 4, 7, 8, 9, 13, 14]) (hs := [4]) (vs := []) (by subst e_b25 e_x24 e_x23 e_x21; kernel_rfl), h⟩
          · rintro s' ⟨b17, hsub, h⟩
            subst e_j18
            refine T_sub hsub ?_
            obtain ⟨j27, e_j27, h⟩ := jn_some h
            refine T_cut (c1 := (sub [1, 0, 1, 0, 0, 1, 1, 0, 0, 1, 1, 1, 0] (bodyOf Try.f58))) (c2 := (sub [1, 0, 1, 0, 0, 1, 1, 0, 0, 1, 1, 1, 1] (bodyOf Try.f58))) (fun s' => ∃ (b26 : Bool), Sub { σ := [(0, .lf (.v (.pointer (some ⟨u0b, 0, none⟩)))), (2, .lf (.v (.slice Au2 (List.length u2) cu2))), (4, .lf (.own 4 0)), (7, .lf (.v (.int .i64 x3))), (8, .lf (.v (.bool b6))), (9, .lf (.v (.bool b17))), (10, .lf (.v (.bool b26))), (13, .lf (.v (.int .i64 x1))), (14, .lf (.v (.int .i64 x3)))], H := [(4, [.arr .i64 7 u1])], V := [], M := M, ds := [] } s' ∧ j27 b26 = some r) (by kernel_rfl) ?_ ?_
            · obtain ⟨b28, e_b28, h⟩ := lt_some h
              cases b28 with
              | true =>
                replace h := sp_t h
                refine T_draw' (id := 6) [] [0, 0, 0, 0, 0, 0, 0, 0, 0, 0, 0, 0, 0, 0, 0, 0, 0, 0, 0, 0, 0, 0] (by kernel_rfl) (by kernel_rfl) (by kernel_rfl) (by kernel_rfl) [(57, .lf (.v (.int .i64 x3))), (58, .lf (.v (.bool true))), (59, .lf (.v (.bool true))), (60, .tup []), (61, .tup []), (62, .tup []), (63, .tup []), (64, .lf (.v (.bool true))), (65, .lf (.v (.bool true))), (66, .tup []), (67, .tup []), (68, .tup []), (69, .tup []), (70, .tup []), (71, .tup []), (72, .tup []), (73, .tup []), (74, .tup []), (75, .tup []), (76, .tup []), (77, .lf (.v (.bool true))), (10, .lf (.v (.bool true)))] (by kernel_rfl) ⟨trivial, ⟨trivial, ⟨trivial, ⟨(by intro y hy; cases hy), ⟨(by intro y hy; cases hy), ⟨(by intro y hy; cases hy), ⟨(by intro y hy; cases hy), ⟨trivial, ⟨trivial, ⟨(by intro y hy; cases hy), ⟨(by intro y hy; cases hy), ⟨(by intro y hy; cases hy), ⟨(by intro y hy; cases hy), ⟨(by intro y hy; cases hy), ⟨(by intro y hy; cases hy), ⟨(by intro y hy; cases hy), ⟨(by intro y hy; cases hy), ⟨(by intro y hy; cases hy), ⟨(by intro y hy; cases hy), ⟨(by intro y hy; cases hy), ⟨trivial, ⟨trivial, trivial⟩⟩⟩⟩⟩⟩⟩⟩⟩⟩⟩⟩⟩⟩⟩⟩⟩⟩⟩⟩⟩⟩ ?_
                refine Stage_nil (stage_all' [0, 2, 3, 4, 5, 6, 7, 8, 9, 10, 11, 12, 13, 14, 15, 16, 17, 18, 19, 20, 21] [1] (by kernel_rfl) (by kernel_rfl) (by kernel_rfl) ⟨QF_at (i := 1) (d := 58) (x := .lf (.v (.bool true))) (show OpAt _ _ _ 1 58 (.lf (.v (.bool true))) from by exact At_bin (d := 58) (b := .eql) (u := .int .i64 x3) (v := .int .i64 (0 : Int)) (w' := .bool true) (by kernel_rfl) (by rw [show exBin .eql (.int .i64 x3) (.int .i64 (0 : Int)) = some (.bool (x3 == (0 : Int))) from by kernel_rfl, ← e_b28])) (by kernel_rfl) (by kernel_rfl), trivial⟩) ?_
                refine thenQ_n ?_
                exact ⟨true, keep_sub (ts := [0, 2, 4, 7, 8, 9, 10, 13, 14]) (hs := [4]) (vs := []) (by kernel_rfl), h⟩
              | false =>
                replace h := sp_f h
                obtain ⟨b29, e_b29, h⟩ := lt_some h
                cases b29 with
                | true =>
                  replace h := sp_t h
                  refine T_draw' (id := 6) [] [0, 0, 0, 0, 0, 0, 0, 0, 0, 0, 0, 0, 0, 0, 0, 0, 0, 0, 0, 0, 0, 0] (by kernel_rfl) (by kernel_rfl) (by kernel_rfl) (by kernel_rfl) [(57, .lf (.v (.int .i64 x3))), (58, .lf (.v (.bool false))), (59, .lf (.v (.bool false))), (60, .lf (.v (.int .i64 x3))), (61, .lf (.v (.slice Au2 (List.length u2) cu2))), (62, .lf (.v (.int .i64 (List.length u2 : Int)))), (63, .lf (.v (.bool true))), (64, .lf (.v (.bool true))), (65, .lf (.v (.bool true))), (66, .tup []), (67, .tup []), (68, .tup []), (69, .tup []), (70, .tup []), (71, .tup []), (72, .tup []), (73, .tup []), (74, .tup []), (75, .tup []), (76, .tup []), (77, .lf (.v (.bool true))), (10, .lf (.v (.bool true)))] (by kernel_rfl) ⟨trivial, ⟨trivial, ⟨trivial, ⟨trivial, ⟨trivial, ⟨trivial, ⟨trivial, ⟨trivial, ⟨trivial, ⟨(by intro y hy; cases hy), ⟨(by intro y hy; cases hy), ⟨(by intro y hy; cases hy), ⟨(by intro y hy; cases hy), ⟨(by intro y hy; cases hy), ⟨(by intro y hy; cases hy), ⟨(by intro y hy; cases hy), ⟨(by intro y hy; cases hy), ⟨(by intro y hy; cases hy), ⟨(by intro y hy; cases hy), ⟨(by intro y hy; cases hy), ⟨trivial, ⟨trivial, trivial⟩⟩⟩⟩⟩⟩⟩⟩⟩⟩⟩⟩⟩⟩⟩⟩⟩⟩⟩⟩⟩⟩ ?_
                  refine Stage_nil (stage_all' [0, 2, 3, 4, 5, 7, 8, 9, 10, 11, 12, 13, 14, 15, 16, 17, 18, 19, 20, 21] [1, 6] (by kernel_rfl) (by kernel_rfl) (by kernel_rfl) ⟨QF_at (i := 1) (d := 58) (x := .lf (.v (.bool false))) (show OpAt _ _ _ 1 58 (.lf (.v (.bool false))) from by exact At_bin (d := 58) (b := .eql) (u := .int .i64 x3) (v := .int .i64 (0 : Int)) (w' := .bool false) (by kernel_rfl) (by rw [show exBin .eql (.int .i64 x3) (.int .i64 (0 : Int)) = some (.bool (x3 == (0 : Int))) from by kernel_rfl, ← e_b28])) (by kernel_rfl) (by kernel_rfl), ⟨QF_at (i := 6) (d := 63) (x := .lf (.v (.bool true))) (show OpAt _ _ _ 6 63 (.lf (.v (.bool true))) from by exact At_bin (d := 63) (b := .eql) (u := .int .i64 x3) (v := .int .i64 (List.length u2 : Int)) (w' := .bool true) (by kernel_rfl) (by rw [show exBin .eql (.int .i64 x3) (.int .i64 (List.length u2 : Int)) = some (.bool (x3 == (List.length u2 : Int))) from by kernel_rfl, ← e_b29])) (by kernel_rfl) (by kernel_rfl), trivial⟩⟩) ?_
                  refine thenQ_n ?_
                  exact ⟨true, keep_sub (ts := [0, 2, 4, 7, 8, 9, 10, 13, 14]) (hs := [4]) (vs := []) (by kernel_rfl), h⟩
                | false =>
                  replace h := sp_f h
                  obtain ⟨g30, h⟩ := gd_some h
                  obtain ⟨x31, e_x31, h⟩ := lt_some h
                  obtain ⟨x32, e_x32, h⟩ := lt_some h
                  obtain ⟨g33, h⟩ := gd_some h
                  obtain ⟨x34, e_x34, h⟩ := lt_some h
                  obtain ⟨x35, e_x35, h⟩ := lt_some h
                  obtain ⟨b36, e_b36, h⟩ := lt_some h
                  refine T_draw' (id := 6) [] [0, 0, 0, 0, 0, 0, 0, 0, 0, 0, 0, 0, 0, 0, 0, 0, 0, 0, 0, 0, 0, 0] (by kernel_rfl) (by kernel_rfl) (by kernel_rfl) (by kernel_rfl) [(57, .lf (.v (.int .i64 x3))), (58, .lf (.v (.bool false))), (59, .lf (.v (.bool false))), (60, .lf (.v (.int .i64 x3))), (61, .lf (.v (.slice Au2 (List.length u2) cu2))), (62, .lf (.v (.int .i64 (List.length u2 : Int)))), (63, .lf (.v (.bool false))), (64, .lf (.v (.bool false))), (65, .lf (.v (.bool false))), (66, .lf (.v (.slice Au2 (List.length u2) cu2))), (67, .lf (.v (.int .i64 x3))), (68, .lf (.ep (.slice Au2 (List.length u2) cu2) 1 ((x3).toNat) 0)), (69, .lf (.v (.int .i64 x31))), (70, .lf (.v (.slice Au2 (List.length u2) cu2))), (71, .lf (.v (.int .i64 x3))), (72, .lf (.v (.int .i64 x32))), (73, .lf (.ep (.slice Au2 (List.length u2) cu2) 1 ((x32).toNat) 0)), (74, .lf (.v (.int .i64 x34))), (75, .lf (.v (.int .i64 x35))), (76, .lf (.v (.bool b36))), (77, .lf (.v (.bool b36))), (10, .lf (.v (.bool b36)))] (by kernel_rfl) ⟨trivial, ⟨trivial, ⟨trivial, ⟨trivial, ⟨trivial, ⟨trivial, ⟨trivial, ⟨trivial, ⟨trivial, ⟨trivial, ⟨trivial, ⟨trivial, ⟨trivial, ⟨trivial, ⟨trivial, ⟨trivial, ⟨trivial, ⟨trivial, ⟨trivial, ⟨trivial, ⟨trivial, ⟨trivial, trivial⟩⟩⟩⟩⟩⟩⟩⟩⟩⟩⟩⟩⟩⟩⟩⟩⟩⟩⟩⟩⟩⟩ ?_
                  refine Stage_nil (stage_all' [0, 2, 3, 4, 5, 7, 8, 9, 10, 13, 14, 15, 18, 19, 20, 21] [1, 6, 11, 12, 16, 17] (by kernel_rfl) (by subst e_b36 e_x35 e_x34 e_x32 e_x31; kernel_rfl) (by kernel_rfl) ⟨QF_at (i := 1) (d := 58) (x := .lf (.v (.bool false))) (show OpAt _ _ _ 1 58 (.lf (.v (.bool false))) from by exact At_bin (d := 58) (b := .eql) (u := .int .i64 x3) (v := .int .i64 (0 : Int)) (w' := .bool false) (by subst e_b36 e_x35 e_x34 e_x32 e_x31; kernel_rfl) (by rw [show exBin .eql (.int .i64 x3) (.int .i64 (0 : Int)) = some (.bool (x3 == (0 : Int))) from by kernel_rfl, ← e_b28])) (by kernel_rfl) (by subst e_b36 e_x35 e_x34 e_x32 e_x31; kernel_rfl), ⟨QF_at (i := 6) (d := 63) (x := .lf (.v (.bool false))) (show OpAt _ _ _ 6 63 (.lf (.v (.bool false))) from by exact At_bin (d := 63) (b := .eql) (u := .int .i64 x3) (v := .int .i64 (List.length u2 : Int)) (w' := .bool false) (by subst e_b36 e_x35 e_x34 e_x32 e_x31; kernel_rfl) (by rw [show exBin .eql (.int .i64 x3) (.int .i64 (List.length u2 : Int)) = some (.bool (x3 == (List.length u2 : Int))) from by kernel_rfl, ← e_b29])) (by kernel_rfl) (by subst e_b36 e_x35 e_x34 e_x32 e_x31; kernel_rfl), ⟨QF_at (i := 11) (d := 68) (x := .lf (.ep (.slice Au2 (List.length u2) cu2) 1 ((x3).toNat) 0)) (show OpAt _ _ _ 11 68 (.lf (.ep (.slice Au2 (List.length u2) cu2) 1 ((x3).toNat) 0)) from by exact At_idxI (d := 68) (z := x3) (by subst e_b36 e_x35 e_x34 e_x32 e_x31; kernel_rfl) g30 hu2) (by kernel_rfl) (by subst e_b36 e_x35 e_x34 e_x32 e_x31; kernel_rfl), ⟨QF_at (i := 12) (d := 69) (x := .lf (.v (.int .i64 x31))) (show OpAt _ _ _ 12 69 (.lf (.v (.int .i64 x31))) from by rw [e_x31]; exact At_ldI (d := 69) (q := (x3).toNat) (by subst e_b36 e_x35 e_x34 e_x32 e_x31; kernel_rfl) (toNat_lt g30) hu2) (by kernel_rfl) (by subst e_b36 e_x35 e_x34 e_x32 e_x31; kernel_rfl), ⟨QF_at (i := 16) (d := 73) (x := .lf (.ep (.slice Au2 (List.length u2) cu2) 1 ((x32).toNat) 0)) (show OpAt _ _ _ 16 73 (.lf (.ep (.slice Au2 (List.length u2) cu2) 1 ((x32).toNat) 0)) from by exact At_idxI (d := 73) (z := x32) (by subst e_b36 e_x35 e_x34 e_x32 e_x31; kernel_rfl) g33 hu2) (by kernel_rfl) (by subst e_b36 e_x35 e_x34 e_x32 e_x31; kernel_rfl), ⟨QF_at (i := 17) (d := 74) (x := .lf (.v (.int .i64 x34))) (show OpAt _ _ _ 17 74 (.lf (.v (.int .i64 x34))) from by rw [e_x34]; exact At_ldI (d := 74) (q := (x32).toNat) (by subst e_b36 e_x35 e_x34 e_x32 e_x31; kernel_rfl) (toNat_lt g33) hu2) (by kernel_rfl) (by subst e_b36 e_x35 e_x34 e_x32 e_x31; kernel_rfl), trivial⟩⟩⟩⟩⟩⟩) ?_
                  refine thenQ_n ?_
                  exact ⟨b36, keep_sub (ts := [0, 2, 4, 7, 8, 9, 10, 13, 14]) (hs := [4]) (vs := []) (by subst e_b36 e_x35 e_x34 e_x32 e_x31; kernel_rfl), h⟩
            · rintro s' ⟨b26, hsub, h⟩
              subst e_j27
              refine T_sub hsub ?_
              obtain ⟨j38, e_j38, h⟩ := jn_some h
              refine T_cut (c1 := (sub [1, 0, 1, 0, 0, 1, 1, 0, 0, 1, 1, 1, 1, 0] (bodyOf Try.f58))) (c2 := (sub [1, 0, 1, 0, 0, 1, 1, 0, 0, 1, 1, 1, 1, 1] (bodyOf Try.f58))) (fun s' => ∃ (b37 : Bool), Sub { σ := [(0, .lf (.v (.pointer (some ⟨u0b, 0, none⟩)))), (2, .lf (.v (.slice Au2 (List.length u2) cu2))), (4, .lf (.own 4 0)), (7, .lf (.v (.int .i64 x3))), (13, .lf (.v (.int .i64 x1))), (14, .lf (.v (.int .i64 x3))), (84, .lf (.v (.bool b37)))], H := [(4, [.arr .i64 7 u1])], V := [], M := M, ds := [] } s' ∧ j38 b37 = some r) (by kernel_rfl) ?_ ?_
              · refine T_region (id := 7) (by kernel_rfl) ?_
                refine TI_segK (i := 0) (j := 2) (s' := { σ := [(0, .lf (.v (.pointer (some ⟨u0b, 0, none⟩)))), (2, .lf (.v (.slice Au2 (List.length u2) cu2))), (4, .lf (.own 4 0)), (7, .lf (.v (.int .i64 x3))), (9, .lf (.v (.bool b17))), (10, .lf (.v (.bool b26))), (13, .lf (.v (.int .i64 x1))), (14, .lf (.v (.int .i64 x3))), (79, .lf (.v (.bool b6)))], H := [(4, [.arr .i64 7 u1])], V := [], M := M, ds := [] }) [0, 2, 4, 7, 9, 10, 13, 14, 79] [4] [] (by kernel_rfl) (by kernel_rfl) ?_
                cases b6 with
                | true =>
                  replace h := sp_t h
                  refine TI_segK (i := 2) (j := 5) (s' := { σ := [(0, .lf (.v (.pointer (some ⟨u0b, 0, none⟩)))), (2, .lf (.v (.slice Au2 (List.length u2) cu2))), (4, .lf (.own 4 0)), (7, .lf (.v (.int .i64 x3))), (10, .lf (.v (.bool b26))), (13, .lf (.v (.int .i64 x1))), (14, .lf (.v (.int .i64 x3))), (82, .lf (.v (.bool b17)))], H := [(4, [.arr .i64 7 u1])], V := [], M := M, ds := [] }) [0, 2, 4, 7, 10, 13, 14, 82] [4] [] (by kernel_rfl) (by kernel_rfl) ?_
                  cases b17 with
                  | true =>
                    replace h := sp_t h
                    refine TI_segK (i := 5) (j := 7) (s' := { σ := [(0, .lf (.v (.pointer (some ⟨u0b, 0, none⟩)))), (2, .lf (.v (.slice Au2 (List.length u2) cu2))), (4, .lf (.own 4 0)), (7, .lf (.v (.int .i64 x3))), (13, .lf (.v (.int .i64 x1))), (14, .lf (.v (.int .i64 x3))), (84, .lf (.v (.bool b26)))], H := [(4, [.arr .i64 7 u1])], V := [], M := M, ds := [] }) [0, 2, 4, 7, 13, 14, 84] [4] [] (by kernel_rfl) (by kernel_rfl) ?_
                    refine TI_end (by kernel_rfl) ?_
                    refine thenQ_n ?_
                    exact ⟨b26, keep_sub (ts := [0, 2, 4, 7, 13, 14, 84]) (hs := [4]) (vs := []) (by kernel_rfl), h⟩
                  | false =>
                    replace h := sp_f h
                    refine TI_segK (i := 5) (j := 7) (s' := { σ := [(0, .lf (.v (.pointer (some ⟨u0b, 0, none⟩)))), (2, .lf (.v (.slice Au2 (List.length u2) cu2))), (4, .lf (.own 4 0)), (7, .lf (.v (.int .i64 x3))), (13, .lf (.v (.int .i64 x1))), (14, .lf (.v (.int .i64 x3))), (84, .lf (.v (.bool false)))], H := [(4, [.arr .i64 7 u1])], V := [], M := M, ds := [] }) [0, 2, 4, 7, 13, 14, 84] [4] [] (by kernel_rfl) (by kernel_rfl) ?_
                    refine TI_end (by kernel_rfl) ?_
                    refine thenQ_n ?_
                    exact ⟨false, keep_sub (ts := [0, 2, 4, 7, 13, 14, 84]) (hs := [4]) (vs := []) (by kernel_rfl), h⟩
                | false =>
                  replace h := sp_f h
                  refine TI_segK (i := 2) (j := 7) (s' := { σ := [(0, .lf (.v (.pointer (some ⟨u0b, 0, none⟩)))), (2, .lf (.v (.slice Au2 (List.length u2) cu2))), (4, .lf (.own 4 0)), (7, .lf (.v (.int .i64 x3))), (13, .lf (.v (.int .i64 x1))), (14, .lf (.v (.int .i64 x3))), (84, .lf (.v (.bool false)))], H := [(4, [.arr .i64 7 u1])], V := [], M := M, ds := [] }) [0, 2, 4, 7, 13, 14, 84] [4] [] (by kernel_rfl) (by kernel_rfl) ?_
                  refine TI_end (by kernel_rfl) ?_
                  refine thenQ_n ?_
                  exact ⟨false, keep_sub (ts := [0, 2, 4, 7, 13, 14, 84]) (hs := [4]) (vs := []) (by kernel_rfl), h⟩
              · rintro s' ⟨b37, hsub, h⟩
                subst e_j38
                refine T_sub hsub ?_
                cases b37 with
                | true =>
                  replace h := sp_t h
                  refine T_condT (x := (.tmp 84)) (c1 := (sub [1, 0, 1, 0, 0, 1, 1, 0, 0, 1, 1, 1, 1, 1, 0] (bodyOf Try.f58))) (c2 := (sub [1, 0, 1, 0, 0, 1, 1, 0, 0, 1, 1, 1, 1, 1, 1] (bodyOf Try.f58))) (by kernel_rfl) (by kernel_rfl) ?_
                  refine T_keep (s' := { σ := [(7, .lf (.v (.int .i64 x3)))], H := [], V := [], M := M, ds := [] }) [7] [] [] (by kernel_rfl) ?_
                  refine T_seq (c1 := (sub [1, 0, 1, 0, 0, 1, 1, 0, 0, 1, 1, 1, 1, 1, 0, 0] (bodyOf Try.f58))) (c2 := (sub [1, 0, 1, 0, 0, 1, 1, 0, 0, 1, 1, 1, 1, 1, 0, 1] (bodyOf Try.f58))) (by kernel_rfl) ?_
                  refine T_region (id := 8) (by kernel_rfl) ?_
                  refine TI_segK (i := 0) (j := 2) (s' := { σ := [(6, .lf (.v (.int .i64 x3)))], H := [], V := [], M := M, ds := [] }) [6] [] [] (by kernel_rfl) (by kernel_rfl) ?_
                  refine TI_end (by kernel_rfl) ?_
                  refine thenQ_n ?_
                  refine T_ret (by kernel_rfl) ?_
                  refine blockQ_r ?_
                  refine thenQ_r ?_
                  refine thenQ_r ?_
                  refine blockQ_r ?_
                  refine thenQ_r ?_
                  refine thenQ_r ?_
                  have h := Option.some.inj h
                  subst h
                  refine fin_ret (.lf (.v (.int .i64 x3))) (by kernel_rfl) (by kernel_rfl) rfl ?_
                  rfl
                | false =>
                  replace h := sp_f h
                  refine T_condF (x := (.tmp 84)) (c1 := (sub [1, 0, 1, 0, 0, 1, 1, 0, 0, 1, 1, 1, 1, 1, 0] (bodyOf Try.f58))) (c2 := (sub [1, 0, 1, 0, 0, 1, 1, 0, 0, 1, 1, 1, 1, 1, 1] (bodyOf Try.f58))) (by kernel_rfl) (by kernel_rfl) ?_
                  refine T_keep (s' := { σ := [(0, .lf (.v (.pointer (some ⟨u0b, 0, none⟩)))), (2, .lf (.v (.slice Au2 (List.length u2) cu2))), (4, .lf (.own 4 0)), (13, .lf (.v (.int .i64 x1))), (14, .lf (.v (.int .i64 x3)))], H := [(4, [.arr .i64 7 u1])], V := [], M := M, ds := [] }) [0, 2, 4, 13, 14] [4] [] (by kernel_rfl) ?_
                  refine T_skip (by kernel_rfl) ?_
                  refine blockQ_n ?_
                  refine thenQ_n ?_
                  refine T_region (id := 9) (by kernel_rfl) ?_
                  obtain ⟨x39, e_x39, h⟩ := lt_some h
                  refine TI_segK (i := 0) (j := 2) (s' := { σ := [(0, .lf (.v (.pointer (some ⟨u0b, 0, none⟩)))), (2, .lf (.v (.slice Au2 (List.length u2) cu2))), (4, .lf (.own 4 0)), (13, .lf (.v (.int .i64 x1))), (14, .lf (.v (.int .i64 x39)))], H := [(4, [.arr .i64 7 u1])], V := [], M := M, ds := [] }) [0, 2, 4, 13, 14] [4] [] (by subst e_x39; kernel_rfl) (by kernel_rfl) ?_
                  refine TI_end (by kernel_rfl) ?_
                  refine thenQ_n ?_
                  exact ⟨n4, Nat.lt_succ_self _, x39, keep_sub (ts := [0, 2, 4, 13, 14]) (hs := [4]) (vs := []) (by kernel_rfl), h⟩
      | false =>
        replace h := sp_f h
        refine T_condF (x := (.tmp 15)) (c1 := (sub [1, 0, 1, 0, 0, 1, 0, 0] (bodyOf Try.f58))) (c2 := (sub [1, 0, 1, 0, 0, 1, 0, 1] (bodyOf Try.f58))) (by kernel_rfl) (by kernel_rfl) ?_
        refine T_keep (s' := { σ := [], H := [], V := [], M := M, ds := [] }) [] [] [] (by kernel_rfl) ?_
        refine T_exit (id := 0) (by kernel_rfl) ?_
        refine thenQ_x ?_
        refine thenQ_x ?_
        refine blockQ_x ?_
        refine thenQ_n ?_
        exact ⟨keep_sub (ts := []) (hs := []) (vs := []) (by kernel_rfl), h⟩
  · rintro s' ⟨hsub, h⟩
    subst e_j2
    refine thenQ_n ?_
    refine T_sub hsub ?_
    refine T_seq (c1 := (sub [1, 1, 0] (bodyOf Try.f58))) (c2 := (sub [1, 1, 1] (bodyOf Try.f58))) (by kernel_rfl) ?_
    refine T_region (id := 10) (by kernel_rfl) ?_
    refine TI_segK (i := 0) (j := 1) (s' := { σ := [(6, .lf (.v (.int .i64 (-1 : Int))))], H := [], V := [], M := M, ds := [] }) [6] [] [] (by kernel_rfl) (by kernel_rfl) ?_
    refine TI_end (by kernel_rfl) ?_
    refine thenQ_n ?_
    refine T_ret (by kernel_rfl) ?_
    have h := Option.some.inj h
    subst h
    refine fin_ret (.lf (.v (.int .i64 (-1 : Int)))) (by kernel_rfl) (by kernel_rfl) rfl ?_
    rfl
end Go.Proofs.Ythjkejbgknemgaa
