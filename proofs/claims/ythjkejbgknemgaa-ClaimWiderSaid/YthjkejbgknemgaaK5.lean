/- The law ClaimWider holds of every input. No condition: every theorem names its own hypotheses. -/
import Derived.Test.YthjkejbgknemgaaK4
import Derived.Test.YthjkejbgknemgaaProg
import Derived.Test.YthjkejbgknemgaaRows
set_option linter.unusedVariables false
set_option linter.unusedSimpArgs false
namespace Go.Proofs.Ythjkejbgknemgaa
open Go.RowKit
/-- gooseneck claim.about -/
def p43 (k : Nat) (u0_0 : List (List Int)) (u0_1 : List Int) (u1 : List Int) : Option (Option CT × Int) :=
  cl2 (p46 k u0_0 u0_1) fun v2 v3 => lt' (v3 != (0 : Int)) fun b6 => sp b6 (some (none, v3)) (cl (p32 k u1) fun v7 => some (v2, v7))
theorem hf43 : Try.prog.funcs[43]? = some Try.f43 := by kernel_rfl
theorem w43 (k : Nat) {M : Mem} {Au0_0 : Option Addr} {cu0_0 : Nat} {u0_0 : List (List Int)} {u0_1 : List Int} {u1 : List Int} (hu0_0 : SlR M Au0_0 cu0_0 .i64 11 u0_0) (hu0_1 : u0_1.length = 4) (hu1 : u1.length = 7) {r} (h : p43 k u0_0 u0_1 u1 = some r) :
    Fn Try.prog 43 [rval (.agg [.one (.v (.slice Au0_0 (List.length u0_0) cu0_0)), .arr .i64 4 u0_1]), rval (.agg [.arr .i64 7 u1])] M (fun x M' => ∃ (q1 : Value), x = .tup [(some (.v q1), []), (some (.v (.int .i64 r.2)), [])] ∧ PtrR M' q1 r.1) := by
  unfold p43 at h
  refine Fn_of (P := Try.prog) (fn := Try.f43) (c := bodyOf Try.f43) [.agg [.one (.v (.slice Au0_0 (List.length u0_0) cu0_0)), .arr .i64 4 u0_1], .agg [.arr .i64 7 u1]] hf43 (by kernel_rfl) (Nat.le_of_ble_eq_true (by kernel_rfl)) (args_ok (by kernel_rfl) ⟨⟨rfl, ⟨hu0_1, trivial⟩⟩, ⟨⟨hu1, trivial⟩, trivial⟩⟩) fun w => ?_
  change T _ _ _ (endQ _ _ _)
  refine T_seq (c1 := (sub [0] (bodyOf Try.f43))) (c2 := (sub [1] (bodyOf Try.f43))) (by kernel_rfl) ?_
  refine T_region (id := 0) (by kernel_rfl) ?_
  refine TI_segK (i := 0) (j := 4) (s' := { σ := [(2, .lf (.own 2 0)), (3, .lf (.own 3 0))], H := [(2, [.one (.v (.slice Au0_0 (List.length u0_0) cu0_0)), .arr .i64 4 u0_1]), (3, [.arr .i64 7 u1])], V := [], M := M, ds := [] }) [2, 3] [2, 3] [] (by kernel_rfl) (by kernel_rfl) ?_
  refine TI_end (by kernel_rfl) ?_
  refine thenQ_n ?_
  refine T_seq (c1 := (sub [1, 0] (bodyOf Try.f43))) (c2 := (sub [1, 1] (bodyOf Try.f43))) (by kernel_rfl) ?_
  refine T_region (id := 1) (by kernel_rfl) ?_
  refine TI_segK (i := 0) (j := 1) (s' := { σ := [(3, .lf (.own 3 0)), (9, .agg [.one (.v (.slice Au0_0 (List.length u0_0) cu0_0)), .arr .i64 4 u0_1])], H := [(3, [.arr .i64 7 u1])], V := [], M := M, ds := [] }) [3, 9] [3] [] (by kernel_rfl) (by kernel_rfl) ?_
  obtain ⟨v2, v3, c_v2, h⟩ := cl2_some h
  refine TI_of (i := 1) (by kernel_rfl) (TE_callR (d := 10) (f := 46) (args := [rval (.agg [.one (.v (.slice Au0_0 (List.length u0_0) cu0_0)), .arr .i64 4 u0_1])]) (by kernel_rfl) (by kernel_rfl) (w46 k hu0_0 hu0_1 c_v2) ?_)
  rintro _ M5 _ hM5 _ ⟨q4, rfl, fq4⟩
  refine TI_segK (i := 2) (j := 7) (s' := { σ := [(3, .lf (.own 3 0)), (6, .lf (.v q4)), (7, .lf (.v (.int .i64 v3)))], H := [(3, [.arr .i64 7 u1])], V := [], M := M5, ds := [] }) [3, 6, 7] [3] [] (by kernel_rfl) (by kernel_rfl) ?_
  refine TI_end (by kernel_rfl) ?_
  refine thenQ_n ?_
  refine T_seq (c1 := (sub [1, 1, 0] (bodyOf Try.f43))) (c2 := (sub [1, 1, 1] (bodyOf Try.f43))) (by kernel_rfl) ?_
  refine T_seq (c1 := (sub [1, 1, 0, 0] (bodyOf Try.f43))) (c2 := (sub [1, 1, 0, 1] (bodyOf Try.f43))) (by kernel_rfl) ?_
  refine T_region (id := 2) (by kernel_rfl) ?_
  obtain ⟨b6, e_b6, h⟩ := lt_some h
  refine TI_segK (i := 0) (j := 2) (s' := { σ := [(3, .lf (.own 3 0)), (6, .lf (.v q4)), (7, .lf (.v (.int .i64 v3))), (14, .lf (.v (.bool b6)))], H := [(3, [.arr .i64 7 u1])], V := [], M := M5, ds := [] }) [3, 6, 7, 14] [3] [] (by subst e_b6; kernel_rfl) (by kernel_rfl) ?_
  refine TI_end (by kernel_rfl) ?_
  refine thenQ_n ?_
  cases b6 with
  | true =>
    replace h := sp_t h
    refine T_condT (x := (.tmp 14)) (c1 := (sub [1, 1, 0, 1, 0] (bodyOf Try.f43))) (c2 := (sub [1, 1, 0, 1, 1] (bodyOf Try.f43))) (by kernel_rfl) (by kernel_rfl) ?_
    refine T_keep (s' := { σ := [(7, .lf (.v (.int .i64 v3)))], H := [], V := [], M := M5, ds := [] }) [7] [] [] (by kernel_rfl) ?_
    refine T_seq (c1 := (sub [1, 1, 0, 1, 0, 0] (bodyOf Try.f43))) (c2 := (sub [1, 1, 0, 1, 0, 1] (bodyOf Try.f43))) (by kernel_rfl) ?_
    refine T_region (id := 3) (by kernel_rfl) ?_
    refine TI_segK (i := 0) (j := 3) (s' := { σ := [(4, .lf (.v (.pointer none))), (5, .lf (.v (.int .i64 v3)))], H := [], V := [], M := M5, ds := [] }) [4, 5] [] [] (by kernel_rfl) (by kernel_rfl) ?_
    refine TI_end (by kernel_rfl) ?_
    refine thenQ_n ?_
    refine T_ret (by kernel_rfl) ?_
    refine thenQ_r ?_
    have h := Option.some.inj h
    subst h
    refine fin_ret (.tup [(some (.v (.pointer none)), []), (some (.v (.int .i64 v3)), [])]) (by kernel_rfl) (by kernel_rfl) rfl ?_
    exact ⟨(.pointer none), rfl, rfl⟩
  | false =>
    replace h := sp_f h
    refine T_condF (x := (.tmp 14)) (c1 := (sub [1, 1, 0, 1, 0] (bodyOf Try.f43))) (c2 := (sub [1, 1, 0, 1, 1] (bodyOf Try.f43))) (by kernel_rfl) (by kernel_rfl) ?_
    refine T_keep (s' := { σ := [(3, .lf (.own 3 0)), (6, .lf (.v q4))], H := [(3, [.arr .i64 7 u1])], V := [], M := M5, ds := [] }) [3, 6] [3] [] (by kernel_rfl) ?_
    refine T_skip (by kernel_rfl) ?_
    refine thenQ_n ?_
    refine T_seq (c1 := (sub [1, 1, 1, 0] (bodyOf Try.f43))) (c2 := (sub [1, 1, 1, 1] (bodyOf Try.f43))) (by kernel_rfl) ?_
    refine T_region (id := 4) (by kernel_rfl) ?_
    refine TI_segK (i := 0) (j := 2) (s' := { σ := [(16, .lf (.v q4)), (17, .agg [.arr .i64 7 u1])], H := [], V := [], M := M5, ds := [] }) [16, 17] [] [] (by kernel_rfl) (by kernel_rfl) ?_
    obtain ⟨v7, c_v7, h⟩ := cl_some h
    refine TI_at (i := 2) (d := 18) (x := .lf (.v (.int .i64 v7))) (At_call (d := 18) (f := 32) (args := [rval (.agg [.arr .i64 7 u1])]) (x := .lf (.v (.int .i64 v7))) (by kernel_rfl) (w32 k hu1 c_v7)) (by kernel_rfl) trivial ?_
    refine TI_segK (i := 3) (j := 5) (s' := { σ := [(4, .lf (.v q4)), (5, .lf (.v (.int .i64 v7)))], H := [], V := [], M := M5, ds := [] }) [4, 5] [] [] (by kernel_rfl) (by kernel_rfl) ?_
    refine TI_end (by kernel_rfl) ?_
    refine thenQ_n ?_
    refine T_ret (by kernel_rfl) ?_
    have h := Option.some.inj h
    subst h
    refine fin_ret (.tup [(some (.v q4), []), (some (.v (.int .i64 v7)), [])]) (by kernel_rfl) (by kernel_rfl) rfl ?_
    exact ⟨q4, rfl, fq4⟩
/-- gooseneck claim.Minutes -/
def p23 (k : Nat) (u0_0 : List (List Int)) (u0_1 : List Int) : Option (Int × Int) :=
  cl2 (p46 k u0_0 u0_1) fun v1 v2 => lt' (v2 != (0 : Int)) fun b5 => sp b5 (some ((0 : Int), v2)) (cl v1 fun C6 => some ((List.length C6.2.2.2.1 : Int), (0 : Int)))
theorem hf23 : Try.prog.funcs[23]? = some Try.f23 := by kernel_rfl
theorem w23 (k : Nat) {M : Mem} {Au0_0 : Option Addr} {cu0_0 : Nat} {u0_0 : List (List Int)} {u0_1 : List Int} (hu0_0 : SlR M Au0_0 cu0_0 .i64 11 u0_0) (hu0_1 : u0_1.length = 4) {r} (h : p23 k u0_0 u0_1 = some r) :
    Fn Try.prog 23 [rval (.agg [.one (.v (.slice Au0_0 (List.length u0_0) cu0_0)), .arr .i64 4 u0_1])] M (fun x _ => x = .tup [(some (.v (.int .i64 r.1)), []), (some (.v (.int .i64 r.2)), [])]) := by
  unfold p23 at h
  refine Fn_of (P := Try.prog) (fn := Try.f23) (c := bodyOf Try.f23) [.agg [.one (.v (.slice Au0_0 (List.length u0_0) cu0_0)), .arr .i64 4 u0_1]] hf23 (by kernel_rfl) (Nat.le_of_ble_eq_true (by kernel_rfl)) (args_ok (by kernel_rfl) ⟨⟨rfl, ⟨hu0_1, trivial⟩⟩, trivial⟩) fun w => ?_
  change T _ _ _ (endQ _ _ _)
  refine T_seq (c1 := (sub [0] (bodyOf Try.f23))) (c2 := (sub [1] (bodyOf Try.f23))) (by kernel_rfl) ?_
  refine T_region (id := 0) (by kernel_rfl) ?_
  refine TI_segK (i := 0) (j := 3) (s' := { σ := [(1, .lf (.own 1 0))], H := [(1, [.one (.v (.slice Au0_0 (List.length u0_0) cu0_0)), .arr .i64 4 u0_1])], V := [], M := M, ds := [] }) [1] [1] [] (by kernel_rfl) (by kernel_rfl) ?_
  refine TI_end (by kernel_rfl) ?_
  refine thenQ_n ?_
  refine T_seq (c1 := (sub [1, 0] (bodyOf Try.f23))) (c2 := (sub [1, 1] (bodyOf Try.f23))) (by kernel_rfl) ?_
  refine T_region (id := 1) (by kernel_rfl) ?_
  refine TI_segK (i := 0) (j := 1) (s' := { σ := [(7, .agg [.one (.v (.slice Au0_0 (List.length u0_0) cu0_0)), .arr .i64 4 u0_1])], H := [], V := [], M := M, ds := [] }) [7] [] [] (by kernel_rfl) (by kernel_rfl) ?_
  obtain ⟨v1, v2, c_v1, h⟩ := cl2_some h
  refine TI_of (i := 1) (by kernel_rfl) (TE_callR (d := 8) (f := 46) (args := [rval (.agg [.one (.v (.slice Au0_0 (List.length u0_0) cu0_0)), .arr .i64 4 u0_1])]) (by kernel_rfl) (by kernel_rfl) (w46 k hu0_0 hu0_1 c_v1) ?_)
  rintro _ M4 _ hM4 _ ⟨q3, rfl, fq3⟩
  refine TI_segK (i := 2) (j := 7) (s' := { σ := [(4, .lf (.v q3)), (5, .lf (.v (.int .i64 v2)))], H := [], V := [], M := M4, ds := [] }) [4, 5] [] [] (by kernel_rfl) (by kernel_rfl) ?_
  refine TI_end (by kernel_rfl) ?_
  refine thenQ_n ?_
  refine T_seq (c1 := (sub [1, 1, 0] (bodyOf Try.f23))) (c2 := (sub [1, 1, 1] (bodyOf Try.f23))) (by kernel_rfl) ?_
  refine T_seq (c1 := (sub [1, 1, 0, 0] (bodyOf Try.f23))) (c2 := (sub [1, 1, 0, 1] (bodyOf Try.f23))) (by kernel_rfl) ?_
  refine T_region (id := 2) (by kernel_rfl) ?_
  obtain ⟨b5, e_b5, h⟩ := lt_some h
  refine TI_segK (i := 0) (j := 2) (s' := { σ := [(4, .lf (.v q3)), (5, .lf (.v (.int .i64 v2))), (12, .lf (.v (.bool b5)))], H := [], V := [], M := M4, ds := [] }) [4, 5, 12] [] [] (by subst e_b5; kernel_rfl) (by kernel_rfl) ?_
  refine TI_end (by kernel_rfl) ?_
  refine thenQ_n ?_
  cases b5 with
  | true =>
    replace h := sp_t h
    refine T_condT (x := (.tmp 12)) (c1 := (sub [1, 1, 0, 1, 0] (bodyOf Try.f23))) (c2 := (sub [1, 1, 0, 1, 1] (bodyOf Try.f23))) (by kernel_rfl) (by kernel_rfl) ?_
    refine T_keep (s' := { σ := [(5, .lf (.v (.int .i64 v2)))], H := [], V := [], M := M4, ds := [] }) [5] [] [] (by kernel_rfl) ?_
    refine T_seq (c1 := (sub [1, 1, 0, 1, 0, 0] (bodyOf Try.f23))) (c2 := (sub [1, 1, 0, 1, 0, 1] (bodyOf Try.f23))) (by kernel_rfl) ?_
    refine T_region (id := 3) (by kernel_rfl) ?_
    refine TI_segK (i := 0) (j := 3) (s' := { σ := [(2, .lf (.v (.int .i64 (0 : Int)))), (3, .lf (.v (.int .i64 v2)))], H := [], V := [], M := M4, ds := [] }) [2, 3] [] [] (by kernel_rfl) (by kernel_rfl) ?_
    refine TI_end (by kernel_rfl) ?_
    refine thenQ_n ?_
    refine T_ret (by kernel_rfl) ?_
    refine thenQ_r ?_
    have h := Option.some.inj h
    subst h
    refine fin_ret (.tup [(some (.v (.int .i64 (0 : Int))), []), (some (.v (.int .i64 v2)), [])]) (by kernel_rfl) (by kernel_rfl) rfl ?_
    rfl
  | false =>
    replace h := sp_f h
    refine T_condF (x := (.tmp 12)) (c1 := (sub [1, 1, 0, 1, 0] (bodyOf Try.f23))) (c2 := (sub [1, 1, 0, 1, 1] (bodyOf Try.f23))) (by kernel_rfl) (by kernel_rfl) ?_
    refine T_keep (s' := { σ := [(4, .lf (.v q3))], H := [], V := [], M := M4, ds := [] }) [4] [] [] (by kernel_rfl) ?_
    refine T_skip (by kernel_rfl) ?_
    refine thenQ_n ?_
    obtain ⟨C6, e_C6, h⟩ := cl_some h
    have hC6 := fq3
    rw [e_C6] at hC6
    obtain ⟨C6b, C6A, C6c, C6AP, C6cP, C6AV, C6cV, rfl, hC6⟩ := hC6
    refine T_seq (c1 := (sub [1, 1, 1, 0] (bodyOf Try.f23))) (c2 := (sub [1, 1, 1, 1] (bodyOf Try.f23))) (by kernel_rfl) ?_
    refine T_region (id := 4) (by kernel_rfl) ?_
    refine TI_segK (i := 0) (j := 3) (s' := { σ := [(16, .lf (.v (.pointer (some ⟨C6b, 6, none⟩))))], H := [], V := [], M := M4, ds := [] }) [16] [] [] (by kernel_rfl) (by kernel_rfl) ?_
    refine TI_at (i := 3) (d := 17) (x := .lf (.v (.slice C6AP (List.length C6.2.2.2.1) C6cP))) (by exact At_ldP (d := 17) (b := C6b) (off := 6) (m := 1) (v := (.slice C6AP (List.length C6.2.2.2.1) C6cP)) (by kernel_rfl) (hC6).plc) (by kernel_rfl) trivial ?_
    refine TI_segK (i := 4) (j := 7) (s' := { σ := [(2, .lf (.v (.int .i64 (List.length C6.2.2.2.1 : Int)))), (3, .lf (.v (.int .i64 (0 : Int))))], H := [], V := [], M := M4, ds := [] }) [2, 3] [] [] (by kernel_rfl) (by kernel_rfl) ?_
    refine TI_end (by kernel_rfl) ?_
    refine thenQ_n ?_
    refine T_ret (by kernel_rfl) ?_
    have h := Option.some.inj h
    subst h
    refine fin_ret (.tup [(some (.v (.int .i64 (List.length C6.2.2.2.1 : Int))), []), (some (.v (.int .i64 (0 : Int))), [])]) (by kernel_rfl) (by kernel_rfl) rfl ?_
    rfl
/-- gooseneck claim.Verdict -/
def p14 (k : Nat) (u0_0 : List (List Int)) (u0_1 : List Int) (u1 : List Int) : Option (Int × Int) :=
  cl2 (p43 k u0_0 u0_1 u1) fun v1 v2 => lt' (v2 != (0 : Int)) fun b5 => sp b5 (some ((0 : Int), v2)) (cl v1 fun C6 => cl (p44 k C6.1 C6.2.1 C6.2.2.1 C6.2.2.2.1 C6.2.2.2.2 u1) fun v7 => some (v7, (0 : Int)))
theorem hf14 : Try.prog.funcs[14]? = some Try.f14 := by kernel_rfl
theorem w14 (k : Nat) {M : Mem} {Au0_0 : Option Addr} {cu0_0 : Nat} {u0_0 : List (List Int)} {u0_1 : List Int} {u1 : List Int} (hu0_0 : SlR M Au0_0 cu0_0 .i64 11 u0_0) (hu0_1 : u0_1.length = 4) (hu1 : u1.length = 7) {r} (h : p14 k u0_0 u0_1 u1 = some r) :
    Fn Try.prog 14 [rval (.agg [.one (.v (.slice Au0_0 (List.length u0_0) cu0_0)), .arr .i64 4 u0_1]), rval (.agg [.arr .i64 7 u1])] M (fun x _ => x = .tup [(some (.v (.int .i64 r.1)), []), (some (.v (.int .i64 r.2)), [])]) := by
  unfold p14 at h
  refine Fn_of (P := Try.prog) (fn := Try.f14) (c := bodyOf Try.f14) [.agg [.one (.v (.slice Au0_0 (List.length u0_0) cu0_0)), .arr .i64 4 u0_1], .agg [.arr .i64 7 u1]] hf14 (by kernel_rfl) (Nat.le_of_ble_eq_true (by kernel_rfl)) (args_ok (by kernel_rfl) ⟨⟨rfl, ⟨hu0_1, trivial⟩⟩, ⟨⟨hu1, trivial⟩, trivial⟩⟩) fun w => ?_
  change T _ _ _ (endQ _ _ _)
  refine T_seq (c1 := (sub [0] (bodyOf Try.f14))) (c2 := (sub [1] (bodyOf Try.f14))) (by kernel_rfl) ?_
  refine T_region (id := 0) (by kernel_rfl) ?_
  refine TI_segK (i := 0) (j := 4) (s' := { σ := [(2, .lf (.own 2 0)), (3, .lf (.own 3 0))], H := [(2, [.one (.v (.slice Au0_0 (List.length u0_0) cu0_0)), .arr .i64 4 u0_1]), (3, [.arr .i64 7 u1])], V := [], M := M, ds := [] }) [2, 3] [2, 3] [] (by kernel_rfl) (by kernel_rfl) ?_
  refine TI_end (by kernel_rfl) ?_
  refine thenQ_n ?_
  refine T_seq (c1 := (sub [1, 0] (bodyOf Try.f14))) (c2 := (sub [1, 1] (bodyOf Try.f14))) (by kernel_rfl) ?_
  refine T_region (id := 1) (by kernel_rfl) ?_
  refine TI_segK (i := 0) (j := 2) (s' := { σ := [(3, .lf (.own 3 0)), (9, .agg [.one (.v (.slice Au0_0 (List.length u0_0) cu0_0)), .arr .i64 4 u0_1]), (10, .agg [.arr .i64 7 u1])], H := [(3, [.arr .i64 7 u1])], V := [], M := M, ds := [] }) [3, 9, 10] [3] [] (by kernel_rfl) (by kernel_rfl) ?_
  obtain ⟨v1, v2, c_v1, h⟩ := cl2_some h
  refine TI_of (i := 2) (by kernel_rfl) (TE_callR (d := 11) (f := 43) (args := [rval (.agg [.one (.v (.slice Au0_0 (List.length u0_0) cu0_0)), .arr .i64 4 u0_1]), rval (.agg [.arr .i64 7 u1])]) (by kernel_rfl) (by kernel_rfl) (w43 k hu0_0 hu0_1 hu1 c_v1) ?_)
  rintro _ M4 _ hM4 _ ⟨q3, rfl, fq3⟩
  refine TI_segK (i := 3) (j := 8) (s' := { σ := [(3, .lf (.own 3 0)), (6, .lf (.v q3)), (7, .lf (.v (.int .i64 v2)))], H := [(3, [.arr .i64 7 u1])], V := [], M := M4, ds := [] }) [3, 6, 7] [3] [] (by kernel_rfl) (by kernel_rfl) ?_
  refine TI_end (by kernel_rfl) ?_
  refine thenQ_n ?_
  refine T_seq (c1 := (sub [1, 1, 0] (bodyOf Try.f14))) (c2 := (sub [1, 1, 1] (bodyOf Try.f14))) (by kernel_rfl) ?_
  refine T_seq (c1 := (sub [1, 1, 0, 0] (bodyOf Try.f14))) (c2 := (sub [1, 1, 0, 1] (bodyOf Try.f14))) (by kernel_rfl) ?_
  refine T_region (id := 2) (by kernel_rfl) ?_
  obtain ⟨b5, e_b5, h⟩ := lt_some h
  refine TI_segK (i := 0) (j := 2) (s' := { σ := [(3, .lf (.own 3 0)), (6, .lf (.v q3)), (7, .lf (.v (.int .i64 v2))), (15, .lf (.v (.bool b5)))], H := [(3, [.arr .i64 7 u1])], V := [], M := M4, ds := [] }) [3, 6, 7, 15] [3] [] (by subst e_b5; kernel_rfl) (by kernel_rfl) ?_
  refine TI_end (by kernel_rfl) ?_
  refine thenQ_n ?_
  cases b5 with
  | true =>
    replace h := sp_t h
    refine T_condT (x := (.tmp 15)) (c1 := (sub [1, 1, 0, 1, 0] (bodyOf Try.f14))) (c2 := (sub [1, 1, 0, 1, 1] (bodyOf Try.f14))) (by kernel_rfl) (by kernel_rfl) ?_
    refine T_keep (s' := { σ := [(7, .lf (.v (.int .i64 v2)))], H := [], V := [], M := M4, ds := [] }) [7] [] [] (by kernel_rfl) ?_
    refine T_seq (c1 := (sub [1, 1, 0, 1, 0, 0] (bodyOf Try.f14))) (c2 := (sub [1, 1, 0, 1, 0, 1] (bodyOf Try.f14))) (by kernel_rfl) ?_
    refine T_region (id := 3) (by kernel_rfl) ?_
    refine TI_segK (i := 0) (j := 3) (s' := { σ := [(4, .lf (.v (.int .i64 (0 : Int)))), (5, .lf (.v (.int .i64 v2)))], H := [], V := [], M := M4, ds := [] }) [4, 5] [] [] (by kernel_rfl) (by kernel_rfl) ?_
    refine TI_end (by kernel_rfl) ?_
    refine thenQ_n ?_
    refine T_ret (by kernel_rfl) ?_
    refine thenQ_r ?_
    have h := Option.some.inj h
    subst h
    refine fin_ret (.tup [(some (.v (.int .i64 (0 : Int))), []), (some (.v (.int .i64 v2)), [])]) (by kernel_rfl) (by kernel_rfl) rfl ?_
    rfl
  | false =>
    replace h := sp_f h
    refine T_condF (x := (.tmp 15)) (c1 := (sub [1, 1, 0, 1, 0] (bodyOf Try.f14))) (c2 := (sub [1, 1, 0, 1, 1] (bodyOf Try.f14))) (by kernel_rfl) (by kernel_rfl) ?_
    refine T_keep (s' := { σ := [(3, .lf (.own 3 0)), (6, .lf (.v q3))], H := [(3, [.arr .i64 7 u1])], V := [], M := M4, ds := [] }) [3, 6] [3] [] (by kernel_rfl) ?_
    refine T_skip (by kernel_rfl) ?_
    refine thenQ_n ?_
    obtain ⟨C6, e_C6, h⟩ := cl_some h
    have hC6 := fq3
    rw [e_C6] at hC6
    obtain ⟨C6b, C6A, C6c, C6AP, C6cP, C6AV, C6cV, rfl, hC6⟩ := hC6
    refine T_seq (c1 := (sub [1, 1, 1, 0] (bodyOf Try.f14))) (c2 := (sub [1, 1, 1, 1] (bodyOf Try.f14))) (by kernel_rfl) ?_
    refine T_region (id := 4) (by kernel_rfl) ?_
    refine TI_segK (i := 0) (j := 2) (s' := { σ := [(17, .lf (.v (.pointer (some ⟨C6b, 0, none⟩)))), (18, .agg [.arr .i64 7 u1])], H := [], V := [], M := M4, ds := [] }) [17, 18] [] [] (by kernel_rfl) (by kernel_rfl) ?_
    obtain ⟨v7, c_v7, h⟩ := cl_some h
    refine TI_at (i := 2) (d := 19) (x := .lf (.v (.int .i64 v7))) (At_call (d := 19) (f := 44) (args := [rval (.lf (.v (.pointer (some ⟨C6b, 0, none⟩)))), rval (.agg [.arr .i64 7 u1])]) (x := .lf (.v (.int .i64 v7))) (by kernel_rfl) (w44 k hC6 hu1 c_v7)) (by kernel_rfl) trivial ?_
    refine TI_segK (i := 3) (j := 5) (s' := { σ := [(4, .lf (.v (.int .i64 v7))), (5, .lf (.v (.int .i64 (0 : Int))))], H := [], V := [], M := M4, ds := [] }) [4, 5] [] [] (by kernel_rfl) (by kernel_rfl) ?_
    refine TI_end (by kernel_rfl) ?_
    refine thenQ_n ?_
    refine T_ret (by kernel_rfl) ?_
    have h := Option.some.inj h
    subst h
    refine fin_ret (.tup [(some (.v (.int .i64 v7)), []), (some (.v (.int .i64 (0 : Int))), [])]) (by kernel_rfl) (by kernel_rfl) rfl ?_
    rfl
/-- gooseneck goosenecklaw11.works -/
def p12 (k : Nat) : Option Bool :=
  cl2 (p40 k ) fun v1 v2 => gd ((v2).length = 4) <| cl2 (p14 k v1 v2 ([(40 : Int), (50 : Int), (0 : Int), (4 : Int), (0 : Int), (1000 : Int), (0 : Int)])) fun v7 v8 => cl2 (p40 k ) fun v9 v10 => gd ((v10).length = 4) <| cl2 (p23 k v9 v10) fun v15 v16 => jn (fun (b17 : Bool) => some b17) fun j18 => lt' (v8 == (0 : Int)) fun b19 => sp b19 (lt' (v16 == (0 : Int)) fun b20 => sp b20 (lt' (v7 == (1 : Int)) fun b21 => sp b21 (lt' (v15 == (5 : Int)) fun b22 => j18 b22) (j18 false)) (j18 false)) (j18 false)
theorem hf12 : Try.prog.funcs[12]? = some Try.f12 := by kernel_rfl
theorem w12 (k : Nat) {M : Mem} {r} (h : p12 k = some r) :
    Fn Try.prog 12 [] M (fun x _ => x = .lf (.v (.bool r))) := by
  unfold p12 at h
  refine Fn_of (P := Try.prog) (fn := Try.f12) (c := bodyOf Try.f12) [] hf12 (by kernel_rfl) (Nat.le_of_ble_eq_true (by kernel_rfl)) (args_ok (by kernel_rfl) trivial) fun w => ?_
  change T _ _ _ (endQ _ _ _)
  refine T_seq (c1 := (sub [0] (bodyOf Try.f12))) (c2 := (sub [1] (bodyOf Try.f12))) (by kernel_rfl) ?_
  refine T_region (id := 0) (by kernel_rfl) ?_
  refine TI_segK (i := 0) (j := 1) (s' := { σ := [], H := [], V := [], M := M, ds := [] }) [] [] [] (by kernel_rfl) (by kernel_rfl) ?_
  refine TI_end (by kernel_rfl) ?_
  refine thenQ_n ?_
  refine T_seq (c1 := (sub [1, 0] (bodyOf Try.f12))) (c2 := (sub [1, 1] (bodyOf Try.f12))) (by kernel_rfl) ?_
  refine T_region (id := 1) (by kernel_rfl) ?_
  obtain ⟨v1, v2, c_v1, h⟩ := cl2_some h
  obtain ⟨g5, h⟩ := gd_some h
  refine TI_of (i := 0) (by kernel_rfl) (TE_callR (d := 6) (f := 40) (args := []) (by kernel_rfl) (by kernel_rfl) (w40 k  c_v1) ?_)
  rintro _ M6 _ hM6 _ ⟨A3, c4, rfl, fA3⟩
  refine TI_segK (i := 1) (j := 2) (s' := { σ := [(6, .agg [.one (.v (.slice A3 (List.length v1) c4)), .arr .i64 4 v2]), (7, .agg [.arr .i64 7 [(40 : Int), (50 : Int), (0 : Int), (4 : Int), (0 : Int), (1000 : Int), (0 : Int)]])], H := [], V := [], M := M6, ds := [] }) [6, 7] [] [] (by kernel_rfl) (by kernel_rfl) ?_
  obtain ⟨v7, v8, c_v7, h⟩ := cl2_some h
  refine TI_at (i := 2) (d := 8) (x := .tup [(some (.v (.int .i64 v7)), []), (some (.v (.int .i64 v8)), [])]) (At_call (d := 8) (f := 14) (args := [rval (.agg [.one (.v (.slice A3 (List.length v1) c4)), .arr .i64 4 v2]), rval (.agg [.arr .i64 7 [(40 : Int), (50 : Int), (0 : Int), (4 : Int), (0 : Int), (1000 : Int), (0 : Int)]])]) (x := .tup [(some (.v (.int .i64 v7)), []), (some (.v (.int .i64 v8)), [])]) (by kernel_rfl) (w14 k fA3 g5 rfl c_v7)) (by kernel_rfl) (by intro y hy; simp only [List.mem_cons, List.mem_nil_iff, or_false] at hy; rcases hy with rfl | rfl <;> exact trivial) ?_
  refine TI_segK (i := 3) (j := 8) (s' := { σ := [(1, .lf (.v (.int .i64 v7))), (2, .lf (.v (.int .i64 v8)))], H := [], V := [], M := M6, ds := [] }) [1, 2] [] [] (by kernel_rfl) (by kernel_rfl) ?_
  refine TI_end (by kernel_rfl) ?_
  refine thenQ_n ?_
  refine T_seq (c1 := (sub [1, 1, 0] (bodyOf Try.f12))) (c2 := (sub [1, 1, 1] (bodyOf Try.f12))) (by kernel_rfl) ?_
  refine T_region (id := 2) (by kernel_rfl) ?_
  obtain ⟨v9, v10, c_v9, h⟩ := cl2_some h
  obtain ⟨g13, h⟩ := gd_some h
  refine TI_of (i := 0) (by kernel_rfl) (TE_callR (d := 12) (f := 40) (args := []) (by kernel_rfl) (by kernel_rfl) (w40 k  c_v9) ?_)
  rintro _ M14 _ hM14 _ ⟨A11, c12, rfl, fA11⟩
  obtain ⟨v15, v16, c_v15, h⟩ := cl2_some h
  refine TI_at (i := 1) (d := 13) (x := .tup [(some (.v (.int .i64 v15)), []), (some (.v (.int .i64 v16)), [])]) (At_call (d := 13) (f := 23) (args := [rval (.agg [.one (.v (.slice A11 (List.length v9) c12)), .arr .i64 4 v10])]) (x := .tup [(some (.v (.int .i64 v15)), []), (some (.v (.int .i64 v16)), [])]) (by kernel_rfl) (w23 k fA11 g13 c_v15)) (by kernel_rfl) (by intro y hy; simp only [List.mem_cons, List.mem_nil_iff, or_false] at hy; rcases hy with rfl | rfl <;> exact trivial) ?_
  refine TI_segK (i := 2) (j := 7) (s' := { σ := [(1, .lf (.v (.int .i64 v7))), (2, .lf (.v (.int .i64 v8))), (3, .lf (.v (.int .i64 v15))), (4, .lf (.v (.int .i64 v16)))], H := [], V := [], M := M14, ds := [] }) [1, 2, 3, 4] [] [] (by kernel_rfl) (by kernel_rfl) ?_
  refine TI_end (by kernel_rfl) ?_
  refine thenQ_n ?_
  obtain ⟨j18, e_j18, h⟩ := jn_some h
  refine T_cut (c1 := (sub [1, 1, 1, 0] (bodyOf Try.f12))) (c2 := (sub [1, 1, 1, 1] (bodyOf Try.f12))) (fun s' => ∃ (b17 : Bool), Sub { σ := [(0, .lf (.v (.bool b17)))], H := [], V := [], M := M14, ds := [] } s' ∧ j18 b17 = some r) (by kernel_rfl) ?_ ?_
  · refine T_region (id := 3) (by kernel_rfl) ?_
    obtain ⟨b19, e_b19, h⟩ := lt_some h
    refine TI_segK (i := 0) (j := 3) (s' := { σ := [(1, .lf (.v (.int .i64 v7))), (3, .lf (.v (.int .i64 v15))), (4, .lf (.v (.int .i64 v16))), (18, .lf (.v (.bool b19)))], H := [], V := [], M := M14, ds := [] }) [1, 3, 4, 18] [] [] (by subst e_b19; kernel_rfl) (by kernel_rfl) ?_
    cases b19 with
    | true =>
      replace h := sp_t h
      obtain ⟨b20, e_b20, h⟩ := lt_some h
      refine TI_segK (i := 3) (j := 7) (s' := { σ := [(1, .lf (.v (.int .i64 v7))), (3, .lf (.v (.int .i64 v15))), (22, .lf (.v (.bool b20)))], H := [], V := [], M := M14, ds := [] }) [1, 3, 22] [] [] (by subst e_b20; kernel_rfl) (by kernel_rfl) ?_
      cases b20 with
      | true =>
        replace h := sp_t h
        obtain ⟨b21, e_b21, h⟩ := lt_some h
        refine TI_segK (i := 7) (j := 11) (s' := { σ := [(3, .lf (.v (.int .i64 v15))), (26, .lf (.v (.bool b21)))], H := [], V := [], M := M14, ds := [] }) [3, 26] [] [] (by subst e_b21; kernel_rfl) (by kernel_rfl) ?_
        cases b21 with
        | true =>
          replace h := sp_t h
          obtain ⟨b22, e_b22, h⟩ := lt_some h
          refine TI_segK (i := 11) (j := 15) (s' := { σ := [(0, .lf (.v (.bool b22)))], H := [], V := [], M := M14, ds := [] }) [0] [] [] (by subst e_b22; kernel_rfl) (by kernel_rfl) ?_
          refine TI_end (by kernel_rfl) ?_
          refine thenQ_n ?_
          exact ⟨b22, keep_sub (ts := [0]) (hs := []) (vs := []) (by kernel_rfl), h⟩
        | false =>
          replace h := sp_f h
          refine TI_segK (i := 11) (j := 15) (s' := { σ := [(0, .lf (.v (.bool false)))], H := [], V := [], M := M14, ds := [] }) [0] [] [] (by kernel_rfl) (by kernel_rfl) ?_
          refine TI_end (by kernel_rfl) ?_
          refine thenQ_n ?_
          exact ⟨false, keep_sub (ts := [0]) (hs := []) (vs := []) (by kernel_rfl), h⟩
      | false =>
        replace h := sp_f h
        refine TI_segK (i := 7) (j := 15) (s' := { σ := [(0, .lf (.v (.bool false)))], H := [], V := [], M := M14, ds := [] }) [0] [] [] (by kernel_rfl) (by kernel_rfl) ?_
        refine TI_end (by kernel_rfl) ?_
        refine thenQ_n ?_
        exact ⟨false, keep_sub (ts := [0]) (hs := []) (vs := []) (by kernel_rfl), h⟩
    | false =>
      replace h := sp_f h
      refine TI_segK (i := 3) (j := 15) (s' := { σ := [(0, .lf (.v (.bool false)))], H := [], V := [], M := M14, ds := [] }) [0] [] [] (by kernel_rfl) (by kernel_rfl) ?_
      refine TI_end (by kernel_rfl) ?_
      refine thenQ_n ?_
      exact ⟨false, keep_sub (ts := [0]) (hs := []) (vs := []) (by kernel_rfl), h⟩
  · rintro s' ⟨b17, hsub, h⟩
    subst e_j18
    refine T_sub hsub ?_
    refine T_ret (by kernel_rfl) ?_
    have h := Option.some.inj h
    subst h
    refine fin_ret (.lf (.v (.bool b17))) (by kernel_rfl) (by kernel_rfl) rfl ?_
    rfl
end Go.Proofs.Ythjkejbgknemgaa
namespace Go.Proofs.Ythjkejbgknemgaa
open Go.RowKit
/-- gooseneck goosenecklaw11.ClaimWider -/
def p4 (k : Nat) (u0_0 : List (List Int)) (u0_1 : List Int) (u1 : List Int) (u2 : List Int) : Option Bool :=
  cl (p11 k u0_0 u0_1 u1) fun v1 => sp v1 (lt' (List.getD u1 0 0) fun x2 => lt' (List.getD u2 0 0) fun x3 => lt' (wr .i64 (x3)) fun x4 => lt' (wr .i64 (x2 - x4)) fun x5 => lt' (mx (-1073741824 : Int) x5) fun x6 => lt' (List.set u1 0 x6) fun L7 => lt' (List.getD u1 1 0) fun x8 => lt' (List.getD u2 1 0) fun x9 => lt' (wr .i64 (x9)) fun x10 => lt' (wr .i64 (x8 + x10)) fun x11 => lt' (mn (1073741824 : Int) x11) fun x12 => lt' (List.set L7 1 x12) fun L13 => lt' (List.getD u1 3 0) fun x14 => lt' (List.getD u2 2 0) fun x15 => lt' (wr .i64 (x15)) fun x16 => lt' (wr .i64 (x14 - x16)) fun x17 => lt' (mx (-1073741824 : Int) x17) fun x18 => lt' (List.set L13 3 x18) fun L19 => lt' (List.getD u1 4 0) fun x20 => lt' (List.getD u2 3 0) fun x21 => lt' (wr .i64 (x21)) fun x22 => lt' (wr .i64 (x20 - x22)) fun x23 => lt' (mx (0 : Int) x23) fun x24 => lt' (List.set L19 4 x24) fun L25 => lt' (List.getD u1 5 0) fun x26 => lt' (List.getD u2 4 0) fun x27 => lt' (wr .i64 (x27)) fun x28 => lt' (wr .i64 (x26 + x28)) fun x29 => lt' (mn (1099511627776 : Int) x29) fun x30 => lt' (List.set L25 5 x30) fun L31 => cl2 (p14 k u0_0 u0_1 u1) fun v32 v33 => cl2 (p14 k u0_0 u0_1 L31) fun v34 v35 => jn (fun (b36 : Bool) => some b36) fun j37 => lt' (v33 == (0 : Int)) fun b38 => sp b38 (lt' (v35 == (0 : Int)) fun b39 => sp b39 (lt' (v32 != (1 : Int)) fun b40 => sp b40 (lt' (v34 != (2 : Int)) fun b41 => sp b41 (cl (p12 k ) fun v42 => j37 v42) (lt' (v32 == (2 : Int)) fun b43 => sp b43 (cl (p12 k ) fun v44 => j37 v44) (j37 false))) (lt' (v34 == (1 : Int)) fun b45 => sp b45 (lt' (v34 != (2 : Int)) fun b46 => sp b46 (cl (p12 k ) fun v47 => j37 v47) (lt' (v32 == (2 : Int)) fun b48 => sp b48 (cl (p12 k ) fun v49 => j37 v49) (j37 false))) (j37 false))) (j37 false)) (j37 false)) (cl (p12 k ) fun v50 => some v50)
theorem hf4 : Try.prog.funcs[4]? = some Try.f4 := by kernel_rfl
theorem w4 (k : Nat) {M : Mem} {Au0_0 : Option Addr} {cu0_0 : Nat} {u0_0 : List (List Int)} {u0_1 : List Int} {u1 : List Int} {u2 : List Int} (hu0_0 : SlR M Au0_0 cu0_0 .i64 11 u0_0) (hu0_1 : u0_1.length = 4) (hu1 : u1.length = 7) (hu2 : u2.length = 5) {r} (h : p4 k u0_0 u0_1 u1 u2 = some r) :
    Fn Try.prog 4 [rval (.agg [.one (.v (.slice Au0_0 (List.length u0_0) cu0_0)), .arr .i64 4 u0_1]), rval (.agg [.arr .i64 7 u1]), rval (.agg [.arr .u8 5 u2])] M (fun x _ => x = .lf (.v (.bool r))) := by
  unfold p4 at h
  refine Fn_of (P := Try.prog) (fn := Try.f4) (c := bodyOf Try.f4) [.agg [.one (.v (.slice Au0_0 (List.length u0_0) cu0_0)), .arr .i64 4 u0_1], .agg [.arr .i64 7 u1], .agg [.arr .u8 5 u2]] hf4 (by kernel_rfl) (Nat.le_of_ble_eq_true (by kernel_rfl)) (args_ok (by kernel_rfl) ⟨⟨rfl, ⟨hu0_1, trivial⟩⟩, ⟨⟨hu1, trivial⟩, ⟨⟨hu2, trivial⟩, trivial⟩⟩⟩) fun w => ?_
  change T _ _ _ (endQ _ _ _)
  refine T_seq (c1 := (sub [0] (bodyOf Try.f4))) (c2 := (sub [1] (bodyOf Try.f4))) (by kernel_rfl) ?_
  refine T_region (id := 0) (by kernel_rfl) ?_
  refine TI_segK (i := 0) (j := 4) (s' := { σ := [(3, .lf (.own 3 0)), (4, .lf (.own 4 0)), (5, .lf (.own 5 0))], H := [(3, [.one (.v (.slice Au0_0 (List.length u0_0) cu0_0)), .arr .i64 4 u0_1]), (4, [.arr .i64 7 u1]), (5, [.arr .u8 5 u2])], V := [], M := M, ds := [] }) [3, 4, 5] [3, 4, 5] [] (by kernel_rfl) (by kernel_rfl) ?_
  refine TI_end (by kernel_rfl) ?_
  refine thenQ_n ?_
  refine T_seq (c1 := (sub [1, 0] (bodyOf Try.f4))) (c2 := (sub [1, 1] (bodyOf Try.f4))) (by kernel_rfl) ?_
  refine T_seq (c1 := (sub [1, 0, 0] (bodyOf Try.f4))) (c2 := (sub [1, 0, 1] (bodyOf Try.f4))) (by kernel_rfl) ?_
  refine T_region (id := 1) (by kernel_rfl) ?_
  refine TI_segK (i := 0) (j := 2) (s' := { σ := [(3, .lf (.own 3 0)), (4, .lf (.own 4 0)), (5, .lf (.own 5 0)), (12, .agg [.one (.v (.slice Au0_0 (List.length u0_0) cu0_0)), .arr .i64 4 u0_1]), (13, .agg [.arr .i64 7 u1])], H := [(3, [.one (.v (.slice Au0_0 (List.length u0_0) cu0_0)), .arr .i64 4 u0_1]), (4, [.arr .i64 7 u1]), (5, [.arr .u8 5 u2])], V := [], M := M, ds := [] }) [3, 4, 5, 12, 13] [3, 4, 5] [] (by kernel_rfl) (by kernel_rfl) ?_
  obtain ⟨v1, c_v1, h⟩ := cl_some h
  refine TI_at (i := 2) (d := 14) (x := .lf (.v (.bool v1))) (At_call (d := 14) (f := 11) (args := [rval (.agg [.one (.v (.slice Au0_0 (List.length u0_0) cu0_0)), .arr .i64 4 u0_1]), rval (.agg [.arr .i64 7 u1])]) (x := .lf (.v (.bool v1))) (by kernel_rfl) (w11 k hu0_0 hu0_1 hu1 c_v1)) (by kernel_rfl) trivial ?_
  refine TI_segK (i := 3) (j := 4) (s' := { σ := [(3, .lf (.own 3 0)), (4, .lf (.own 4 0)), (5, .lf (.own 5 0)), (15, .lf (.v (.bool (!v1))))], H := [(3, [.one (.v (.slice Au0_0 (List.length u0_0) cu0_0)), .arr .i64 4 u0_1]), (4, [.arr .i64 7 u1]), (5, [.arr .u8 5 u2])], V := [], M := M, ds := [] }) [3, 4, 5, 15] [3, 4, 5] [] (by kernel_rfl) (by kernel_rfl) ?_
  refine TI_end (by kernel_rfl) ?_
  refine thenQ_n ?_
  cases v1 with
  | true =>
    replace h := sp_t h
    refine T_condF (x := (.tmp 15)) (c1 := (sub [1, 0, 1, 0] (bodyOf Try.f4))) (c2 := (sub [1, 0, 1, 1] (bodyOf Try.f4))) (by kernel_rfl) (by kernel_rfl) ?_
    refine T_keep (s' := { σ := [(3, .lf (.own 3 0)), (4, .lf (.own 4 0)), (5, .lf (.own 5 0))], H := [(3, [.one (.v (.slice Au0_0 (List.length u0_0) cu0_0)), .arr .i64 4 u0_1]), (4, [.arr .i64 7 u1]), (5, [.arr .u8 5 u2])], V := [], M := M, ds := [] }) [3, 4, 5] [3, 4, 5] [] (by kernel_rfl) ?_
    refine T_skip (by kernel_rfl) ?_
    refine thenQ_n ?_
    refine T_seq (c1 := (sub [1, 1, 0] (bodyOf Try.f4))) (c2 := (sub [1, 1, 1] (bodyOf Try.f4))) (by kernel_rfl) ?_
    refine T_region (id := 3) (by kernel_rfl) ?_
    refine TI_segK (i := 0) (j := 3) (s' := { σ := [(3, .lf (.own 3 0)), (4, .lf (.own 4 0)), (5, .lf (.own 5 0)), (7, .lf (.own 7 0))], H := [(3, [.one (.v (.slice Au0_0 (List.length u0_0) cu0_0)), .arr .i64 4 u0_1]), (4, [.arr .i64 7 u1]), (5, [.arr .u8 5 u2]), (7, [.arr .i64 7 u1])], V := [], M := M, ds := [] }) [3, 4, 5, 7] [3, 4, 5, 7] [] (by kernel_rfl) (by kernel_rfl) ?_
    refine TI_end (by kernel_rfl) ?_
    refine thenQ_n ?_
    refine T_seq (c1 := (sub [1, 1, 1, 0] (bodyOf Try.f4))) (c2 := (sub [1, 1, 1, 1] (bodyOf Try.f4))) (by kernel_rfl) ?_
    refine T_region (id := 4) (by kernel_rfl) ?_
    obtain ⟨x2, e_x2, h⟩ := lt_some h
    obtain ⟨x3, e_x3, h⟩ := lt_some h
    obtain ⟨x4, e_x4, h⟩ := lt_some h
    obtain ⟨x5, e_x5, h⟩ := lt_some h
    obtain ⟨x6, e_x6, h⟩ := lt_some h
    obtain ⟨L7, e_L7, h⟩ := lt_some h
    have l_L7 : (L7).length = 7 := by rw [e_L7]; exact (by rw [List.length_set]; exact hu1)
    refine TI_segK (i := 0) (j := 9) (s' := { σ := [(3, .lf (.own 3 0)), (4, .lf (.own 4 0)), (5, .lf (.own 5 0)), (7, .lf (.own 7 0))], H := [(3, [.one (.v (.slice Au0_0 (List.length u0_0) cu0_0)), .arr .i64 4 u0_1]), (4, [.arr .i64 7 u1]), (5, [.arr .u8 5 u2]), (7, [.arr .i64 7 L7])], V := [], M := M, ds := [] }) [3, 4, 5, 7] [3, 4, 5, 7] [] (by subst e_L7 e_x6 e_x5 e_x4 e_x3 e_x2; kernel_rfl) (by kernel_rfl) ?_
    refine TI_end (by kernel_rfl) ?_
    refine thenQ_n ?_
    refine T_seq (c1 := (sub [1, 1, 1, 1, 0] (bodyOf Try.f4))) (c2 := (sub [1, 1, 1, 1, 1] (bodyOf Try.f4))) (by kernel_rfl) ?_
    refine T_region (id := 5) (by kernel_rfl) ?_
    obtain ⟨x8, e_x8, h⟩ := lt_some h
    obtain ⟨x9, e_x9, h⟩ := lt_some h
    obtain ⟨x10, e_x10, h⟩ := lt_some h
    obtain ⟨x11, e_x11, h⟩ := lt_some h
    obtain ⟨x12, e_x12, h⟩ := lt_some h
    obtain ⟨L13, e_L13, h⟩ := lt_some h
    have l_L13 : (L13).length = 7 := by rw [e_L13]; exact (by rw [List.length_set]; exact l_L7)
    refine TI_segK (i := 0) (j := 9) (s' := { σ := [(3, .lf (.own 3 0)), (4, .lf (.own 4 0)), (5, .lf (.own 5 0)), (7, .lf (.own 7 0))], H := [(3, [.one (.v (.slice Au0_0 (List.length u0_0) cu0_0)), .arr .i64 4 u0_1]), (4, [.arr .i64 7 u1]), (5, [.arr .u8 5 u2]), (7, [.arr .i64 7 L13])], V := [], M := M, ds := [] }) [3, 4, 5, 7] [3, 4, 5, 7] [] (by subst e_L13 e_x12 e_x11 e_x10 e_x9 e_x8; kernel_rfl) (by kernel_rfl) ?_
    refine TI_end (by kernel_rfl) ?_
    refine thenQ_n ?_
    refine T_seq (c1 := (sub [1, 1, 1, 1, 1, 0] (bodyOf Try.f4))) (c2 := (sub [1, 1, 1, 1, 1, 1] (bodyOf Try.f4))) (by kernel_rfl) ?_
    refine T_region (id := 6) (by kernel_rfl) ?_
    obtain ⟨x14, e_x14, h⟩ := lt_some h
    obtain ⟨x15, e_x15, h⟩ := lt_some h
    obtain ⟨x16, e_x16, h⟩ := lt_some h
    obtain ⟨x17, e_x17, h⟩ := lt_some h
    obtain ⟨x18, e_x18, h⟩ := lt_some h
    obtain ⟨L19, e_L19, h⟩ := lt_some h
    have l_L19 : (L19).length = 7 := by rw [e_L19]; exact (by rw [List.length_set]; exact l_L13)
    refine TI_segK (i := 0) (j := 9) (s' := { σ := [(3, .lf (.own 3 0)), (4, .lf (.own 4 0)), (5, .lf (.own 5 0)), (7, .lf (.own 7 0))], H := [(3, [.one (.v (.slice Au0_0 (List.length u0_0) cu0_0)), .arr .i64 4 u0_1]), (4, [.arr .i64 7 u1]), (5, [.arr .u8 5 u2]), (7, [.arr .i64 7 L19])], V := [], M := M, ds := [] }) [3, 4, 5, 7] [3, 4, 5, 7] [] (by subst e_L19 e_x18 e_x17 e_x16 e_x15 e_x14; kernel_rfl) (by kernel_rfl) ?_
    refine TI_end (by kernel_rfl) ?_
    refine thenQ_n ?_
    refine T_seq (c1 := (sub [1, 1, 1, 1, 1, 1, 0] (bodyOf Try.f4))) (c2 := (sub [1, 1, 1, 1, 1, 1, 1] (bodyOf Try.f4))) (by kernel_rfl) ?_
    refine T_region (id := 7) (by kernel_rfl) ?_
    obtain ⟨x20, e_x20, h⟩ := lt_some h
    obtain ⟨x21, e_x21, h⟩ := lt_some h
    obtain ⟨x22, e_x22, h⟩ := lt_some h
    obtain ⟨x23, e_x23, h⟩ := lt_some h
    obtain ⟨x24, e_x24, h⟩ := lt_some h
    obtain ⟨L25, e_L25, h⟩ := lt_some h
    have l_L25 : (L25).length = 7 := by rw [e_L25]; exact (by rw [List.length_set]; exact l_L19)
    refine TI_segK (i := 0) (j := 9) (s' := { σ := [(3, .lf (.own 3 0)), (4, .lf (.own 4 0)), (5, .lf (.own 5 0)), (7, .lf (.own 7 0))], H := [(3, [.one (.v (.slice Au0_0 (List.length u0_0) cu0_0)), .arr .i64 4 u0_1]), (4, [.arr .i64 7 u1]), (5, [.arr .u8 5 u2]), (7, [.arr .i64 7 L25])], V := [], M := M, ds := [] }) [3, 4, 5, 7] [3, 4, 5, 7] [] (by subst e_L25 e_x24 e_x23 e_x22 e_x21 e_x20; kernel_rfl) (by kernel_rfl) ?_
    refine TI_end (by kernel_rfl) ?_
    refine thenQ_n ?_
    refine T_seq (c1 := (sub [1, 1, 1, 1, 1, 1, 1, 0] (bodyOf Try.f4))) (c2 := (sub [1, 1, 1, 1, 1, 1, 1, 1] (bodyOf Try.f4))) (by kernel_rfl) ?_
    refine T_region (id := 8) (by kernel_rfl) ?_
    obtain ⟨x26, e_x26, h⟩ := lt_some h
    obtain ⟨x27, e_x27, h⟩ := lt_some h
    obtain ⟨x28, e_x28, h⟩ := lt_some h
    obtain ⟨x29, e_x29, h⟩ := lt_some h
    obtain ⟨x30, e_x30, h⟩ := lt_some h
    obtain ⟨L31, e_L31, h⟩ := lt_some h
    have l_L31 : (L31).length = 7 := by rw [e_L31]; exact (by rw [List.length_set]; exact l_L25)
    refine TI_segK (i := 0) (j := 9) (s' := { σ := [(3, .lf (.own 3 0)), (4, .lf (.own 4 0)), (7, .lf (.own 7 0))], H := [(3, [.one (.v (.slice Au0_0 (List.length u0_0) cu0_0)), .arr .i64 4 u0_1]), (4, [.arr .i64 7 u1]), (7, [.arr .i64 7 L31])], V := [], M := M, ds := [] }) [3, 4, 7] [3, 4, 7] [] (by subst e_L31 e_x30 e_x29 e_x28 e_x27 e_x26; kernel_rfl) (by kernel_rfl) ?_
    refine TI_end (by kernel_rfl) ?_
    refine thenQ_n ?_
    refine T_seq (c1 := (sub [1, 1, 1, 1, 1, 1, 1, 1, 0] (bodyOf Try.f4))) (c2 := (sub [1, 1, 1, 1, 1, 1, 1, 1, 1] (bodyOf Try.f4))) (by kernel_rfl) ?_
    refine T_region (id := 9) (by kernel_rfl) ?_
    refine TI_segK (i := 0) (j := 2) (s' := { σ := [(3, .lf (.own 3 0)), (7, .lf (.own 7 0)), (59, .agg [.one (.v (.slice Au0_0 (List.length u0_0) cu0_0)), .arr .i64 4 u0_1]), (60, .agg [.arr .i64 7 u1])], H := [(3, [.one (.v (.slice Au0_0 (List.length u0_0) cu0_0)), .arr .i64 4 u0_1]), (7, [.arr .i64 7 L31])], V := [], M := M, ds := [] }) [3, 7, 59, 60] [3, 7] [] (by kernel_rfl) (by kernel_rfl) ?_
    obtain ⟨v32, v33, c_v32, h⟩ := cl2_some h
    refine TI_at (i := 2) (d := 61) (x := .tup [(some (.v (.int .i64 v32)), []), (some (.v (.int .i64 v33)), [])]) (At_call (d := 61) (f := 14) (args := [rval (.agg [.one (.v (.slice Au0_0 (List.length u0_0) cu0_0)), .arr .i64 4 u0_1]), rval (.agg [.arr .i64 7 u1])]) (x := .tup [(some (.v (.int .i64 v32)), []), (some (.v (.int .i64 v33)), [])]) (by kernel_rfl) (w14 k hu0_0 hu0_1 hu1 c_v32)) (by kernel_rfl) (by intro y hy; simp only [List.mem_cons, List.mem_nil_iff, or_false] at hy; rcases hy with rfl | rfl <;> exact trivial) ?_
    refine TI_segK (i := 3) (j := 8) (s' := { σ := [(3, .lf (.own 3 0)), (7, .lf (.own 7 0)), (8, .lf (.v (.int .i64 v32))), (9, .lf (.v (.int .i64 v33)))], H := [(3, [.one (.v (.slice Au0_0 (List.length u0_0) cu0_0)), .arr .i64 4 u0_1]), (7, [.arr .i64 7 L31])], V := [], M := M, ds := [] }) [3, 7, 8, 9] [3, 7] [] (by kernel_rfl) (by kernel_rfl) ?_
    refine TI_end (by kernel_rfl) ?_
    refine thenQ_n ?_
    refine T_seq (c1 := (sub [1, 1, 1, 1, 1, 1, 1, 1, 1, 0] (bodyOf Try.f4))) (c2 := (sub [1, 1, 1, 1, 1, 1, 1, 1, 1, 1] (bodyOf Try.f4))) (by kernel_rfl) ?_
    refine T_region (id := 10) (by kernel_rfl) ?_
    refine TI_segK (i := 0) (j := 2) (s' := { σ := [(8, .lf (.v (.int .i64 v32))), (9, .lf (.v (.int .i64 v33))), (65, .agg [.one (.v (.slice Au0_0 (List.length u0_0) cu0_0)), .arr .i64 4 u0_1]), (66, .agg [.arr .i64 7 L31])], H := [], V := [], M := M, ds := [] }) [8, 9, 65, 66] [] [] (by kernel_rfl) (by kernel_rfl) ?_
    obtain ⟨v34, v35, c_v34, h⟩ := cl2_some h
    refine TI_at (i := 2) (d := 67) (x := .tup [(some (.v (.int .i64 v34)), []), (some (.v (.int .i64 v35)), [])]) (At_call (d := 67) (f := 14) (args := [rval (.agg [.one (.v (.slice Au0_0 (List.length u0_0) cu0_0)), .arr .i64 4 u0_1]), rval (.agg [.arr .i64 7 L31])]) (x := .tup [(some (.v (.int .i64 v34)), []), (some (.v (.int .i64 v35)), [])]) (by kernel_rfl) (w14 k hu0_0 hu0_1 l_L31 c_v34)) (by kernel_rfl) (by intro y hy; simp only [List.mem_cons, List.mem_nil_iff, or_false] at hy; rcases hy with rfl | rfl <;> exact trivial) ?_
    refine TI_segK (i := 3) (j := 8) (s' := { σ := [(8, .lf (.v (.int .i64 v32))), (9, .lf (.v (.int .i64 v33))), (10, .lf (.v (.int .i64 v34))), (11, .lf (.v (.int .i64 v35)))], H := [], V := [], M := M, ds := [] }) [8, 9, 10, 11] [] [] (by kernel_rfl) (by kernel_rfl) ?_
    refine TI_end (by kernel_rfl) ?_
    refine thenQ_n ?_
    obtain ⟨j37, e_j37, h⟩ := jn_some h
    refine T_cut (c1 := (sub [1, 1, 1, 1, 1, 1, 1, 1, 1, 1, 0] (bodyOf Try.f4))) (c2 := (sub [1, 1, 1, 1, 1, 1, 1, 1, 1, 1, 1] (bodyOf Try.f4))) (fun s' => ∃ (b36 : Bool), Sub { σ := [(6, .lf (.v (.bool b36)))], H := [], V := [], M := M, ds := [] } s' ∧ j37 b36 = some r) (by kernel_rfl) ?_ ?_
    · refine T_region (id := 11) (by kernel_rfl) ?_
      obtain ⟨b38, e_b38, h⟩ := lt_some h
      refine TI_segK (i := 0) (j := 3) (s' := { σ := [(8, .lf (.v (.int .i64 v32))), (10, .lf (.v (.int .i64 v34))), (11, .lf (.v (.int .i64 v35))), (72, .lf (.v (.bool b38)))], H := [], V := [], M := M, ds := [] }) [8, 10, 11, 72] [] [] (by subst e_b38; kernel_rfl) (by kernel_rfl) ?_
      cases b38 with
      | true =>
        replace h := sp_t h
        obtain ⟨b39, e_b39, h⟩ := lt_some h
        refine TI_segK (i := 3) (j := 7) (s' := { σ := [(8, .lf (.v (.int .i64 v32))), (10, .lf (.v (.int .i64 v34))), (76, .lf (.v (.bool b39)))], H := [], V := [], M := M, ds := [] }) [8, 10, 76] [] [] (by subst e_b39; kernel_rfl) (by kernel_rfl) ?_
        cases b39 with
        | true =>
          replace h := sp_t h
          obtain ⟨b40, e_b40, h⟩ := lt_some h
          refine TI_segK (i := 7) (j := 10) (s' := { σ := [(8, .lf (.v (.int .i64 v32))), (10, .lf (.v (.int .i64 v34))), (76, .lf (.v (.bool true))), (79, .lf (.v (.bool b40)))], H := [], V := [], M := M, ds := [] }) [8, 10, 76, 79] [] [] (by subst e_b40; kernel_rfl) (by kernel_rfl) ?_
          cases b40 with
          | true =>
            replace h := sp_t h
            obtain ⟨b41, e_b41, h⟩ := lt_some h
            refine TI_segK (i := 10) (j := 18) (s' := { σ := [(8, .lf (.v (.int .i64 v32))), (84, .lf (.v (.bool true))), (87, .lf (.v (.bool b41)))], H := [], V := [], M := M, ds := [] }) [8, 84, 87] [] [] (by subst e_b41; kernel_rfl) (by kernel_rfl) ?_
            cases b41 with
            | true =>
              replace h := sp_t h
              refine TI_segK (i := 18) (j := 23) (s' := { σ := [(92, .lf (.v (.bool true)))], H := [], V := [], M := M, ds := [] }) [92] [] [] (by kernel_rfl) (by kernel_rfl) ?_
              obtain ⟨v42, c_v42, h⟩ := cl_some h
              refine TI_at (i := 23) (d := 93) (x := .lf (.v (.bool v42))) (At_call (d := 93) (f := 12) (args := []) (x := .lf (.v (.bool v42))) (by kernel_rfl) (w12 k  c_v42)) (by kernel_rfl) trivial ?_
              refine TI_segK (i := 24) (j := 26) (s' := { σ := [(6, .lf (.v (.bool v42)))], H := [], V := [], M := M, ds := [] }) [6] [] [] (by kernel_rfl) (by kernel_rfl) ?_
              refine TI_end (by kernel_rfl) ?_
              refine thenQ_n ?_
              exact ⟨v42, keep_sub (ts := [6]) (hs := []) (vs := []) (by kernel_rfl), h⟩
            | false =>
              replace h := sp_f h
              obtain ⟨b43, e_b43, h⟩ := lt_some h
              refine TI_segK (i := 18) (j := 23) (s' := { σ := [(92, .lf (.v (.bool b43)))], H := [], V := [], M := M, ds := [] }) [92] [] [] (by subst e_b43; kernel_rfl) (by kernel_rfl) ?_
              cases b43 with
              | true =>
                replace h := sp_t h
                obtain ⟨v44, c_v44, h⟩ := cl_some h
                refine TI_at (i := 23) (d := 93) (x := .lf (.v (.bool v44))) (At_call (d := 93) (f := 12) (args := []) (x := .lf (.v (.bool v44))) (by kernel_rfl) (w12 k  c_v44)) (by kernel_rfl) trivial ?_
                refine TI_segK (i := 24) (j := 26) (s' := { σ := [(6, .lf (.v (.bool v44)))], H := [], V := [], M := M, ds := [] }) [6] [] [] (by kernel_rfl) (by kernel_rfl) ?_
                refine TI_end (by kernel_rfl) ?_
                refine thenQ_n ?_
                exact ⟨v44, keep_sub (ts := [6]) (hs := []) (vs := []) (by kernel_rfl), h⟩
              | false =>
                replace h := sp_f h
                refine TI_segK (i := 23) (j := 26) (s' := { σ := [(6, .lf (.v (.bool false)))], H := [], V := [], M := M, ds := [] }) [6] [] [] (by kernel_rfl) (by kernel_rfl) ?_
                refine TI_end (by kernel_rfl) ?_
                refine thenQ_n ?_
                exact ⟨false, keep_sub (ts := [6]) (hs := []) (vs := []) (by kernel_rfl), h⟩
          | false =>
            replace h := sp_f h
            obtain ⟨b45, e_b45, h⟩ := lt_some h
            refine TI_segK (i := 10) (j := 15) (s' := { σ := [(8, .lf (.v (.int .i64 v32))), (10, .lf (.v (.int .i64 v34))), (84, .lf (.v (.bool b45)))], H := [], V := [], M := M, ds := [] }) [8, 10, 84] [] [] (by subst e_b45; kernel_rfl) (by kernel_rfl) ?_
            cases b45 with
            | true =>
              replace h := sp_t h
              obtain ⟨b46, e_b46, h⟩ := lt_some h
              refine TI_segK (i := 15) (j := 18) (s' := { σ := [(8, .lf (.v (.int .i64 v32))), (84, .lf (.v (.bool true))), (87, .lf (.v (.bool b46)))], H := [], V := [], M := M, ds := [] }) [8, 84, 87] [] [] (by subst e_b46; kernel_rfl) (by kernel_rfl) ?_
              cases b46 with
              | true =>
                replace h := sp_t h
                refine TI_segK (i := 18) (j := 23) (s' := { σ := [(92, .lf (.v (.bool true)))], H := [], V := [], M := M, ds := [] }) [92] [] [] (by kernel_rfl) (by kernel_rfl) ?_
                obtain ⟨v47, c_v47, h⟩ := cl_some h
                refine TI_at (i := 23) (d := 93) (x := .lf (.v (.bool v47))) (At_call (d := 93) (f := 12) (args := []) (x := .lf (.v (.bool v47))) (by kernel_rfl) (w12 k  c_v47)) (by kernel_rfl) trivial ?_
                refine TI_segK (i := 24) (j := 26) (s' := { σ := [(6, .lf (.v (.bool v47)))], H := [], V := [], M := M, ds := [] }) [6] [] [] (by kernel_rfl) (by kernel_rfl) ?_
                refine TI_end (by kernel_rfl) ?_
                refine thenQ_n ?_
                exact ⟨v47, keep_sub (ts := [6]) (hs := []) (vs := []) (by kernel_rfl), h⟩
              | false =>
                replace h := sp_f h
                obtain ⟨b48, e_b48, h⟩ := lt_some h
                refine TI_segK (i := 18) (j := 23) (s' := { σ := [(92, .lf (.v (.bool b48)))], H := [], V := [], M := M, ds := [] }) [92] [] [] (by subst e_b48; kernel_rfl) (by kernel_rfl) ?_
                cases b48 with
                | true =>
                  replace h := sp_t h
                  obtain ⟨v49, c_v49, h⟩ := cl_some h
                  refine TI_at (i := 23) (d := 93) (x := .lf (.v (.bool v49))) (At_call (d := 93) (f := 12) (args := []) (x := .lf (.v (.bool v49))) (by kernel_rfl) (w12 k  c_v49)) (by kernel_rfl) trivial ?_
                  refine TI_segK (i := 24) (j := 26) (s' := { σ := [(6, .lf (.v (.bool v49)))], H := [], V := [], M := M, ds := [] }) [6] [] [] (by kernel_rfl) (by kernel_rfl) ?_
                  refine TI_end (by kernel_rfl) ?_
                  refine thenQ_n ?_
                  exact ⟨v49, keep_sub (ts := [6]) (hs := []) (vs := []) (by kernel_rfl), h⟩
                | false =>
                  replace h := sp_f h
                  refine TI_segK (i := 23) (j := 26) (s' := { σ := [(6, .lf (.v (.bool false)))], H := [], V := [], M := M, ds := [] }) [6] [] [] (by kernel_rfl) (by kernel_rfl) ?_
                  refine TI_end (by kernel_rfl) ?_
                  refine thenQ_n ?_
                  exact ⟨false, keep_sub (ts := [6]) (hs := []) (vs := []) (by kernel_rfl), h⟩
            | false =>
              replace h := sp_f h
              refine TI_segK (i := 15) (j := 26) (s' := { σ := [(6, .lf (.v (.bool false)))], H := [], V := [], M := M, ds := [] }) [6] [] [] (by kernel_rfl) (by kernel_rfl) ?_
              refine TI_end (by kernel_rfl) ?_
              refine thenQ_n ?_
              exact ⟨false, keep_sub (ts := [6]) (hs := []) (vs := []) (by kernel_rfl), h⟩
        | false =>
          replace h := sp_f h
          refine TI_segK (i := 7) (j := 26) (s' := { σ := [(6, .lf (.v (.bool false)))], H := [], V := [], M := M, ds := [] }) [6] [] [] (by kernel_rfl) (by kernel_rfl) ?_
          refine TI_end (by kernel_rfl) ?_
          refine thenQ_n ?_
          exact ⟨false, keep_sub (ts := [6]) (hs := []) (vs := []) (by kernel_rfl), h⟩
      | false =>
        replace h := sp_f h
        refine TI_segK (i := 3) (j := 26) (s' := { σ := [(6, .lf (.v (.bool false)))], H := [], V := [], M := M, ds := [] }) [6] [] [] (by kernel_rfl) (by kernel_rfl) ?_
        refine TI_end (by kernel_rfl) ?_
        refine thenQ_n ?_
        exact ⟨false, keep_sub (ts := [6]) (hs := []) (vs := []) (by kernel_rfl), h⟩
    · rintro s' ⟨b36, hsub, h⟩
      subst e_j37
      refine T_sub hsub ?_
      refine T_ret (by kernel_rfl) ?_
      have h := Option.some.inj h
      subst h
      refine fin_ret (.lf (.v (.bool b36))) (by kernel_rfl) (by kernel_rfl) rfl ?_
      rfl
  | false =>
    replace h := sp_f h
    refine T_condT (x := (.tmp 15)) (c1 := (sub [1, 0, 1, 0] (bodyOf Try.f4))) (c2 := (sub [1, 0, 1, 1] (bodyOf Try.f4))) (by kernel_rfl) (by kernel_rfl) ?_
    refine T_keep (s' := { σ := [], H := [], V := [], M := M, ds := [] }) [] [] [] (by kernel_rfl) ?_
    refine T_seq (c1 := (sub [1, 0, 1, 0, 0] (bodyOf Try.f4))) (c2 := (sub [1, 0, 1, 0, 1] (bodyOf Try.f4))) (by kernel_rfl) ?_
    refine T_region (id := 2) (by kernel_rfl) ?_
    obtain ⟨v50, c_v50, h⟩ := cl_some h
    refine TI_at (i := 0) (d := 16) (x := .lf (.v (.bool v50))) (At_call (d := 16) (f := 12) (args := []) (x := .lf (.v (.bool v50))) (by kernel_rfl) (w12 k  c_v50)) (by kernel_rfl) trivial ?_
    refine TI_segK (i := 1) (j := 2) (s' := { σ := [(6, .lf (.v (.bool v50)))], H := [], V := [], M := M, ds := [] }) [6] [] [] (by kernel_rfl) (by kernel_rfl) ?_
    refine TI_end (by kernel_rfl) ?_
    refine thenQ_n ?_
    refine T_ret (by kernel_rfl) ?_
    refine thenQ_r ?_
    have h := Option.some.inj h
    subst h
    refine fin_ret (.lf (.v (.bool v50))) (by kernel_rfl) (by kernel_rfl) rfl ?_
    rfl
end Go.Proofs.Ythjkejbgknemgaa
namespace Go.Proofs.Ythjkejbgknemgaa
open Go.RowKit Classical
theorem wr64 {z : Int} (h1 : -9223372036854775808 ≤ z) (h2 : z ≤ 9223372036854775807) : wr .i64 z = z := by
  simp only [wr, IntKind.wrap, IntKind.signed, IntKind.bits]
  simp
  omega
theorem wr8 {z : Int} (h1 : 0 ≤ z) (h2 : z ≤ 255) : wr .u8 z = z := by
  simp only [wr, IntKind.wrap, IntKind.signed, IntKind.bits]
  simp
  omega
theorem mx_eq (x y : Int) : mx x y = max x y := by unfold mx; omega
theorem mn_eq (x y : Int) : mn x y = min x y := by unfold mn; omega
theorem lt_v {α β : Type} (x : β) (F : β → Option α) : lt' x F = F x := rfl
theorem jn_v {α β : Type} (F : β) (G : β → Option α) : jn F G = G F := rfl
theorem cl_v {α β : Type} (v : β) (F : β → Option α) : cl (some v) F = F v := rfl
theorem cl2_v {α β γ : Type} (a : α) (b : β) (F : α → β → Option γ) : cl2 (some (a, b)) F = F a b := rfl
theorem cl3_v {α β γ δ : Type} (a : α) (b : β) (c : γ) (F : α → β → γ → Option δ) : cl3 (some (a, b, c)) F = F a b c := rfl
theorem sp_tt {α : Type} (x y : Option α) : sp true x y = x := rfl
theorem sp_ff {α : Type} (x y : Option α) : sp false x y = y := rfl
theorem sp_d {α : Type} {c : Prop} [h : Decidable c] (x y : Option α) : sp (decide c) x y = if c then x else y := by
  cases h <;> rfl
theorem sp_nd {α : Type} {c : Prop} [h : Decidable c] (x y : Option α) : sp (!decide c) x y = if c then y else x := by
  cases h <;> rfl
theorem gd_v {α : Type} {c : Prop} [Decidable c] (h : c) (x : Option α) : gd c x = x := by unfold gd; rw [if_pos h]
/-! ### logs -/
def rA (r : List Int) : Int := r.getD 0 0
def rPL (r : List Int) : Int := r.getD 1 0
def rPH (r : List Int) : Int := r.getD 2 0
def rVL (k : Nat) (r : List Int) : Int := r.getD (3 + k * 2 + 0) 0
def rVH (k : Nat) (r : List Int) : Int := r.getD (3 + k * 2 + 1) 0
def bandOk (a b : Int) : Prop := -1073741824 ≤ a ∧ a ≤ b ∧ b ≤ 1073741824
instance bandDec (a b : Int) : Decidable (bandOk a b) := inferInstanceAs (Decidable (-1073741824 ≤ a ∧ a ≤ b ∧ b ≤ 1073741824))
def readOk (r : List Int) : Prop := 0 ≤ rA r ∧ rA r ≤ 1099511627776 ∧ bandOk (rPL r) (rPH r) ∧ ∀ k, k < 4 → bandOk (rVL k r) (rVH k r)
def rd (R : List (List Int)) (i : Nat) : List Int := R.getD i []
def stT (R : List (List Int)) : Int := rA (rd R 0)
def lastI (R : List (List Int)) : Int := rA (rd R (R.length - 1)) - stT R
structure ArgOk (R : List (List Int)) (D : List Int) : Prop where
  n2 : 2 ≤ R.length
  read : ∀ i, i < R.length → readOk (rd R i)
  asc : ∀ i, i + 1 < R.length → rA (rd R i) < rA (rd R (i + 1))
  span : lastI R ≤ 2000
  dr : ∀ k, k < 4 → 0 ≤ D.getD k 0 ∧ D.getD k 0 ≤ 1048576
def ab (x : Int) : Int := max x (-x)
def PL (t : Int) : List (List Int) → Int → Int
  | [], b => b
  | r :: l, b => PL t l (if rA r ≤ t then max b (rPL r) else b)
def PH (t : Int) : List (List Int) → Int → Int
  | [], b => b
  | r :: l, b => PH t l (if t ≤ rA r then min b (rPH r) else b)
def VL (d : Int) (k : Nat) (t : Int) : List (List Int) → Int → Int
  | [], b => b
  | r :: l, b => VL d k t l (max b (rVL k r - d * ab (rA r - t)))
def VH (d : Int) (k : Nat) (t : Int) : List (List Int) → Int → Int
  | [], b => b
  | r :: l, b => VH d k t l (min b (rVH k r + d * ab (rA r - t)))
/-- the spans, by the minute -/
def pl (R : List (List Int)) (m : Int) : Int := PL (stT R + m) R (-1099511627776)
def ph (R : List (List Int)) (m : Int) : Int := PH (stT R + m) R 1099511627776
def vl (R : List (List Int)) (D : List Int) (k : Nat) (m : Int) : Int := VL (D.getD k 0) k (stT R + m) R (-1125899906842624)
def vh (R : List (List Int)) (D : List Int) (k : Nat) (m : Int) : Int := VH (D.getD k 0) k (stT R + m) R 1125899906842624
def SumAt (R : List (List Int)) (D : List Int) (m : Int) : Prop := pl R m ≤ ph R m ∧ ∀ k, k < 4 → vl R D k m ≤ vh R D k m
def SumOk (R : List (List Int)) (D : List Int) : Prop := ∀ m : Int, 0 ≤ m → m ≤ lastI R → SumAt R D m
noncomputable def logE (R : List (List Int)) (D : List Int) : Int := if 64 < R.length then 6 else if ¬ ArgOk R D then 2 else if ¬ SumOk R D then 16 else 0
structure LogOk (R : List (List Int)) (D : List Int) : Prop where
  n64 : R.length ≤ 64
  arg : ArgOk R D
  sum : SumOk R D
theorem logE_zero {R D} : logE R D = 0 ↔ LogOk R D := by
  unfold logE
  constructor
  · intro h
    split at h
    · omega
    · split at h
      · omega
      · split at h
        · omega
        · rename_i h1 h2 h3
          exact ⟨by omega, Classical.not_not.1 h2, Classical.not_not.1 h3⟩
  · intro h
    rw [if_neg (by have := h.n64; omega), if_neg (by have := h.arg; simpa using this), if_neg (by have := h.sum; simpa using this)]
/-! ### what spans are bounded by -/
theorem PL_le {t x : Int} : ∀ {l : List (List Int)} {b : Int}, PL t l b ≤ x ↔ b ≤ x ∧ ∀ r ∈ l, rA r ≤ t → rPL r ≤ x
  | [], b => by simp [PL]
  | r :: l, b => by
    simp only [PL]
    rw [PL_le]
    simp only [List.mem_cons, forall_eq_or_imp]
    split
    · rename_i h; constructor
      · rintro ⟨h1, h2⟩; exact ⟨by omega, fun _ => by omega, h2⟩
      · rintro ⟨h1, h2, h3⟩; have := h2 h; exact ⟨by omega, h3⟩
    · rename_i h; constructor
      · rintro ⟨h1, h2⟩; exact ⟨h1, fun hh => absurd hh h, h2⟩
      · rintro ⟨h1, _, h3⟩; exact ⟨h1, h3⟩
theorem le_PH {t x : Int} : ∀ {l : List (List Int)} {b : Int}, x ≤ PH t l b ↔ x ≤ b ∧ ∀ r ∈ l, t ≤ rA r → x ≤ rPH r
  | [], b => by simp [PH]
  | r :: l, b => by
    simp only [PH]
    rw [le_PH]
    simp only [List.mem_cons, forall_eq_or_imp]
    split
    · rename_i h; constructor
      · rintro ⟨h1, h2⟩; exact ⟨by omega, fun _ => by omega, h2⟩
      · rintro ⟨h1, h2, h3⟩; have := h2 h; exact ⟨by omega, h3⟩
    · rename_i h; constructor
      · rintro ⟨h1, h2⟩; exact ⟨h1, fun hh => absurd hh h, h2⟩
      · rintro ⟨h1, _, h3⟩; exact ⟨h1, h3⟩
theorem VL_le {d t x : Int} {k : Nat} : ∀ {l : List (List Int)} {b : Int}, VL d k t l b ≤ x ↔ b ≤ x ∧ ∀ r ∈ l, rVL k r - d * ab (rA r - t) ≤ x
  | [], b => by simp [VL]
  | r :: l, b => by
    simp only [VL]
    rw [VL_le]
    simp only [List.mem_cons, forall_eq_or_imp]
    constructor
    · rintro ⟨h1, h2⟩; exact ⟨by omega, by omega, h2⟩
    · rintro ⟨h1, h2, h3⟩; exact ⟨by omega, h3⟩
theorem le_VH {d t x : Int} {k : Nat} : ∀ {l : List (List Int)} {b : Int}, x ≤ VH d k t l b ↔ x ≤ b ∧ ∀ r ∈ l, x ≤ rVH k r + d * ab (rA r - t)
  | [], b => by simp [VH]
  | r :: l, b => by
    simp only [VH]
    rw [le_VH]
    simp only [List.mem_cons, forall_eq_or_imp]
    constructor
    · rintro ⟨h1, h2⟩; exact ⟨by omega, by omega, h2⟩
    · rintro ⟨h1, h2, h3⟩; exact ⟨by omega, h3⟩
/-! ### small functions -/
theorem p49_eq (k : Nat) (x a b : Int) : p49 k x a b = some (decide (a ≤ x ∧ x ≤ b)) := by
  unfold p49
  simp only [jn_v, lt_v, sp_d]
  repeat' split
  all_goals first | exact congrArg some (decide_eq_decide.2 (by omega)) | exact congrArg some (decide_eq_false (by omega)).symm
theorem p50_eq (k : Nat) (x a b : Int) : p50 k x a b = some (decide (a ≤ x ∧ x ≤ b)) := by
  unfold p50
  simp only [jn_v, lt_v, sp_d]
  repeat' split
  all_goals first | exact congrArg some (decide_eq_decide.2 (by omega)) | exact congrArg some (decide_eq_false (by omega)).symm
theorem p52_eq (k : Nat) (L : List Int) : p52 k L = some (decide (bandOk (L.getD 0 0) (L.getD 1 0))) := by
  unfold p52 bandOk
  simp only [jn_v, lt_v, sp_d]
  generalize L.getD 0 0 = a
  generalize L.getD 1 0 = b
  repeat' split
  all_goals first | exact congrArg some (decide_eq_decide.2 (by omega)) | exact congrArg some (decide_eq_false (by omega)).symm
theorem p61_eq (k : Nat) (L : List Int) : p61 k L = some (decide (bandOk (L.getD 0 0) (L.getD 1 0))) := by
  unfold p61 bandOk
  simp only [jn_v, lt_v, p49_eq, cl_v, sp_d]
  generalize L.getD 0 0 = a
  generalize L.getD 1 0 = b
  repeat' split
  all_goals first | exact congrArg some (decide_eq_decide.2 (by omega)) | exact congrArg some (decide_eq_false (by omega)).symm
/-- a claim that is valid -/
def ClaimOk (u : List Int) : Prop :=
  -1073741824 ≤ u.getD 0 0 ∧ u.getD 0 0 ≤ u.getD 1 0 ∧ u.getD 1 0 ≤ 1073741824 ∧ 0 ≤ u.getD 2 0 ∧ u.getD 2 0 < 4 ∧ -1073741824 ≤ u.getD 3 0 ∧ u.getD 3 0 ≤ 1073741824 ∧
  0 ≤ u.getD 4 0 ∧ u.getD 4 0 ≤ u.getD 5 0 ∧ u.getD 5 0 ≤ 1099511627776 ∧ 0 ≤ u.getD 6 0 ∧ u.getD 6 0 ≤ 67108864
noncomputable def claimE (u : List Int) : Int := if ClaimOk u then 0 else 2
theorem claimE_zero {u} : claimE u = 0 ↔ ClaimOk u := by
  unfold claimE
  split
  · rename_i h; exact ⟨fun _ => h, fun _ => rfl⟩
  · rename_i h; exact ⟨fun hh => by omega, fun hh => absurd hh h⟩
theorem p32_eq (k : Nat) (u : List Int) : p32 k u = some (claimE u) := by
  unfold p32 claimE ClaimOk
  simp only [jn_v, lt_v, p49_eq, p61_eq, cl_v, sp_d, bandOk, List.getD_cons_zero, List.getD_cons_succ]
  generalize u.getD 0 0 = a0
  generalize u.getD 1 0 = a1
  generalize u.getD 2 0 = a2
  generalize u.getD 3 0 = a3
  generalize u.getD 4 0 = a4
  generalize u.getD 5 0 = a5
  generalize u.getD 6 0 = a6
  simp only [← decide_not, sp_tt, sp_ff, sp_d]
  repeat' split
  all_goals first | rfl | (exfalso; omega)
theorem p33_eq (k : Nat) (u : List Int) : p33 k u = some (claimE u) := by
  unfold p33 claimE ClaimOk
  simp only [jn_v, lt_v, p50_eq, cl_v, sp_d]
  generalize u.getD 0 0 = a0
  generalize u.getD 1 0 = a1
  generalize u.getD 2 0 = a2
  generalize u.getD 3 0 = a3
  generalize u.getD 4 0 = a4
  generalize u.getD 5 0 = a5
  generalize u.getD 6 0 = a6
  simp only [← decide_not, sp_tt, sp_ff, sp_d]
  repeat' split
  all_goals first | rfl | (exfalso; omega)
end Go.Proofs.Ythjkejbgknemgaa
namespace Go.Proofs.Ythjkejbgknemgaa
open Go.RowKit Classical
theorem drop_rd {R : List (List Int)} {i : Nat} (h : i < R.length) : R.drop i = rd R i :: R.drop (i + 1) := by
  rw [List.drop_eq_getElem_cons h]
  simp [rd, List.getD_eq_getElem?_getD, List.getElem?_eq_getElem h]
theorem mem_rd {R : List (List Int)} {r : List Int} (h : r ∈ R) : ∃ i, i < R.length ∧ rd R i = r := by
  obtain ⟨i, hi, rfl⟩ := List.getElem_of_mem h
  exact ⟨i, hi, by simp [rd, List.getD_eq_getElem?_getD, List.getElem?_eq_getElem hi]⟩
theorem rd_mem {R : List (List Int)} {i : Nat} (h : i < R.length) : rd R i ∈ R := by
  simp only [rd, List.getD_eq_getElem?_getD, List.getElem?_eq_getElem h, Option.getD_some]
  exact List.getElem_mem h
theorem asc_lt {R : List (List Int)} (ha : ∀ i, i + 1 < R.length → rA (rd R i) < rA (rd R (i + 1))) : ∀ {d i : Nat}, i + d + 1 < R.length → rA (rd R i) < rA (rd R (i + d + 1))
  | 0, i, h => ha i h
  | d + 1, i, h => by
    have h1 := asc_lt ha (d := d) (i := i) (by omega)
    have h2 := ha (i + d + 1) (by omega)
    have : i + (d + 1) + 1 = i + d + 1 + 1 := by omega
    rw [this]; omega
theorem asc_le {R : List (List Int)} (ha : ∀ i, i + 1 < R.length → rA (rd R i) < rA (rd R (i + 1))) {i j : Nat} (hij : i ≤ j) (hj : j < R.length) : rA (rd R i) ≤ rA (rd R j) := by
  rcases Nat.eq_or_lt_of_le hij with e | e
  · rw [e]; exact Int.le_refl _
  · have := asc_lt ha (d := j - i - 1) (i := i) (by omega)
    rw [show i + (j - i - 1) + 1 = j from by omega] at this
    omega
theorem ArgOk.range {R D} (h : ArgOk R D) {i : Nat} (hi : i < R.length) : stT R ≤ rA (rd R i) ∧ rA (rd R i) ≤ stT R + lastI R := by
  have := h.n2
  refine ⟨asc_le h.asc (Nat.zero_le _) hi, ?_⟩
  have := asc_le h.asc (i := i) (j := R.length - 1) (by omega) (by omega)
  unfold lastI
  omega
theorem ArgOk.st {R D} (h : ArgOk R D) : 0 ≤ stT R ∧ stT R ≤ 1099511627776 := by
  have := h.n2
  have := h.read 0 (by omega)
  exact ⟨this.1, this.2.1⟩
theorem ArgOk.last {R D} (h : ArgOk R D) : 1 ≤ lastI R := by
  have h2 := h.n2
  have := h.asc 0 (by omega)
  rw [Nat.zero_add] at this
  have h3 := asc_le h.asc (i := 1) (j := R.length - 1) (by omega) (by omega)
  unfold lastI stT
  omega
theorem p45_eq {k : Nat} {R : List (List Int)} {D : List Int} {m : Int} (h0 : 0 < R.length) (h1 : -9223372036854775808 ≤ stT R + m) (h2 : stT R + m ≤ 9223372036854775807) : p45 k R D m = some (stT R + m) := by
  unfold p45
  rw [gd_v (by omega)]
  simp only [lt_v]
  rw [show (R.getD 0 []).getD 0 0 + m = stT R + m from rfl, wr64 h1 h2]
theorem p53_eq {k : Nat} {R : List (List Int)} {D : List Int} (h0 : 0 < R.length) (hn : R.length ≤ 64) (h1 : -9223372036854775808 ≤ lastI R) (h2 : lastI R ≤ 9223372036854775807) : p53 k R D = some (lastI R) := by
  unfold p53
  simp only [lt_v]
  rw [wr64 (by omega) (by omega), gd_v (by omega), gd_v (by omega)]
  rw [show ((R.length : Int) - 1).toNat = R.length - 1 from by omega]
  rw [show (R.getD (R.length - 1) []).getD 0 0 - (R.getD 0 []).getD 0 0 = lastI R from rfl, wr64 h1 h2]
theorem p16_l1_eq {k : Nat} {R : List (List Int)} {D : List Int} {m t : Int} (hn : R.length ≤ 64) (ht : p45 k R D m = some t) (j : List Int → Option (List Int)) : ∀ (d i n : Nat) (a b : Int), i + d = R.length → d < n →
    p16_l1 k R D m j n (i : Int) [a, b] = j [PL t (R.drop i) a, PH t (R.drop i) b]
  | 0, i, n, a, b, h1, h2 => by
    obtain ⟨n, rfl⟩ : ∃ n', n = n' + 1 := ⟨n - 1, by omega⟩
    rw [p16_l1]
    simp only [lt_v, sp_d]
    rw [if_neg (by omega), List.drop_eq_nil_of_le (by omega)]
    rfl
  | d + 1, i, n, a, b, h1, h2 => by
    obtain ⟨n, rfl⟩ : ∃ n', n = n' + 1 := ⟨n - 1, by omega⟩
    rw [p16_l1]
    simp only [lt_v, sp_d, jn_v]
    rw [if_pos (by omega), gd_v (by omega)]
    simp only [ht, cl_v, mx_eq, mn_eq, Int.toNat_natCast]
    have hw : wr .i64 ((i : Int) + 1) = ((i + 1 : Nat) : Int) := by rw [wr64 (by omega) (by omega)]; omega
    rw [drop_rd (by omega : i < R.length)]
    simp only [PL, PH]
    have ih := fun a b => p16_l1_eq hn ht j d (i + 1) n a b (by omega) (by omega)
    show (if rA (rd R i) ≤ t then _ else _) = _
    have e1 : ∀ a b x : Int, List.set [a, b] 0 x = [x, b] := fun _ _ _ => rfl
    have e2 : ∀ a b x : Int, List.set [a, b] 1 x = [a, x] := fun _ _ _ => rfl
    simp only [e1, e2, List.getD_cons_zero, List.getD_cons_succ, hw, ih, ge_iff_le]
    show (if rA (rd R i) ≤ t then (if t ≤ rA (rd R i) then _ else _) else (if t ≤ rA (rd R i) then _ else _)) = _
    split <;> split <;> rfl
theorem p16_eq {k : Nat} (hk : 5000 ≤ k) {R : List (List Int)} {D : List Int} {m : Int} (h0 : 0 < R.length) (hn : R.length ≤ 64) (h1 : -9223372036854775808 ≤ stT R + m) (h2 : stT R + m ≤ 9223372036854775807) : p16 k R D m = some [pl R m, ph R m] := by
  unfold p16
  simp only [jn_v]
  have := p16_l1_eq hn (p45_eq (k := k) (D := D) h0 h1 h2) (fun L => some L) R.length 0 k (-1099511627776) 1099511627776 (by omega) (by omega)
  rw [List.drop_zero] at this
  exact this
theorem ab_mul {d x : Int} (h0 : 0 ≤ d) (h1 : d ≤ 1048576) (h2 : -2001 ≤ x) (h3 : x ≤ 2001) : 0 ≤ d * ab x ∧ d * ab x ≤ 2098200576 := by
  have : 0 ≤ ab x ∧ ab x ≤ 2001 := by unfold ab; omega
  constructor
  · exact Int.mul_nonneg h0 this.1
  · calc d * ab x ≤ 1048576 * 2001 := Int.mul_le_mul h1 this.2 this.1 (by omega)
      _ = 2098200576 := by rfl
theorem p17_l1_eq {k : Nat} {R : List (List Int)} {D : List Int} {m : Int} {kk : Nat} (hn : R.length ≤ 64) (ha : ArgOk R D) (hm0 : 0 ≤ m) (hm1 : m ≤ lastI R) (hk4 : kk < 4) (j : List Int → Option (List Int)) : ∀ (d i n : Nat) (a b : Int), i + d = R.length → d < n →
    p17_l1 k R D m (kk : Int) j n (i : Int) [a, b] = j [VL (D.getD kk 0) kk (stT R + m) (R.drop i) a, VH (D.getD kk 0) kk (stT R + m) (R.drop i) b]
  | 0, i, n, a, b, h1, h2 => by
    obtain ⟨n, rfl⟩ : ∃ n', n = n' + 1 := ⟨n - 1, by omega⟩
    rw [p17_l1]
    simp only [lt_v, sp_d]
    rw [if_neg (by omega), List.drop_eq_nil_of_le (by omega)]
    rfl
  | d + 1, i, n, a, b, h1, h2 => by
    obtain ⟨n, rfl⟩ : ∃ n', n = n' + 1 := ⟨n - 1, by omega⟩
    have hst := ha.st
    have hsp := ha.span
    have hrg := ha.range (i := i) (by omega)
    have hdr := ha.dr kk hk4
    have hrd := (ha.read i (by omega)).2.2.2 kk hk4
    have h45 : p45 k R D m = some (stT R + m) := p45_eq (by omega) (by omega) (by omega)
    have hmul := ab_mul hdr.1 hdr.2 (x := rA (rd R i) - (stT R + m)) (by omega) (by omega)
    have hw : wr .i64 ((i : Int) + 1) = ((i + 1 : Nat) : Int) := by rw [wr64 (by omega) (by omega)]; omega
    rw [p17_l1]
    simp only [lt_v, sp_d, h45, cl_v, Int.toNat_natCast]
    rw [if_pos (by omega), gd_v (by omega), gd_v (by omega), gd_v (by omega), gd_v (by omega), gd_v (by omega)]
    rw [show List.getD (List.getD R i []) 0 0 = rA (rd R i) from rfl]
    rw [wr64 (z := rA (rd R i) - (stT R + m)) (by omega) (by omega), wr64 (z := stT R + m - rA (rd R i)) (by omega) (by omega)]
    simp only [mx_eq, mn_eq]
    rw [show max (rA (rd R i) - (stT R + m)) (stT R + m - rA (rd R i)) = ab (rA (rd R i) - (stT R + m)) from by unfold ab; omega]
    rw [show D.getD (0 + kk * 1) 0 = D.getD kk 0 from by rw [Nat.zero_add, Nat.mul_one]]
    rw [wr64 (z := D.getD kk 0 * ab (rA (rd R i) - (stT R + m))) (by omega) (by omega)]
    rw [show List.getD (List.getD R i []) (3 + kk * 2 + 0) 0 = rVL kk (rd R i) from rfl, show List.getD (List.getD R i []) (3 + kk * 2 + 1) 0 = rVH kk (rd R i) from rfl]
    unfold bandOk at hrd
    rw [wr64 (z := rVL kk (rd R i) - _) (by omega) (by omega), wr64 (z := rVH kk (rd R i) + _) (by omega) (by omega), hw]
    have e1 : ∀ a b x : Int, List.set [a, b] 0 x = [x, b] := fun _ _ _ => rfl
    have e2 : ∀ a b x : Int, List.set [a, b] 1 x = [a, x] := fun _ _ _ => rfl
    simp only [e1, e2, List.getD_cons_zero, List.getD_cons_succ]
    rw [p17_l1_eq hn ha hm0 hm1 hk4 j d (i + 1) n _ _ (by omega) (by omega), drop_rd (by omega : i < R.length)]
    rfl
theorem p17_eq {k : Nat} (hk : 5000 ≤ k) {R : List (List Int)} {D : List Int} {m : Int} {kk : Nat} (hn : R.length ≤ 64) (ha : ArgOk R D) (hm0 : 0 ≤ m) (hm1 : m ≤ lastI R) (hk4 : kk < 4) : p17 k R D m (kk : Int) = some [vl R D kk m, vh R D kk m] := by
  unfold p17
  simp only [jn_v]
  have := p17_l1_eq (k := k) hn ha hm0 hm1 hk4 (fun L => some L) R.length 0 k (-1125899906842624) 1125899906842624 (by omega) (by omega)
  rw [List.drop_zero] at this
  exact this
/-! ### CheckLog -/
theorem if_all {α : Type} {P Q S : Prop} [Decidable P] [Decidable Q] [Decidable S] (h : P ↔ Q ∧ S) (x y : α) : (if P then x else y) = if Q then (if S then x else y) else y := by
  by_cases hq : Q <;> by_cases hs : S <;> simp [h, hq, hs]
theorem if_row {α : Type} {c1 c2 c3 c4 P : Prop} [Decidable c1] [Decidable c2] [Decidable c3] [Decidable c4] [Decidable P] (h : P ↔ c1 ∧ ¬ c3 ∧ c2 ∧ c4) (X Z : α) : (if c1 then (if c3 then Z else (if c2 then (if c4 then X else Z) else Z)) else Z) = if P then X else Z := by
  by_cases h1 : c1 <;> by_cases h2 : c2 <;> by_cases h3 : c3 <;> by_cases h4 : c4 <;> simp [h, h1, h2, h3, h4]
theorem if_row' {α : Type} {c1 c2 c3 c4 P : Prop} [Decidable c1] [Decidable c2] [Decidable c3] [Decidable c4] [Decidable P] (h : P ↔ c1 ∧ ¬ c3 ∧ c2 ∧ c4) (X Z : α) : (if c1 then (if c2 then (if c3 then Z else (if c4 then X else Z)) else Z) else Z) = if P then X else Z := by
  by_cases h1 : c1 <;> by_cases h2 : c2 <;> by_cases h3 : c3 <;> by_cases h4 : c4 <;> simp [h, h1, h2, h3, h4]
theorem if_row0 {α : Type} {c1 c2 c4 P : Prop} [Decidable c1] [Decidable c2] [Decidable c4] [Decidable P] (h : P ↔ c1 ∧ c2 ∧ c4) (X Z : α) : (if c1 then (if c2 then (if c4 then X else Z) else Z) else Z) = if P then X else Z := by
  by_cases h1 : c1 <;> by_cases h2 : c2 <;> by_cases h4 : c4 <;> simp [h, h1, h2, h4]
theorem p21_l2_eq {k : Nat} {j : Option Int} {L : List Int} : ∀ (d i n : Nat), i + d = 4 → d < n → p21_l2 k j L n (i : Int) = if ∀ q, i ≤ q → q < 4 → bandOk (rVL q L) (rVH q L) then j else some 2
  | 0, i, n, h1, h2 => by
    obtain ⟨n, rfl⟩ : ∃ n', n = n' + 1 := ⟨n - 1, by omega⟩
    rw [p21_l2]
    simp only [lt_v, sp_d]
    rw [if_neg (by omega), if_pos (fun q h3 h4 => by omega)]
  | d + 1, i, n, h1, h2 => by
    obtain ⟨n, rfl⟩ : ∃ n', n = n' + 1 := ⟨n - 1, by omega⟩
    rw [p21_l2]
    simp only [lt_v, sp_d, p52_eq, cl_v, Int.toNat_natCast]
    rw [if_pos (by omega), gd_v (by omega)]
    have hw : wr .i64 ((i : Int) + 1) = ((i + 1 : Nat) : Int) := by rw [wr64 (by omega) (by omega)]; omega
    rw [hw, p21_l2_eq d (i + 1) n (by omega) (by omega)]
    have e0 : (List.take 2 (List.drop (3 + i * 2) L)).getD 0 0 = rVL i L := by simp [rVL, List.getD_eq_getElem?_getD]
    have e1 : (List.take 2 (List.drop (3 + i * 2) L)).getD 1 0 = rVH i L := by simp [rVH, List.getD_eq_getElem?_getD]
    rw [e0, e1]
    rw [if_all (P := ∀ q, i ≤ q → q < 4 → bandOk (rVL q L) (rVH q L)) (Q := bandOk (rVL i L) (rVH i L)) (S := ∀ q, i + 1 ≤ q → q < 4 → bandOk (rVL q L) (rVH q L)) ?_]
    constructor
    · intro h; exact ⟨h i (by omega) (by omega), fun q h3 h4 => h q (by omega) h4⟩
    · rintro ⟨h3, h4⟩ q h5 h6
      rcases Nat.eq_or_lt_of_le h5 with e | e
      · subst e; exact h3
      · exact h4 q e h6
def rowOkAt (R : List (List Int)) (i : Nat) : Prop := readOk (rd R i) ∧ (0 < i → rA (rd R (i - 1)) < rA (rd R i))
theorem p21_l1_eq {k : Nat} (hk : 5000 ≤ k) {R : List (List Int)} (hn : R.length ≤ 64) {j : Option Int} : ∀ (d i n : Nat), i + d = R.length → d < n → p21_l1 k R j n (i : Int) = if ∀ q, i ≤ q → q < R.length → rowOkAt R q then j else some 2
  | 0, i, n, h1, h2 => by
    obtain ⟨n, rfl⟩ : ∃ n', n = n' + 1 := ⟨n - 1, by omega⟩
    rw [p21_l1]
    simp only [lt_v, sp_d]
    rw [if_neg (by omega), if_pos (fun q h3 h4 => by omega)]
  | d + 1, i, n, h1, h2 => by
    obtain ⟨n, rfl⟩ : ∃ n', n = n' + 1 := ⟨n - 1, by omega⟩
    rw [p21_l1]
    simp only [lt_v, sp_d, p52_eq, p50_eq, cl_v, jn_v, Int.toNat_natCast]
    rw [if_pos (by omega), gd_v (by omega)]
    have hw : wr .i64 ((i : Int) + 1) = ((i + 1 : Nat) : Int) := by rw [wr64 (by omega) (by omega)]; omega
    rw [hw, p21_l1_eq hk hn d (i + 1) n (by omega) (by omega)]
    have h2' := p21_l2_eq (k := k) (j := if ∀ q, i + 1 ≤ q → q < R.length → rowOkAt R q then j else some 2) (L := rd R i) 4 0 k (by omega) (by omega)
    have hl2 : p21_l2 k (if ∀ q, i + 1 ≤ q → q < R.length → rowOkAt R q then j else some 2) (R.getD i []) k 0 = _ := h2'
    rw [hl2]
    have e0 : (List.take 2 (List.drop 1 (R.getD i []))).getD 0 0 = rPL (rd R i) := by simp [rPL, rd, List.getD_eq_getElem?_getD]
    have e1 : (List.take 2 (List.drop 1 (R.getD i []))).getD 1 0 = rPH (rd R i) := by simp [rPH, rd, List.getD_eq_getElem?_getD]
    rw [e0, e1]
    rw [if_all (P := ∀ q, i ≤ q → q < R.length → rowOkAt R q) (Q := rowOkAt R i) (S := ∀ q, i + 1 ≤ q → q < R.length → rowOkAt R q) (by
      constructor
      · intro h; exact ⟨h i (by omega) (by omega), fun q h3 h4 => h q (by omega) h4⟩
      · rintro ⟨h3, h4⟩ q h5 h6
        rcases Nat.eq_or_lt_of_le h5 with e | e
        · subst e; exact h3
        · exact h4 q e h6)]
    generalize hX : (if ∀ q, i + 1 ≤ q → q < R.length → rowOkAt R q then j else some 2) = X
    have hA : List.getD (R.getD i []) 0 0 = rA (rd R i) := rfl
    rw [hA]
    by_cases hi : 0 < i
    · have hw2 : wr .i64 ((i : Int) - 1) = ((i - 1 : Nat) : Int) := by rw [wr64 (by omega) (by omega)]; omega
      rw [if_pos (show (i : Int) > 0 by omega), hw2, gd_v (by omega)]
      simp only [Int.toNat_natCast, sp_tt, sp_nd]
      refine if_row (c3 := rA (rd R i) ≤ rA (rd R (i - 1))) ?_ _ _
      unfold rowOkAt readOk
      constructor
      · rintro ⟨⟨a1, a2, a3, a4⟩, a5⟩
        exact ⟨⟨a1, a2⟩, by have := a5 hi; omega, a3, fun q _ hq => a4 q hq⟩
      · rintro ⟨⟨a1, a2⟩, a3, a4, a5⟩
        exact ⟨⟨a1, a2, a4, fun q hq => a5 q (Nat.zero_le _) hq⟩, fun _ => by omega⟩
    · rw [if_neg (show ¬ (i : Int) > 0 by omega)]
      simp only [sp_tt, sp_nd]
      refine if_row0 ?_ _ _
      unfold rowOkAt readOk
      constructor
      · rintro ⟨⟨a1, a2, a3, a4⟩, a5⟩
        exact ⟨⟨a1, a2⟩, a3, fun q _ hq => a4 q hq⟩
      · rintro ⟨⟨a1, a2⟩, a4, a5⟩
        exact ⟨⟨a1, a2, a4, fun q hq => a5 q (Nat.zero_le _) hq⟩, fun h => absurd h hi⟩
theorem p21_l3_eq {k : Nat} {D : List Int} {j : Option Int} : ∀ (d i n : Nat), i + d = 4 → d < n → p21_l3 k D j n (i : Int) = if ∀ q, i ≤ q → q < 4 → 0 ≤ D.getD q 0 ∧ D.getD q 0 ≤ 1048576 then j else some 2
  | 0, i, n, h1, h2 => by
    obtain ⟨n, rfl⟩ : ∃ n', n = n' + 1 := ⟨n - 1, by omega⟩
    rw [p21_l3]
    simp only [lt_v, sp_d]
    rw [if_neg (by omega), if_pos (fun q h3 h4 => by omega)]
  | d + 1, i, n, h1, h2 => by
    obtain ⟨n, rfl⟩ : ∃ n', n = n' + 1 := ⟨n - 1, by omega⟩
    rw [p21_l3]
    simp only [lt_v, sp_d, p50_eq, cl_v, Int.toNat_natCast]
    rw [if_pos (by omega), gd_v (by omega)]
    have hw : wr .i64 ((i : Int) + 1) = ((i + 1 : Nat) : Int) := by rw [wr64 (by omega) (by omega)]; omega
    rw [hw, p21_l3_eq d (i + 1) n (by omega) (by omega)]
    rw [if_all (P := ∀ q, i ≤ q → q < 4 → 0 ≤ D.getD q 0 ∧ D.getD q 0 ≤ 1048576) (Q := 0 ≤ D.getD i 0 ∧ D.getD i 0 ≤ 1048576) (S := ∀ q, i + 1 ≤ q → q < 4 → 0 ≤ D.getD q 0 ∧ D.getD q 0 ≤ 1048576) ?_]
    · simp only [Nat.zero_add, Nat.mul_one]
    constructor
    · intro h; exact ⟨h i (by omega) (by omega), fun q h3 h4 => h q (by omega) h4⟩
    · rintro ⟨h3, h4⟩ q h5 h6
      rcases Nat.eq_or_lt_of_le h5 with e | e
      · subst e; exact h3
      · exact h4 q e h6
theorem p21_l5_eq {k : Nat} (hk : 5000 ≤ k) {R : List (List Int)} {D : List Int} (hn : R.length ≤ 64) (ha : ArgOk R D) {m : Int} (hm0 : 0 ≤ m) (hm1 : m ≤ lastI R) {j : Option Int} : ∀ (d i n : Nat), i + d = 4 → d < n → p21_l5 k R D m j n (i : Int) = if ∀ q, i ≤ q → q < 4 → vl R D q m ≤ vh R D q m then j else some 16
  | 0, i, n, h1, h2 => by
    obtain ⟨n, rfl⟩ : ∃ n', n = n' + 1 := ⟨n - 1, by omega⟩
    rw [p21_l5]
    simp only [lt_v, sp_d]
    rw [if_neg (by omega), if_pos (fun q h3 h4 => by omega)]
  | d + 1, i, n, h1, h2 => by
    obtain ⟨n, rfl⟩ : ∃ n', n = n' + 1 := ⟨n - 1, by omega⟩
    rw [p21_l5]
    simp only [lt_v, sp_d, p17_eq hk hn ha hm0 hm1 (show i < 4 by omega), cl_v]
    rw [if_pos (by omega), gd_v (c := [_, _].length = 2) rfl]
    have hw : wr .i64 ((i : Int) + 1) = ((i + 1 : Nat) : Int) := by rw [wr64 (by omega) (by omega)]; omega
    rw [hw, p21_l5_eq hk hn ha hm0 hm1 d (i + 1) n (by omega) (by omega)]
    simp only [List.getD_cons_zero, List.getD_cons_succ]
    rw [if_all (P := ∀ q, i ≤ q → q < 4 → vl R D q m ≤ vh R D q m) (Q := vl R D i m ≤ vh R D i m) (S := ∀ q, i + 1 ≤ q → q < 4 → vl R D q m ≤ vh R D q m) ?_]
    · by_cases c : vl R D i m ≤ vh R D i m
      · rw [if_pos c, if_neg (by omega)]
      · rw [if_neg c, if_pos (by omega)]
    constructor
    · intro h; exact ⟨h i (by omega) (by omega), fun q h3 h4 => h q (by omega) h4⟩
    · rintro ⟨h3, h4⟩ q h5 h6
      rcases Nat.eq_or_lt_of_le h5 with e | e
      · subst e; exact h3
      · exact h4 q e h6
theorem p21_l4_eq {k : Nat} (hk : 5000 ≤ k) {R : List (List Int)} {D : List Int} (hn : R.length ≤ 64) (ha : ArgOk R D) {j : Option Int} : ∀ (d n : Nat) (m : Int), 0 ≤ m → m + d = lastI R + 1 → d < n → p21_l4 k R D j n m = if ∀ q, m ≤ q → q ≤ lastI R → SumAt R D q then j else some 16
  | 0, n, m, h0, h1, h2 => by
    obtain ⟨n, rfl⟩ : ∃ n', n = n' + 1 := ⟨n - 1, by omega⟩
    have := ha.last
    have := ha.span
    have := ha.n2
    rw [p21_l4]
    simp only [lt_v, sp_d, p53_eq (k := k) (D := D) (by omega) hn (by omega) (by omega), cl_v]
    rw [if_neg (by omega), if_pos (fun q h3 h4 => by omega)]
  | d + 1, n, m, h0, h1, h2 => by
    obtain ⟨n, rfl⟩ : ∃ n', n = n' + 1 := ⟨n - 1, by omega⟩
    have := ha.last
    have := ha.span
    have := ha.n2
    have := ha.st
    rw [p21_l4]
    simp only [lt_v, sp_d, jn_v, p53_eq (k := k) (D := D) (by omega) hn (by omega) (by omega), p16_eq (D := D) hk (by omega) hn (show -9223372036854775808 ≤ stT R + m by omega) (by omega), cl_v]
    rw [if_pos (by omega), gd_v (c := [_, _].length = 2) rfl, wr64 (by omega) (by omega), p21_l4_eq hk hn ha d n (m + 1) (by omega) (by omega) (by omega)]
    have h5 := p21_l5_eq hk hn ha h0 (show m ≤ lastI R by omega) (j := if ∀ q, m + 1 ≤ q → q ≤ lastI R → SumAt R D q then j else some 16) 4 0 k (by omega) (by omega)
    rw [show (0 : Int) = ((0 : Nat) : Int) from rfl, h5]
    simp only [List.getD_cons_zero, List.getD_cons_succ]
    rw [if_all (P := ∀ q, m ≤ q → q ≤ lastI R → SumAt R D q) (Q := SumAt R D m) (S := ∀ q, m + 1 ≤ q → q ≤ lastI R → SumAt R D q) ?_]
    · by_cases c : pl R m ≤ ph R m <;> by_cases c2 : ∀ q, q < 4 → vl R D q m ≤ vh R D q m
      · rw [if_neg (by omega), if_pos (fun q _ => c2 q), if_pos (show SumAt R D m from ⟨c, c2⟩)]
      · rw [if_neg (by omega), if_neg (fun h => c2 fun q => h q (Nat.zero_le _)), if_neg (fun h : SumAt R D m => c2 h.2)]
      · rw [if_pos (by omega), if_neg (fun h : SumAt R D m => c h.1)]
      · rw [if_pos (by omega), if_neg (fun h : SumAt R D m => c h.1)]
    constructor
    · intro h; exact ⟨h m (by omega) (by omega), fun q h3 h4 => h q (by omega) h4⟩
    · rintro ⟨h3, h4⟩ q h5 h6
      by_cases e : q = m
      · subst e; exact h3
      · exact h4 q (by omega) h6
theorem p21_l1_eq0 {k : Nat} (hk : 5000 ≤ k) {R : List (List Int)} (hn : R.length ≤ 64) {j : Option Int} : p21_l1 k R j k 0 = if ∀ q, q < R.length → rowOkAt R q then j else some 2 := by
  have := p21_l1_eq hk hn (j := j) R.length 0 k (by omega) (by omega)
  simpa using this
theorem p21_l3_eq0 {k : Nat} (hk : 5 ≤ k) {D : List Int} {j : Option Int} : p21_l3 k D j k 0 = if ∀ q, q < 4 → 0 ≤ D.getD q 0 ∧ D.getD q 0 ≤ 1048576 then j else some 2 := by
  have := p21_l3_eq (k := k) (D := D) (j := j) 4 0 k (by omega) (by omega)
  simpa using this
theorem p21_eq {k : Nat} (hk : 5000 ≤ k) {R : List (List Int)} {D : List Int} (hD : D.length = 4) (hb : ∀ r ∈ R, ∀ z ∈ r, -9223372036854775808 ≤ z ∧ z ≤ 9223372036854775807) : p21 k R D = some (logE R D) := by
  unfold p21 logE
  simp only [lt_v, sp_d, jn_v]
  by_cases hn : 64 < R.length
  · rw [if_pos (by omega), if_pos hn]
  · rw [if_neg (by omega), if_neg hn]
    have hn' : R.length ≤ 64 := by omega
    by_cases h2 : R.length < 2
    · rw [if_pos (by omega), if_pos (fun h => by have := h.n2; omega)]
    · rw [if_neg (by omega)]
      rw [p21_l1_eq0 hk hn']
      by_cases hrow : ∀ q, q < R.length → rowOkAt R q
      · rw [if_pos hrow]
        have hasc : ∀ i, i + 1 < R.length → rA (rd R i) < rA (rd R (i + 1)) := fun i hi => by
          have := (hrow (i + 1) hi).2 (by omega)
          simpa using this
        have r0 := (hrow 0 (by omega)).1
        have r1 := (hrow (R.length - 1) (by omega)).1
        unfold readOk at r0 r1
        have hla : lastI R = rA (rd R (R.length - 1)) - rA (rd R 0) := rfl
        rw [wr64 (z := (R.length : Int) - 1) (by omega) (by omega), gd_v (by omega), gd_v (by omega), show ((R.length : Int) - 1).toNat = R.length - 1 from by omega]
        rw [show (R.getD (R.length - 1) []).getD 0 0 - (R.getD 0 []).getD 0 0 = lastI R from rfl, wr64 (z := lastI R) (by omega) (by omega)]
        by_cases hs : lastI R ≤ 2000
        · rw [if_neg (by omega), p21_l3_eq0 (by omega)]
          by_cases hd : ∀ q, q < 4 → 0 ≤ D.getD q 0 ∧ D.getD q 0 ≤ 1048576
          · have ha : ArgOk R D := ⟨by omega, fun i hi => (hrow i hi).1, hasc, hs, hd⟩
            rw [if_pos hd, if_neg (fun h => h ha)]
            have hla1 := ha.last
            rw [p21_l4_eq hk hn' ha (lastI R + 1).toNat k 0 (by omega) (by omega) (by omega)]
            by_cases hq : ∀ q, 0 ≤ q → q ≤ lastI R → SumAt R D q
            · rw [if_pos hq, if_neg (fun h : ¬ SumOk R D => h hq)]
            · rw [if_neg hq, if_pos (show ¬ SumOk R D from hq)]
          · rw [if_neg hd, if_pos (fun h => hd h.dr)]
        · rw [if_pos (by omega), if_pos (fun h => hs h.span)]
      · rw [if_neg hrow, if_pos]
        intro h
        refine hrow fun q hq => ⟨h.read q hq, fun h0 => ?_⟩
        have := h.asc (q - 1) (by omega)
        rw [show q - 1 + 1 = q from by omega] at this
        exact this
end Go.Proofs.Ythjkejbgknemgaa
namespace Go.Proofs.Ythjkejbgknemgaa
open Go.RowKit Classical
/-! ### meet -/
def ML : List (List Int) → Int → Int
  | [], a => a
  | r :: l, a => ML l (max a (r.getD 0 0))
def MH : List (List Int) → Int → Int
  | [], b => b
  | r :: l, b => MH l (min b (r.getD 1 0))
theorem p83_l1_eq {k : Nat} {P : List (List Int)} (hn : P.length ≤ 1000) (j : List Int → Option (List Int)) : ∀ (d i n : Nat) (a b : Int), i + d = P.length → d < n →
    p83_l1 k j P n (i : Int) [a, b] = j [ML (P.drop i) a, MH (P.drop i) b]
  | 0, i, n, a, b, h1, h2 => by
    obtain ⟨n, rfl⟩ : ∃ n', n = n' + 1 := ⟨n - 1, by omega⟩
    rw [p83_l1]
    simp only [lt_v, sp_d]
    rw [if_neg (by omega), List.drop_eq_nil_of_le (by omega)]
    rfl
  | d + 1, i, n, a, b, h1, h2 => by
    obtain ⟨n, rfl⟩ : ∃ n', n = n' + 1 := ⟨n - 1, by omega⟩
    rw [p83_l1]
    simp only [lt_v, sp_d, mx_eq, mn_eq, Int.toNat_natCast]
    have hw : wr .i64 ((i : Int) + 1) = ((i + 1 : Nat) : Int) := by rw [wr64 (by omega) (by omega)]; omega
    rw [if_pos (by omega), gd_v (by omega), hw]
    have e1 : ∀ a b x : Int, List.set [a, b] 0 x = [x, b] := fun _ _ _ => rfl
    have e2 : ∀ a b x : Int, List.set [a, b] 1 x = [a, x] := fun _ _ _ => rfl
    simp only [e1, e2, List.getD_cons_zero, List.getD_cons_succ]
    rw [p83_l1_eq hn j d (i + 1) n _ _ (by omega) (by omega), drop_rd (by omega : i < P.length)]
    rfl
theorem p83_eq {k : Nat} (hk : 5000 ≤ k) {a b : Int} {P : List (List Int)} (hn : P.length ≤ 100) : p83 k ([a, b] :: P) = some [ML P a, MH P b] := by
  unfold p83
  simp only [jn_v, lt_v]
  rw [gd_v (by simp), gd_v (by simp)]
  have hp : part ([a, b] :: P) ((1 : Int)).toNat ([a, b] :: P).length = P := by
    have : ((1 : Int)).toNat = 1 := rfl
    simp [part, this]
  rw [hp]
  have := p83_l1_eq (k := k) (P := P) (by omega) (fun L5 => some L5) P.length 0 k a b (by omega) (by omega)
  rw [List.drop_zero] at this
  exact this
theorem p83_two {k : Nat} (hk : 5000 ≤ k) {a b c d : Int} : p83 k [[a, b], [c, d]] = some [max a c, min b d] := by
  rw [p83_eq hk (by simp)]
  rfl
/-! ### place -/
theorem PL_ge {t : Int} : ∀ {l : List (List Int)} {b : Int}, b ≤ PL t l b
  | [], b => Int.le_refl _
  | r :: l, b => by
    simp only [PL]
    refine Int.le_trans ?_ PL_ge
    split <;> omega
theorem PH_le {t : Int} : ∀ {l : List (List Int)} {b : Int}, PH t l b ≤ b
  | [], b => Int.le_refl _
  | r :: l, b => by
    simp only [PH]
    refine Int.le_trans PH_le ?_
    split <;> omega
theorem PL_base {t b b' : Int} {l : List (List Int)} {r : List Int} (hr : r ∈ l) (ht : rA r ≤ t) (h1 : b ≤ rPL r) (h2 : b' ≤ rPL r) : PL t l b = PL t l b' := by
  have h3 : PL t l b ≤ PL t l b' := PL_le.2 ⟨Int.le_trans h1 ((PL_le.1 (Int.le_refl _)).2 r hr ht), fun q hq hqt => (PL_le.1 (Int.le_refl (PL t l b'))).2 q hq hqt⟩
  have h4 : PL t l b' ≤ PL t l b := PL_le.2 ⟨Int.le_trans h2 ((PL_le.1 (Int.le_refl _)).2 r hr ht), fun q hq hqt => (PL_le.1 (Int.le_refl (PL t l b))).2 q hq hqt⟩
  omega
theorem PH_base {t b b' : Int} {l : List (List Int)} {r : List Int} (hr : r ∈ l) (ht : t ≤ rA r) (h1 : rPH r ≤ b) (h2 : rPH r ≤ b') : PH t l b = PH t l b' := by
  have h3 : PH t l b ≤ PH t l b' := le_PH.2 ⟨Int.le_trans ((le_PH.1 (Int.le_refl _)).2 r hr ht) h2, fun q hq hqt => (le_PH.1 (Int.le_refl (PH t l b))).2 q hq hqt⟩
  have h4 : PH t l b' ≤ PH t l b := le_PH.2 ⟨Int.le_trans ((le_PH.1 (Int.le_refl _)).2 r hr ht) h1, fun q hq hqt => (le_PH.1 (Int.le_refl (PH t l b'))).2 q hq hqt⟩
  omega
theorem p73_l1_eq {k : Nat} (hk : 5000 ≤ k) {R : List (List Int)} {t : Int} (hn : R.length ≤ 64) (j : List Int → Option (List Int)) (hr : ∀ i, i < R.length → readOk (rd R i)) : ∀ (d i n : Nat) (a b : Int), i + d = R.length → d < n → -1073741824 ≤ a → b ≤ 1073741824 →
    p73_l1 k R t j n (i : Int) [a, b] = j [PL t (R.drop i) a, PH t (R.drop i) b]
  | 0, i, n, a, b, h1, h2, ha, hb => by
    obtain ⟨n, rfl⟩ : ∃ n', n = n' + 1 := ⟨n - 1, by omega⟩
    rw [p73_l1]
    simp only [lt_v, sp_d]
    rw [if_neg (by omega), List.drop_eq_nil_of_le (by omega)]
    rfl
  | d + 1, i, n, a, b, h1, h2, ha, hb => by
    obtain ⟨n, rfl⟩ : ∃ n', n = n' + 1 := ⟨n - 1, by omega⟩
    have hri := (hr i (by omega)).2.2.1
    unfold bandOk at hri
    rw [p73_l1]
    simp only [lt_v, sp_d, jn_v, Int.toNat_natCast]
    have hw : wr .i64 ((i : Int) + 1) = ((i + 1 : Nat) : Int) := by rw [wr64 (by omega) (by omega)]; omega
    rw [if_pos (by omega), gd_v (by omega), hw]
    rw [drop_rd (by omega : i < R.length)]
    simp only [PL, PH]
    have hg : ∀ (a b : Int) (x : Option (List Int)), gd ([a, b].length = 2) x = x := fun _ _ _ => rfl
    have ih := fun a b ha hb => p73_l1_eq (t := t) hk hn j hr d (i + 1) n a b (by omega) (by omega) ha hb
    simp only [p83_two hk, cl_v, hg, ge_iff_le]
    show (if rA (rd R i) ≤ t then (if t ≤ rA (rd R i) then p73_l1 k R t j n ((i + 1 : Nat) : Int) [max (max a (rPL (rd R i))) (-1073741824), min (min b 1073741824) (rPH (rd R i))] else p73_l1 k R t j n ((i + 1 : Nat) : Int) [max a (rPL (rd R i)), min b 1073741824]) else
      (if t ≤ rA (rd R i) then p73_l1 k R t j n ((i + 1 : Nat) : Int) [max a (-1073741824), min b (rPH (rd R i))] else p73_l1 k R t j n ((i + 1 : Nat) : Int) [a, b])) = _
    split <;> split
    · rw [show max (max a (rPL (rd R i))) (-1073741824) = max a (rPL (rd R i)) from by omega, show min (min b 1073741824) (rPH (rd R i)) = min b (rPH (rd R i)) from by omega]
      exact ih _ _ (by omega) (by omega)
    · rw [show min b 1073741824 = b from by omega]
      exact ih _ _ (by omega) (by omega)
    · rw [show max a (-1073741824) = a from by omega]
      exact ih _ _ (by omega) (by omega)
    · exact ih _ _ (by omega) (by omega)
theorem pl_base {R : List (List Int)} {D : List Int} (ha : ArgOk R D) {m : Int} (h0 : 0 ≤ m) : PL (stT R + m) R (-1073741824) = pl R m := by
  have h2 := ha.n2
  have hb := (ha.read 0 (by omega)).2.2.1
  unfold bandOk at hb
  exact PL_base (rd_mem (i := 0) (by omega)) (by have : stT R = rA (rd R 0) := rfl; omega) (by omega) (by omega)
theorem ph_base {R : List (List Int)} {D : List Int} (ha : ArgOk R D) {m : Int} (h1 : m ≤ lastI R) : PH (stT R + m) R 1073741824 = ph R m := by
  have h2 := ha.n2
  have hb := (ha.read (R.length - 1) (by omega)).2.2.1
  unfold bandOk at hb
  exact PH_base (rd_mem (i := R.length - 1) (by omega)) (by have : lastI R = rA (rd R (R.length - 1)) - stT R := rfl; omega) (by omega) (by omega)
theorem p73_eq {k : Nat} (hk : 5000 ≤ k) {R : List (List Int)} {D D' : List Int} {st : Int} {P V} (hn : R.length ≤ 64) (ha : ArgOk R D) {m : Int} (h0 : 0 ≤ m) (h1 : m ≤ lastI R) : p73 k R D' st P V (stT R + m) = some [pl R m, ph R m] := by
  unfold p73
  simp only [jn_v]
  have := p73_l1_eq hk (t := stT R + m) hn (fun L => some L) ha.read R.length 0 k (-1073741824) 1073741824 (by omega) (by omega) (by omega) (by omega)
  rw [List.drop_zero, pl_base ha h0, ph_base ha h1] at this
  exact this
/-! ### value -/
def vrow (d : Int) (kk : Nat) (t : Int) (r : List Int) : List Int := [rVL kk r - d * ab (rA r - t), rVH kk r + d * ab (rA r - t)]
theorem p84_l1_eq {k : Nat} {R : List (List Int)} {D : List Int} {m : Int} {kk : Nat} (hn : R.length ≤ 64) (ha : ArgOk R D) (hm0 : 0 ≤ m) (hm1 : m ≤ lastI R) (hk4 : kk < 4) (j : List (List Int) → Option (List Int)) : ∀ (d i n : Nat) (W : List (List Int)), i + d = R.length → d < n → W.length = i →
    p84_l1 k (stT R + m) R D (kk : Int) j n (i : Int) W = j (W ++ (R.drop i).map (vrow (D.getD kk 0) kk (stT R + m)))
  | 0, i, n, W, h1, h2, hW => by
    obtain ⟨n, rfl⟩ : ∃ n', n = n' + 1 := ⟨n - 1, by omega⟩
    rw [p84_l1]
    simp only [lt_v, sp_d]
    rw [if_neg (by omega), List.drop_eq_nil_of_le (by omega)]
    simp
  | d + 1, i, n, W, h1, h2, hW => by
    obtain ⟨n, rfl⟩ : ∃ n', n = n' + 1 := ⟨n - 1, by omega⟩
    have hst := ha.st
    have hsp := ha.span
    have hrg := ha.range (i := i) (by omega)
    have hdr := ha.dr kk hk4
    have hrd := (ha.read i (by omega)).2.2.2 kk hk4
    have hmul := ab_mul hdr.1 hdr.2 (x := rA (rd R i) - (stT R + m)) (by omega) (by omega)
    have hw : wr .i64 ((i : Int) + 1) = ((i + 1 : Nat) : Int) := by rw [wr64 (by omega) (by omega)]; omega
    unfold bandOk at hrd
    rw [p84_l1]
    simp only [lt_v, sp_d, Int.toNat_natCast]
    rw [if_pos (by omega), gd_v (by omega), gd_v (by omega), gd_v (by omega), gd_v (by omega)]
    rw [show List.getD (List.getD R i []) 0 0 = rA (rd R i) from rfl]
    rw [wr64 (z := rA (rd R i) - (stT R + m)) (by omega) (by omega), wr64 (z := stT R + m - rA (rd R i)) (by omega) (by omega)]
    simp only [mx_eq]
    rw [show max (rA (rd R i) - (stT R + m)) (stT R + m - rA (rd R i)) = ab (rA (rd R i) - (stT R + m)) from by unfold ab; omega]
    rw [show D.getD (kk * 1) 0 = D.getD kk 0 from by rw [Nat.mul_one]]
    rw [wr64 (z := D.getD kk 0 * ab (rA (rd R i) - (stT R + m))) (by omega) (by omega)]
    rw [show List.getD (List.getD R i []) (3 + kk * 2 + 0) 0 = rVL kk (rd R i) from rfl, show List.getD (List.getD R i []) (3 + kk * 2 + 1) 0 = rVH kk (rd R i) from rfl]
    rw [wr64 (z := rVL kk (rd R i) - _) (by omega) (by omega), wr64 (z := rVH kk (rd R i) + _) (by omega) (by omega), hw]
    rw [gd_v (by simp; omega)]
    rw [p84_l1_eq hn ha hm0 hm1 hk4 j d (i + 1) n _ (by omega) (by omega) (by simp [hW]), drop_rd (by omega : i < R.length)]
    simp [vrow]
theorem ML_vrow {d t : Int} {kk : Nat} : ∀ {l : List (List Int)} {a : Int}, ML (l.map (vrow d kk t)) a = VL d kk t l a
  | [], a => rfl
  | r :: l, a => by
    simp only [List.map_cons, ML, VL]
    rw [ML_vrow]
    rfl
theorem MH_vrow {d t : Int} {kk : Nat} : ∀ {l : List (List Int)} {a : Int}, MH (l.map (vrow d kk t)) a = VH d kk t l a
  | [], a => rfl
  | r :: l, a => by
    simp only [List.map_cons, MH, VH]
    rw [MH_vrow]
    rfl
theorem p84_eq {k : Nat} (hk : 5000 ≤ k) {R : List (List Int)} {D : List Int} {st : Int} {P V} {m : Int} {kk : Nat} (hn : R.length ≤ 64) (ha : ArgOk R D) (hm0 : 0 ≤ m) (hm1 : m ≤ lastI R) (hk4 : kk < 4) : p84 k (stT R + m) R D st P V (kk : Int) = some [vl R D kk m, vh R D kk m] := by
  unfold p84
  simp only [jn_v]
  have := p84_l1_eq (k := k) hn ha hm0 hm1 hk4 (fun R2 => cl (p83 k R2) fun v30 => gd ((v30).length = 2) <| some v30) R.length 0 k [] (by omega) (by omega) rfl
  rw [show ((0 : Nat) : Int) = 0 from rfl] at this
  rw [this, List.drop_zero, List.nil_append]
  have h2 := ha.n2
  obtain ⟨r, l, rfl⟩ : ∃ r l, R = r :: l := by
    cases R with
    | nil => simp at h2
    | cons r l => exact ⟨r, l, rfl⟩
  have hst := ha.st
  have hsp := ha.span
  have hrg := ha.range (i := 0) (by simp)
  have hdr := ha.dr kk hk4
  have hrd := (ha.read 0 (by simp)).2.2.2 kk hk4
  have hmul := ab_mul hdr.1 hdr.2 (x := rA (rd (r :: l) 0) - (stT (r :: l) + m)) (by omega) (by omega)
  have hr0 : rd (r :: l) 0 = r := rfl
  rw [hr0] at hrd hmul
  unfold bandOk at hrd
  simp only [List.map_cons]
  rw [show vrow (D.getD kk 0) kk (stT (r :: l) + m) r = [rVL kk r - D.getD kk 0 * ab (rA r - (stT (r :: l) + m)), rVH kk r + D.getD kk 0 * ab (rA r - (stT (r :: l) + m))] from rfl]
  rw [p83_eq hk (by simp at hn ⊢; omega), cl_v, ML_vrow, MH_vrow]
  simp only [vl, vh, VL, VH]
  rw [show max (-1125899906842624) (rVL kk r - D.getD kk 0 * ab (rA r - (stT (r :: l) + m))) = rVL kk r - D.getD kk 0 * ab (rA r - (stT (r :: l) + m)) from by omega]
  rw [show min 1125899906842624 (rVH kk r + D.getD kk 0 * ab (rA r - (stT (r :: l) + m))) = rVH kk r + D.getD kk 0 * ab (rA r - (stT (r :: l) + m)) from by omega]
  rfl
end Go.Proofs.Ythjkejbgknemgaa
namespace Go.Proofs.Ythjkejbgknemgaa
open Go.RowKit Classical
theorem set_fill {α : Type} (g : Nat → α) (z : α) (i d : Nat) (x : α) (hx : x = g i) : ((List.range i).map g ++ List.replicate (d + 1) z).set i x = (List.range (i + 1)).map g ++ List.replicate d z := by
  subst hx
  rw [List.set_append_right _ _ (by simp)]
  simp [List.range_succ, List.replicate_succ]
theorem getD_fill {α : Type} (g : Nat → α) (z y : α) (i d : Nat) : ((List.range (i + 1)).map g ++ List.replicate d z).getD i y = g i := by
  simp [List.getD_eq_getElem?_getD, List.getElem?_append_left]
def pls (R : List (List Int)) (N : Nat) : List (List Int) := (List.range N).map fun m : Nat => [pl R (m : Int), ph R (m : Int)]
def vls (R : List (List Int)) (D : List Int) (kk N : Nat) : List (List Int) := (List.range N).map fun m : Nat => [vl R D kk (m : Int), vh R D kk (m : Int)]
theorem p72a_l1_eq {k : Nat} (hk : 5000 ≤ k) {R : List (List Int)} {D D' : List Int} {P V} (hn : R.length ≤ 64) (ha : ArgOk R D) {N : Nat} (hN : (N : Int) = lastI R + 1) (j : List (List Int) → Option (List (List Int) × Bool)) : ∀ (d i n : Nat), i + d = N → d < n →
    p72a_l1 k R D' (stT R) P V (N : Int) j n (i : Int) ((List.range i).map (fun m : Nat => [pl R (m : Int), ph R (m : Int)]) ++ List.replicate d [0, 0]) = if ∀ q : Nat, i ≤ q → q < N → pl R q ≤ ph R q then j (pls R N) else some ([], false)
  | 0, i, n, h1, h2 => by
    obtain ⟨n, rfl⟩ : ∃ n', n = n' + 1 := ⟨n - 1, by omega⟩
    rw [p72a_l1]
    simp only [lt_v, sp_d]
    rw [if_neg (by omega), if_pos (fun q h3 h4 => by omega), show i = N from by omega]
    simp [pls]
  | d + 1, i, n, h1, h2 => by
    obtain ⟨n, rfl⟩ : ∃ n', n = n' + 1 := ⟨n - 1, by omega⟩
    have hst := ha.st
    have hsp := ha.span
    have hw : wr .i64 ((i : Int) + 1) = ((i + 1 : Nat) : Int) := by rw [wr64 (by omega) (by omega)]; omega
    rw [p72a_l1]
    simp only [lt_v, sp_d, Int.toNat_natCast]
    rw [if_pos (by omega), wr64 (z := stT R + (i : Int)) (by omega) (by omega), p73_eq hk hn ha (by omega) (by omega), cl_v]
    rw [gd_v (c := [_, _].length = 2) rfl, gd_v (by simp; omega), set_fill (fun m : Nat => [pl R (m : Int), ph R (m : Int)]) [0, 0] i d _ rfl]
    rw [gd_v (by simp; omega), gd_v (by simp; omega), getD_fill (fun m : Nat => [pl R (m : Int), ph R (m : Int)]), hw]
    simp only [List.getD_cons_zero, List.getD_cons_succ]
    rw [p72a_l1_eq hk hn ha hN j d (i + 1) n (by omega) (by omega)]
    rw [if_all (P := ∀ q : Nat, i ≤ q → q < N → pl R q ≤ ph R q) (Q := pl R i ≤ ph R i) (S := ∀ q : Nat, i + 1 ≤ q → q < N → pl R q ≤ ph R q) ?_]
    · by_cases c : pl R i ≤ ph R i
      · rw [if_pos c, if_neg (by omega)]
      · rw [if_neg c, if_pos (by omega)]
    constructor
    · intro h; exact ⟨h i (by omega) (by omega), fun q h3 h4 => h q (by omega) h4⟩
    · rintro ⟨h3, h4⟩ q h5 h6
      rcases Nat.eq_or_lt_of_le h5 with e | e
      · subst e; exact h3
      · exact h4 q e h6
theorem p72a_eq {k : Nat} (hk : 5000 ≤ k) {R : List (List Int)} {D D' : List Int} {P V} (hn : R.length ≤ 64) (ha : ArgOk R D) {N : Nat} (hN : (N : Int) = lastI R + 1) : p72a k R D' (stT R) P V (N : Int) = if ∀ q : Nat, q < N → pl R q ≤ ph R q then some (pls R N, true) else some ([], false) := by
  have hsp := ha.span
  unfold p72a
  simp only [lt_v, jn_v, Int.toNat_natCast]
  rw [gd_v (by omega)]
  have := p72a_l1_eq (k := k) hk hn ha hN (D' := D') (P := P) (V := V) (fun R5 => some (R5, true)) N 0 k (by omega) (by omega)
  simpa using this
theorem p72b_l1_eq {k : Nat} (hk : 5000 ≤ k) {R : List (List Int)} {D : List Int} {P V} {kk : Nat} (hk4 : kk < 4) (hn : R.length ≤ 64) (ha : ArgOk R D) {N : Nat} (hN : (N : Int) = lastI R + 1) (j : List (List Int) → Option (List (List Int) × Bool)) : ∀ (d i n : Nat), i + d = N → d < n →
    p72b_l1 k R D (stT R) P V (N : Int) (kk : Int) j n (i : Int) ((List.range i).map (fun m : Nat => [vl R D kk (m : Int), vh R D kk (m : Int)]) ++ List.replicate d [0, 0]) = if ∀ q : Nat, i ≤ q → q < N → vl R D kk q ≤ vh R D kk q then j (vls R D kk N) else some ([], false)
  | 0, i, n, h1, h2 => by
    obtain ⟨n, rfl⟩ : ∃ n', n = n' + 1 := ⟨n - 1, by omega⟩
    rw [p72b_l1]
    simp only [lt_v, sp_d]
    rw [if_neg (by omega), if_pos (fun q h3 h4 => by omega), show i = N from by omega]
    simp [vls]
  | d + 1, i, n, h1, h2 => by
    obtain ⟨n, rfl⟩ : ∃ n', n = n' + 1 := ⟨n - 1, by omega⟩
    have hst := ha.st
    have hsp := ha.span
    have hw : wr .i64 ((i : Int) + 1) = ((i + 1 : Nat) : Int) := by rw [wr64 (by omega) (by omega)]; omega
    rw [p72b_l1]
    simp only [lt_v, sp_d, Int.toNat_natCast]
    rw [if_pos (by omega), wr64 (z := stT R + (i : Int)) (by omega) (by omega), p84_eq hk hn ha (by omega) (by omega) hk4, cl_v]
    rw [gd_v (c := [_, _].length = 2) rfl, gd_v (by simp; omega), set_fill (fun m : Nat => [vl R D kk (m : Int), vh R D kk (m : Int)]) [0, 0] i d _ rfl]
    rw [gd_v (by simp; omega), gd_v (by simp; omega), getD_fill (fun m : Nat => [vl R D kk (m : Int), vh R D kk (m : Int)]), hw]
    simp only [List.getD_cons_zero, List.getD_cons_succ]
    rw [p72b_l1_eq hk hk4 hn ha hN j d (i + 1) n (by omega) (by omega)]
    rw [if_all (P := ∀ q : Nat, i ≤ q → q < N → vl R D kk q ≤ vh R D kk q) (Q := vl R D kk i ≤ vh R D kk i) (S := ∀ q : Nat, i + 1 ≤ q → q < N → vl R D kk q ≤ vh R D kk q) ?_]
    · by_cases c : vl R D kk i ≤ vh R D kk i
      · rw [if_pos c, if_neg (by omega)]
      · rw [if_neg c, if_pos (by omega)]
    constructor
    · intro h; exact ⟨h i (by omega) (by omega), fun q h3 h4 => h q (by omega) h4⟩
    · rintro ⟨h3, h4⟩ q h5 h6
      rcases Nat.eq_or_lt_of_le h5 with e | e
      · subst e; exact h3
      · exact h4 q e h6
theorem p72b_eq {k : Nat} (hk : 5000 ≤ k) {R : List (List Int)} {D : List Int} {P V} {kk : Nat} (hk4 : kk < 4) (hn : R.length ≤ 64) (ha : ArgOk R D) {N : Nat} (hN : (N : Int) = lastI R + 1) : p72b k R D (stT R) P V (N : Int) (kk : Int) = if ∀ q : Nat, q < N → vl R D kk q ≤ vh R D kk q then some (vls R D kk N, true) else some ([], false) := by
  have hsp := ha.span
  unfold p72b
  simp only [lt_v, jn_v, Int.toNat_natCast]
  rw [gd_v (by omega)]
  have := p72b_l1_eq (k := k) hk hk4 hn ha hN (P := P) (V := V) (fun R5 => some (R5, true)) N 0 k (by omega) (by omega)
  simpa using this
/-! ### lists that hold something bad -/
theorem p81_l1_eq {k : Nat} {L : List Int} {j : Int} (hL : L.length ≤ 1000) (hj : j < 0) : ∀ (d i n : Nat), i + d = L.length → d < n → ∃ v, p81_l1 k L (some j) n (i : Int) = some v ∧ (0 ≤ v ↔ ∃ q, i ≤ q ∧ q < L.length ∧ ¬ (0 ≤ L.getD q 0 ∧ L.getD q 0 ≤ 1048576))
  | 0, i, n, h1, h2 => by
    obtain ⟨n, rfl⟩ : ∃ n', n = n' + 1 := ⟨n - 1, by omega⟩
    refine ⟨j, ?_, fun h => by omega, fun ⟨q, h3, h4, _⟩ => by omega⟩
    rw [p81_l1]
    simp only [lt_v, sp_d]
    rw [if_neg (by omega)]
  | d + 1, i, n, h1, h2 => by
    obtain ⟨n, rfl⟩ : ∃ n', n = n' + 1 := ⟨n - 1, by omega⟩
    rw [p81_l1]
    simp only [lt_v, sp_d, p69, p49_eq, cl_v, sp_nd, Int.toNat_natCast]
    have hw : wr .i64 ((i : Int) + 1) = ((i + 1 : Nat) : Int) := by rw [wr64 (by omega) (by omega)]; omega
    rw [if_pos (by omega), gd_v (by omega), hw]
    obtain ⟨v, h3, h4⟩ := p81_l1_eq (k := k) hL hj d (i + 1) n (by omega) (by omega)
    by_cases c : 0 ≤ L.getD i 0 ∧ L.getD i 0 ≤ 1048576
    · rw [if_pos c]
      refine ⟨v, h3, h4.trans ⟨fun ⟨q, a1, a2, a3⟩ => ⟨q, by omega, a2, a3⟩, fun ⟨q, a1, a2, a3⟩ => ⟨q, ?_, a2, a3⟩⟩⟩
      rcases Nat.eq_or_lt_of_le a1 with e | e
      · subst e; exact absurd c a3
      · exact e
    · rw [if_neg c]
      exact ⟨(i : Int), rfl, fun _ => ⟨i, Nat.le_refl _, by omega, c⟩, fun _ => by omega⟩
theorem p68_eq {k : Nat} (hk : 5000 ≤ k) {L : List Int} (hL : L.length ≤ 1000) : p68 k L = some (decide (∃ q, q < L.length ∧ ¬ (0 ≤ L.getD q 0 ∧ L.getD q 0 ≤ 1048576))) := by
  unfold p68 p81
  simp only [jn_v, lt_v]
  obtain ⟨v, h1, h2⟩ := p81_l1_eq (k := k) hL (show (-1 : Int) < 0 by omega) L.length 0 k (by omega) (by omega)
  rw [show ((0 : Nat) : Int) = 0 from rfl] at h1
  rw [h1, cl_v]
  refine congrArg some (decide_eq_decide.2 (h2.trans ?_))
  simp
theorem p82_l1_eq {k : Nat} {L : List (List Int)} {j : Int} (hL : L.length ≤ 1000) (hj : j < 0) : ∀ (d i n : Nat), i + d = L.length → d < n → ∃ v, p82_l1 k L (some j) n (i : Int) = some v ∧ (0 ≤ v ↔ ∃ q, i ≤ q ∧ q < L.length ∧ ¬ bandOk ((L.getD q []).getD 0 0) ((L.getD q []).getD 1 0))
  | 0, i, n, h1, h2 => by
    obtain ⟨n, rfl⟩ : ∃ n', n = n' + 1 := ⟨n - 1, by omega⟩
    refine ⟨j, ?_, fun h => by omega, fun ⟨q, h3, h4, _⟩ => by omega⟩
    rw [p82_l1]
    simp only [lt_v, sp_d]
    rw [if_neg (by omega)]
  | d + 1, i, n, h1, h2 => by
    obtain ⟨n, rfl⟩ : ∃ n', n = n' + 1 := ⟨n - 1, by omega⟩
    rw [p82_l1]
    simp only [lt_v, sp_d, p71, p61_eq, cl_v, sp_nd, Int.toNat_natCast]
    have hw : wr .i64 ((i : Int) + 1) = ((i + 1 : Nat) : Int) := by rw [wr64 (by omega) (by omega)]; omega
    rw [if_pos (by omega), gd_v (by omega), hw]
    obtain ⟨v, h3, h4⟩ := p82_l1_eq (k := k) hL hj d (i + 1) n (by omega) (by omega)
    by_cases c : bandOk ((L.getD i []).getD 0 0) ((L.getD i []).getD 1 0)
    · rw [if_pos c]
      refine ⟨v, h3, h4.trans ⟨fun ⟨q, a1, a2, a3⟩ => ⟨q, by omega, a2, a3⟩, fun ⟨q, a1, a2, a3⟩ => ⟨q, ?_, a2, a3⟩⟩⟩
      rcases Nat.eq_or_lt_of_le a1 with e | e
      · subst e; exact absurd c a3
      · exact e
    · rw [if_neg c]
      exact ⟨(i : Int), rfl, fun _ => ⟨i, Nat.le_refl _, by omega, c⟩, fun _ => by omega⟩
theorem p70_eq {k : Nat} (hk : 5000 ≤ k) {L : List (List Int)} (hL : L.length ≤ 1000) : p70 k L = some (decide (∃ q, q < L.length ∧ ¬ bandOk ((L.getD q []).getD 0 0) ((L.getD q []).getD 1 0))) := by
  unfold p70 p82
  simp only [jn_v, lt_v]
  obtain ⟨v, h1, h2⟩ := p82_l1_eq (k := k) hL (show (-1 : Int) < 0 by omega) L.length 0 k (by omega) (by omega)
  rw [show ((0 : Nat) : Int) = 0 from rfl] at h1
  rw [h1, cl_v]
  refine congrArg some (decide_eq_decide.2 (h2.trans ?_))
  simp
theorem bands4_get (L : List Int) : ∀ q, q < 4 → ((bands4 L).getD q []).getD 0 0 = rVL q L ∧ ((bands4 L).getD q []).getD 1 0 = rVH q L
  | 0, _ => by simp [bands4, rVL, rVH, List.getD_eq_getElem?_getD]
  | 1, _ => by simp [bands4, rVL, rVH, List.getD_eq_getElem?_getD]
  | 2, _ => by simp [bands4, rVL, rVH, List.getD_eq_getElem?_getD]
  | 3, _ => by simp [bands4, rVL, rVH, List.getD_eq_getElem?_getD]
  | q + 4, h => by omega
def valsOk (L : List Int) : Prop := ∀ q, q < 4 → bandOk (rVL q L) (rVH q L)
theorem p70_bands {k : Nat} (hk : 5000 ≤ k) (L : List Int) : p70 k (bands4 L) = some (!decide (valsOk L)) := by
  rw [p70_eq hk (show (bands4 L).length ≤ 1000 from (by show 4 ≤ 1000; omega)), ← decide_not]
  refine congrArg some (decide_eq_decide.2 ?_)
  unfold valsOk
  rw [Classical.not_forall]
  constructor
  · rintro ⟨q, h1, h2⟩
    have h1' : q < 4 := h1
    rw [(bands4_get L q h1').1, (bands4_get L q h1').2] at h2
    exact ⟨q, fun h => h2 (h h1')⟩
  · rintro ⟨q, h1⟩
    rw [Classical.not_imp] at h1
    refine ⟨q, h1.1, ?_⟩
    rw [(bands4_get L q h1.1).1, (bands4_get L q h1.1).2]
    exact h1.2
/-! ### open -/
theorem p46_l1_eq {k : Nat} (hk : 5000 ≤ k) {R : List (List Int)} (hn : R.length ≤ 64) {j : Option (Option CT × Int)} : ∀ (d i n : Nat), i + d = R.length → d < n → p46_l1 k R j n (i : Int) = if ∀ q, i ≤ q → q < R.length → rowOkAt R q then j else some (none, 2)
  | 0, i, n, h1, h2 => by
    obtain ⟨n, rfl⟩ : ∃ n', n = n' + 1 := ⟨n - 1, by omega⟩
    rw [p46_l1]
    simp only [lt_v, sp_d]
    rw [if_neg (by omega), if_pos (fun q h3 h4 => by omega)]
  | d + 1, i, n, h1, h2 => by
    obtain ⟨n, rfl⟩ : ∃ n', n = n' + 1 := ⟨n - 1, by omega⟩
    have e0 : (List.take 2 (List.drop 1 (R.getD i []))).getD 0 0 = rPL (rd R i) := by simp [rPL, rd, List.getD_eq_getElem?_getD]
    have e1 : (List.take 2 (List.drop 1 (R.getD i []))).getD 1 0 = rPH (rd R i) := by simp [rPH, rd, List.getD_eq_getElem?_getD]
    have hA : List.getD (R.getD i []) 0 0 = rA (rd R i) := rfl
    have hw : wr .i64 ((i : Int) + 1) = ((i + 1 : Nat) : Int) := by rw [wr64 (by omega) (by omega)]; omega
    rw [p46_l1]
    simp only [lt_v, sp_d, p61_eq, p49_eq, p70_bands hk, cl_v, jn_v, sp_tt, sp_ff, sp_nd, Int.toNat_natCast, e0, e1, hA, hw]
    rw [if_pos (by omega), gd_v (by omega)]
    rw [p46_l1_eq hk hn d (i + 1) n (by omega) (by omega)]
    rw [if_all (P := ∀ q, i ≤ q → q < R.length → rowOkAt R q) (Q := rowOkAt R i) (S := ∀ q, i + 1 ≤ q → q < R.length → rowOkAt R q) (by
      constructor
      · intro h; exact ⟨h i (by omega) (by omega), fun q h3 h4 => h q (by omega) h4⟩
      · rintro ⟨h3, h4⟩ q h5 h6
        rcases Nat.eq_or_lt_of_le h5 with e | e
        · subst e; exact h3
        · exact h4 q e h6)]
    generalize hX : (if ∀ q, i + 1 ≤ q → q < R.length → rowOkAt R q then j else some (none, 2)) = X
    have hrd : R.getD i [] = rd R i := rfl
    rw [hrd]
    by_cases hi : 0 < i
    · have hw2 : wr .i64 ((i : Int) - 1) = ((i - 1 : Nat) : Int) := by rw [wr64 (by omega) (by omega)]; omega
      rw [if_pos (show (i : Int) > 0 by omega), hw2, gd_v (by omega)]
      simp only [Int.toNat_natCast]
      refine @if_row' _ _ _ (rA (rd R i) ≤ rA (rd R (i - 1))) _ _ _ _ _ _ _ ?_ _ _
      unfold rowOkAt readOk valsOk
      constructor
      · rintro ⟨⟨a1, a2, a3, a4⟩, a5⟩
        exact ⟨⟨a1, a2⟩, by have := a5 hi; omega, a3, a4⟩
      · rintro ⟨⟨a1, a2⟩, a3, a4, a5⟩
        exact ⟨⟨a1, a2, a4, a5⟩, fun _ => by omega⟩
    · rw [if_neg (show ¬ (i : Int) > 0 by omega)]
      refine @if_row0 _ _ _ _ _ _ _ _ _ ?_ _ _
      unfold rowOkAt readOk valsOk
      constructor
      · rintro ⟨⟨a1, a2, a3, a4⟩, a5⟩
        exact ⟨⟨a1, a2⟩, a3, a4⟩
      · rintro ⟨⟨a1, a2⟩, a4, a5⟩
        exact ⟨⟨a1, a2, a4, a5⟩, fun h => absurd h hi⟩
theorem p46_l1_eq0 {k : Nat} (hk : 5000 ≤ k) {R : List (List Int)} (hn : R.length ≤ 64) {j : Option (Option CT × Int)} : p46_l1 k R j k 0 = if ∀ q, q < R.length → rowOkAt R q then j else some (none, 2) := by
  have := p46_l1_eq hk hn (j := j) R.length 0 k (by omega) (by omega)
  simpa using this
def lastN (R : List (List Int)) : Nat := (lastI R).toNat
/-- the course of a log -/
def crs (R : List (List Int)) (D : List Int) : CT := (R, D, stT R, pls R (lastN R + 1), [vls R D 0 (lastN R + 1), vls R D 1 (lastN R + 1), vls R D 2 (lastN R + 1), vls R D 3 (lastN R + 1)])
theorem p46_eq {k : Nat} (hk : 5000 ≤ k) {R : List (List Int)} {D : List Int} (hD : D.length = 4) : p46 k R D = some (if logE R D = 0 then some (crs R D) else none, logE R D) := by
  have hb : ∀ {x : Int} {y : Option CT}, logE R D = x → x ≠ 0 → some ((none : Option CT), x) = some (if logE R D = 0 then y else none, logE R D) := fun h h0 => by rw [h, if_neg h0]
  unfold p46
  simp only [lt_v, sp_d, jn_v]
  by_cases hn : 64 < R.length
  · rw [if_pos (by omega)]
    exact hb (by unfold logE; rw [if_pos hn]) (by omega)
  · rw [if_neg (by omega)]
    have hn' : R.length ≤ 64 := by omega
    by_cases h2 : R.length < 2
    · rw [if_pos (by omega)]
      exact hb (by unfold logE; rw [if_neg hn, if_pos (fun h => by have := h.n2; omega)]) (by omega)
    · rw [if_neg (by omega), p68_eq hk (by omega), cl_v, sp_d]
      by_cases hd : ∃ q, q < D.length ∧ ¬ (0 ≤ D.getD q 0 ∧ D.getD q 0 ≤ 1048576)
      · rw [if_pos hd]
        obtain ⟨q, q1, q2⟩ := hd
        exact hb (by unfold logE; rw [if_neg hn, if_pos (fun h => q2 (h.dr q (by omega)))]) (by omega)
      · rw [if_neg hd]
        have hdr : ∀ q, q < 4 → 0 ≤ D.getD q 0 ∧ D.getD q 0 ≤ 1048576 := fun q hq => Classical.byContradiction fun h => hd ⟨q, by omega, h⟩
        rw [p46_l1_eq0 hk hn']
        by_cases hrow : ∀ q, q < R.length → rowOkAt R q
        · rw [if_pos hrow]
          have hasc : ∀ i, i + 1 < R.length → rA (rd R i) < rA (rd R (i + 1)) := fun i hi => by
            have := (hrow (i + 1) hi).2 (by omega)
            simpa using this
          have r0 := (hrow 0 (by omega)).1
          have r1 := (hrow (R.length - 1) (by omega)).1
          unfold readOk at r0 r1
          have hla : lastI R = rA (rd R (R.length - 1)) - rA (rd R 0) := rfl
          rw [wr64 (z := (R.length : Int) - 1) (by omega) (by omega), gd_v (by omega), gd_v (by omega), show ((R.length : Int) - 1).toNat = R.length - 1 from by omega]
          rw [show (R.getD (R.length - 1) []).getD 0 0 - (R.getD 0 []).getD 0 0 = lastI R from rfl, wr64 (z := lastI R) (by omega) (by omega)]
          by_cases hs : lastI R ≤ 2000
          · have ha : ArgOk R D := ⟨by omega, fun i hi => (hrow i hi).1, hasc, hs, hdr⟩
            have hla1 := ha.last
            have hN : ((lastN R + 1 : Nat) : Int) = lastI R + 1 := by unfold lastN; omega
            rw [if_neg (by omega), wr64 (z := lastI R + 1) (by omega) (by omega), ← hN, show (R.getD 0 []).getD 0 0 = stT R from rfl]
            have hsum : ∀ {e : Int}, ¬ SumOk R D → logE R D = 16 := fun h => by unfold logE; rw [if_neg hn, if_neg (fun h => h ha), if_pos h]
            have hno : ¬ SumOk R D → some ((none : Option CT), (16 : Int)) = some (if logE R D = 0 then some (crs R D) else none, logE R D) := fun h => hb (hsum (e := 0) h) (by omega)
            have hin : ∀ q : Nat, q < lastN R + 1 → (0 : Int) ≤ q ∧ (q : Int) ≤ lastI R := fun q hq => by unfold lastN at hq; omega
            rw [p72a_eq hk hn' ha hN]
            by_cases c : ∀ q : Nat, q < lastN R + 1 → pl R q ≤ ph R q
            · rw [if_pos c, cl2_v, sp_tt]
              have key : ∀ kk, kk < 4 → ¬ (∀ q : Nat, q < lastN R + 1 → vl R D kk q ≤ vh R D kk q) → ¬ SumOk R D := fun kk hkk h hs => h fun q hq => (hs q (hin q hq).1 (hin q hq).2).2 kk hkk
              have b0 := fun P V => p72b_eq (k := k) (P := P) (V := V) hk (show 0 < 4 by omega) hn' ha hN
              have b1 := fun P V => p72b_eq (k := k) (P := P) (V := V) hk (show 1 < 4 by omega) hn' ha hN
              have b2 := fun P V => p72b_eq (k := k) (P := P) (V := V) hk (show 2 < 4 by omega) hn' ha hN
              have b3 := fun P V => p72b_eq (k := k) (P := P) (V := V) hk (show 3 < 4 by omega) hn' ha hN
              simp only [show ((0 : Nat) : Int) = 0 from rfl, show ((1 : Nat) : Int) = 1 from rfl, show ((2 : Nat) : Int) = 2 from rfl, show ((3 : Nat) : Int) = 3 from rfl] at b0 b1 b2 b3
              rw [b0]
              by_cases c0 : ∀ q : Nat, q < lastN R + 1 → vl R D 0 q ≤ vh R D 0 q
              · rw [if_pos c0, cl2_v, sp_tt, b1]
                by_cases c1 : ∀ q : Nat, q < lastN R + 1 → vl R D 1 q ≤ vh R D 1 q
                · rw [if_pos c1, cl2_v, sp_tt, b2]
                  by_cases c2 : ∀ q : Nat, q < lastN R + 1 → vl R D 2 q ≤ vh R D 2 q
                  · rw [if_pos c2, cl2_v, sp_tt, b3]
                    by_cases c3 : ∀ q : Nat, q < lastN R + 1 → vl R D 3 q ≤ vh R D 3 q
                    · rw [if_pos c3, cl2_v, sp_tt]
                      have hso : SumOk R D := fun m h0 h1 => by
                        obtain ⟨q, rfl⟩ : ∃ q : Nat, m = q := ⟨m.toNat, by omega⟩
                        have hq : q < lastN R + 1 := by unfold lastN; omega
                        refine ⟨c q hq, fun kk hkk => ?_⟩
                        match kk, hkk with
                        | 0, _ => exact c0 q hq
                        | 1, _ => exact c1 q hq
                        | 2, _ => exact c2 q hq
                        | 3, _ => exact c3 q hq
                      rw [show logE R D = 0 from logE_zero.2 ⟨hn', ha, hso⟩, if_pos rfl]
                      rfl
                    · rw [if_neg c3, cl2_v, sp_ff]; exact hno (key 3 (by omega) c3)
                  · rw [if_neg c2, cl2_v, sp_ff]; exact hno (key 2 (by omega) c2)
                · rw [if_neg c1, cl2_v, sp_ff]; exact hno (key 1 (by omega) c1)
              · rw [if_neg c0, cl2_v, sp_ff]; exact hno (key 0 (by omega) c0)
            · rw [if_neg c, cl2_v, sp_ff]
              exact hno fun hs => c fun q hq => (hs q (hin q hq).1 (hin q hq).2).1
          · rw [if_pos (by omega)]
            exact hb (by unfold logE; rw [if_neg hn, if_pos (fun h => hs h.span)]) (by omega)
        · rw [if_neg hrow]
          refine hb ?_ (by omega)
          unfold logE
          rw [if_neg hn, if_pos]
          intro h
          refine hrow fun q hq => ⟨h.read q hq, fun h0 => ?_⟩
          have := h.asc (q - 1) (by omega)
          rw [show q - 1 + 1 = q from by omega] at this
          exact this
end Go.Proofs.Ythjkejbgknemgaa
namespace Go.Proofs.Ythjkejbgknemgaa
open Go.RowKit Classical
theorem LogOk.N {R D} (h : LogOk R D) : ((lastN R + 1 : Nat) : Int) = lastI R + 1 := by
  have := h.arg.last
  unfold lastN; omega
theorem getD_map_range {α : Type} (f : Nat → α) (N i : Nat) (y : α) (h : i < N) : ((List.range N).map f).getD i y = f i := by
  simp [List.getD_eq_getElem?_getD, h]
theorem pls_get {R : List (List Int)} {N : Nat} {x : Int} (h0 : 0 ≤ x) (h1 : x < N) : (pls R N).getD x.toNat [] = [pl R x, ph R x] := by
  unfold pls
  rw [getD_map_range _ _ _ _ (by omega), show ((x.toNat : Nat) : Int) = x from by omega]
theorem vls_get {R : List (List Int)} {D : List Int} {kk N : Nat} {x : Int} (h0 : 0 ≤ x) (h1 : x < N) : (vls R D kk N).getD x.toNat [] = [vl R D kk x, vh R D kk x] := by
  unfold vls
  rw [getD_map_range _ _ _ _ (by omega), show ((x.toNat : Nat) : Int) = x from by omega]
theorem pls_len (R : List (List Int)) (N : Nat) : (pls R N).length = N := by simp [pls]
theorem vls_len (R : List (List Int)) (D : List Int) (kk N : Nat) : (vls R D kk N).length = N := by simp [vls]
theorem crsV_get (R : List (List Int)) (D : List Int) : ∀ kk, kk < 4 → ([vls R D 0 (lastN R + 1), vls R D 1 (lastN R + 1), vls R D 2 (lastN R + 1), vls R D 3 (lastN R + 1)]).getD kk [] = vls R D kk (lastN R + 1)
  | 0, _ => rfl
  | 1, _ => rfl
  | 2, _ => rfl
  | 3, _ => rfl
  | q + 4, h => by omega
/-! ### steps -/
def inC (R : List (List Int)) (u : List Int) (x : Int) : Prop := u.getD 4 0 ≤ stT R + x ∧ stT R + x + 1 ≤ u.getD 5 0
noncomputable def stepsFrom (R : List (List Int)) (u : List Int) (i d : Nat) : List Int := ((List.range' i d).map fun q : Nat => (q : Int)).filter fun x => decide (inC R u x)
noncomputable def steps (R : List (List Int)) (u : List Int) : List Int := stepsFrom R u 0 (lastN R)
theorem steps_mem {R u x} : x ∈ steps R u ↔ 0 ≤ x ∧ x < (lastN R : Int) ∧ inC R u x := by
  unfold steps stepsFrom
  rw [List.mem_filter, List.mem_map]
  simp only [List.mem_range'_1, decide_eq_true_eq]
  constructor
  · rintro ⟨⟨q, ⟨_, hq⟩, rfl⟩, h⟩; exact ⟨by omega, by omega, h⟩
  · rintro ⟨h0, h1, h2⟩; exact ⟨⟨x.toNat, ⟨by omega, by omega⟩, by omega⟩, h2⟩
theorem p85_eq {R : List (List Int)} {D : List Int} {u : List Int} (h : LogOk R D) : ∀ (d i f : Nat), i + d = lastN R → d < f → p85_l (stT R) (u.getD 4 0) (u.getD 5 0) (lastN R : Int) f (i : Int) = some (stepsFrom R u i d)
  | 0, i, f, h1, h2 => by
    obtain ⟨f, rfl⟩ : ∃ f', f = f' + 1 := ⟨f - 1, by omega⟩
    rw [p85_l, sp_d, if_neg (by omega)]
    rfl
  | d + 1, i, f, h1, h2 => by
    obtain ⟨f, rfl⟩ : ∃ f', f = f' + 1 := ⟨f - 1, by omega⟩
    have hst := h.arg.st
    have hsp := h.arg.span
    have hN := h.N
    have hw : wr .i64 ((i : Int) + 1) = ((i + 1 : Nat) : Int) := by rw [wr64 (by omega) (by omega)]; omega
    rw [p85_l]
    simp only [sp_d, lt_v]
    rw [if_pos (by omega), wr64 (z := stT R + (i : Int)) (by omega) (by omega), wr64 (z := stT R + (i : Int) + 1) (by omega) (by omega), hw, p85_eq h d (i + 1) f (by omega) (by omega), cl_v]
    have e : stepsFrom R u i (d + 1) = if inC R u i then (i : Int) :: stepsFrom R u (i + 1) d else stepsFrom R u (i + 1) d := by
      unfold stepsFrom
      rw [List.range'_succ, List.map_cons, List.filter_cons]
      simp only [decide_eq_true_eq]
    rw [e]
    unfold inC
    by_cases c1 : u.getD 4 0 ≤ stT R + i <;> by_cases c2 : stT R + i + 1 ≤ u.getD 5 0
    · rw [if_pos (by omega), if_pos c2, if_pos ⟨c1, c2⟩]
    · rw [if_pos (by omega), if_neg c2, if_neg (fun h => c2 h.2)]
    · rw [if_neg (by omega), if_neg (fun h => c1 h.1)]
    · rw [if_neg (by omega), if_neg (fun h => c1 h.1)]
theorem p77_eq {k : Nat} (hk : 5000 ≤ k) {R : List (List Int)} {D : List Int} {u : List Int} {V} (h : LogOk R D) : p77 k R D (stT R) (pls R (lastN R + 1)) V u = some (steps R u) := by
  have hsp := h.arg.span
  have hN := h.N
  unfold p77 p86
  rw [pls_len]
  simp only [lt_v]
  rw [wr64 (by omega) (by omega), cl_v, show ((lastN R + 1 : Nat) : Int) - 1 = (lastN R : Int) from by omega]
  exact p85_eq h (lastN R) 0 k (by omega) (by omega)
/-! ### must -/
def mustP (R : List (List Int)) (D : List Int) (u : List Int) (x : Int) : Prop := u.getD 3 0 < max (vl R D (u.getD 2 0).toNat x) (vl R D (u.getD 2 0).toNat (x + 1))
noncomputable def must (R : List (List Int)) (D : List Int) (u : List Int) : List Int := (steps R u).filter fun x => decide (mustP R D u x)
theorem p56_r1_eq {k : Nat} {R : List (List Int)} {D : List Int} {u : List Int} {j : List Int → Option (List Int)} (hl : lastN R ≤ 2000) : ∀ (S W : List Int), (∀ x ∈ S, 0 ≤ x ∧ x < (lastN R : Int)) → W.length + S.length ≤ 100000 →
    p56_r1 k j u (vls R D (u.getD 2 0).toNat (lastN R + 1)) S W = j (W ++ S.filter fun x => decide (mustP R D u x))
  | [], W, _, _ => by rw [p56_r1]; simp
  | x :: S, W, hS, hW => by
    obtain ⟨h0, h1⟩ := hS x (List.mem_cons_self ..)
    simp only [List.length_cons] at hW
    rw [p56_r1]
    simp only [lt_v, sp_d, vls_len, mx_eq]
    rw [gd_v (by omega), wr64 (z := x + 1) (by omega) (by omega), gd_v (by omega), vls_get h0 (by omega), vls_get (by omega) (by omega)]
    simp only [List.getD_cons_zero]
    have ih := fun W hW => p56_r1_eq (k := k) (D := D) (u := u) (j := j) hl S W (fun y hy => hS y (List.mem_cons_of_mem _ hy)) hW
    rw [List.filter_cons]
    simp only [decide_eq_true_eq]
    unfold mustP at ih ⊢
    by_cases c : u.getD 3 0 < max (vl R D (u.getD 2 0).toNat x) (vl R D (u.getD 2 0).toNat (x + 1))
    · rw [if_pos c, if_pos c, gd_v (by simp; omega), ih _ (by simp; omega)]
      simp
    · rw [if_neg c, if_neg c, ih _ (by omega)]
theorem steps_len (R u) : (steps R u).length ≤ lastN R := by
  unfold steps stepsFrom
  refine Nat.le_trans (List.length_filter_le _ _) ?_
  simp
theorem p56_eq {k : Nat} (hk : 5000 ≤ k) {R : List (List Int)} {D : List Int} {u : List Int} (h : LogOk R D) (hu : ClaimOk u) : p56 k R D (stT R) (pls R (lastN R + 1)) (crs R D).2.2.2.2 u = some (must R D u) := by
  have hsp := h.arg.span
  have hN := h.N
  have hk1 := hu.2.2.2.1
  have hk2 := hu.2.2.2.2.1
  unfold p56
  simp only [lt_v, jn_v]
  rw [gd_v (by omega), p77_eq hk h, cl_v]
  rw [show (crs R D).2.2.2.2 = [vls R D 0 (lastN R + 1), vls R D 1 (lastN R + 1), vls R D 2 (lastN R + 1), vls R D 3 (lastN R + 1)] from rfl, Nat.mul_one, crsV_get R D _ (by omega)]
  have hl := steps_len R u
  rw [p56_r1_eq (by omega) (steps R u) [] (fun x hx => ⟨(steps_mem.1 hx).1, (steps_mem.1 hx).2.1⟩) (by simp; omega)]
  rfl
theorem must_mem {R D u x} : x ∈ must R D u ↔ 0 ≤ x ∧ x < (lastN R : Int) ∧ inC R u x ∧ mustP R D u x := by
  unfold must
  rw [List.mem_filter, steps_mem, decide_eq_true_eq]
  exact ⟨fun ⟨⟨a, b, c⟩, d⟩ => ⟨a, b, c, d⟩, fun ⟨a, b, c, d⟩ => ⟨⟨a, b, c⟩, d⟩⟩
theorem must_len (R D u) : (must R D u).length ≤ lastN R := Nat.le_trans (List.length_filter_le _ _) (steps_len R u)
theorem asc_steps (R u) : (steps R u).Pairwise (· < ·) := by
  unfold steps stepsFrom
  refine List.Pairwise.filter _ ?_
  rw [List.pairwise_map]
  refine List.Pairwise.imp ?_ (List.pairwise_lt_range' (s := 0) (n := lastN R))
  intro a b hab; omega
theorem asc_must (R D u) : (must R D u).Pairwise (· < ·) := List.Pairwise.filter _ (asc_steps R u)
/-! ### can -/
def canP (R : List (List Int)) (D : List Int) (u : List Int) (x : Int) : Prop := u.getD 3 0 < max (vh R D (u.getD 2 0).toNat x) (vh R D (u.getD 2 0).toNat (x + 1)) ∧ pl R x ≤ u.getD 1 0 ∧ u.getD 0 0 ≤ ph R (x + 1)
noncomputable def firstOr (p : Int → Prop) : List Int → Int
  | [] => -1
  | x :: l => if p x then x else firstOr p l
theorem firstOr_cons (p : Int → Prop) (x : Int) (l : List Int) : firstOr p (x :: l) = if p x then x else firstOr p l := by rw [firstOr]
theorem firstOr_neg {p : Int → Prop} : ∀ {l : List Int}, (∀ x ∈ l, 0 ≤ x) → (firstOr p l < 0 ↔ ∀ x ∈ l, ¬ p x)
  | [], _ => by simp [firstOr]
  | x :: l, h => by
    unfold firstOr
    split
    · rename_i hp
      have := h x (List.mem_cons_self ..)
      exact ⟨fun hh => by omega, fun hh => absurd hp (hh x (List.mem_cons_self ..))⟩
    · rename_i hp
      rw [firstOr_neg (fun y hy => h y (List.mem_cons_of_mem _ hy))]
      simp [hp]
theorem firstOr_pos {p : Int → Prop} : ∀ {l : List Int}, 0 ≤ firstOr p l → firstOr p l ∈ l ∧ p (firstOr p l)
  | [], h => by simp [firstOr] at h
  | x :: l, h => by
    unfold firstOr at h ⊢
    split
    · rename_i hp; exact ⟨List.mem_cons_self .., hp⟩
    · rename_i hp
      rw [if_neg hp] at h
      have := firstOr_pos h
      exact ⟨List.mem_cons_of_mem _ this.1, this.2⟩
noncomputable def canI (R : List (List Int)) (D : List Int) (u : List Int) : Int := firstOr (canP R D u) (steps R u)
theorem p65_r1_eq {k : Nat} {R : List (List Int)} {D : List Int} {u : List Int} (hl : lastN R ≤ 2000) : ∀ (S : List Int), (∀ x ∈ S, 0 ≤ x ∧ x < (lastN R : Int)) →
    p65_r1 k (some (-1)) (fun x => some x) (pls R (lastN R + 1)) u (vls R D (u.getD 2 0).toNat (lastN R + 1)) S = some (firstOr (canP R D u) S)
  | [], _ => by rw [p65_r1]; rfl
  | x :: S, hS => by
    obtain ⟨h0, h1⟩ := hS x (List.mem_cons_self ..)
    rw [p65_r1]
    simp only [lt_v, jn_v, sp_d, sp_ff, vls_len, pls_len, mx_eq]
    rw [gd_v (by omega), wr64 (z := x + 1) (by omega) (by omega), gd_v (by omega), vls_get h0 (by omega), vls_get (by omega) (by omega), gd_v (by omega), gd_v (by omega), pls_get h0 (by omega), pls_get (by omega) (by omega)]
    simp only [List.getD_cons_zero, List.getD_cons_succ]
    rw [p65_r1_eq hl S (fun y hy => hS y (List.mem_cons_of_mem _ hy))]
    rw [firstOr_cons]
    by_cases c1 : u.getD 3 0 < max (vh R D (u.getD 2 0).toNat x) (vh R D (u.getD 2 0).toNat (x + 1)) <;> by_cases c2 : pl R x ≤ u.getD 1 0 <;> by_cases c3 : u.getD 0 0 ≤ ph R (x + 1)
    · rw [if_pos c1, if_pos c2, if_pos c3, if_pos (show canP R D u x from ⟨c1, c2, c3⟩)]
    · rw [if_pos c1, if_pos c2, if_neg c3, if_neg (fun h : canP R D u x => c3 h.2.2)]
    · rw [if_pos c1, if_neg c2, if_neg (fun h : canP R D u x => c2 h.2.1)]
    · rw [if_pos c1, if_neg c2, if_neg (fun h : canP R D u x => c2 h.2.1)]
    · rw [if_neg c1, if_neg (fun h : canP R D u x => c1 h.1)]
    · rw [if_neg c1, if_neg (fun h : canP R D u x => c1 h.1)]
    · rw [if_neg c1, if_neg (fun h : canP R D u x => c1 h.1)]
    · rw [if_neg c1, if_neg (fun h : canP R D u x => c1 h.1)]
theorem p65_eq {k : Nat} (hk : 5000 ≤ k) {R : List (List Int)} {D : List Int} {u : List Int} (h : LogOk R D) (hu : ClaimOk u) : p65 k R D (stT R) (pls R (lastN R + 1)) (crs R D).2.2.2.2 u = some (canI R D u) := by
  have hsp := h.arg.span
  have hN := h.N
  have hk1 := hu.2.2.2.1
  have hk2 := hu.2.2.2.2.1
  unfold p65
  simp only [lt_v, jn_v]
  rw [gd_v (by omega), p77_eq hk h, cl_v]
  rw [show (crs R D).2.2.2.2 = [vls R D 0 (lastN R + 1), vls R D 1 (lastN R + 1), vls R D 2 (lastN R + 1), vls R D 3 (lastN R + 1)] from rfl, Nat.mul_one, crsV_get R D _ (by omega)]
  exact p65_r1_eq (by omega) (steps R u) (fun x hx => ⟨(steps_mem.1 hx).1, (steps_mem.1 hx).2.1⟩)
/-! ### past -/
def pastAt (R : List (List Int)) (u S : List Int) (i : Nat) : Prop :=
  (i = 0 ∨ pl R (S.getD (i - 1) 0 + 1) < u.getD 0 0) ∧ (i = S.length ∨ u.getD 1 0 < ph R (S.getD i 0)) ∧ (i = 0 ∨ i = S.length ∨ S.getD (i - 1) 0 + 1 < S.getD i 0)
noncomputable def pastFrom (R : List (List Int)) (u S : List Int) (i d : Nat) : Int := firstOr (fun x => pastAt R u S x.toNat) ((List.range' i d).map fun q : Nat => (q : Int))
noncomputable def pastI (R : List (List Int)) (u S : List Int) : Int := pastFrom R u S 0 (S.length + 1)
theorem pastFrom_succ (R u S i d) : pastFrom R u S i (d + 1) = if pastAt R u S i then (i : Int) else pastFrom R u S (i + 1) d := by
  unfold pastFrom
  rw [List.range'_succ, List.map_cons]
  simp only [firstOr, Int.toNat_natCast]
theorem p58_l1_eq {k : Nat} {R : List (List Int)} {u S : List Int} (hl : lastN R ≤ 2000) (hS : ∀ x ∈ S, 0 ≤ x ∧ x < (lastN R : Int)) (hL : S.length ≤ 100000) : ∀ (d i n : Nat), i + d = S.length + 1 → d < n →
    p58_l1 k (pls R (lastN R + 1)) u S (some (-1)) ((S.length : Int) + 1) n (i : Int) = some (pastFrom R u S i d)
  | 0, i, n, h1, h2 => by
    obtain ⟨n, rfl⟩ : ∃ n', n = n' + 1 := ⟨n - 1, by omega⟩
    rw [p58_l1]
    simp only [lt_v, sp_d]
    rw [if_neg (by omega)]
    rfl
  | d + 1, i, n, h1, h2 => by
    obtain ⟨n, rfl⟩ : ∃ n', n = n' + 1 := ⟨n - 1, by omega⟩
    have hw : wr .i64 ((i : Int) + 1) = ((i + 1 : Nat) : Int) := by rw [wr64 (by omega) (by omega)]; omega
    have hin : ∀ q, q < S.length → 0 ≤ S.getD q 0 ∧ S.getD q 0 < (lastN R : Int) := fun q hq => by
      have : S.getD q 0 ∈ S := by simp [List.getD_eq_getElem?_getD, List.getElem?_eq_getElem hq]
      exact hS _ this
    rw [p58_l1, pastFrom_succ]
    simp only [lt_v, jn_v, sp_tt, sp_ff, sp_d, Int.toNat_natCast, pls_len]
    rw [if_pos (by omega), hw, p58_l1_eq hl hS hL d (i + 1) n (by omega) (by omega)]
    have e0 : ((i : Int) == 0) = decide (i = 0) := by by_cases h : i = 0 <;> simp [h]
    have e1 : ((i : Int) == (S.length : Int)) = decide (i = S.length) := by by_cases h : i = S.length <;> simp [h]; omega
    simp only [e0, e1, sp_d]
    generalize hX : some (pastFrom R u S (i + 1) d) = X
    have fin : ∀ {P : Prop} {y : Option Int}, (P → y = some (i : Int)) → (¬ P → y = X) → (P ↔ pastAt R u S i) → y = some (if pastAt R u S i then (i : Int) else pastFrom R u S (i + 1) d) := by
      intro P y h3 h4 h5
      by_cases hP : P
      · rw [if_pos (h5.1 hP)]; exact h3 hP
      · rw [if_neg (fun h => hP (h5.2 h)), hX]; exact h4 hP
    by_cases c0 : i = 0
    · by_cases c1 : i = S.length
      · refine fin (P := True) (fun _ => ?_) (fun h => absurd trivial h) ⟨fun _ => ⟨.inl c0, .inl c1, .inl c0⟩, fun _ => trivial⟩
        simp only [if_pos c0, if_pos c1]
      · have hi := hin i (by omega)
        simp only [if_pos c0, if_neg c1]
        rw [gd_v (by omega), gd_v (by omega), pls_get hi.1 (by omega)]
        simp only [List.getD_cons_zero, List.getD_cons_succ]
        by_cases a2 : u.getD 1 0 < ph R (S.getD i 0)
        · refine fin (P := True) (fun _ => ?_) (fun h => absurd trivial h) ⟨fun _ => ⟨.inl c0, .inr a2, .inl c0⟩, fun _ => trivial⟩
          rw [if_pos a2]
        · refine fin (P := False) (fun h => h.elim) (fun _ => ?_) ⟨fun h => h.elim, fun h => h.2.1.elim c1 a2⟩
          rw [if_neg a2]
    · have hw2 : wr .i64 ((i : Int) - 1) = ((i - 1 : Nat) : Int) := by rw [wr64 (by omega) (by omega)]; omega
      have hi1 := hin (i - 1) (by omega)
      simp only [if_neg c0, hw2]
      rw [gd_v (by omega)]
      have hw3 : wr .i64 (S.getD (i - 1) 0 + 1) = S.getD (i - 1) 0 + 1 := wr64 (by omega) (by omega)
      have hp1 : (pls R (lastN R + 1)).getD (S.getD (i - 1) 0 + 1).toNat [] = [pl R (S.getD (i - 1) 0 + 1), ph R (S.getD (i - 1) 0 + 1)] := pls_get (by omega) (by omega)
      simp only [Int.toNat_natCast, hw3, hp1, List.getD_cons_zero]
      rw [gd_v (by omega)]
      by_cases c1 : i = S.length
      · by_cases a1 : pl R (S.getD (i - 1) 0 + 1) < u.getD 0 0
        · refine fin (P := True) (fun _ => ?_) (fun h => absurd trivial h) ⟨fun _ => ⟨.inr a1, .inl c1, .inr (.inl c1)⟩, fun _ => trivial⟩
          simp only [if_pos a1, if_pos c1]
        · refine fin (P := False) (fun h => h.elim) (fun _ => ?_) ⟨fun h => h.elim, fun h => h.1.elim c0 a1⟩
          simp only [if_neg a1, if_pos c1, ite_self]
      · have hi := hin i (by omega)
        have hp2 : (pls R (lastN R + 1)).getD (S.getD i 0).toNat [] = [pl R (S.getD i 0), ph R (S.getD i 0)] := pls_get hi.1 (by omega)
        simp only [if_neg c1, hp2, List.getD_cons_zero, List.getD_cons_succ]
        rw [gd_v (by omega), gd_v (by omega), gd_v (by omega), gd_v (by omega)]
        by_cases a1 : pl R (S.getD (i - 1) 0 + 1) < u.getD 0 0 <;> by_cases a2 : u.getD 1 0 < ph R (S.getD i 0) <;> by_cases a3 : S.getD (i - 1) 0 + 1 < S.getD i 0
        · refine fin (P := True) (fun _ => ?_) (fun h => absurd trivial h) ⟨fun _ => ⟨.inr a1, .inr a2, .inr (.inr a3)⟩, fun _ => trivial⟩
          rw [if_pos a1, if_pos a2, if_pos a3]
        all_goals
          refine fin (P := False) (fun h => h.elim) (fun _ => ?_) ⟨fun h => h.elim, fun h => ?_⟩
        all_goals first
          | (rcases h with ⟨h1 | h1, h2 | h2, h3 | h3 | h3⟩ <;> first | exact c0 h1 | exact c1 h2 | exact c0 h3 | exact c1 h3 | exact a1 h1 | exact a2 h2 | exact a3 h3)
          | (simp only [a1, a2, a3, if_true, if_false, gt_iff_lt]; done)
          | (simp only [a1, a2, a3, if_true, if_false, gt_iff_lt, sp_tt, sp_ff, ite_self]; done)
theorem p58_eq {k : Nat} (hk : 5000 ≤ k) {R : List (List Int)} {D : List Int} {u S : List Int} {st V} (h : LogOk R D) (hS : ∀ x ∈ S, 0 ≤ x ∧ x < (lastN R : Int)) (hL : S.length ≤ 4000) : p58 k R D st (pls R (lastN R + 1)) V u S = some (pastI R u S) := by
  have hsp := h.arg.span
  have hN := h.N
  unfold p58
  simp only [lt_v, jn_v]
  rw [wr64 (by omega) (by omega)]
  exact p58_l1_eq (by omega) hS (by omega) (S.length + 1) 0 k (by omega) (by omega)
noncomputable def vdI (R : List (List Int)) (D u : List Int) : Int := if pastI R u (must R D u) < 0 then 1 else if canI R D u < 0 then 2 else 0
theorem p44_eq {k : Nat} (hk : 5000 ≤ k) {R : List (List Int)} {D : List Int} {u : List Int} (h : LogOk R D) (hu : ClaimOk u) : p44 k R D (stT R) (pls R (lastN R + 1)) (crs R D).2.2.2.2 u = some (vdI R D u) := by
  have hsp := h.arg.span
  have hN := h.N
  have hl := must_len R D u
  unfold p44 vdI
  rw [p56_eq hk h hu, cl_v, p58_eq hk h (fun x hx => ⟨(must_mem.1 hx).1, (must_mem.1 hx).2.1⟩) (by omega), cl_v, p65_eq hk h hu]
  simp only [lt_v, sp_d, cl_v]
  split
  · rfl
  · split <;> rfl
theorem ne_zero_b (x : Int) : (x != 0) = !decide (x = 0) := by by_cases h : x = 0 <;> simp [h]
theorem eq_zero_b (x y : Int) : (x == y) = decide (x = y) := by by_cases h : x = y <;> simp [h]
theorem p43_eq {k : Nat} (hk : 5000 ≤ k) {R : List (List Int)} {D u : List Int} (hD : D.length = 4) : p43 k R D u = some (if logE R D = 0 then some (crs R D) else none, if logE R D = 0 then claimE u else logE R D) := by
  unfold p43
  rw [p46_eq hk hD, cl2_v]
  simp only [lt_v, ne_zero_b, sp_nd, p32_eq, cl_v]
  by_cases h : logE R D = 0
  · rw [if_pos h, if_pos h, if_pos h]
  · rw [if_neg h, if_neg h, if_neg h]
/-- what the program's Verdict answers -/
theorem p14_eq {k : Nat} (hk : 5000 ≤ k) {R : List (List Int)} {D u : List Int} (hD : D.length = 4) : p14 k R D u = some (if logE R D = 0 then (if claimE u = 0 then (vdI R D u, 0) else (0, claimE u)) else (0, logE R D)) := by
  unfold p14
  rw [p43_eq hk hD, cl2_v]
  simp only [lt_v, ne_zero_b, sp_nd]
  by_cases h : logE R D = 0
  · rw [if_pos h, if_pos h, if_pos h]
    by_cases h2 : claimE u = 0
    · rw [if_pos h2, if_pos h2]
      simp only [cl_v]
      rw [show (crs R D).1 = R from rfl, show (crs R D).2.1 = D from rfl, show (crs R D).2.2.1 = stT R from rfl, show (crs R D).2.2.2.1 = pls R (lastN R + 1) from rfl, p44_eq hk (logE_zero.1 h) (claimE_zero.1 h2), cl_v]
    · rw [if_neg h2, if_neg h2]
  · rw [if_neg h, if_neg h, if_neg h]
theorem p12_eq {k : Nat} (hk : 5000 ≤ k) : p12 k = some true := by
  obtain ⟨j, rfl⟩ : ∃ j, k = j + 5000 := ⟨k - 5000, by omega⟩
  kernel_rfl
end Go.Proofs.Ythjkejbgknemgaa
namespace Go.Proofs.Ythjkejbgknemgaa
open Go.RowKit Classical
/-! ### spans by the minute -/
theorem pl_mono (R : List (List Int)) {a b : Int} (h : a ≤ b) : pl R a ≤ pl R b := by
  unfold pl
  rw [PL_le]
  have := PL_le.1 (Int.le_refl (PL (stT R + b) R (-1099511627776)))
  exact ⟨this.1, fun r hr ht => this.2 r hr (by omega)⟩
theorem ph_mono (R : List (List Int)) {a b : Int} (h : a ≤ b) : ph R a ≤ ph R b := by
  unfold ph
  rw [le_PH]
  have := le_PH.1 (Int.le_refl (PH (stT R + a) R 1099511627776))
  exact ⟨this.1, fun r hr ht => this.2 r hr (by omega)⟩
theorem ab_step (x : Int) : ab (x + 1) ≤ ab x + 1 ∧ ab (x - 1) ≤ ab x + 1 := by unfold ab; omega
theorem mul_step {d a b : Int} (hd : 0 ≤ d) (h : a ≤ b + 1) : d * a ≤ d * b + d := by
  have := Int.mul_le_mul_of_nonneg_left h hd
  rw [Int.mul_add, Int.mul_one] at this
  exact this
theorem vl_step (R : List (List Int)) (D : List Int) (k : Nat) (hd : 0 ≤ D.getD k 0) (a : Int) : vl R D k (a + 1) ≤ vl R D k a + D.getD k 0 ∧ vl R D k a ≤ vl R D k (a + 1) + D.getD k 0 := by
  unfold vl
  constructor
  · rw [VL_le]
    have := VL_le.1 (Int.le_refl (VL (D.getD k 0) k (stT R + a) R (-1125899906842624)))
    refine ⟨by omega, fun r hr => ?_⟩
    have h1 := this.2 r hr
    have h2 := mul_step hd (a := ab (rA r - (stT R + a))) (b := ab (rA r - (stT R + (a + 1)))) (by have := (ab_step (rA r - (stT R + (a + 1)))).1; rw [show rA r - (stT R + (a + 1)) + 1 = rA r - (stT R + a) from by omega] at this; exact this)
    omega
  · rw [VL_le]
    have := VL_le.1 (Int.le_refl (VL (D.getD k 0) k (stT R + (a + 1)) R (-1125899906842624)))
    refine ⟨by omega, fun r hr => ?_⟩
    have h1 := this.2 r hr
    have h2 := mul_step hd (a := ab (rA r - (stT R + (a + 1)))) (b := ab (rA r - (stT R + a))) (by have := (ab_step (rA r - (stT R + a))).2; rw [show rA r - (stT R + a) - 1 = rA r - (stT R + (a + 1)) from by omega] at this; exact this)
    omega
theorem vh_step (R : List (List Int)) (D : List Int) (k : Nat) (hd : 0 ≤ D.getD k 0) (a : Int) : vh R D k (a + 1) ≤ vh R D k a + D.getD k 0 ∧ vh R D k a ≤ vh R D k (a + 1) + D.getD k 0 := by
  unfold vh
  constructor
  · suffices h : VH (D.getD k 0) k (stT R + (a + 1)) R 1125899906842624 - D.getD k 0 ≤ VH (D.getD k 0) k (stT R + a) R 1125899906842624 by omega
    rw [le_VH]
    have := le_VH.1 (Int.le_refl (VH (D.getD k 0) k (stT R + (a + 1)) R 1125899906842624))
    refine ⟨by omega, fun r hr => ?_⟩
    have h1 := this.2 r hr
    have h2 := mul_step hd (a := ab (rA r - (stT R + (a + 1)))) (b := ab (rA r - (stT R + a))) (by have := (ab_step (rA r - (stT R + a))).2; rw [show rA r - (stT R + a) - 1 = rA r - (stT R + (a + 1)) from by omega] at this; exact this)
    omega
  · suffices h : VH (D.getD k 0) k (stT R + a) R 1125899906842624 - D.getD k 0 ≤ VH (D.getD k 0) k (stT R + (a + 1)) R 1125899906842624 by omega
    rw [le_VH]
    have := le_VH.1 (Int.le_refl (VH (D.getD k 0) k (stT R + a) R 1125899906842624))
    refine ⟨by omega, fun r hr => ?_⟩
    have h1 := this.2 r hr
    have h2 := mul_step hd (a := ab (rA r - (stT R + a))) (b := ab (rA r - (stT R + (a + 1)))) (by have := (ab_step (rA r - (stT R + (a + 1)))).1; rw [show rA r - (stT R + (a + 1)) + 1 = rA r - (stT R + a) from by omega] at this; exact this)
    omega
/-! ### ways past -/
/-- there is a minute at which the convoy can pass -/
def PastP (R : List (List Int)) (u : List Int) (S : List Int) : Prop := ∃ a : Int, (∀ s ∈ S, s < a → pl R (s + 1) < u.getD 0 0) ∧ (∀ s ∈ S, a ≤ s → u.getD 1 0 < ph R s) ∧ ¬ (a - 1 ∈ S ∧ a ∈ S)
theorem getD_mem' {S : List Int} {i : Nat} (h : i < S.length) : S.getD i 0 ∈ S := by simp [List.getD_eq_getElem?_getD, List.getElem?_eq_getElem h]
theorem mem_getD {S : List Int} {s : Int} (h : s ∈ S) : ∃ i, i < S.length ∧ S.getD i 0 = s := by
  obtain ⟨i, hi, rfl⟩ := List.getElem_of_mem h
  exact ⟨i, hi, by simp [List.getD_eq_getElem?_getD, List.getElem?_eq_getElem hi]⟩
theorem asc_getD {S : List Int} (h : S.Pairwise (· < ·)) {i j : Nat} (hij : i < j) (hj : j < S.length) : S.getD i 0 < S.getD j 0 := by
  have := List.pairwise_iff_getElem.1 h i j (by omega) hj hij
  simpa [List.getD_eq_getElem?_getD, List.getElem?_eq_getElem hj, List.getElem?_eq_getElem (show i < S.length by omega)] using this
theorem asc_getD_le {S : List Int} (h : S.Pairwise (· < ·)) {i j : Nat} (hij : i ≤ j) (hj : j < S.length) : S.getD i 0 ≤ S.getD j 0 := by
  rcases Nat.eq_or_lt_of_le hij with e | e
  · subst e; exact Int.le_refl _
  · exact Int.le_of_lt (asc_getD h e hj)
theorem pastAt_P {R : List (List Int)} {u S : List Int} (hS : S.Pairwise (· < ·)) {i : Nat} (hi : i ≤ S.length) (h : pastAt R u S i) : PastP R u S := by
  obtain ⟨h1, h2, h3⟩ := h
  have before : ∀ s ∈ S, ∀ q, S.getD q 0 = s → q < i → pl R (s + 1) < u.getD 0 0 := by
    intro s hs q hq hqi
    rcases h1 with e | e
    · omega
    · have := asc_getD_le hS (i := q) (j := i - 1) (by omega) (by omega)
      exact Int.lt_of_le_of_lt (pl_mono R (by omega)) e
  have behind : ∀ s ∈ S, ∀ q, S.getD q 0 = s → q < S.length → i ≤ q → u.getD 1 0 < ph R s := by
    intro s hs q hq hql hqi
    rcases h2 with e | e
    · omega
    · have := asc_getD_le hS (i := i) (j := q) hqi hql
      exact Int.lt_of_lt_of_le e (ph_mono R (by omega))
  by_cases hil : i = S.length
  · refine ⟨S.getD (i - 1) 0 + 2, fun s hs _ => ?_, fun s hs hle => ?_, fun ⟨h4, h5⟩ => ?_⟩
    · obtain ⟨q, hq, hqs⟩ := mem_getD hs
      exact before s hs q hqs (by omega)
    · obtain ⟨q, hq, hqs⟩ := mem_getD hs
      have := asc_getD_le hS (i := q) (j := i - 1) (by omega) (by omega)
      omega
    · obtain ⟨q, hq, hqs⟩ := mem_getD h5
      have := asc_getD_le hS (i := q) (j := i - 1) (by omega) (by omega)
      omega
  · have hlt : i < S.length := by omega
    refine ⟨S.getD i 0, fun s hs hl => ?_, fun s hs hle => ?_, fun ⟨h4, h5⟩ => ?_⟩
    · obtain ⟨q, hq, hqs⟩ := mem_getD hs
      refine before s hs q hqs ?_
      refine Classical.byContradiction fun hn => ?_
      have := asc_getD_le hS (i := i) (j := q) (by omega) hq
      omega
    · obtain ⟨q, hq, hqs⟩ := mem_getD hs
      refine behind s hs q hqs hq ?_
      refine Classical.byContradiction fun hn => ?_
      have := asc_getD hS (i := q) (j := i) (by omega) hlt
      omega
    · obtain ⟨q, hq, hqs⟩ := mem_getD h4
      have hqi : q < i := Classical.byContradiction fun hn => by
        have := asc_getD_le hS (i := i) (j := q) (by omega) hq
        omega
      rcases h3 with e | e | e
      · omega
      · omega
      · have := asc_getD_le hS (i := q) (j := i - 1) (by omega) (by omega)
        omega
theorem P_pastAt {R : List (List Int)} {u S : List Int} (hS : S.Pairwise (· < ·)) (h : PastP R u S) : ∃ i, i ≤ S.length ∧ pastAt R u S i := by
  obtain ⟨a, h1, h2, h3⟩ := h
  -- the first one that is not below a
  have : ∃ i, i ≤ S.length ∧ (∀ q, q < i → S.getD q 0 < a) ∧ (i < S.length → a ≤ S.getD i 0) := by
    have key : ∀ d i, i + d = S.length → (∀ q, q < i → S.getD q 0 < a) → ∃ i, i ≤ S.length ∧ (∀ q, q < i → S.getD q 0 < a) ∧ (i < S.length → a ≤ S.getD i 0) := by
      intro d
      induction d with
      | zero => intro i hi hq; exact ⟨i, by omega, hq, fun h => by omega⟩
      | succ d ih =>
        intro i hi hq
        by_cases c : S.getD i 0 < a
        · exact ih (i + 1) (by omega) (fun q hqi => by
            rcases Nat.eq_or_lt_of_le (Nat.le_of_lt_succ hqi) with e | e
            · subst e; exact c
            · exact hq q e)
        · exact ⟨i, by omega, hq, fun _ => by omega⟩
    exact key S.length 0 (by omega) (fun q hq => by omega)
  obtain ⟨i, hi, hb, ha⟩ := this
  refine ⟨i, hi, ?_, ?_, ?_⟩
  · by_cases e : i = 0
    · exact .inl e
    · exact .inr (h1 _ (getD_mem' (by omega)) (hb _ (by omega)))
  · by_cases e : i = S.length
    · exact .inl e
    · exact .inr (h2 _ (getD_mem' (by omega)) (ha (by omega)))
  · by_cases e : i = 0
    · exact .inl e
    · by_cases e2 : i = S.length
      · exact .inr (.inl e2)
      · refine .inr (.inr ?_)
        have h4 := hb (i - 1) (by omega)
        have h5 := ha (by omega)
        have h6 := asc_getD hS (i := i - 1) (j := i) (by omega) (by omega)
        refine Classical.byContradiction fun hn => h3 ⟨?_, ?_⟩
        · rw [show a - 1 = S.getD (i - 1) 0 from by omega]; exact getD_mem' (by omega)
        · rw [show a = S.getD i 0 from by omega]; exact getD_mem' (by omega)
theorem pastI_iff {R : List (List Int)} {u S : List Int} (hS : S.Pairwise (· < ·)) : 0 ≤ pastI R u S ↔ PastP R u S := by
  unfold pastI pastFrom
  have hnn : ∀ x ∈ (List.range' 0 (S.length + 1)).map (fun q : Nat => (q : Int)), 0 ≤ x := by
    intro x hx
    obtain ⟨q, _, rfl⟩ := List.mem_map.1 hx
    omega
  constructor
  · intro h
    obtain ⟨h1, h2⟩ := firstOr_pos h
    obtain ⟨q, hq, he⟩ := List.mem_map.1 h1
    rw [← he] at h2
    rw [List.mem_range'_1] at hq
    exact pastAt_P hS (i := q) (by omega) h2
  · intro h
    obtain ⟨i, hi, h2⟩ := P_pastAt hS h
    refine Classical.byContradiction fun hn => ?_
    have := (firstOr_neg (p := fun x => pastAt R u S x.toNat) hnn).1 (by omega) (i : Int) (List.mem_map.2 ⟨i, by rw [List.mem_range'_1]; omega, rfl⟩)
    exact this h2
theorem PastP.sub {R R' : List (List Int)} {u u' S S' : List Int} (h : PastP R' u' S') (hS : ∀ x ∈ S, x ∈ S') (h1 : ∀ x ∈ S, pl R (x + 1) ≤ pl R' (x + 1)) (h2 : ∀ x ∈ S, ph R' x ≤ ph R x) (h3 : u'.getD 0 0 ≤ u.getD 0 0) (h4 : u.getD 1 0 ≤ u'.getD 1 0) : PastP R u S := by
  obtain ⟨a, a1, a2, a3⟩ := h
  refine ⟨a, fun s hs hl => ?_, fun s hs hl => ?_, fun ⟨h5, h6⟩ => a3 ⟨hS _ h5, hS _ h6⟩⟩
  · have := a1 s (hS s hs) hl
    have := h1 s hs
    omega
  · have := a2 s (hS s hs) hl
    have := h2 s hs
    omega
theorem canI_neg {R : List (List Int)} {D u : List Int} : canI R D u < 0 ↔ ∀ x ∈ steps R u, ¬ canP R D u x := firstOr_neg fun x hx => (steps_mem.1 hx).1
theorem vd_proven {R : List (List Int)} {D u : List Int} : vdI R D u = 1 ↔ ¬ PastP R u (must R D u) := by
  unfold vdI
  rw [← pastI_iff (asc_must R D u)]
  split
  · rename_i h; exact ⟨fun _ => by omega, fun _ => rfl⟩
  · rename_i h
    split
    · exact ⟨fun hh => by omega, fun hh => by omega⟩
    · exact ⟨fun hh => by omega, fun hh => by omega⟩
theorem vd_excluded {R : List (List Int)} {D u : List Int} : vdI R D u = 2 ↔ PastP R u (must R D u) ∧ canI R D u < 0 := by
  unfold vdI
  rw [← pastI_iff (asc_must R D u)]
  split
  · rename_i h; exact ⟨fun hh => by omega, fun hh => by omega⟩
  · rename_i h
    split
    · rename_i h2; exact ⟨fun _ => ⟨by omega, h2⟩, fun _ => rfl⟩
    · rename_i h2; exact ⟨fun hh => by omega, fun hh => absurd hh.2 h2⟩
theorem vd_range (R : List (List Int)) (D u : List Int) : vdI R D u = 0 ∨ vdI R D u = 1 ∨ vdI R D u = 2 := by
  unfold vdI
  split
  · exact .inr (.inl rfl)
  · split
    · exact .inr (.inr rfl)
    · exact .inl rfl
/-! ### what laws begin with -/
theorem p18_some {k : Nat} {R : List (List Int)} {D : List Int} : ∃ b, p18 k R D = some b := by
  unfold p18
  simp only [jn_v, lt_v, sp_d]
  have tail : ∀ b : Bool, R.length ≤ 100 → ∃ c, sp b (some true) (if (R.length : Int) > 1 then gd ((0 : Int) ≤ wr .i64 ((R.length : Int) - 1) ∧ wr .i64 ((R.length : Int) - 1) < (R.length : Int)) (gd ((0 : Int) ≤ 0 ∧ (0 : Int) < (R.length : Int)) (if (R.getD (wr .i64 ((R.length : Int) - 1)).toNat []).getD 0 0 > (R.getD 0 []).getD 0 0 then gd ((0 : Int) ≤ wr .i64 ((R.length : Int) - 1) ∧ wr .i64 ((R.length : Int) - 1) < (R.length : Int)) (gd ((0 : Int) ≤ 0 ∧ (0 : Int) < (R.length : Int)) (if wr .i64 ((R.getD (wr .i64 ((R.length : Int) - 1)).toNat []).getD 0 0 - (R.getD 0 []).getD 0 0) > 120 then gd ((0 : Int) ≤ wr .i64 ((R.length : Int) - 1) ∧ wr .i64 ((R.length : Int) - 1) < (R.length : Int)) (gd ((0 : Int) ≤ 0 ∧ (0 : Int) < (R.length : Int)) (some (decide (wr .i64 ((R.getD (wr .i64 ((R.length : Int) - 1)).toNat []).getD 0 0 - (R.getD 0 []).getD 0 0) ≤ 2000)))) else some false)) else some false)) else some false) = some c := by
    intro b hb
    cases b with
    | true => exact ⟨true, rfl⟩
    | false =>
      rw [sp_ff]
      split
      · rename_i h1
        rw [wr64 (z := (R.length : Int) - 1) (by omega) (by omega), gd_v (by omega), gd_v (by omega)]
        split
        · rw [gd_v (by omega), gd_v (by omega)]
          split
          · rw [gd_v (by omega), gd_v (by omega)]; exact ⟨_, rfl⟩
          · exact ⟨_, rfl⟩
        · exact ⟨_, rfl⟩
      · exact ⟨_, rfl⟩
  by_cases h1 : (R.length : Int) > 100
  · rw [if_pos h1]; exact ⟨true, rfl⟩
  · rw [if_neg h1]
    by_cases h2 : (R.length : Int) > 20
    · rw [if_pos h2]
      by_cases h3 : (R.length : Int) ≤ 64
      · rw [if_pos h3]; exact ⟨true, rfl⟩
      · rw [if_neg h3]; exact tail false (by omega)
    · rw [if_neg h2]; exact tail false (by omega)
theorem p11_eq {k : Nat} (hk : 5000 ≤ k) {R : List (List Int)} {D u : List Int} (hD : D.length = 4) (hb : ∀ r ∈ R, ∀ z ∈ r, -9223372036854775808 ≤ z ∧ z ≤ 9223372036854775807) : ∃ b, p11 k R D u = some b ∧ (b = true → LogOk R D ∧ ClaimOk u) := by
  unfold p11
  obtain ⟨g, hg⟩ := p18_some (k := k) (R := R) (D := D)
  rw [hg, p21_eq hk hD hb, p33_eq]
  simp only [jn_v, lt_v, cl_v, eq_zero_b, sp_d]
  cases g with
  | true => exact ⟨false, rfl, fun h => by cases h⟩
  | false =>
    rw [sp_ff]
    by_cases h1 : logE R D = 0
    · rw [if_pos h1]
      refine ⟨_, rfl, fun h => ⟨logE_zero.1 h1, claimE_zero.1 (by simpa using h)⟩⟩
    · rw [if_neg h1]; exact ⟨false, rfl, fun h => by cases h⟩
end Go.Proofs.Ythjkejbgknemgaa
namespace Go.Proofs.Ythjkejbgknemgaa
open Go.ChangeShapes Go.WideShapes Go.ChangeAt Go.RowKit
def PlainClaimWider : Prop := ∀ (u0_0 : List (List Int)) (u0_1 : List Int) (u1 : List Int) (u2 : List Int), u0_0.length ≤ maxLen → (∀ r ∈ u0_0, r.length = 11) → (∀ r ∈ u0_0, ∀ z ∈ r, Wfi .i64 z) → u0_1.length = 4 → (∀ z ∈ u0_1, Wfi .i64 z) → u1.length = 7 → (∀ z ∈ u1, Wfi .i64 z) → u2.length = 5 → (∀ z ∈ u2, Wfi .u8 z) → ∃ k, p4 k u0_0 u0_1 u1 u2 = some true
theorem own4 : ownKnob Try.prog.godebug = none := by kernel_rfl
theorem laid4 : laidOutB Try.prog = true := by kernel_rfl
set_option maxRecDepth 100000 in
theorem lifted4 (plain : PlainClaimWider) (os : Os) (started : os.Started) (H : Type) (enc : TypeId × Value → H) :
    ReturnsInHanded {} Try.checked os 4 .any (Rows.claimWiderSpec.pre6 enc Try.prog Try.f4 Rows.claimWiderRow.domain false) (Rows.claimWiderSpec.post enc Try.prog Try.f4 false true false false) := by
  refine returnsInHanded_of_change (C := Try.checked) own4 started (by kernel_rfl) Try.func4
    (ChangeSpec.witness6 (enc := enc) (C := Try.checked) false ⟨#[], #[.agg #[.slice none 0 0, .int .i64 0, .int .i64 0, .int .i64 0, .int .i64 0], .agg #[.int .i64 0, .int .i64 0, .int .i64 0, .int .i64 0, .int .i64 0, .int .i64 0, .int .i64 0], .agg #[.int .u8 0, .int .u8 0, .int .u8 0, .int .u8 0, .int .u8 0]], []⟩ 12 (by kernel_rfl) (by kernel_rfl) (by kernel_rfl) (by kernel_rfl)) ?_
  intro W base args ds gs before hval0 hW hcnd _
  have hval : ∀ (j : Nat) t v, Try.f4.params[j]? = some t → args[j]? = some v → Value.okWide Try.prog W .any base t v := hval0
  have hW' := hW
  obtain ⟨p, q, hA0, hV, rfl, hfz, hnd⟩ := hW
  have hA : DataW.TrodAll enc Try.prog W 0 (fun _ => true) true Try.f4.params.toList args.toList ds p := hA0
  rw [Try.params4] at hA hval
  obtain ⟨v0, vs0, d0, ds0, p0, q0, hargs, rfl, rfl, h0, r0⟩ := trodAll_cons hA
  obtain ⟨v1, vs1, d1, ds1, p1, q1, rfl, rfl, rfl, h1, r1⟩ := trodAll_cons r0
  obtain ⟨v2, vs2, d2, ds2, p2, q2, rfl, rfl, rfl, h2, r2⟩ := trodAll_cons r1
  obtain ⟨rfl, rfl, rfl⟩ := trodAll_nil r2
  obtain rfl : args = #[v0, v1, v2] := by cases args; simp_all
  obtain ⟨rfl, rfl⟩ := trodVars_none hV
  have k0 := h0
  have lt0 : ∀ x ∈ p0, x.block < W.heap.size := by obtain ⟨m, hm⟩ := k0; exact DataW.trod_lt m _ _ _ hm
  obtain ⟨cs0, fu0, rfl, hx0⟩ := open_agg Try.underlying25 rfl (hval 0 25 v0 rfl rfl) h0
  obtain ⟨c0a, c0b, fv0, y0a, y0b, rfl, hx0a, hx0b⟩ := open_two Try.underlying25 rfl (by kernel_rfl) (by kernel_rfl) hx0
  obtain ⟨Au0_0, u0_0, cu0_0, rfl, su0_0, mu0_0, zu0_0⟩ := open_rows (k := .i64) (d := 8) (m := 11) Try.underlying22 (by kernel_rfl) rfl (by kernel_rfl) hx0a
  obtain ⟨u0_1, rfl, lu0_1, zu0_1⟩ := open_ints' (k := .i64) (d := 8) (n := 4) (by kernel_rfl) hx0b
  have k1 := h1
  have lt1 : ∀ x ∈ p1, x.block < W.heap.size := by obtain ⟨m, hm⟩ := k1; exact DataW.trod_lt m _ _ _ hm
  obtain ⟨cs1, fu1, rfl, hx1⟩ := open_agg Try.underlying27 rfl (hval 1 27 v1 rfl rfl) h1
  obtain ⟨u1, rfl, lu1, zu1⟩ := open_ints' (k := .i64) (d := 8) (n := 7) (by kernel_rfl) hx1
  have k2 := h2
  have lt2 : ∀ x ∈ p2, x.block < W.heap.size := by obtain ⟨m, hm⟩ := k2; exact DataW.trod_lt m _ _ _ hm
  obtain ⟨cs2, fu2, rfl, hx2⟩ := open_agg Try.underlying48 rfl (hval 2 48 v2 rfl rfl) h2
  obtain ⟨u2, rfl, lu2, zu2⟩ := open_ints' (k := .u8) (d := 8) (n := 5) (by kernel_rfl) hx2
  obtain ⟨k, hp⟩ := plain u0_0 u0_1 u1 u2 mu0_0 su0_0.1 zu0_0 lu0_1 zu0_1 lu1 zu1 lu2 zu2
  have hc := Fn.calls (Mem.le_refl _) ((w4 k su0_0 lu0_1 lu1 lu2 hp).mono (R' := fun x _ => rval x = .bool true) (by rintro x M' _ rfl; rfl))
  clear hA0 hval0
  have hc2 : Calls Try.prog 4 #[.agg ([Value.slice Au0_0 (List.length u0_0) cu0_0] ++ ints .i64 u0_1).toArray, .agg (ints .i64 u1).toArray, .agg (ints .u8 u2).toArray] W fun e w' => e = .returned (.bool true) ∧ Below W.heap.size W w' := by
    simpa [rval, SV.val, sgCells, Sg.cells, Lf.val] using hc
  refine hc2.mono fun e W' ⟨he, bel⟩ => ?_
  subst he
  exact ⟨_, rfl, _, _, _, [], _, [], hW', trodAll_mk1 (shut_bool Try.underlying4 _), (trodAll_cons_mk (Below.trod laid4 (by kernel_rfl) (of_decide_eq_true (by kernel_rfl)) k0 bel lt0) (trodAll_cons_mk (Below.trod laid4 (by kernel_rfl) (of_decide_eq_true (by kernel_rfl)) k1 bel lt1) (trodAll_cons_mk (Below.trod laid4 (by kernel_rfl) (of_decide_eq_true (by kernel_rfl)) k2 bel lt2) trodAll_mk0))), rfl, bel.frame _, fun h => by cases h⟩
theorem claimWider_of (plain : PlainClaimWider) : Rows.ClaimWiderSaid :=
  OpenClaim.holds_of_wide 4 Try.f4 rfl rfl rfl rfl rfl rfl rfl ⟨rfl, rfl, rfl, rfl, rfl⟩ rfl rfl rfl rfl rfl (by kernel_rfl) Try.func4 (by kernel_rfl)
    (of_decide_eq_true (by kernel_rfl)) (by unfold Func.isWrapper; first | (rw [if_pos (by decide +kernel)]; kernel_rfl) | (rw [if_neg (by decide +kernel)]; exact ⟨rfl, rfl⟩))
    (fun os started H enc _ => lifted4 plain os started H enc)
end Go.Proofs.Ythjkejbgknemgaa
namespace Go.Proofs.Ythjkejbgknemgaa
open Go.RowKit Classical
theorem wider {R : List (List Int)} {D u w : List Int} (h0 : w.getD 0 0 ≤ u.getD 0 0) (h1 : u.getD 1 0 ≤ w.getD 1 0) (h2 : w.getD 2 0 = u.getD 2 0) (h3 : w.getD 3 0 ≤ u.getD 3 0) (h4 : w.getD 4 0 ≤ u.getD 4 0) (h5 : u.getD 5 0 ≤ w.getD 5 0) :
    (vdI R D u = 1 → vdI R D w = 1) ∧ (vdI R D w = 2 → vdI R D u = 2) := by
  have hin : ∀ x, inC R u x → inC R w x := fun x h => by unfold inC at *; omega
  have hp : PastP R w (must R D w) → PastP R u (must R D u) := fun h => by
    refine h.sub (fun x hx => ?_) (fun x _ => Int.le_refl _) (fun x _ => Int.le_refl _) h0 h1
    rw [must_mem] at hx ⊢
    refine ⟨hx.1, hx.2.1, hin x hx.2.2.1, ?_⟩
    have := hx.2.2.2
    unfold mustP at this ⊢
    rw [h2]; omega
  constructor
  · rw [vd_proven, vd_proven]
    exact fun h hh => h (hp hh)
  · rw [vd_excluded, vd_excluded]
    rintro ⟨a1, a2⟩
    refine ⟨hp a1, ?_⟩
    rw [canI_neg] at a2 ⊢
    intro x hx hc
    refine a2 x ?_ ?_
    · rw [steps_mem] at hx ⊢
      exact ⟨hx.1, hx.2.1, hin x hx.2.2⟩
    · unfold canP at hc ⊢
      rw [h2]; omega
theorem plain4 : PlainClaimWider := by
  intro R D u b hlen hrow hR hD hDz hu huz hb hbz
  obtain ⟨k, hk⟩ : ∃ k, 5000 ≤ k := ⟨5000, Nat.le_refl _⟩
  refine ⟨k, ?_⟩
  have hR' : ∀ r ∈ R, ∀ z ∈ r, -9223372036854775808 ≤ z ∧ z ≤ 9223372036854775807 := fun r hr z hz => bounds_i64 (hR r hr z hz)
  unfold p4
  obtain ⟨v, hv, hvalid⟩ := p11_eq hk (u := u) hD hR'
  rw [hv, cl_v]
  cases v with
  | false => rw [sp_ff, p12_eq hk]; rfl
  | true =>
    rw [sp_tt]
    obtain ⟨hlog, hcl⟩ := hvalid rfl
    match u, hu, b, hb with
    | [a0, a1, a2, a3, a4, a5, a6], _, [b0, b1, b2, b3, b4], _ =>
      have hbb : ∀ z ∈ [b0, b1, b2, b3, b4], 0 ≤ z ∧ z ≤ 255 := fun z hz => bounds_u8 (hbz z hz)
      simp only [List.mem_cons, List.mem_nil_iff, or_false, forall_eq_or_imp, forall_eq] at hbb
      obtain ⟨hb0, hb1, hb2, hb3, hb4⟩ := hbb
      have hcl' := hcl
      unfold ClaimOk at hcl'
      simp only [List.getD_cons_zero, List.getD_cons_succ] at hcl'
      simp only [lt_v, jn_v, List.getD_cons_zero, List.getD_cons_succ, mx_eq, mn_eq, List.set_cons_zero, List.set_cons_succ]
      rw [wr64 (z := b0) (by omega) (by omega), wr64 (z := b1) (by omega) (by omega), wr64 (z := b2) (by omega) (by omega), wr64 (z := b3) (by omega) (by omega), wr64 (z := b4) (by omega) (by omega)]
      rw [wr64 (z := a0 - b0) (by omega) (by omega), wr64 (z := a1 + b1) (by omega) (by omega), wr64 (z := a3 - b2) (by omega) (by omega), wr64 (z := a4 - b3) (by omega) (by omega), wr64 (z := a5 + b4) (by omega) (by omega)]
      have hw : ClaimOk [max (-1073741824) (a0 - b0), min 1073741824 (a1 + b1), a2, max (-1073741824) (a3 - b2), max 0 (a4 - b3), min 1099511627776 (a5 + b4), a6] := by
        unfold ClaimOk
        simp only [List.getD_cons_zero, List.getD_cons_succ]
        omega
      rw [p14_eq hk hD, p14_eq hk hD, if_pos (logE_zero.2 hlog), if_pos (logE_zero.2 hlog), if_pos (claimE_zero.2 hcl), if_pos (claimE_zero.2 hw), cl2_v, cl2_v, p12_eq hk]
      simp only [cl_v]
      obtain ⟨k1, k2⟩ := wider (R := R) (D := D) (u := [a0, a1, a2, a3, a4, a5, a6]) (w := [max (-1073741824) (a0 - b0), min 1073741824 (a1 + b1), a2, max (-1073741824) (a3 - b2), max 0 (a4 - b3), min 1099511627776 (a5 + b4), a6])
        (by simp only [List.getD_cons_zero]; omega) (by simp only [List.getD_cons_zero, List.getD_cons_succ]; omega) rfl (by simp only [List.getD_cons_zero, List.getD_cons_succ]; omega) (by simp only [List.getD_cons_zero, List.getD_cons_succ]; omega) (by simp only [List.getD_cons_zero, List.getD_cons_succ]; omega)
      generalize vdI R D [max (-1073741824) (a0 - b0), min 1073741824 (a1 + b1), a2, max (-1073741824) (a3 - b2), max 0 (a4 - b3), min 1099511627776 (a5 + b4), a6] = y at *
      generalize vdI R D [a0, a1, a2, a3, a4, a5, a6] = x at *
      have e1 : ((0 : Int) == 0) = true := rfl
      have nb : ∀ a b : Int, (a != b) = !decide (a = b) := fun a b => by by_cases h : a = b <;> simp [h]
      simp only [e1, sp_tt, nb, eq_zero_b, sp_nd, sp_d]
      by_cases c1 : x = 1
      · have := k1 c1
        simp [c1, this]
      · by_cases c2 : y = 2
        · have := k2 c2
          simp [c2, this]
        · simp [c1, c2]
theorem claimWider_holds : Rows.ClaimWiderSaid := claimWider_of plain4
end Go.Proofs.Ythjkejbgknemgaa
