/- Lemmas and walks for the law ClaimPaid (part 5). No condition: every theorem names its own hypotheses. -/
import Derived.Test.YthjkejbgknemgaaK4
import Derived.Test.YthjkejbgknemgaaProg
set_option linter.unusedVariables false
set_option linter.unusedSimpArgs false
namespace Go.Proofs.Ythjkejbgknemgaa
open Go.RowKit
def p46_l1 (k : Nat) (u0_0 : List (List Int)) (j10 : Option (Option CT × Int)) : Nat → Int → Option (Option CT × Int)
  | 0, _ => none
  | n13 + 1, x11 => lt' (decide (x11 < (List.length u0_0 : Int))) fun b14 => sp b14 (gd ((0 : Int) ≤ x11 ∧ x11 < (List.length u0_0 : Int)) <| lt' (List.getD u0_0 ((x11).toNat) []) fun L16 => jn (fun (b17 : Bool) => jn (fun (b30 : Bool) => sp b30 (some (none, (2 : Int))) (lt' (wr .i64 (x11 + (1 : Int))) fun x33 => p46_l1 k u0_0 j10 n13 x33)) fun j31 => sp b17 (j31 true) (cl (p70 k (bands4 L16)) fun v32 => j31 v32)) fun j18 => lt' (List.getD L16 0 0) fun x19 => cl (p49 k x19 (0 : Int) (1099511627776 : Int)) fun v20 => sp v20 (cl (p61 k (List.take 2 (List.drop 1 L16))) fun v21 => sp v21 (lt' (decide (x11 > (0 : Int))) fun b22 => sp b22 (lt' (List.getD L16 0 0) fun x23 => lt' (wr .i64 (x11 - (1 : Int))) fun x24 => gd ((0 : Int) ≤ x24 ∧ x24 < (List.length u0_0 : Int)) <| lt' (List.getD (List.getD u0_0 ((x24).toNat) []) 0 0) fun x26 => lt' (decide (x23 ≤ x26)) fun b27 => j18 b27) (j18 false)) (j18 true)) (j18 true)) (j10)
/-- gooseneck claim.open -/
def p46 (k : Nat) (u0_0 : List (List Int)) (u0_1 : List Int) : Option (Option CT × Int) :=
  lt' (decide ((List.length u0_0 : Int) > (64 : Int))) fun b2 => sp b2 (some (none, (6 : Int))) (jn (fun (b5 : Bool) => sp b5 (some (none, (2 : Int))) (jn (gd ((0 : Int) ≤ (0 : Int) ∧ (0 : Int) < (List.length u0_0 : Int)) <| lt' (List.getD (List.getD u0_0 0 []) 0 0) fun x35 => lt' (wr .i64 ((List.length u0_0 : Int) - (1 : Int))) fun x36 => gd ((0 : Int) ≤ x36 ∧ x36 < (List.length u0_0 : Int)) <| lt' (List.getD (List.getD u0_0 ((x36).toNat) []) 0 0) fun x38 => lt' (wr .i64 (x38 - x35)) fun x39 => lt' (decide (x39 > (2000 : Int))) fun b40 => sp b40 (some (none, (2 : Int))) (lt' (wr .i64 (x39 + (1 : Int))) fun x42 => cl2 (p72a k u0_0 u0_1 x35 ([] : List (List Int)) ([([] : List (List Int)), ([] : List (List Int)), ([] : List (List Int)), ([] : List (List Int))]) x42) fun v43 v44 => sp v44 (jn (fun (R49 : List (List Int)) (R52 : List (List Int)) (R55 : List (List Int)) (R58 : List (List Int)) => some (some (u0_0, u0_1, x35, v43, [R49, R52, R55, R58]), (0 : Int))) fun j62 => lt' (wr .i64 (x39 + (1 : Int))) fun x63 => cl2 (p72b k u0_0 u0_1 x35 v43 ([([] : List (List Int)), ([] : List (List Int)), ([] : List (List Int)), ([] : List (List Int))]) x63 (0 : Int)) fun v68 v69 => sp v69 (lt' (wr .i64 (x39 + (1 : Int))) fun x74 => cl2 (p72b k u0_0 u0_1 x35 v43 ([v68, ([] : List (List Int)), ([] : List (List Int)), ([] : List (List Int))]) x74 (1 : Int)) fun v79 v80 => sp v80 (lt' (wr .i64 (x39 + (1 : Int))) fun x85 => cl2 (p72b k u0_0 u0_1 x35 v43 ([v68, v79, ([] : List (List Int)), ([] : List (List Int))]) x85 (2 : Int)) fun v90 v91 => sp v91 (lt' (wr .i64 (x39 + (1 : Int))) fun x96 => cl2 (p72b k u0_0 u0_1 x35 v43 ([v68, v79, v90, ([] : List (List Int))]) x96 (3 : Int)) fun v101 v102 => sp v102 (j62 v68 v79 v90 v101) (some (none, (16 : Int)))) (some (none, (16 : Int)))) (some (none, (16 : Int)))) (some (none, (16 : Int)))) (some (none, (16 : Int))))) fun j10 => p46_l1 k u0_0 j10 k (0 : Int))) fun j6 => lt' (decide ((List.length u0_0 : Int) < (2 : Int))) fun b7 => sp b7 (j6 true) (cl (p68 k u0_1) fun v8 => j6 v8))
theorem hf46 : Try.prog.funcs[46]? = some Try.f46 := by kernel_rfl
theorem w46 (k : Nat) {M : Mem} {Au0_0 : Option Addr} {cu0_0 : Nat} {u0_0 : List (List Int)} {u0_1 : List Int} (hu0_0 : SlR M Au0_0 cu0_0 .i64 11 u0_0) (hu0_1 : u0_1.length = 4) {r} (h : p46 k u0_0 u0_1 = some r) :
    Fn Try.prog 46 [rval (.agg [.one (.v (.slice Au0_0 (List.length u0_0) cu0_0)), .arr .i64 4 u0_1])] M (fun x M' => ∃ (q1 : Value), x = .tup [(some (.v q1), []), (some (.v (.int .i64 r.2)), [])] ∧ PtrR M' q1 r.1) := by
  unfold p46 at h
  refine Fn_of (P := Try.prog) (fn := Try.f46) (c := bodyOf Try.f46) [.agg [.one (.v (.slice Au0_0 (List.length u0_0) cu0_0)), .arr .i64 4 u0_1]] hf46 (by kernel_rfl) (Nat.le_of_ble_eq_true (by kernel_rfl)) (args_ok (by kernel_rfl) ⟨⟨rfl, ⟨hu0_1, trivial⟩⟩, trivial⟩) fun w => ?_
  change T _ _ _ (endQ _ _ _)
  refine T_seq (c1 := (sub [0] (bodyOf Try.f46))) (c2 := (sub [1] (bodyOf Try.f46))) (by kernel_rfl) ?_
  refine T_region (id := 0) (by kernel_rfl) ?_
  refine TI_segK (i := 0) (j := 3) (s' := { σ := [(1, .lf (.own 1 0))], H := [(1, [.one (.v (.slice Au0_0 (List.length u0_0) cu0_0)), .arr .i64 4 u0_1])], V := [], M := M, ds := [] }) [1] [1] [] (by kernel_rfl) (by kernel_rfl) ?_
  refine TI_end (by kernel_rfl) ?_
  refine thenQ_n ?_
  refine T_seq (c1 := (sub [1, 0] (bodyOf Try.f46))) (c2 := (sub [1, 1] (bodyOf Try.f46))) (by kernel_rfl) ?_
  refine T_seq (c1 := (sub [1, 0, 0] (bodyOf Try.f46))) (c2 := (sub [1, 0, 1] (bodyOf Try.f46))) (by kernel_rfl) ?_
  refine T_region (id := 1) (by kernel_rfl) ?_
  obtain ⟨b2, e_b2, h⟩ := lt_some h
  refine TI_segK (i := 0) (j := 4) (s' := { σ := [(1, .lf (.own 1 0)), (14, .lf (.v (.bool b2)))], H := [(1, [.one (.v (.slice Au0_0 (List.length u0_0) cu0_0)), .arr .i64 4 u0_1])], V := [], M := M, ds := [] }) [1, 14] [1] [] (by subst e_b2; kernel_rfl) (by kernel_rfl) ?_
  refine TI_end (by kernel_rfl) ?_
  refine thenQ_n ?_
  cases b2 with
  | true =>
    replace h := sp_t h
    refine T_condT (x := (.tmp 14)) (c1 := (sub [1, 0, 1, 0] (bodyOf Try.f46))) (c2 := (sub [1, 0, 1, 1] (bodyOf Try.f46))) (by kernel_rfl) (by kernel_rfl) ?_
    refine T_keep (s' := { σ := [], H := [], V := [], M := M, ds := [] }) [] [] [] (by kernel_rfl) ?_
    refine T_seq (c1 := (sub [1, 0, 1, 0, 0] (bodyOf Try.f46))) (c2 := (sub [1, 0, 1, 0, 1] (bodyOf Try.f46))) (by kernel_rfl) ?_
    refine T_region (id := 2) (by kernel_rfl) ?_
    refine TI_segK (i := 0) (j := 2) (s' := { σ := [(2, .lf (.v (.pointer none))), (3, .lf (.v (.int .i64 (6 : Int))))], H := [], V := [], M := M, ds := [] }) [2, 3] [] [] (by kernel_rfl) (by kernel_rfl) ?_
    refine TI_end (by kernel_rfl) ?_
    refine thenQ_n ?_
    refine T_ret (by kernel_rfl) ?_
    refine thenQ_r ?_
    have h := Option.some.inj h
    subst h
    refine fin_ret (.tup [(some (.v (.pointer none)), []), (some (.v (.int .i64 (6 : Int))), [])]) (by kernel_rfl) (by kernel_rfl) rfl ?_
    exact ⟨(.pointer none), rfl, rfl⟩
  | false =>
    replace h := sp_f h
    refine T_condF (x := (.tmp 14)) (c1 := (sub [1, 0, 1, 0] (bodyOf Try.f46))) (c2 := (sub [1, 0, 1, 1] (bodyOf Try.f46))) (by kernel_rfl) (by kernel_rfl) ?_
    refine T_keep (s' := { σ := [(1, .lf (.own 1 0))], H := [(1, [.one (.v (.slice Au0_0 (List.length u0_0) cu0_0)), .arr .i64 4 u0_1])], V := [], M := M, ds := [] }) [1] [1] [] (by kernel_rfl) ?_
    refine T_skip (by kernel_rfl) ?_
    refine thenQ_n ?_
    refine T_turn (turn_pubH 1 (c := [.one (.v (.slice Au0_0 (List.length u0_0) cu0_0)), .arr .i64 4 u0_1]) (by kernel_rfl) (by kernel_rfl)) ?_
    rintro _ ⟨b3, M4, rfl, -, e_M4, -, hM4⟩
    have fb3 : M4 b3 = some (sgCells (fun _ => 0) (fun _ => .slice none 0 0) [.one (.v (.slice Au0_0 (List.length u0_0) cu0_0)), .arr .i64 4 u0_1]).toArray := by rw [e_M4]; exact addM_at _ _ _
    refine T_keep (s' := { σ := [(1, .lf (.v (.pointer (some ⟨b3, 0, none⟩))))], H := [], V := [], M := M4, ds := [] }) [1] [] [] (by kernel_rfl) ?_
    refine T_seq (c1 := (sub [1, 1, 0] (bodyOf Try.f46))) (c2 := (sub [1, 1, 1] (bodyOf Try.f46))) (by kernel_rfl) ?_
    obtain ⟨j6, e_j6, h⟩ := jn_some h
    refine T_cut (c1 := (sub [1, 1, 0, 0] (bodyOf Try.f46))) (c2 := (sub [1, 1, 0, 1] (bodyOf Try.f46))) (fun s' => ∃ (b5 : Bool), Sub { σ := [(1, .lf (.v (.pointer (some ⟨b3, 0, none⟩)))), (23, .lf (.v (.bool b5)))], H := [], V := [], M := M4, ds := [] } s' ∧ j6 b5 = some r) (by kernel_rfl) ?_ ?_
    · refine T_region (id := 3) (by kernel_rfl) ?_
      refine TI_segK (i := 0) (j := 1) (s' := { σ := [(1, .lf (.v (.pointer (some ⟨b3, 0, none⟩)))), (15, .lf (.v (.pointer (some ⟨b3, 0, none⟩))))], H := [], V := [], M := M4, ds := [] }) [1, 15] [] [] (by kernel_rfl) (by kernel_rfl) ?_
      refine TI_at (i := 1) (d := 16) (x := .lf (.v (.slice Au0_0 (List.length u0_0) cu0_0))) (At_ldP (d := 16) (b := b3) (off := 0) (m := 1) (v := (.slice Au0_0 (List.length u0_0) cu0_0)) (by kernel_rfl) (cell_blk fb3 ⟨rfl, ⟨hu0_1, trivial⟩⟩ (by kernel_rfl))) (by kernel_rfl) trivial ?_
      obtain ⟨b7, e_b7, h⟩ := lt_some h
      refine TI_segK (i := 2) (j := 5) (s' := { σ := [(1, .lf (.v (.pointer (some ⟨b3, 0, none⟩)))), (19, .lf (.v (.bool b7)))], H := [], V := [], M := M4, ds := [] }) [1, 19] [] [] (by subst e_b7; kernel_rfl) (by kernel_rfl) ?_
      cases b7 with
      | true =>
        replace h := sp_t h
        refine TI_segK (i := 5) (j := 9) (s' := { σ := [(1, .lf (.v (.pointer (some ⟨b3, 0, none⟩)))), (23, .lf (.v (.bool true)))], H := [], V := [], M := M4, ds := [] }) [1, 23] [] [] (by kernel_rfl) (by kernel_rfl) ?_
        refine TI_end (by kernel_rfl) ?_
        refine thenQ_n ?_
        exact ⟨true, keep_sub (ts := [1, 23]) (hs := []) (vs := []) (by kernel_rfl), h⟩
      | false =>
        replace h := sp_f h
        refine TI_segK (i := 5) (j := 6) (s' := { σ := [(1, .lf (.v (.pointer (some ⟨b3, 0, none⟩)))), (19, .lf (.v (.bool false))), (20, .lf (.v (.pointer (some ⟨b3, 1, none⟩))))], H := [], V := [], M := M4, ds := [] }) [1, 19, 20] [] [] (by kernel_rfl) (by kernel_rfl) ?_
        refine TI_at (i := 6) (d := 21) (x := .lf (.v (.slice (some ⟨b3, 1, none⟩) (List.length u0_1) 4))) (At_slA (d := 21) (b := b3) (off := 1) (n := 4) (L := u0_1) (by kernel_rfl) hu0_1) (by kernel_rfl) trivial ?_
        obtain ⟨v8, c_v8, h⟩ := cl_some h
        refine TI_at (i := 7) (d := 22) (x := .lf (.v (.bool v8))) (At_call (d := 22) (f := 68) (args := [rval (.lf (.v (.slice (some ⟨b3, 1, none⟩) (List.length u0_1) 4))), rval (.lf (.v (.func (.func 69) #[] #[])))]) (x := .lf (.v (.bool v8))) (by kernel_rfl) (w68 k (SlI_blk fb3 ⟨rfl, ⟨hu0_1, trivial⟩⟩ (by kernel_rfl) rfl hu0_1 rfl) c_v8)) (by kernel_rfl) trivial ?_
        refine TI_segK (i := 8) (j := 9) (s' := { σ := [(1, .lf (.v (.pointer (some ⟨b3, 0, none⟩)))), (23, .lf (.v (.bool v8)))], H := [], V := [], M := M4, ds := [] }) [1, 23] [] [] (by kernel_rfl) (by kernel_rfl) ?_
        refine TI_end (by kernel_rfl) ?_
        refine thenQ_n ?_
        exact ⟨v8, keep_sub (ts := [1, 23]) (hs := []) (vs := []) (by kernel_rfl), h⟩
    · rintro s' ⟨b5, hsub, h⟩
      subst e_j6
      refine T_sub hsub ?_
      cases b5 with
      | true =>
        replace h := sp_t h
        refine T_condT (x := (.tmp 23)) (c1 := (sub [1, 1, 0, 1, 0] (bodyOf Try.f46))) (c2 := (sub [1, 1, 0, 1, 1] (bodyOf Try.f46))) (by kernel_rfl) (by kernel_rfl) ?_
        refine T_keep (s' := { σ := [], H := [], V := [], M := M4, ds := [] }) [] [] [] (by kernel_rfl) ?_
        refine T_seq (c1 := (sub [1, 1, 0, 1, 0, 0] (bodyOf Try.f46))) (c2 := (sub [1, 1, 0, 1, 0, 1] (bodyOf Try.f46))) (by kernel_rfl) ?_
        refine T_region (id := 4) (by kernel_rfl) ?_
        refine TI_segK (i := 0) (j := 2) (s' := { σ := [(2, .lf (.v (.pointer none))), (3, .lf (.v (.int .i64 (2 : Int))))], H := [], V := [], M := M4, ds := [] }) [2, 3] [] [] (by kernel_rfl) (by kernel_rfl) ?_
        refine TI_end (by kernel_rfl) ?_
        refine thenQ_n ?_
        refine T_ret (by kernel_rfl) ?_
        refine thenQ_r ?_
        have h := Option.some.inj h
        subst h
        refine fin_ret (.tup [(some (.v (.pointer none)), []), (some (.v (.int .i64 (2 : Int))), [])]) (by kernel_rfl) (by kernel_rfl) rfl ?_
        exact ⟨(.pointer none), rfl, rfl⟩
      | false =>
        replace h := sp_f h
        refine T_condF (x := (.tmp 23)) (c1 := (sub [1, 1, 0, 1, 0] (bodyOf Try.f46))) (c2 := (sub [1, 1, 0, 1, 1] (bodyOf Try.f46))) (by kernel_rfl) (by kernel_rfl) ?_
        refine T_keep (s' := { σ := [(1, .lf (.v (.pointer (some ⟨b3, 0, none⟩))))], H := [], V := [], M := M4, ds := [] }) [1] [] [] (by kernel_rfl) ?_
        refine T_skip (by kernel_rfl) ?_
        refine thenQ_n ?_
        refine T_seq (c1 := (sub [1, 1, 1, 0] (bodyOf Try.f46))) (c2 := (sub [1, 1, 1, 1] (bodyOf Try.f46))) (by kernel_rfl) ?_
        refine T_seq (c1 := (sub [1, 1, 1, 0, 0] (bodyOf Try.f46))) (c2 := (sub [1, 1, 1, 0, 1] (bodyOf Try.f46))) (by kernel_rfl) ?_
        refine T_region (id := 5) (by kernel_rfl) ?_
        refine TI_segK (i := 0) (j := 1) (s' := { σ := [(1, .lf (.v (.pointer (some ⟨b3, 0, none⟩)))), (24, .lf (.v (.pointer (some ⟨b3, 0, none⟩))))], H := [], V := [], M := M4, ds := [] }) [1, 24] [] [] (by kernel_rfl) (by kernel_rfl) ?_
        refine TI_at (i := 1) (d := 25) (x := .lf (.v (.slice Au0_0 (List.length u0_0) cu0_0))) (At_ldP (d := 25) (b := b3) (off := 0) (m := 1) (v := (.slice Au0_0 (List.length u0_0) cu0_0)) (by kernel_rfl) (cell_blk fb3 ⟨rfl, ⟨hu0_1, trivial⟩⟩ (by kernel_rfl))) (by kernel_rfl) trivial ?_
        refine TI_segK (i := 2) (j := 4) (s' := { σ := [(1, .lf (.v (.pointer (some ⟨b3, 0, none⟩)))), (25, .lf (.v (.slice Au0_0 (List.length u0_0) cu0_0))), (26, .lf (.v (.int .i64 (List.length u0_0 : Int)))), (27, .lf (.v (.int .i64 (0 : Int))))], H := [], V := [], M := M4, ds := [] }) [1, 25, 26, 27] [] [] (by kernel_rfl) (by kernel_rfl) ?_
        refine TI_end (by kernel_rfl) ?_
        refine thenQ_n ?_
        obtain ⟨j10, e_j10, h⟩ := jn_some h
        refine T_bcut (id := 0) (c1 := (sub [1, 1, 1, 0, 1, 0] (bodyOf Try.f46))) (fun s' => ∃ (M9 : Mem), Sub { σ := [(1, .lf (.v (.pointer (some ⟨b3, 0, none⟩))))], H := [], V := [], M := M9, ds := [] } s' ∧ Mem.le M4 M9 ∧ j10 = some r) (by kernel_rfl) ?_ ?_
        · refine T_loop (c1 := (sub [1, 1, 1, 0, 1, 0, 0] (bodyOf Try.f46))) (by kernel_rfl) (fun n13 s' => ∃ (x11 : Int) (M12 : Mem), Sub { σ := [(1, .lf (.v (.pointer (some ⟨b3, 0, none⟩)))), (25, .lf (.v (.slice Au0_0 (List.length u0_0) cu0_0))), (26, .lf (.v (.int .i64 (List.length u0_0 : Int)))), (27, .lf (.v (.int .i64 x11)))], H := [], V := [], M := M12, ds := [] } s' ∧ Mem.le M4 M12 ∧ p46_l1 k u0_0 j10 n13 x11 = some r) (k := k) ⟨(0 : Int), M4, keep_sub (ts := [1, 25, 26, 27]) (hs := []) (vs := []) (by kernel_rfl), (Mem.le_refl _), h⟩ ?_
          rintro n13 s' ⟨x11, M12, hsub, hM12, h⟩
          cases n13 with
          | zero => rw [p46_l1] at h; cases h
          | succ n13 =>
            rw [p46_l1] at h
            refine T_sub hsub ?_
            refine T_seq (c1 := (sub [1, 1, 1, 0, 1, 0, 0, 0] (bodyOf Try.f46))) (c2 := (sub [1, 1, 1, 0, 1, 0, 0, 1] (bodyOf Try.f46))) (by kernel_rfl) ?_
            refine T_region (id := 6) (by kernel_rfl) ?_
            obtain ⟨b14, e_b14, h⟩ := lt_some h
            refine TI_segK (i := 0) (j := 1) (s' := { σ := [(1, .lf (.v (.pointer (some ⟨b3, 0, none⟩)))), (25, .lf (.v (.slice Au0_0 (List.length u0_0) cu0_0))), (26, .lf (.v (.int .i64 (List.length u0_0 : Int)))), (27, .lf (.v (.int .i64 x11))), (28, .lf (.v (.bool b14)))], H := [], V := [], M := M12, ds := [] }) [1, 25, 26, 27, 28] [] [] (by subst e_b14; kernel_rfl) (by kernel_rfl) ?_
            refine TI_end (by kernel_rfl) ?_
            refine thenQ_n ?_
            refine T_seq (c1 := (sub [1, 1, 1, 0, 1, 0, 0, 1, 0] (bodyOf Try.f46))) (c2 := (sub [1, 1, 1, 0, 1, 0, 0, 1, 1] (bodyOf Try.f46))) (by kernel_rfl) ?_
            cases b14 with
            | true =>
              replace h := sp_t h
              refine T_condT (x := (.tmp 28)) (c1 := (sub [1, 1, 1, 0, 1, 0, 0, 1, 0, 0] (bodyOf Try.f46))) (c2 := (sub [1, 1, 1, 0, 1, 0, 0, 1, 0, 1] (bodyOf Try.f46))) (by kernel_rfl) (by kernel_rfl) ?_
              refine T_keep (s' := { σ := [(1, .lf (.v (.pointer (some ⟨b3, 0, none⟩)))), (25, .lf (.v (.slice Au0_0 (List.length u0_0) cu0_0))), (26, .lf (.v (.int .i64 (List.length u0_0 : Int)))), (27, .lf (.v (.int .i64 x11)))], H := [], V := [], M := M12, ds := [] }) [1, 25, 26, 27] [] [] (by kernel_rfl) ?_
              refine T_skip (by kernel_rfl) ?_
              refine thenQ_n ?_
              refine T_seq (c1 := (sub [1, 1, 1, 0, 1, 0, 0, 1, 1, 0] (bodyOf Try.f46))) (c2 := (sub [1, 1, 1, 0, 1, 0, 0, 1, 1, 1] (bodyOf Try.f46))) (by kernel_rfl) ?_
              refine T_block (id := 1) (c1 := (sub [1, 1, 1, 0, 1, 0, 0, 1, 1, 0, 0] (bodyOf Try.f46))) (by kernel_rfl) ?_
              refine T_seq (c1 := (sub [1, 1, 1, 0, 1, 0, 0, 1, 1, 0, 0, 0] (bodyOf Try.f46))) (c2 := (sub [1, 1, 1, 0, 1, 0, 0, 1, 1, 0, 0, 1] (bodyOf Try.f46))) (by kernel_rfl) ?_
              refine T_region (id := 7) (by kernel_rfl) ?_
              refine TI_segK (i := 0) (j := 1) (s' := { σ := [(1, .lf (.v (.pointer (some ⟨b3, 0, none⟩)))), (25, .lf (.v (.slice Au0_0 (List.length u0_0) cu0_0))), (26, .lf (.v (.int .i64 (List.length u0_0 : Int)))), (27, .lf (.v (.int .i64 x11))), (29, .lf (.v (.int .i64 x11)))], H := [], V := [], M := M12, ds := [] }) [1, 25, 26, 27, 29] [] [] (by kernel_rfl) (by kernel_rfl) ?_
              obtain ⟨g15, h⟩ := gd_some h
              refine TI_at (i := 1) (d := 30) (x := .lf (.ep (.slice Au0_0 (List.length u0_0) cu0_0) 11 ((x11).toNat) 0)) (by exact At_idxR (d := 30) (z := x11) (by kernel_rfl) g15 ((hu0_0.le hM4).le hM12)) (by kernel_rfl) trivial ?_
              obtain ⟨L16, e_L16, h⟩ := lt_some h
              have l_L16 : (L16).length = 11 := by rw [e_L16]; exact SlR_row ((hu0_0.le hM4).le hM12) (toNat_lt g15)
              refine TI_at (i := 2) (d := 31) (x := .agg [.arr .i64 11 L16]) (by rw [e_L16]; exact At_ldRow (d := 31) (q := (x11).toNat) (by subst e_L16; kernel_rfl) (toNat_lt g15) ((hu0_0.le hM4).le hM12)) (by kernel_rfl) ⟨l_L16, trivial⟩ ?_
              refine TI_segK (i := 3) (j := 6) (s' := { σ := [(1, .lf (.v (.pointer (some ⟨b3, 0, none⟩)))), (4, .lf (.v (.int .i64 x11))), (5, .lf (.own 5 0)), (25, .lf (.v (.slice Au0_0 (List.length u0_0) cu0_0))), (26, .lf (.v (.int .i64 (List.length u0_0 : Int)))), (27, .lf (.v (.int .i64 x11)))], H := [(5, [.arr .i64 11 L16])], V := [], M := M12, ds := [] }) [1, 4, 5, 25, 26, 27] [5] [] (by kernel_rfl) (by kernel_rfl) ?_
              refine TI_end (by kernel_rfl) ?_
              refine thenQ_n ?_
              obtain ⟨j18, e_j18, h⟩ := jn_some h
              refine T_cut (c1 := (sub [1, 1, 1, 0, 1, 0, 0, 1, 1, 0, 0, 1, 0] (bodyOf Try.f46))) (c2 := (sub [1, 1, 1, 0, 1, 0, 0, 1, 1, 0, 0, 1, 1] (bodyOf Try.f46))) (fun s' => ∃ (b17 : Bool), Sub { σ := [(1, .lf (.v (.pointer (some ⟨b3, 0, none⟩)))), (5, .lf (.own 5 0)), (6, .lf (.v (.bool b17))), (25, .lf (.v (.slice Au0_0 (List.length u0_0) cu0_0))), (26, .lf (.v (.int .i64 (List.length u0_0 : Int)))), (27, .lf (.v (.int .i64 x11)))], H := [(5, [.arr .i64 11 L16])], V := [], M := M12, ds := [] } s' ∧ j18 b17 = some r) (by kernel_rfl) ?_ ?_
              · obtain ⟨x19, e_x19, h⟩ := lt_some h
                obtain ⟨v20, c_v20, h⟩ := cl_some h
                cases v20 with
                | true =>
                  replace h := sp_t h
                  obtain ⟨v21, c_v21, h⟩ := cl_some h
                  cases v21 with
                  | true =>
                    replace h := sp_t h
                    obtain ⟨b22, e_b22, h⟩ := lt_some h
                    cases b22 with
                    | true =>
                      replace h := sp_t h
                      obtain ⟨x23, e_x23, h⟩ := lt_some h
                      obtain ⟨x24, e_x24, h⟩ := lt_some h
                      obtain ⟨g25, h⟩ := gd_some h
                      obtain ⟨x26, e_x26, h⟩ := lt_some h
                      obtain ⟨b27, e_b27, h⟩ := lt_some h
                      refine T_draw' (id := 8) [] [0, 0, 0, 0, 0, 0, 0, 0, 0, 0, 0, 0, 0, 0, 0, 0, 0, 0, 0, 0, 0, 0, 0, 0, 0, 0, 0] (by kernel_rfl) (by kernel_rfl) (by kernel_rfl) (by kernel_rfl) [(32, .lf (.own 5 0)), (33, .lf (.v (.int .i64 x19))), (34, .lf (.v (.bool true))), (35, .lf (.v (.bool false))), (36, .lf (.v (.bool false))), (37, .lf (.own 5 1)), (38, .agg [.arr .i64 2 (List.take 2 (List.drop 1 L16))]), (39, .lf (.v (.bool true))), (40, .lf (.v (.bool false))), (41, .lf (.v (.bool false))), (42, .lf (.v (.bool false))), (43, .lf (.v (.int .i64 x11))), (44, .lf (.v (.bool true))), (45, .lf (.v (.bool true))), (46, .lf (.own 5 0)), (47, .lf (.v (.int .i64 x23))), (48, .lf (.v (.pointer (some ⟨b3, 0, none⟩)))), (49, .lf (.v (.slice Au0_0 (List.length u0_0) cu0_0))), (50, .lf (.v (.int .i64 x11))), (51, .lf (.v (.int .i64 x24))), (52, .lf (.ep (.slice Au0_0 (List.length u0_0) cu0_0) 11 ((x24).toNat) 0)), (53, .lf (.ep (.slice Au0_0 (List.length u0_0) cu0_0) 11 ((x24).toNat) 0)), (54, .lf (.v (.int .i64 x26))), (55, .lf (.v (.bool b27))), (56, .lf (.v (.bool b27))), (57, .lf (.v (.bool b27))), (6, .lf (.v (.bool b27)))] (by kernel_rfl) ⟨trivial, ⟨trivial, ⟨trivial, ⟨trivial, ⟨trivial, ⟨trivial, ⟨⟨(len_dt l_L16 (Nat.le_of_ble_eq_true rfl)), trivial⟩, ⟨trivial, ⟨trivial, ⟨trivial, ⟨trivial, ⟨trivial, ⟨trivial, ⟨trivial, ⟨trivial, ⟨trivial, ⟨trivial, ⟨trivial, ⟨trivial, ⟨trivial, ⟨trivial, ⟨trivial, ⟨trivial, ⟨trivial, ⟨trivial, ⟨trivial, ⟨trivial, trivial⟩⟩⟩⟩⟩⟩⟩⟩⟩⟩⟩⟩⟩⟩⟩⟩⟩⟩⟩⟩⟩⟩⟩⟩⟩⟩⟩ ?_
                      refine Stage_nil (stage_all' [0, 1, 3, 4, 5, 6, 8, 9, 10, 11, 13, 14, 15, 16, 18, 19, 21, 23, 24, 25, 26] [2, 7, 12, 17, 20, 22] (by kernel_rfl) (by subst e_b27 e_x26 e_x24 e_x23 e_x19; kernel_rfl) (by kernel_rfl) ⟨QF_at (i := 2) (d := 34) (x := .lf (.v (.bool true))) (show OpAt _ _ _ 2 34 (.lf (.v (.bool true))) from by exact At_call (d := 34) (f := 49) (args := [rval (.lf (.v (.int .i64 x19))), rval (.lf (.v (.int .i64 (0 : Int)))), rval (.lf (.v (.int .i64 (1099511627776 : Int))))]) (x := .lf (.v (.bool true))) (by subst e_b27 e_x26 e_x24 e_x23 e_x19; kernel_rfl) (w49 k  c_v20)) (by kernel_rfl) (by subst e_b27 e_x26 e_x24 e_x23 e_x19; kernel_rfl), ⟨QF_at (i := 7) (d := 39) (x := .lf (.v (.bool true))) (show OpAt _ _ _ 7 39 (.lf (.v (.bool true))) from by exact At_call (d := 39) (f := 61) (args := [rval (.agg [.arr .i64 2 (List.take 2 (List.drop 1 L16))])]) (x := .lf (.v (.bool true))) (by subst e_b27 e_x26 e_x24 e_x23 e_x19; kernel_rfl) (w61 k (len_dt l_L16 (Nat.le_of_ble_eq_true rfl)) c_v21)) (by kernel_rfl) (by subst e_b27 e_x26 e_x24 e_x23 e_x19; kernel_rfl), ⟨QF_at (i := 12) (d := 44) (x := .lf (.v (.bool true))) (show OpAt _ _ _ 12 44 (.lf (.v (.bool true))) from by exact At_bin (d := 44) (b := .gtr) (u := .int .i64 x11) (v := .int .i64 (0 : Int)) (w' := .bool true) (by subst e_b27 e_x26 e_x24 e_x23 e_x19; kernel_rfl) (by rw [show exBin .gtr (.int .i64 x11) (.int .i64 (0 : Int)) = some (.bool (decide (x11 > (0 : Int)))) from by kernel_rfl, ← e_b22])) (by kernel_rfl) (by subst e_b27 e_x26 e_x24 e_x23 e_x19; kernel_rfl), ⟨QF_at (i := 17) (d := 49) (x := .lf (.v (.slice Au0_0 (List.length u0_0) cu0_0))) (show OpAt _ _ _ 17 49 (.lf (.v (.slice Au0_0 (List.length u0_0) cu0_0))) from by exact At_ldP (d := 49) (b := b3) (off := 0) (m := 1) (v := (.slice Au0_0 (List.length u0_0) cu0_0)) (by subst e_b27 e_x26 e_x24 e_x23 e_x19; kernel_rfl) (cell_blk (hM12 _ _ fb3) ⟨rfl, ⟨hu0_1, trivial⟩⟩ (by kernel_rfl))) (by kernel_rfl) (by subst e_b27 e_x26 e_x24 e_x23 e_x19; kernel_rfl), ⟨QF_at (i := 20) (d := 52) (x := .lf (.ep (.slice Au0_0 (List.length u0_0) cu0_0) 11 ((x24).toNat) 0)) (show OpAt _ _ _ 20 52 (.lf (.ep (.slice Au0_0 (List.length u0_0) cu0_0) 11 ((x24).toNat) 0)) from by exact At_idxR (d := 52) (z := x24) (by subst e_b27 e_x26 e_x24 e_x23 e_x19; kernel_rfl) g25 ((hu0_0.le hM4).le hM12)) (by kernel_rfl) (by subst e_b27 e_x26 e_x24 e_x23 e_x19; kernel_rfl), ⟨QF_at (i := 22) (d := 54) (x := .lf (.v (.int .i64 x26))) (show OpAt _ _ _ 22 54 (.lf (.v (.int .i64 x26))) from by rw [e_x26]; exact At_ldR1 (d := 54) (q := (x24).toNat) (j := 0) (by subst e_b27 e_x26 e_x24 e_x23 e_x19; kernel_rfl) rfl (toNat_lt g25) ((hu0_0.le hM4).le hM12)) (by kernel_rfl) (by subst e_b27 e_x26 e_x24 e_x23 e_x19; kernel_rfl), trivial⟩⟩⟩⟩⟩⟩) ?_
                      refine thenQ_n ?_
                      exact ⟨b27, keep_sub (ts := [1, 5, 6, 25, 26, 27]) (hs := [5]) (vs := []) (by subst e_b27 e_x26 e_x24 e_x23 e_x19; kernel_rfl), h⟩
                    | false =>
                      replace h := sp_f h
                      refine T_draw' (id := 8) [] [0, 0, 0, 0, 0, 0, 0, 0, 0, 0, 0, 0, 0, 0, 0, 0, 0, 0, 0, 0, 0, 0, 0, 0, 0, 0, 0] (by kernel_rfl) (by kernel_rfl) (by kernel_rfl) (by kernel_rfl) [(32, .lf (.own 5 0)), (33, .lf (.v (.int .i64 x19))), (34, .lf (.v (.bool true))), (35, .lf (.v (.bool false))), (36, .lf (.v (.bool false))), (37, .lf (.own 5 1)), (38, .agg [.arr .i64 2 (List.take 2 (List.drop 1 L16))]), (39, .lf (.v (.bool true))), (40, .lf (.v (.bool false))), (41, .lf (.v (.bool false))), (42, .lf (.v (.bool false))), (43, .lf (.v (.int .i64 x11))), (44, .lf (.v (.bool false))), (45, .lf (.v (.bool false))), (46, .tup []), (47, .tup []), (48, .tup []), (49, .tup []), (50, .tup []), (51, .tup []), (52, .tup []), (53, .tup []), (54, .tup []), (55, .tup []), (56, .lf (.v (.bool false))), (57, .lf (.v (.bool false))), (6, .lf (.v (.bool false)))] (by kernel_rfl) ⟨trivial, ⟨trivial, ⟨trivial, ⟨trivial, ⟨trivial, ⟨trivial, ⟨⟨(len_dt l_L16 (Nat.le_of_ble_eq_true rfl)), trivial⟩, ⟨trivial, ⟨trivial, ⟨trivial, ⟨trivial, ⟨trivial, ⟨trivial, ⟨trivial, ⟨(by intro y hy; cases hy), ⟨(by intro y hy; cases hy), ⟨(by intro y hy; cases hy), ⟨(by intro y hy; cases hy), ⟨(by intro y hy; cases hy), ⟨(by intro y hy; cases hy), ⟨(by intro y hy; cases hy), ⟨(by intro y hy; cases hy), ⟨(by intro y hy; cases hy), ⟨(by intro y hy; cases hy), ⟨trivial, ⟨trivial, ⟨trivial, trivial⟩⟩⟩⟩⟩⟩⟩⟩⟩⟩⟩⟩⟩⟩⟩⟩⟩⟩⟩⟩⟩⟩⟩⟩⟩⟩⟩ ?_
                      refine Stage_nil (stage_all' [0, 1, 3, 4, 5, 6, 8, 9, 10, 11, 13, 14, 15, 16, 17, 18, 19, 20, 21, 22, 23, 24, 25, 26] [2, 7, 12] (by kernel_rfl) (by subst e_x19; kernel_rfl) (by kernel_rfl) ⟨QF_at (i := 2) (d := 34) (x := .lf (.v (.bool true))) (show OpAt _ _ _ 2 34 (.lf (.v (.bool true))) from by exact At_call (d := 34) (f := 49) (args := [rval (.lf (.v (.int .i64 x19))), rval (.lf (.v (.int .i64 (0 : Int)))), rval (.lf (.v (.int .i64 (1099511627776 : Int))))]) (x := .lf (.v (.bool true))) (by subst e_x19; kernel_rfl) (w49 k  c_v20)) (by kernel_rfl) (by subst e_x19; kernel_rfl), ⟨QF_at (i := 7) (d := 39) (x := .lf (.v (.bool true))) (show OpAt _ _ _ 7 39 (.lf (.v (.bool true))) from by exact At_call (d := 39) (f := 61) (args := [rval (.agg [.arr .i64 2 (List.take 2 (List.drop 1 L16))])]) (x := .lf (.v (.bool true))) (by subst e_x19; kernel_rfl) (w61 k (len_dt l_L16 (Nat.le_of_ble_eq_true rfl)) c_v21)) (by kernel_rfl) (by subst e_x19; kernel_rfl), ⟨QF_at (i := 12) (d := 44) (x := .lf (.v (.bool false))) (show OpAt _ _ _ 12 44 (.lf (.v (.bool false))) from by exact At_bin (d := 44) (b := .gtr) (u := .int .i64 x11) (v := .int .i64 (0 : Int)) (w' := .bool false) (by subst e_x19; kernel_rfl) (by rw [show exBin .gtr (.int .i64 x11) (.int .i64 (0 : Int)) = some (.bool (decide (x11 > (0 : Int)))) from by kernel_rfl, ← e_b22])) (by kernel_rfl) (by subst e_x19; kernel_rfl), trivial⟩⟩⟩) ?_
                      refine thenQ_n ?_
                      exact ⟨false, keep_sub (ts := [1, 5, 6, 25, 26, 27]) (hs := [5]) (vs := []) (by subst e_x19; kernel_rfl), h⟩
                  | false =>
                    replace h := sp_f h
                    refine T_draw' (id := 8) [] [0, 0, 0, 0, 0, 0, 0, 0, 0, 0, 0, 0, 0, 0, 0, 0, 0, 0, 0, 0, 0, 0, 0, 0, 0, 0, 0] (by kernel_rfl) (by kernel_rfl) (by kernel_rfl) (by kernel_rfl) [(32, .lf (.own 5 0)), (33, .lf (.v (.int .i64 x19))), (34, .lf (.v (.bool true))), (35, .lf (.v (.bool false))), (36, .lf (.v (.bool false))), (37, .lf (.own 5 1)), (38, .agg [.arr .i64 2 (List.take 2 (List.drop 1 L16))]), (39, .lf (.v (.bool false))), (40, .lf (.v (.bool true))), (41, .lf (.v (.bool true))), (42, .lf (.v (.bool true))), (43, .tup []), (44, .tup []), (45, .tup []), (46, .tup []), (47, .tup []), (48, .tup []), (49, .tup []), (50, .tup []), (51, .tup []), (52, .tup []), (53, .tup []), (54, .tup []), (55, .tup []), (56, .tup []), (57, .lf (.v (.bool true))), (6, .lf (.v (.bool true)))] (by kernel_rfl) ⟨trivial, ⟨trivial, ⟨trivial, ⟨trivial, ⟨trivial, ⟨trivial, ⟨⟨(len_dt l_L16 (Nat.le_of_ble_eq_true rfl)), trivial⟩, ⟨trivial, ⟨trivial, ⟨trivial, ⟨trivial, ⟨(by intro y hy; cases hy), ⟨(by intro y hy; cases hy), ⟨(by intro y hy; cases hy), ⟨(by intro y hy; cases hy), ⟨(by intro y hy; cases hy), ⟨(by intro y hy; cases hy), ⟨(by intro y hy; cases hy), ⟨(by intro y hy; cases hy), ⟨(by intro y hy; cases hy), ⟨(by intro y hy; cases hy), ⟨(by intro y hy; cases hy), ⟨(by intro y hy; cases hy), ⟨(by intro y hy; cases hy), ⟨(by intro y hy; cases hy), ⟨trivial, ⟨trivial, trivial⟩⟩⟩⟩⟩⟩⟩⟩⟩⟩⟩⟩⟩⟩⟩⟩⟩⟩⟩⟩⟩⟩⟩⟩⟩⟩⟩ ?_
                    refine Stage_nil (stage_all' [0, 1, 3, 4, 5, 6, 8, 9, 10, 11, 12, 13, 14, 15, 16, 17, 18, 19, 20, 21, 22, 23, 24, 25, 26] [2, 7] (by kernel_rfl) (by subst e_x19; kernel_rfl) (by kernel_rfl) ⟨QF_at (i := 2) (d := 34) (x := .lf (.v (.bool true))) (show OpAt _ _ _ 2 34 (.lf (.v (.bool true))) from by exact At_call (d := 34) (f := 49) (args := [rval (.lf (.v (.int .i64 x19))), rval (.lf (.v (.int .i64 (0 : Int)))), rval (.lf (.v (.int .i64 (1099511627776 : Int))))]) (x := .lf (.v (.bool true))) (by subst e_x19; kernel_rfl) (w49 k  c_v20)) (by kernel_rfl) (by subst e_x19; kernel_rfl), ⟨QF_at (i := 7) (d := 39) (x := .lf (.v (.bool false))) (show OpAt _ _ _ 7 39 (.lf (.v (.bool false))) from by exact At_call (d := 39) (f := 61) (args := [rval (.agg [.arr .i64 2 (List.take 2 (List.drop 1 L16))])]) (x := .lf (.v (.bool false))) (by subst e_x19; kernel_rfl) (w61 k (len_dt l_L16 (Nat.le_of_ble_eq_true rfl)) c_v21)) (by kernel_rfl) (by subst e_x19; kernel_rfl), trivial⟩⟩) ?_
                    refine thenQ_n ?_
                    exact ⟨true, keep_sub (ts := [1, 5, 6, 25, 26, 27]) (hs := [5]) (vs := []) (by subst e_x19; kernel_rfl), h⟩
                | false =>
                  replace h := sp_f h
                  refine T_draw' (id := 8) [] [0, 0, 0, 0, 0, 0, 0, 0, 0, 0, 0, 0, 0, 0, 0, 0, 0, 0, 0, 0, 0, 0, 0, 0, 0, 0, 0] (by kernel_rfl) (by kernel_rfl) (by kernel_rfl) (by kernel_rfl) [(32, .lf (.own 5 0)), (33, .lf (.v (.int .i64 x19))), (34, .lf (.v (.bool false))), (35, .lf (.v (.bool true))), (36, .lf (.v (.bool true))), (37, .tup []), (38, .tup []), (39, .tup []), (40, .tup []), (41, .lf (.v (.bool true))), (42, .lf (.v (.bool true))), (43, .tup []), (44, .tup []), (45, .tup []), (46, .tup []), (47, .tup []), (48, .tup []), (49, .tup []), (50, .tup []), (51, .tup []), (52, .tup []), (53, .tup []), (54, .tup []), (55, .tup []), (56, .tup []), (57, .lf (.v (.bool true))), (6, .lf (.v (.bool true)))] (by kernel_rfl) ⟨trivial, ⟨trivial, ⟨trivial, ⟨trivial, ⟨trivial, ⟨(by intro y hy; cases hy), ⟨(by intro y hy; cases hy), ⟨(by intro y hy; cases hy), ⟨(by intro y hy; cases hy), ⟨trivial, ⟨trivial, ⟨(by intro y hy; cases hy), ⟨(by intro y hy; cases hy), ⟨(by intro y hy; cases hy), ⟨(by intro y hy; cases hy), ⟨(by intro y hy; cases hy), ⟨(by intro y hy; cases hy), ⟨(by intro y hy; cases hy), ⟨(by intro y hy; cases hy), ⟨(by intro y hy; cases hy), ⟨(by intro y hy; cases hy), ⟨(by intro y hy; cases hy), ⟨(by intro y hy; cases hy), ⟨(by intro y hy; cases hy), ⟨(by intro y hy; cases hy), ⟨trivial, ⟨trivial, trivial⟩⟩⟩⟩⟩⟩⟩⟩⟩⟩⟩⟩⟩⟩⟩⟩⟩⟩⟩⟩⟩⟩⟩⟩⟩⟩⟩ ?_
                  refine Stage_nil (stage_all' [0, 1, 3, 4, 5, 6, 7, 8, 9, 10, 11, 12, 13, 14, 15, 16, 17, 18, 19, 20, 21, 22, 23, 24, 25, 26] [2] (by kernel_rfl) (by subst e_x19; kernel_rfl) (by kernel_rfl) ⟨QF_at (i := 2) (d := 34) (x := .lf (.v (.bool false))) (show OpAt _ _ _ 2 34 (.lf (.v (.bool false))) from by exact At_call (d := 34) (f := 49) (args := [rval (.lf (.v (.int .i64 x19))), rval (.lf (.v (.int .i64 (0 : Int)))), rval (.lf (.v (.int .i64 (1099511627776 : Int))))]) (x := .lf (.v (.bool false))) (by subst e_x19; kernel_rfl) (w49 k  c_v20)) (by kernel_rfl) (by subst e_x19; kernel_rfl), trivial⟩) ?_
                  refine thenQ_n ?_
                  exact ⟨true, keep_sub (ts := [1, 5, 6, 25, 26, 27]) (hs := [5]) (vs := []) (by subst e_x19; kernel_rfl), h⟩
              · rintro s' ⟨b17, hsub, h⟩
                subst e_j18
                refine T_sub hsub ?_
                refine T_turn (turn_pubH 5 (c := [.arr .i64 11 L16]) (by kernel_rfl) (by kernel_rfl)) ?_
                rintro _ ⟨b28, M29, rfl, -, e_M29, -, hM29⟩
                have fb28 : M29 b28 = some (sgCells (fun _ => 0) (fun _ => .slice none 0 0) [.arr .i64 11 L16]).toArray := by rw [e_M29]; exact addM_at _ _ _
                refine T_keep (s' := { σ := [(1, .lf (.v (.pointer (some ⟨b3, 0, none⟩)))), (5, .lf (.v (.pointer (some ⟨b28, 0, none⟩)))), (6, .lf (.v (.bool b17))), (25, .lf (.v (.slice Au0_0 (List.length u0_0) cu0_0))), (26, .lf (.v (.int .i64 (List.length u0_0 : Int)))), (27, .lf (.v (.int .i64 x11)))], H := [], V := [], M := M29, ds := [] }) [1, 5, 6, 25, 26, 27] [] [] (by kernel_rfl) ?_
                obtain ⟨j31, e_j31, h⟩ := jn_some h
                refine T_cut (c1 := (sub [1, 1, 1, 0, 1, 0, 0, 1, 1, 0, 0, 1, 1, 0] (bodyOf Try.f46))) (c2 := (sub [1, 1, 1, 0, 1, 0, 0, 1, 1, 0, 0, 1, 1, 1] (bodyOf Try.f46))) (fun s' => ∃ (b30 : Bool), Sub { σ := [(1, .lf (.v (.pointer (some ⟨b3, 0, none⟩)))), (25, .lf (.v (.slice Au0_0 (List.length u0_0) cu0_0))), (26, .lf (.v (.int .i64 (List.length u0_0 : Int)))), (27, .lf (.v (.int .i64 x11))), (63, .lf (.v (.bool b30)))], H := [], V := [], M := M29, ds := [] } s' ∧ j31 b30 = some r) (by kernel_rfl) ?_ ?_
                · refine T_region (id := 9) (by kernel_rfl) ?_
                  refine TI_segK (i := 0) (j := 2) (s' := { σ := [(1, .lf (.v (.pointer (some ⟨b3, 0, none⟩)))), (5, .lf (.v (.pointer (some ⟨b28, 0, none⟩)))), (25, .lf (.v (.slice Au0_0 (List.length u0_0) cu0_0))), (26, .lf (.v (.int .i64 (List.length u0_0 : Int)))), (27, .lf (.v (.int .i64 x11))), (59, .lf (.v (.bool b17)))], H := [], V := [], M := M29, ds := [] }) [1, 5, 25, 26, 27, 59] [] [] (by kernel_rfl) (by kernel_rfl) ?_
                  cases b17 with
                  | true =>
                    replace h := sp_t h
                    refine TI_segK (i := 2) (j := 6) (s' := { σ := [(1, .lf (.v (.pointer (some ⟨b3, 0, none⟩)))), (25, .lf (.v (.slice Au0_0 (List.length u0_0) cu0_0))), (26, .lf (.v (.int .i64 (List.length u0_0 : Int)))), (27, .lf (.v (.int .i64 x11))), (63, .lf (.v (.bool true)))], H := [], V := [], M := M29, ds := [] }) [1, 25, 26, 27, 63] [] [] (by kernel_rfl) (by kernel_rfl) ?_
                    refine TI_end (by kernel_rfl) ?_
                    refine thenQ_n ?_
                    exact ⟨true, keep_sub (ts := [1, 25, 26, 27, 63]) (hs := []) (vs := []) (by kernel_rfl), h⟩
                  | false =>
                    replace h := sp_f h
                    refine TI_segK (i := 2) (j := 3) (s' := { σ := [(1, .lf (.v (.pointer (some ⟨b3, 0, none⟩)))), (25, .lf (.v (.slice Au0_0 (List.length u0_0) cu0_0))), (26, .lf (.v (.int .i64 (List.length u0_0 : Int)))), (27, .lf (.v (.int .i64 x11))), (59, .lf (.v (.bool false))), (60, .lf (.v (.pointer (some ⟨b28, 3, none⟩))))], H := [], V := [], M := M29, ds := [] }) [1, 25, 26, 27, 59, 60] [] [] (by kernel_rfl) (by kernel_rfl) ?_
                    refine TI_at (i := 3) (d := 61) (x := .lf (.v (.slice (some ⟨b28, 3, none⟩) (List.length (bands4 L16)) 4))) (At_slA (d := 61) (b := b28) (off := 3) (n := 4) (L := bands4 L16) (by kernel_rfl) rfl) (by kernel_rfl) trivial ?_
                    obtain ⟨v32, c_v32, h⟩ := cl_some h
                    refine TI_at (i := 4) (d := 62) (x := .lf (.v (.bool v32))) (At_call (d := 62) (f := 70) (args := [rval (.lf (.v (.slice (some ⟨b28, 3, none⟩) (List.length (bands4 L16)) 4))), rval (.lf (.v (.func (.func 71) #[] #[])))]) (x := .lf (.v (.bool v32))) (by kernel_rfl) (w70 k (SlR_block fb28 (bands4_cells l_L16) (bands4_rows l_L16) (Nat.le_refl _)) c_v32)) (by kernel_rfl) trivial ?_
                    refine TI_segK (i := 5) (j := 6) (s' := { σ := [(1, .lf (.v (.pointer (some ⟨b3, 0, none⟩)))), (25, .lf (.v (.slice Au0_0 (List.length u0_0) cu0_0))), (26, .lf (.v (.int .i64 (List.length u0_0 : Int)))), (27, .lf (.v (.int .i64 x11))), (63, .lf (.v (.bool v32)))], H := [], V := [], M := M29, ds := [] }) [1, 25, 26, 27, 63] [] [] (by kernel_rfl) (by kernel_rfl) ?_
                    refine TI_end (by kernel_rfl) ?_
                    refine thenQ_n ?_
                    exact ⟨v32, keep_sub (ts := [1, 25, 26, 27, 63]) (hs := []) (vs := []) (by kernel_rfl), h⟩
                · rintro s' ⟨b30, hsub, h⟩
                  subst e_j31
                  refine T_sub hsub ?_
                  cases b30 with
                  | true =>
                    replace h := sp_t h
                    refine T_condT (x := (.tmp 63)) (c1 := (sub [1, 1, 1, 0, 1, 0, 0, 1, 1, 0, 0, 1, 1, 1, 0] (bodyOf Try.f46))) (c2 := (sub [1, 1, 1, 0, 1, 0, 0, 1, 1, 0, 0, 1, 1, 1, 1] (bodyOf Try.f46))) (by kernel_rfl) (by kernel_rfl) ?_
                    refine T_keep (s' := { σ := [], H := [], V := [], M := M29, ds := [] }) [] [] [] (by kernel_rfl) ?_
                    refine T_seq (c1 := (sub [1, 1, 1, 0, 1, 0, 0, 1, 1, 0, 0, 1, 1, 1, 0, 0] (bodyOf Try.f46))) (c2 := (sub [1, 1, 1, 0, 1, 0, 0, 1, 1, 0, 0, 1, 1, 1, 0, 1] (bodyOf Try.f46))) (by kernel_rfl) ?_
                    refine T_region (id := 10) (by kernel_rfl) ?_
                    refine TI_segK (i := 0) (j := 2) (s' := { σ := [(2, .lf (.v (.pointer none))), (3, .lf (.v (.int .i64 (2 : Int))))], H := [], V := [], M := M29, ds := [] }) [2, 3] [] [] (by kernel_rfl) (by kernel_rfl) ?_
                    refine TI_end (by kernel_rfl) ?_
                    refine thenQ_n ?_
                    refine T_ret (by kernel_rfl) ?_
                    refine blockQ_r ?_
                    refine thenQ_r ?_
                    refine thenQ_r ?_
                    refine blockQ_r ?_
                    refine thenQ_r ?_
                    refine thenQ_r ?_
                    have h := Option.some.inj h
                    subst h
                    refine fin_ret (.tup [(some (.v (.pointer none)), []), (some (.v (.int .i64 (2 : Int))), [])]) (by kernel_rfl) (by kernel_rfl) rfl ?_
                    exact ⟨(.pointer none), rfl, rfl⟩
                  | false =>
                    replace h := sp_f h
                    refine T_condF (x := (.tmp 63)) (c1 := (sub [1, 1, 1, 0, 1, 0, 0, 1, 1, 0, 0, 1, 1, 1, 0] (bodyOf Try.f46))) (c2 := (sub [1, 1, 1, 0, 1, 0, 0, 1, 1, 0, 0, 1, 1, 1, 1] (bodyOf Try.f46))) (by kernel_rfl) (by kernel_rfl) ?_
                    refine T_keep (s' := { σ := [(1, .lf (.v (.pointer (some ⟨b3, 0, none⟩)))), (25, .lf (.v (.slice Au0_0 (List.length u0_0) cu0_0))), (26, .lf (.v (.int .i64 (List.length u0_0 : Int)))), (27, .lf (.v (.int .i64 x11)))], H := [], V := [], M := M29, ds := [] }) [1, 25, 26, 27] [] [] (by kernel_rfl) ?_
                    refine T_skip (by kernel_rfl) ?_
                    refine blockQ_n ?_
                    refine thenQ_n ?_
                    refine T_region (id := 11) (by kernel_rfl) ?_
                    obtain ⟨x33, e_x33, h⟩ := lt_some h
                    refine TI_segK (i := 0) (j := 2) (s' := { σ := [(1, .lf (.v (.pointer (some ⟨b3, 0, none⟩)))), (25, .lf (.v (.slice Au0_0 (List.length u0_0) cu0_0))), (26, .lf (.v (.int .i64 (List.length u0_0 : Int)))), (27, .lf (.v (.int .i64 x33)))], H := [], V := [], M := M29, ds := [] }) [1, 25, 26, 27] [] [] (by subst e_x33; kernel_rfl) (by kernel_rfl) ?_
                    refine TI_end (by kernel_rfl) ?_
                    refine thenQ_n ?_
                    exact ⟨n13, Nat.lt_succ_self _, x33, M29, keep_sub (ts := [1, 25, 26, 27]) (hs := []) (vs := []) (by kernel_rfl), (Mem.le_trans (Mem.le_trans (Mem.le_refl _) hM12) hM29), h⟩
            | false =>
              replace h := sp_f h
              refine T_condF (x := (.tmp 28)) (c1 := (sub [1, 1, 1, 0, 1, 0, 0, 1, 0, 0] (bodyOf Try.f46))) (c2 := (sub [1, 1, 1, 0, 1, 0, 0, 1, 0, 1] (bodyOf Try.f46))) (by kernel_rfl) (by kernel_rfl) ?_
              refine T_keep (s' := { σ := [(1, .lf (.v (.pointer (some ⟨b3, 0, none⟩))))], H := [], V := [], M := M12, ds := [] }) [1] [] [] (by kernel_rfl) ?_
              refine T_exit (id := 0) (by kernel_rfl) ?_
              refine thenQ_x ?_
              refine thenQ_x ?_
              refine blockQ_x ?_
              refine thenQ_n ?_
              exact ⟨M12, keep_sub (ts := [1]) (hs := []) (vs := []) (by kernel_rfl), (Mem.le_trans (Mem.le_refl _) hM12), h⟩
        · rintro s' ⟨M9, hsub, hM9, h⟩
          subst e_j10
          refine thenQ_n ?_
          refine T_sub hsub ?_
          refine T_seq (c1 := (sub [1, 1, 1, 1, 0] (bodyOf Try.f46))) (c2 := (sub [1, 1, 1, 1, 1] (bodyOf Try.f46))) (by kernel_rfl) ?_
          obtain ⟨g34, h⟩ := gd_some h
          obtain ⟨x35, e_x35, h⟩ := lt_some h
          refine T_draw' (id := 12) [7] [0, 0, 0, 0, 0, 0, 0, 0, 1] (by kernel_rfl) (by kernel_rfl) (by kernel_rfl) (by kernel_rfl) [(65, .agg [.one (.v (.slice Au0_0 (List.length u0_0) cu0_0)), .arr .i64 4 u0_1]), (66, .lf (.v (.pointer (some ⟨b3, 0, none⟩)))), (67, .lf (.v (.slice Au0_0 (List.length u0_0) cu0_0))), (68, .lf (.ep (.slice Au0_0 (List.length u0_0) cu0_0) 11 0 0)), (69, .lf (.ep (.slice Au0_0 (List.length u0_0) cu0_0) 11 0 0)), (70, .lf (.v (.int .i64 x35))), (71, .agg [.one (.v (.slice Au0_0 (List.length u0_0) cu0_0)), .arr .i64 4 u0_1, .one (.v (.int .i64 x35)), .one (.v (.slice none (List.length ([] : List (List Int))) 0)), .one (.v (.slice none (List.length ([] : List (List Int))) 0)), .one (.v (.slice none (List.length ([] : List (List Int))) 0)), .one (.v (.slice none (List.length ([] : List (List Int))) 0)), .one (.v (.slice none (List.length ([] : List (List Int))) 0))])] (by kernel_rfl) ⟨⟨rfl, ⟨hu0_1, trivial⟩⟩, ⟨trivial, ⟨trivial, ⟨trivial, ⟨trivial, ⟨trivial, ⟨⟨rfl, ⟨hu0_1, ⟨rfl, ⟨rfl, ⟨rfl, ⟨rfl, ⟨rfl, ⟨rfl, trivial⟩⟩⟩⟩⟩⟩⟩⟩, trivial⟩⟩⟩⟩⟩⟩⟩ ?_
          refine Stage_ex (stage_all' [1, 4, 6] [0, 2, 3, 5] (by kernel_rfl) (by subst e_x35; kernel_rfl) (by kernel_rfl) ⟨QF_at (i := 0) (d := 65) (x := .agg [.one (.v (.slice Au0_0 (List.length u0_0) cu0_0)), .arr .i64 4 u0_1]) (show OpAt _ _ _ 0 65 (.agg [.one (.v (.slice Au0_0 (List.length u0_0) cu0_0)), .arr .i64 4 u0_1]) from by exact At_ldPR (d := 65) (b := b3) (off := 0) (m := 5) (c := [.one (.v (.slice Au0_0 (List.length u0_0) cu0_0)), .arr .i64 4 u0_1]) (by subst e_x35; kernel_rfl) (by kernel_rfl) (sgCells_length ⟨rfl, ⟨hu0_1, trivial⟩⟩) (cells_blk (m := 5) (hM9 _ _ fb3) ⟨rfl, ⟨hu0_1, trivial⟩⟩ (by kernel_rfl) rfl)) (by kernel_rfl) (by subst e_x35; kernel_rfl), ⟨QF_at (i := 2) (d := 67) (x := .lf (.v (.slice Au0_0 (List.length u0_0) cu0_0))) (show OpAt _ _ _ 2 67 (.lf (.v (.slice Au0_0 (List.length u0_0) cu0_0))) from by exact At_ldP (d := 67) (b := b3) (off := 0) (m := 1) (v := (.slice Au0_0 (List.length u0_0) cu0_0)) (by subst e_x35; kernel_rfl) (cell_blk (hM9 _ _ fb3) ⟨rfl, ⟨hu0_1, trivial⟩⟩ (by kernel_rfl))) (by kernel_rfl) (by subst e_x35; kernel_rfl), ⟨QF_at (i := 3) (d := 68) (x := .lf (.ep (.slice Au0_0 (List.length u0_0) cu0_0) 11 0 0)) (show OpAt _ _ _ 3 68 (.lf (.ep (.slice Au0_0 (List.length u0_0) cu0_0) 11 0 0)) from by exact At_idxR (d := 68) (z := (0 : Int)) (by subst e_x35; kernel_rfl) g34 ((hu0_0.le hM4).le hM9)) (by kernel_rfl) (by subst e_x35; kernel_rfl), ⟨QF_at (i := 5) (d := 70) (x := .lf (.v (.int .i64 x35))) (show OpAt _ _ _ 5 70 (.lf (.v (.int .i64 x35))) from by rw [e_x35]; exact At_ldR1 (d := 70) (q := 0) (j := 0) (by subst e_x35; kernel_rfl) rfl (toNat_lt g34) ((hu0_0.le hM4).le hM9)) (by kernel_rfl) (by subst e_x35; kernel_rfl), trivial⟩⟩⟩⟩) ({ σ := [(72, .lf (.own 72 0)), (65, .agg [.one (.v (.slice Au0_0 (List.length u0_0) cu0_0)), .arr .i64 4 u0_1]), (66, .lf (.v (.pointer (some ⟨b3, 0, none⟩)))), (67, .lf (.v (.slice Au0_0 (List.length u0_0) cu0_0))), (68, .lf (.ep (.slice Au0_0 (List.length u0_0) cu0_0) 11 0 0)), (69, .lf (.ep (.slice Au0_0 (List.length u0_0) cu0_0) 11 0 0)), (70, .lf (.v (.int .i64 x35))), (71, .agg [.one (.v (.slice Au0_0 (List.length u0_0) cu0_0)), .arr .i64 4 u0_1, .one (.v (.int .i64 x35)), .one (.v (.slice none (List.length ([] : List (List Int))) 0)), .one (.v (.slice none (List.length ([] : List (List Int))) 0)), .one (.v (.slice none (List.length ([] : List (List Int))) 0)), .one (.v (.slice none (List.length ([] : List (List Int))) 0)), .one (.v (.slice none (List.length ([] : List (List Int))) 0))]), (1, .lf (.v (.pointer (some ⟨b3, 0, none⟩))))], H := [(72, [.one (.v (.slice Au0_0 (List.length u0_0) cu0_0)), .arr .i64 4 u0_1, .one (.v (.int .i64 x35)), .one (.v (.slice none (List.length ([] : List (List Int))) 0)), .one (.v (.slice none (List.length ([] : List (List Int))) 0)), .one (.v (.slice none (List.length ([] : List (List Int))) 0)), .one (.v (.slice none (List.length ([] : List (List Int))) 0)), .one (.v (.slice none (List.length ([] : List (List Int))) 0))])], V := [], M := M9, ds := [] }) (by subst e_x35; kernel_rfl) [(7, .lf (.own 72 0))] (by kernel_rfl) ⟨trivial, trivial⟩ ?_
          refine Stage_nil (stage_all' [8] [] (by kernel_rfl) (by subst e_x35; kernel_rfl) (by kernel_rfl) trivial) ?_
          refine thenQ_n ?_
          refine T_keep (s' := { σ := [(1, .lf (.v (.pointer (some ⟨b3, 0, none⟩)))), (7, .lf (.own 72 0))], H := [(72, [.one (.v (.slice Au0_0 (List.length u0_0) cu0_0)), .arr .i64 4 u0_1, .one (.v (.int .i64 x35)), .one (.v (.slice none (List.length ([] : List (List Int))) 0)), .one (.v (.slice none (List.length ([] : List (List Int))) 0)), .one (.v (.slice none (List.length ([] : List (List Int))) 0)), .one (.v (.slice none (List.length ([] : List (List Int))) 0)), .one (.v (.slice none (List.length ([] : List (List Int))) 0))])], V := [], M := M9, ds := [] }) [1, 7] [72] [] (by subst e_x35; kernel_rfl) ?_
          refine T_seq (c1 := (sub [1, 1, 1, 1, 1, 0] (bodyOf Try.f46))) (c2 := (sub [1, 1, 1, 1, 1, 1] (bodyOf Try.f46))) (by kernel_rfl) ?_
          obtain ⟨x36, e_x36, h⟩ := lt_some h
          obtain ⟨g37, h⟩ := gd_some h
          obtain ⟨x38, e_x38, h⟩ := lt_some h
          obtain ⟨x39, e_x39, h⟩ := lt_some h
          refine T_draw' (id := 13) [] [0, 0, 0, 0, 0, 0, 0, 0, 0, 0, 0, 0, 0, 0, 0] (by kernel_rfl) (by kernel_rfl) (by kernel_rfl) (by kernel_rfl) [(73, .lf (.v (.pointer (some ⟨b3, 0, none⟩)))), (74, .lf (.v (.slice Au0_0 (List.length u0_0) cu0_0))), (75, .lf (.v (.pointer (some ⟨b3, 0, none⟩)))), (76, .lf (.v (.slice Au0_0 (List.length u0_0) cu0_0))), (77, .lf (.v (.int .i64 (List.length u0_0 : Int)))), (78, .lf (.v (.int .i64 x36))), (79, .lf (.ep (.slice Au0_0 (List.length u0_0) cu0_0) 11 ((x36).toNat) 0)), (80, .lf (.ep (.slice Au0_0 (List.length u0_0) cu0_0) 11 ((x36).toNat) 0)), (81, .lf (.v (.int .i64 x38))), (82, .lf (.own 72 0)), (83, .lf (.own 72 0)), (84, .lf (.own 72 5)), (85, .lf (.v (.int .i64 x35))), (86, .lf (.v (.int .i64 x39))), (8, .lf (.v (.int .i64 x39)))] (by kernel_rfl) ⟨trivial, ⟨trivial, ⟨trivial, ⟨trivial, ⟨trivial, ⟨trivial, ⟨trivial, ⟨trivial, ⟨trivial, ⟨trivial, ⟨trivial, ⟨trivial, ⟨trivial, ⟨trivial, ⟨trivial, trivial⟩⟩⟩⟩⟩⟩⟩⟩⟩⟩⟩⟩⟩⟩⟩ ?_
          refine Stage_nil (stage_all' [0, 2, 4, 5, 7, 9, 10, 11, 12, 13, 14] [1, 3, 6, 8] (by kernel_rfl) (by subst e_x39 e_x38 e_x36; kernel_rfl) (by kernel_rfl) ⟨QF_at (i := 1) (d := 74) (x := .lf (.v (.slice Au0_0 (List.length u0_0) cu0_0))) (show OpAt _ _ _ 1 74 (.lf (.v (.slice Au0_0 (List.length u0_0) cu0_0))) from by exact At_ldP (d := 74) (b := b3) (off := 0) (m := 1) (v := (.slice Au0_0 (List.length u0_0) cu0_0)) (by subst e_x39 e_x38 e_x36; kernel_rfl) (cell_blk (hM9 _ _ fb3) ⟨rfl, ⟨hu0_1, trivial⟩⟩ (by kernel_rfl))) (by kernel_rfl) (by subst e_x39 e_x38 e_x36; kernel_rfl), ⟨QF_at (i := 3) (d := 76) (x := .lf (.v (.slice Au0_0 (List.length u0_0) cu0_0))) (show OpAt _ _ _ 3 76 (.lf (.v (.slice Au0_0 (List.length u0_0) cu0_0))) from by exact At_ldP (d := 76) (b := b3) (off := 0) (m := 1) (v := (.slice Au0_0 (List.length u0_0) cu0_0)) (by subst e_x39 e_x38 e_x36; kernel_rfl) (cell_blk (hM9 _ _ fb3) ⟨rfl, ⟨hu0_1, trivial⟩⟩ (by kernel_rfl))) (by kernel_rfl) (by subst e_x39 e_x38 e_x36; kernel_rfl), ⟨QF_at (i := 6) (d := 79) (x := .lf (.ep (.slice Au0_0 (List.length u0_0) cu0_0) 11 ((x36).toNat) 0)) (show OpAt _ _ _ 6 79 (.lf (.ep (.slice Au0_0 (List.length u0_0) cu0_0) 11 ((x36).toNat) 0)) from by exact At_idxR (d := 79) (z := x36) (by subst e_x39 e_x38 e_x36; kernel_rfl) g37 ((hu0_0.le hM4).le hM9)) (by kernel_rfl) (by subst e_x39 e_x38 e_x36; kernel_rfl), ⟨QF_at (i := 8) (d := 81) (x := .lf (.v (.int .i64 x38))) (show OpAt _ _ _ 8 81 (.lf (.v (.int .i64 x38))) from by rw [e_x38]; exact At_ldR1 (d := 81) (q := (x36).toNat) (j := 0) (by subst e_x39 e_x38 e_x36; kernel_rfl) rfl (toNat_lt g37) ((hu0_0.le hM4).le hM9)) (by kernel_rfl) (by subst e_x39 e_x38 e_x36; kernel_rfl), trivial⟩⟩⟩⟩) ?_
          refine thenQ_n ?_
          refine T_keep (s' := { σ := [(7, .lf (.own 72 0)), (8, .lf (.v (.int .i64 x39)))], H := [(72, [.one (.v (.slice Au0_0 (List.length u0_0) cu0_0)), .arr .i64 4 u0_1, .one (.v (.int .i64 x35)), .one (.v (.slice none (List.length ([] : List (List Int))) 0)), .one (.v (.slice none (List.length ([] : List (List Int))) 0)), .one (.v (.slice none (List.length ([] : List (List Int))) 0)), .one (.v (.slice none (List.length ([] : List (List Int))) 0)), .one (.v (.slice none (List.length ([] : List (List Int))) 0))])], V := [], M := M9, ds := [] }) [7, 8] [72] [] (by subst e_x39 e_x38 e_x36; kernel_rfl) ?_
          refine T_seq (c1 := (sub [1, 1, 1, 1, 1, 1, 0] (bodyOf Try.f46))) (c2 := (sub [1, 1, 1, 1, 1, 1, 1] (bodyOf Try.f46))) (by kernel_rfl) ?_
          refine T_seq (c1 := (sub [1, 1, 1, 1, 1, 1, 0, 0] (bodyOf Try.f46))) (c2 := (sub [1, 1, 1, 1, 1, 1, 0, 1] (bodyOf Try.f46))) (by kernel_rfl) ?_
          refine T_region (id := 14) (by kernel_rfl) ?_
          obtain ⟨b40, e_b40, h⟩ := lt_some h
          refine TI_segK (i := 0) (j := 2) (s' := { σ := [(7, .lf (.own 72 0)), (8, .lf (.v (.int .i64 x39))), (88, .lf (.v (.bool b40)))], H := [(72, [.one (.v (.slice Au0_0 (List.length u0_0) cu0_0)), .arr .i64 4 u0_1, .one (.v (.int .i64 x35)), .one (.v (.slice none (List.length ([] : List (List Int))) 0)), .one (.v (.slice none (List.length ([] : List (List Int))) 0)), .one (.v (.slice none (List.length ([] : List (List Int))) 0)), .one (.v (.slice none (List.length ([] : List (List Int))) 0)), .one (.v (.slice none (List.length ([] : List (List Int))) 0))])], V := [], M := M9, ds := [] }) [7, 8, 88] [72] [] (by subst e_b40; kernel_rfl) (by kernel_rfl) ?_
          refine TI_end (by kernel_rfl) ?_
          refine thenQ_n ?_
          cases b40 with
          | true =>
            replace h := sp_t h
            refine T_condT (x := (.tmp 88)) (c1 := (sub [1, 1, 1, 1, 1, 1, 0, 1, 0] (bodyOf Try.f46))) (c2 := (sub [1, 1, 1, 1, 1, 1, 0, 1, 1] (bodyOf Try.f46))) (by kernel_rfl) (by kernel_rfl) ?_
            refine T_keep (s' := { σ := [], H := [], V := [], M := M9, ds := [] }) [] [] [] (by kernel_rfl) ?_
            refine T_seq (c1 := (sub [1, 1, 1, 1, 1, 1, 0, 1, 0, 0] (bodyOf Try.f46))) (c2 := (sub [1, 1, 1, 1, 1, 1, 0, 1, 0, 1] (bodyOf Try.f46))) (by kernel_rfl) ?_
            refine T_region (id := 15) (by kernel_rfl) ?_
            refine TI_segK (i := 0) (j := 2) (s' := { σ := [(2, .lf (.v (.pointer none))), (3, .lf (.v (.int .i64 (2 : Int))))], H := [], V := [], M := M9, ds := [] }) [2, 3] [] [] (by kernel_rfl) (by kernel_rfl) ?_
            refine TI_end (by kernel_rfl) ?_
            refine thenQ_n ?_
            refine T_ret (by kernel_rfl) ?_
            refine thenQ_r ?_
            have h := Option.some.inj h
            subst h
            refine fin_ret (.tup [(some (.v (.pointer none)), []), (some (.v (.int .i64 (2 : Int))), [])]) (by kernel_rfl) (by kernel_rfl) rfl ?_
            exact ⟨(.pointer none), rfl, rfl⟩
          | false =>
            replace h := sp_f h
            refine T_condF (x := (.tmp 88)) (c1 := (sub [1, 1, 1, 1, 1, 1, 0, 1, 0] (bodyOf Try.f46))) (c2 := (sub [1, 1, 1, 1, 1, 1, 0, 1, 1] (bodyOf Try.f46))) (by kernel_rfl) (by kernel_rfl) ?_
            refine T_keep (s' := { σ := [(7, .lf (.own 72 0)), (8, .lf (.v (.int .i64 x39)))], H := [(72, [.one (.v (.slice Au0_0 (List.length u0_0) cu0_0)), .arr .i64 4 u0_1, .one (.v (.int .i64 x35)), .one (.v (.slice none (List.length ([] : List (List Int))) 0)), .one (.v (.slice none (List.length ([] : List (List Int))) 0)), .one (.v (.slice none (List.length ([] : List (List Int))) 0)), .one (.v (.slice none (List.length ([] : List (List Int))) 0)), .one (.v (.slice none (List.length ([] : List (List Int))) 0))])], V := [], M := M9, ds := [] }) [7, 8] [72] [] (by kernel_rfl) ?_
            refine T_skip (by kernel_rfl) ?_
            refine thenQ_n ?_
            refine T_seq (c1 := (sub [1, 1, 1, 1, 1, 1, 1, 0] (bodyOf Try.f46))) (c2 := (sub [1, 1, 1, 1, 1, 1, 1, 1] (bodyOf Try.f46))) (by kernel_rfl) ?_
            refine T_region (id := 16) (by kernel_rfl) ?_
            refine TI_segK (i := 0) (j := 1) (s' := { σ := [(7, .lf (.own 72 0)), (8, .lf (.v (.int .i64 x39)))], H := [(72, [.one (.v (.slice Au0_0 (List.length u0_0) cu0_0)), .arr .i64 4 u0_1, .one (.v (.int .i64 x35)), .one (.v (.slice none (List.length ([] : List (List Int))) 0)), .one (.v (.slice none (List.length ([] : List (List Int))) 0)), .one (.v (.slice none (List.length ([] : List (List Int))) 0)), .one (.v (.slice none (List.length ([] : List (List Int))) 0)), .one (.v (.slice none (List.length ([] : List (List Int))) 0))])], V := [], M := M9, ds := [] }) [7, 8] [72] [] (by kernel_rfl) (by kernel_rfl) ?_
            refine TI_end (by kernel_rfl) ?_
            refine thenQ_n ?_
            refine T_turn (turn_tie 72 (c := [.one (.v (.slice Au0_0 (List.length u0_0) cu0_0)), .arr .i64 4 u0_1, .one (.v (.int .i64 x35)), .one (.v (.slice none (List.length ([] : List (List Int))) 0)), .one (.v (.slice none (List.length ([] : List (List Int))) 0)), .one (.v (.slice none (List.length ([] : List (List Int))) 0)), .one (.v (.slice none (List.length ([] : List (List Int))) 0)), .one (.v (.slice none (List.length ([] : List (List Int))) 0))]) (by kernel_rfl)) ?_
            rintro _ ⟨b41, rfl, -, -⟩
            refine T_seq (c1 := (sub [1, 1, 1, 1, 1, 1, 1, 1, 0] (bodyOf Try.f46))) (c2 := (sub [1, 1, 1, 1, 1, 1, 1, 1, 1] (bodyOf Try.f46))) (by kernel_rfl) ?_
            refine T_seq (c1 := (sub [1, 1, 1, 1, 1, 1, 1, 1, 0, 0] (bodyOf Try.f46))) (c2 := (sub [1, 1, 1, 1, 1, 1, 1, 1, 0, 1] (bodyOf Try.f46))) (by kernel_rfl) ?_
            refine T_region (id := 17) (by kernel_rfl) ?_
            obtain ⟨x42, e_x42, h⟩ := lt_some h
            refine TI_segK (i := 0) (j := 5) (s' := { σ := [(7, .lf (.own 72 0)), (8, .lf (.v (.int .i64 x39))), (90, .lf (.own 72 0)), (91, .lf (.own 72 0)), (93, .lf (.v (.int .i64 x42))), (94, .lf (.own 72 0))], H := [(72, [.one (.v (.slice Au0_0 (List.length u0_0) cu0_0)), .arr .i64 4 u0_1, .one (.v (.int .i64 x35)), .one (.v (.slice none (List.length ([] : List (List Int))) 0)), .one (.v (.slice none (List.length ([] : List (List Int))) 0)), .one (.v (.slice none (List.length ([] : List (List Int))) 0)), .one (.v (.slice none (List.length ([] : List (List Int))) 0)), .one (.v (.slice none (List.length ([] : List (List Int))) 0))])], V := [], M := M9, ds := [], ats := [(72, b41)] }) [7, 8, 90, 91, 93, 94] [72] [] (by subst e_x42; kernel_rfl) (by kernel_rfl) ?_
            refine TI_turn (turn_at 94 (n := 72) (b := b41) (off := 0) (by kernel_rfl) (by kernel_rfl)) ?_
            rintro _ rfl
            refine TI_segK (i := 5) (j := 6) (s' := { σ := [(7, .lf (.own 72 0)), (8, .lf (.v (.int .i64 x39))), (90, .lf (.own 72 0)), (91, .lf (.own 72 0)), (93, .lf (.v (.int .i64 x42))), (95, .lf (.v (.func (.func 73) #[(.pointer (some ⟨b41, 0, none⟩))] #[])))], H := [(72, [.one (.v (.slice Au0_0 (List.length u0_0) cu0_0)), .arr .i64 4 u0_1, .one (.v (.int .i64 x35)), .one (.v (.slice none (List.length ([] : List (List Int))) 0)), .one (.v (.slice none (List.length ([] : List (List Int))) 0)), .one (.v (.slice none (List.length ([] : List (List Int))) 0)), .one (.v (.slice none (List.length ([] : List (List Int))) 0)), .one (.v (.slice none (List.length ([] : List (List Int))) 0))])], V := [], M := M9, ds := [], ats := [(72, b41)] }) [7, 8, 90, 91, 93, 95] [72] [] (by kernel_rfl) (by kernel_rfl) ?_
            obtain ⟨v43, v44, c_v43, h⟩ := cl2_some h
            refine TI_of (i := 6) (by kernel_rfl) (TE_lendT (d := 96) (f := 72) 72 b41 (c := [.one (.v (.slice Au0_0 (List.length u0_0) cu0_0)), .arr .i64 4 u0_1, .one (.v (.int .i64 x35)), .one (.v (.slice none (List.length ([] : List (List Int))) 0)), .one (.v (.slice none (List.length ([] : List (List Int))) 0)), .one (.v (.slice none (List.length ([] : List (List Int))) 0)), .one (.v (.slice none (List.length ([] : List (List Int))) 0)), .one (.v (.slice none (List.length ([] : List (List Int))) 0))]) (args := [rval (.lf (.v (.pointer (some ⟨b41, 0, none⟩)))), rval (.lf (.v (.int .i64 x42))), rval (.lf (.v (.func (.func 73) #[(.pointer (some ⟨b41, 0, none⟩))] #[])))]) (by kernel_rfl) (by kernel_rfl) (by kernel_rfl) (by kernel_rfl) (by kernel_rfl) (fun hb0 => w72a k (Crs_mk (addM_at _ _ _) hu0_1 (((hu0_0.le hM4).le hM9).le (addM_le hb0)) (nilR _ _ _ _) (nilR _ _ _ _) (nilR _ _ _ _) (nilR _ _ _ _) (nilR _ _ _ _)) c_v43) ?_)
            rintro _ M47 M48 hb0 - e_M48 hM48 ⟨A45, c46, rfl, fA45, nA45⟩ -
            replace fA45 := SlR.rem e_M48 fA45 nA45
            refine TI_segK (i := 7) (j := 14) (s' := { σ := [(7, .lf (.own 72 0)), (8, .lf (.v (.int .i64 x39))), (9, .lf (.v (.bool v44)))], H := [(72, [.one (.v (.slice Au0_0 (List.length u0_0) cu0_0)), .arr .i64 4 u0_1, .one (.v (.int .i64 x35)), .one (.v (.slice A45 (List.length v43) c46)), .one (.v (.slice none (List.length ([] : List (List Int))) 0)), .one (.v (.slice none (List.length ([] : List (List Int))) 0)), .one (.v (.slice none (List.length ([] : List (List Int))) 0)), .one (.v (.slice none (List.length ([] : List (List Int))) 0))])], V := [], M := M48, ds := [], ats := [(72, b41)] }) [7, 8, 9] [72] [] (by kernel_rfl) (by kernel_rfl) ?_
            refine TI_end (by kernel_rfl) ?_
            refine thenQ_n ?_
            refine T_seq (c1 := (sub [1, 1, 1, 1, 1, 1, 1, 1, 0, 1, 0] (bodyOf Try.f46))) (c2 := (sub [1, 1, 1, 1, 1, 1, 1, 1, 0, 1, 1] (bodyOf Try.f46))) (by kernel_rfl) ?_
            refine T_region (id := 18) (by kernel_rfl) ?_
            refine TI_segK (i := 0) (j := 2) (s' := { σ := [(7, .lf (.own 72 0)), (8, .lf (.v (.int .i64 x39))), (102, .lf (.v (.bool (!v44))))], H := [(72, [.one (.v (.slice Au0_0 (List.length u0_0) cu0_0)), .arr .i64 4 u0_1, .one (.v (.int .i64 x35)), .one (.v (.slice A45 (List.length v43) c46)), .one (.v (.slice none (List.length ([] : List (List Int))) 0)), .one (.v (.slice none (List.length ([] : List (List Int))) 0)), .one (.v (.slice none (List.length ([] : List (List Int))) 0)), .one (.v (.slice none (List.length ([] : List (List Int))) 0))])], V := [], M := M48, ds := [], ats := [(72, b41)] }) [7, 8, 102] [72] [] (by kernel_rfl) (by kernel_rfl) ?_
            refine TI_end (by kernel_rfl) ?_
            refine thenQ_n ?_
            cases v44 with
            | true =>
              replace h := sp_t h
              refine T_condF (x := (.tmp 102)) (c1 := (sub [1, 1, 1, 1, 1, 1, 1, 1, 0, 1, 1, 0] (bodyOf Try.f46))) (c2 := (sub [1, 1, 1, 1, 1, 1, 1, 1, 0, 1, 1, 1] (bodyOf Try.f46))) (by kernel_rfl) (by kernel_rfl) ?_
              refine T_keep (s' := { σ := [(7, .lf (.own 72 0)), (8, .lf (.v (.int .i64 x39)))], H := [(72, [.one (.v (.slice Au0_0 (List.length u0_0) cu0_0)), .arr .i64 4 u0_1, .one (.v (.int .i64 x35)), .one (.v (.slice A45 (List.length v43) c46)), .one (.v (.slice none (List.length ([] : List (List Int))) 0)), .one (.v (.slice none (List.length ([] : List (List Int))) 0)), .one (.v (.slice none (List.length ([] : List (List Int))) 0)), .one (.v (.slice none (List.length ([] : List (List Int))) 0))])], V := [], M := M48, ds := [], ats := [(72, b41)] }) [7, 8] [72] [] (by kernel_rfl) ?_
              refine T_skip (by kernel_rfl) ?_
              refine thenQ_n ?_
              refine T_seq (c1 := (sub [1, 1, 1, 1, 1, 1, 1, 1, 1, 0] (bodyOf Try.f46))) (c2 := (sub [1, 1, 1, 1, 1, 1, 1, 1, 1, 1] (bodyOf Try.f46))) (by kernel_rfl) ?_
              refine T_seq (c1 := (sub [1, 1, 1, 1, 1, 1, 1, 1, 1, 0, 0] (bodyOf Try.f46))) (c2 := (sub [1, 1, 1, 1, 1, 1, 1, 1, 1, 0, 1] (bodyOf Try.f46))) (by kernel_rfl) ?_
              refine T_region (id := 20) (by kernel_rfl) ?_
              refine TI_segK (i := 0) (j := 1) (s' := { σ := [(7, .lf (.own 72 0)), (8, .lf (.v (.int .i64 x39))), (103, .lf (.v (.int .i64 (0 : Int))))], H := [(72, [.one (.v (.slice Au0_0 (List.length u0_0) cu0_0)), .arr .i64 4 u0_1, .one (.v (.int .i64 x35)), .one (.v (.slice A45 (List.length v43) c46)), .one (.v (.slice none (List.length ([] : List (List Int))) 0)), .one (.v (.slice none (List.length ([] : List (List Int))) 0)), .one (.v (.slice none (List.length ([] : List (List Int))) 0)), .one (.v (.slice none (List.length ([] : List (List Int))) 0))])], V := [], M := M48, ds := [], ats := [(72, b41)] }) [7, 8, 103] [72] [] (by kernel_rfl) (by kernel_rfl) ?_
              refine TI_end (by kernel_rfl) ?_
              refine thenQ_n ?_
              obtain ⟨j62, e_j62, h⟩ := jn_some h
              refine T_bcut (id := 2) (c1 := (sub [1, 1, 1, 1, 1, 1, 1, 1, 1, 0, 1, 0] (bodyOf Try.f46))) (fun s' => ∃ (R49 : List (List Int)) (R52 : List (List Int)) (R55 : List (List Int)) (R58 : List (List Int)) (A50 : Option Addr) (c51 : Nat) (A53 : Option Addr) (c54 : Nat) (A56 : Option Addr) (c57 : Nat) (A59 : Option Addr) (c60 : Nat) (M61 : Mem), Sub { σ := [(7, .lf (.own 72 0))], H := [(72, [.one (.v (.slice Au0_0 (List.length u0_0) cu0_0)), .arr .i64 4 u0_1, .one (.v (.int .i64 x35)), .one (.v (.slice A45 (List.length v43) c46)), .one (.v (.slice A50 (List.length R49) c51)), .one (.v (.slice A53 (List.length R52) c54)), .one (.v (.slice A56 (List.length R55) c57)), .one (.v (.slice A59 (List.length R58) c60))])], V := [], M := M61, ds := [], ats := [(72, b41)] } s' ∧ Mem.le M48 M61 ∧ SlR M61 A50 c51 .i64 2 R49 ∧ SlR M61 A53 c54 .i64 2 R52 ∧ SlR M61 A56 c57 .i64 2 R55 ∧ SlR M61 A59 c60 .i64 2 R58 ∧ j62 R49 R52 R55 R58 = some r) (by kernel_rfl) ?_ ?_
              · refine T_unroll (c1 := (sub [1, 1, 1, 1, 1, 1, 1, 1, 1, 0, 1, 0, 0] (bodyOf Try.f46))) 5 (by kernel_rfl) ?_
                refine UN_s ?_
                refine T_seq (c1 := (sub [1, 1, 1, 1, 1, 1, 1, 1, 1, 0, 1, 0, 0, 0] (bodyOf Try.f46))) (c2 := (sub [1, 1, 1, 1, 1, 1, 1, 1, 1, 0, 1, 0, 0, 1] (bodyOf Try.f46))) (by kernel_rfl) ?_
                refine T_region (id := 21) (by kernel_rfl) ?_
                refine TI_segK (i := 0) (j := 1) (s' := { σ := [(7, .lf (.own 72 0)), (8, .lf (.v (.int .i64 x39))), (103, .lf (.v (.int .i64 (0 : Int)))), (104, .lf (.v (.bool true)))], H := [(72, [.one (.v (.slice Au0_0 (List.length u0_0) cu0_0)), .arr .i64 4 u0_1, .one (.v (.int .i64 x35)), .one (.v (.slice A45 (List.length v43) c46)), .one (.v (.slice none (List.length ([] : List (List Int))) 0)), .one (.v (.slice none (List.length ([] : List (List Int))) 0)), .one (.v (.slice none (List.length ([] : List (List Int))) 0)), .one (.v (.slice none (List.length ([] : List (List Int))) 0))])], V := [], M := M48, ds := [], ats := [(72, b41)] }) [7, 8, 103, 104] [72] [] (by kernel_rfl) (by kernel_rfl) ?_
                refine TI_end (by kernel_rfl) ?_
                refine thenQ_n ?_
                refine T_seq (c1 := (sub [1, 1, 1, 1, 1, 1, 1, 1, 1, 0, 1, 0, 0, 1, 0] (bodyOf Try.f46))) (c2 := (sub [1, 1, 1, 1, 1, 1, 1, 1, 1, 0, 1, 0, 0, 1, 1] (bodyOf Try.f46))) (by kernel_rfl) ?_
                refine T_condT (x := (.tmp 104)) (c1 := (sub [1, 1, 1, 1, 1, 1, 1, 1, 1, 0, 1, 0, 0, 1, 0, 0] (bodyOf Try.f46))) (c2 := (sub [1, 1, 1, 1, 1, 1, 1, 1, 1, 0, 1, 0, 0, 1, 0, 1] (bodyOf Try.f46))) (by kernel_rfl) (by kernel_rfl) ?_
                refine T_skip (by kernel_rfl) ?_
                refine thenQ_n ?_
                refine T_seq (c1 := (sub [1, 1, 1, 1, 1, 1, 1, 1, 1, 0, 1, 0, 0, 1, 1, 0] (bodyOf Try.f46))) (c2 := (sub [1, 1, 1, 1, 1, 1, 1, 1, 1, 0, 1, 0, 0, 1, 1, 1] (bodyOf Try.f46))) (by kernel_rfl) ?_
                refine T_block (id := 3) (c1 := (sub [1, 1, 1, 1, 1, 1, 1, 1, 1, 0, 1, 0, 0, 1, 1, 0, 0] (bodyOf Try.f46))) (by kernel_rfl) ?_
                refine T_seq (c1 := (sub [1, 1, 1, 1, 1, 1, 1, 1, 1, 0, 1, 0, 0, 1, 1, 0, 0, 0] (bodyOf Try.f46))) (c2 := (sub [1, 1, 1, 1, 1, 1, 1, 1, 1, 0, 1, 0, 0, 1, 1, 0, 0, 1] (bodyOf Try.f46))) (by kernel_rfl) ?_
                refine T_region (id := 22) (by kernel_rfl) ?_
                refine TI_segK (i := 0) (j := 2) (s' := { σ := [(7, .lf (.own 72 0)), (8, .lf (.v (.int .i64 x39))), (10, .lf (.v (.int .i64 (0 : Int)))), (103, .lf (.v (.int .i64 (0 : Int))))], H := [(72, [.one (.v (.slice Au0_0 (List.length u0_0) cu0_0)), .arr .i64 4 u0_1, .one (.v (.int .i64 x35)), .one (.v (.slice A45 (List.length v43) c46)), .one (.v (.slice none (List.length ([] : List (List Int))) 0)), .one (.v (.slice none (List.length ([] : List (List Int))) 0)), .one (.v (.slice none (List.length ([] : List (List Int))) 0)), .one (.v (.slice none (List.length ([] : List (List Int))) 0))])], V := [], M := M48, ds := [], ats := [(72, b41)] }) [7, 8, 10, 103] [72] [] (by kernel_rfl) (by kernel_rfl) ?_
                refine TI_end (by kernel_rfl) ?_
                refine thenQ_n ?_
                refine T_seq (c1 := (sub [1, 1, 1, 1, 1, 1, 1, 1, 1, 0, 1, 0, 0, 1, 1, 0, 0, 1, 0] (bodyOf Try.f46))) (c2 := (sub [1, 1, 1, 1, 1, 1, 1, 1, 1, 0, 1, 0, 0, 1, 1, 0, 0, 1, 1] (bodyOf Try.f46))) (by kernel_rfl) ?_
                obtain ⟨x63, e_x63, h⟩ := lt_some h
                obtain ⟨v68, v69, c_v68, h⟩ := cl2_some h
                refine T_draw' (id := 23) [7, 8, 15] [0, 0, 0, 0, 0, 0, 0, 0, 0, 2, 2, 2, 0, 0, 2, 0, 3] (by kernel_rfl) (by kernel_rfl) (by kernel_rfl) (by kernel_rfl) [(107, .lf (.own 72 0)), (108, .lf (.v (.int .i64 (0 : Int)))), (109, .lf (.own 72 0)), (110, .lf (.v (.int .i64 x39))), (111, .lf (.v (.int .i64 x63))), (112, .lf (.own 72 0)), (113, .lf (.v (.int .i64 (0 : Int)))), (118, .lf (.own 72 0)), (119, .lf (.own 72 7))] (by kernel_rfl) ⟨trivial, ⟨trivial, ⟨trivial, ⟨trivial, ⟨trivial, ⟨trivial, ⟨trivial, ⟨trivial, ⟨trivial, trivial⟩⟩⟩⟩⟩⟩⟩⟩⟩ ?_
                refine Stage_te (stage_all' [0, 1, 2, 3, 4, 5, 6, 12, 13] [] (by kernel_rfl) (by subst e_x63; kernel_rfl) (by kernel_rfl) trivial) (TE_lendT (d := 114) (f := 74) 72 b41 (c := [.one (.v (.slice Au0_0 (List.length u0_0) cu0_0)), .arr .i64 4 u0_1, .one (.v (.int .i64 x35)), .one (.v (.slice A45 (List.length v43) c46)), .one (.v (.slice none (List.length ([] : List (List Int))) 0)), .one (.v (.slice none (List.length ([] : List (List Int))) 0)), .one (.v (.slice none (List.length ([] : List (List Int))) 0)), .one (.v (.slice none (List.length ([] : List (List Int))) 0))]) (args := [rval (.lf (.v (.pointer (some ⟨b41, 0, none⟩)))), rval (.lf (.v (.int .i64 (0 : Int))))]) (by kernel_rfl) (by subst e_x63; kernel_rfl) (by kernel_rfl) (by subst e_x63; kernel_rfl) (by subst e_x63; kernel_rfl) (fun _ => w74) ?_) 
                rintro _ M66 M67 hb0 - e_M67 hM67 ⟨q64, q65, rfl, fq64, fq65, nq64, nq65⟩ -
                replace fq64 := memCell_rem e_M67 fq64 nq64
                replace fq65 := memCell_rem e_M67 fq65 nq65
                refine TL_nil (stageQ_of [] (by kernel_rfl) trivial ?_)
                refine Stage_te (stage_all' [0, 1, 2, 3, 4, 12, 13] [] (by kernel_rfl) (by subst e_x63; kernel_rfl) (by kernel_rfl) trivial) (TE_lendT (d := 115) (f := 72) 72 b41 (c := [.one (.v (.slice Au0_0 (List.length u0_0) cu0_0)), .arr .i64 4 u0_1, .one (.v (.int .i64 x35)), .one (.v (.slice A45 (List.length v43) c46)), .one (.v (.slice none (List.length ([] : List (List Int))) 0)), .one (.v (.slice none (List.length ([] : List (List Int))) 0)), .one (.v (.slice none (List.length ([] : List (List Int))) 0)), .one (.v (.slice none (List.length ([] : List (List Int))) 0))]) (args := [rval (.lf (.v (.pointer (some ⟨b41, 0, none⟩)))), rval (.lf (.v (.int .i64 x63))), rval (.lf (.v (.func (.func 84) #[] #[(.pointer (some ⟨q64, 0, none⟩)), (.pointer (some ⟨q65, 0, none⟩))])))]) (by kernel_rfl) (by subst e_x63; kernel_rfl) (by kernel_rfl) (by subst e_x63; kernel_rfl) (by subst e_x63; kernel_rfl) (fun hb0 => w72b k (Crs_mk (addM_at _ _ _) hu0_1 (((((hu0_0.le hM4).le hM9).le hM48).le hM67).le (addM_le hb0)) ((fA45.le hM67).le (addM_le hb0)) (nilR _ _ _ _) (nilR _ _ _ _) (nilR _ _ _ _) (nilR _ _ _ _)) (memCell_le (addM_le hb0) fq64) (memCell_le (addM_le hb0) fq65) c_v68) ?_) 
                rintro _ M72 M73 hb0 - e_M73 hM73 ⟨A70, c71, rfl, fA70, nA70⟩ -
                replace fA70 := SlR.rem e_M73 fA70 nA70
                refine TL_nil (stageQ_of [(106, .tup [(some (.v (.slice A70 (List.length v68) c71)), []), (some (.v (.bool v69)), [])]), (116, .lf (.v (.slice A70 (List.length v68) c71))), (117, .lf (.v (.bool v69))), (120, .lf (.own 72 7))] (by kernel_rfl) ⟨(by intro y hy; simp only [List.mem_cons, List.mem_nil_iff, or_false] at hy; rcases hy with rfl | rfl <;> exact trivial), ⟨trivial, ⟨trivial, ⟨trivial, trivial⟩⟩⟩⟩ ?_)
                refine Stage_ex (stage_all' [0, 1, 9, 10, 11, 12, 13, 14] [] (by kernel_rfl) (by subst e_x63; kernel_rfl) (by kernel_rfl) trivial) ({ σ := [(106, .tup [(some (.v (.slice A70 (List.length v68) c71)), []), (some (.v (.bool v69)), [])]), (116, .lf (.v (.slice A70 (List.length v68) c71))), (117, .lf (.v (.bool v69))), (120, .lf (.own 72 7)), (115, .tup [(some (.v (.slice A70 (List.length v68) c71)), []), (some (.v (.bool v69)), [])]), (114, .lf (.v (.func (.func 84) #[] #[(.pointer (some ⟨q64, 0, none⟩)), (.pointer (some ⟨q65, 0, none⟩))]))), (107, .lf (.own 72 0)), (108, .lf (.v (.int .i64 (0 : Int)))), (109, .lf (.own 72 0)), (110, .lf (.v (.int .i64 x39))), (111, .lf (.v (.int .i64 x63))), (112, .lf (.own 72 0)), (113, .lf (.v (.int .i64 (0 : Int)))), (118, .lf (.own 72 0)), (119, .lf (.own 72 7)), (7, .lf (.own 72 0)), (8, .lf (.v (.int .i64 x39))), (10, .lf (.v (.int .i64 (0 : Int)))), (103, .lf (.v (.int .i64 (0 : Int))))], H := [(72, [.one (.v (.slice Au0_0 (List.length u0_0) cu0_0)), .arr .i64 4 u0_1, .one (.v (.int .i64 x35)), .one (.v (.slice A45 (List.length v43) c46)), .one (.v (.slice A70 (List.length v68) c71)), .one (.v (.slice none (List.length ([] : List (List Int))) 0)), .one (.v (.slice none (List.length ([] : List (List Int))) 0)), .one (.v (.slice none (List.length ([] : List (List Int))) 0))]), (72, [.one (.v (.slice Au0_0 (List.length u0_0) cu0_0)), .arr .i64 4 u0_1, .one (.v (.int .i64 x35)), .one (.v (.slice A45 (List.length v43) c46)), .one (.v (.slice none (List.length ([] : List (List Int))) 0)), .one (.v (.slice none (List.length ([] : List (List Int))) 0)), .one (.v (.slice none (List.length ([] : List (List Int))) 0)), .one (.v (.slice none (List.length ([] : List (List Int))) 0))])], V := [], M := M73, ds := [], ats := [(72, b41)] }) (by subst e_x63; kernel_rfl) [(9, .lf (.v (.bool v69)))] (by kernel_rfl) ⟨trivial, trivial⟩ ?_
                refine Stage_nil (stage_all' [11, 16] [] (by kernel_rfl) (by subst e_x63; kernel_rfl) (by kernel_rfl) trivial) ?_
                refine thenQ_n ?_
                refine T_keep (s' := { σ := [(7, .lf (.own 72 0)), (8, .lf (.v (.int .i64 x39))), (9, .lf (.v (.bool v69))), (103, .lf (.v (.int .i64 (0 : Int))))], H := [(72, [.one (.v (.slice Au0_0 (List.length u0_0) cu0_0)), .arr .i64 4 u0_1, .one (.v (.int .i64 x35)), .one (.v (.slice A45 (List.length v43) c46)), .one (.v (.slice A70 (List.length v68) c71)), .one (.v (.slice none (List.length ([] : List (List Int))) 0)), .one (.v (.slice none (List.length ([] : List (List Int))) 0)), .one (.v (.slice none (List.length ([] : List (List Int))) 0))])], V := [], M := M73, ds := [], ats := [(72, b41)] }) [7, 8, 9, 103] [72] [] (by subst e_x63; kernel_rfl) ?_
                refine T_seq (c1 := (sub [1, 1, 1, 1, 1, 1, 1, 1, 1, 0, 1, 0, 0, 1, 1, 0, 0, 1, 1, 0] (bodyOf Try.f46))) (c2 := (sub [1, 1, 1, 1, 1, 1, 1, 1, 1, 0, 1, 0, 0, 1, 1, 0, 0, 1, 1, 1] (bodyOf Try.f46))) (by kernel_rfl) ?_
                refine T_region (id := 24) (by kernel_rfl) ?_
                refine TI_segK (i := 0) (j := 2) (s' := { σ := [(7, .lf (.own 72 0)), (8, .lf (.v (.int .i64 x39))), (103, .lf (.v (.int .i64 (0 : Int)))), (122, .lf (.v (.bool (!v69))))], H := [(72, [.one (.v (.slice Au0_0 (List.length u0_0) cu0_0)), .arr .i64 4 u0_1, .one (.v (.int .i64 x35)), .one (.v (.slice A45 (List.length v43) c46)), .one (.v (.slice A70 (List.length v68) c71)), .one (.v (.slice none (List.length ([] : List (List Int))) 0)), .one (.v (.slice none (List.length ([] : List (List Int))) 0)), .one (.v (.slice none (List.length ([] : List (List Int))) 0))])], V := [], M := M73, ds := [], ats := [(72, b41)] }) [7, 8, 103, 122] [72] [] (by kernel_rfl) (by kernel_rfl) ?_
                refine TI_end (by kernel_rfl) ?_
                refine thenQ_n ?_
                cases v69 with
                | true =>
                  replace h := sp_t h
                  refine T_condF (x := (.tmp 122)) (c1 := (sub [1, 1, 1, 1, 1, 1, 1, 1, 1, 0, 1, 0, 0, 1, 1, 0, 0, 1, 1, 1, 0] (bodyOf Try.f46))) (c2 := (sub [1, 1, 1, 1, 1, 1, 1, 1, 1, 0, 1, 0, 0, 1, 1, 0, 0, 1, 1, 1, 1] (bodyOf Try.f46))) (by kernel_rfl) (by kernel_rfl) ?_
                  refine T_keep (s' := { σ := [(7, .lf (.own 72 0)), (8, .lf (.v (.int .i64 x39))), (103, .lf (.v (.int .i64 (0 : Int))))], H := [(72, [.one (.v (.slice Au0_0 (List.length u0_0) cu0_0)), .arr .i64 4 u0_1, .one (.v (.int .i64 x35)), .one (.v (.slice A45 (List.length v43) c46)), .one (.v (.slice A70 (List.length v68) c71)), .one (.v (.slice none (List.length ([] : List (List Int))) 0)), .one (.v (.slice none (List.length ([] : List (List Int))) 0)), .one (.v (.slice none (List.length ([] : List (List Int))) 0))])], V := [], M := M73, ds := [], ats := [(72, b41)] }) [7, 8, 103] [72] [] (by kernel_rfl) ?_
                  refine T_skip (by kernel_rfl) ?_
                  refine blockQ_n ?_
                  refine thenQ_n ?_
                  refine T_region (id := 26) (by kernel_rfl) ?_
                  refine TI_segK (i := 0) (j := 2) (s' := { σ := [(7, .lf (.own 72 0)), (8, .lf (.v (.int .i64 x39))), (103, .lf (.v (.int .i64 (1 : Int))))], H := [(72, [.one (.v (.slice Au0_0 (List.length u0_0) cu0_0)), .arr .i64 4 u0_1, .one (.v (.int .i64 x35)), .one (.v (.slice A45 (List.length v43) c46)), .one (.v (.slice A70 (List.length v68) c71)), .one (.v (.slice none (List.length ([] : List (List Int))) 0)), .one (.v (.slice none (List.length ([] : List (List Int))) 0)), .one (.v (.slice none (List.length ([] : List (List Int))) 0))])], V := [], M := M73, ds := [], ats := [(72, b41)] }) [7, 8, 103] [72] [] (by kernel_rfl) (by kernel_rfl) ?_
                  refine TI_end (by kernel_rfl) ?_
                  refine thenQ_n ?_
                  refine UN_s ?_
                  refine T_seq (c1 := (sub [1, 1, 1, 1, 1, 1, 1, 1, 1, 0, 1, 0, 0, 0] (bodyOf Try.f46))) (c2 := (sub [1, 1, 1, 1, 1, 1, 1, 1, 1, 0, 1, 0, 0, 1] (bodyOf Try.f46))) (by kernel_rfl) ?_
                  refine T_region (id := 21) (by kernel_rfl) ?_
                  refine TI_segK (i := 0) (j := 1) (s' := { σ := [(7, .lf (.own 72 0)), (8, .lf (.v (.int .i64 x39))), (103, .lf (.v (.int .i64 (1 : Int)))), (104, .lf (.v (.bool true)))], H := [(72, [.one (.v (.slice Au0_0 (List.length u0_0) cu0_0)), .arr .i64 4 u0_1, .one (.v (.int .i64 x35)), .one (.v (.slice A45 (List.length v43) c46)), .one (.v (.slice A70 (List.length v68) c71)), .one (.v (.slice none (List.length ([] : List (List Int))) 0)), .one (.v (.slice none (List.length ([] : List (List Int))) 0)), .one (.v (.slice none (List.length ([] : List (List Int))) 0))])], V := [], M := M73, ds := [], ats := [(72, b41)] }) [7, 8, 103, 104] [72] [] (by kernel_rfl) (by kernel_rfl) ?_
                  refine TI_end (by kernel_rfl) ?_
                  refine thenQ_n ?_
                  refine T_seq (c1 := (sub [1, 1, 1, 1, 1, 1, 1, 1, 1, 0, 1, 0, 0, 1, 0] (bodyOf Try.f46))) (c2 := (sub [1, 1, 1, 1, 1, 1, 1, 1, 1, 0, 1, 0, 0, 1, 1] (bodyOf Try.f46))) (by kernel_rfl) ?_
                  refine T_condT (x := (.tmp 104)) (c1 := (sub [1, 1, 1, 1, 1, 1, 1, 1, 1, 0, 1, 0, 0, 1, 0, 0] (bodyOf Try.f46))) (c2 := (sub [1, 1, 1, 1, 1, 1, 1, 1, 1, 0, 1, 0, 0, 1, 0, 1] (bodyOf Try.f46))) (by kernel_rfl) (by kernel_rfl) ?_
                  refine T_skip (by kernel_rfl) ?_
                  refine thenQ_n ?_
                  refine T_seq (c1 := (sub [1, 1, 1, 1, 1, 1, 1, 1, 1, 0, 1, 0, 0, 1, 1, 0] (bodyOf Try.f46))) (c2 := (sub [1, 1, 1, 1, 1, 1, 1, 1, 1, 0, 1, 0, 0, 1, 1, 1] (bodyOf Try.f46))) (by kernel_rfl) ?_
                  refine T_block (id := 3) (c1 := (sub [1, 1, 1, 1, 1, 1, 1, 1, 1, 0, 1, 0, 0, 1, 1, 0, 0] (bodyOf Try.f46))) (by kernel_rfl) ?_
                  refine T_seq (c1 := (sub [1, 1, 1, 1, 1, 1, 1, 1, 1, 0, 1, 0, 0, 1, 1, 0, 0, 0] (bodyOf Try.f46))) (c2 := (sub [1, 1, 1, 1, 1, 1, 1, 1, 1, 0, 1, 0, 0, 1, 1, 0, 0, 1] (bodyOf Try.f46))) (by kernel_rfl) ?_
                  refine T_region (id := 22) (by kernel_rfl) ?_
                  refine TI_segK (i := 0) (j := 2) (s' := { σ := [(7, .lf (.own 72 0)), (8, .lf (.v (.int .i64 x39))), (10, .lf (.v (.int .i64 (1 : Int)))), (103, .lf (.v (.int .i64 (1 : Int))))], H := [(72, [.one (.v (.slice Au0_0 (List.length u0_0) cu0_0)), .arr .i64 4 u0_1, .one (.v (.int .i64 x35)), .one (.v (.slice A45 (List.length v43) c46)), .one (.v (.slice A70 (List.length v68) c71)), .one (.v (.slice none (List.length ([] : List (List Int))) 0)), .one (.v (.slice none (List.length ([] : List (List Int))) 0)), .one (.v (.slice none (List.length ([] : List (List Int))) 0))])], V := [], M := M73, ds := [], ats := [(72, b41)] }) [7, 8, 10, 103] [72] [] (by kernel_rfl) (by kernel_rfl) ?_
                  refine TI_end (by kernel_rfl) ?_
                  refine thenQ_n ?_
                  refine T_seq (c1 := (sub [1, 1, 1, 1, 1, 1, 1, 1, 1, 0, 1, 0, 0, 1, 1, 0, 0, 1, 0] (bodyOf Try.f46))) (c2 := (sub [1, 1, 1, 1, 1, 1, 1, 1, 1, 0, 1, 0, 0, 1, 1, 0, 0, 1, 1] (bodyOf Try.f46))) (by kernel_rfl) ?_
                  obtain ⟨x74, e_x74, h⟩ := lt_some h
                  obtain ⟨v79, v80, c_v79, h⟩ := cl2_some h
                  refine T_draw' (id := 23) [7, 8, 15] [0, 0, 0, 0, 0, 0, 0, 0, 0, 2, 2, 2, 0, 0, 2, 0, 3] (by kernel_rfl) (by kernel_rfl) (by kernel_rfl) (by kernel_rfl) [(107, .lf (.own 72 0)), (108, .lf (.v (.int .i64 (1 : Int)))), (109, .lf (.own 72 0)), (110, .lf (.v (.int .i64 x39))), (111, .lf (.v (.int .i64 x74))), (112, .lf (.own 72 0)), (113, .lf (.v (.int .i64 (1 : Int)))), (118, .lf (.own 72 0)), (119, .lf (.own 72 7))] (by kernel_rfl) ⟨trivial, ⟨trivial, ⟨trivial, ⟨trivial, ⟨trivial, ⟨trivial, ⟨trivial, ⟨trivial, ⟨trivial, trivial⟩⟩⟩⟩⟩⟩⟩⟩⟩ ?_
                  refine Stage_te (stage_all' [0, 1, 2, 3, 4, 5, 6, 12, 13] [] (by kernel_rfl) (by subst e_x74; kernel_rfl) (by kernel_rfl) trivial) (TE_lendT (d := 114) (f := 74) 72 b41 (c := [.one (.v (.slice Au0_0 (List.length u0_0) cu0_0)), .arr .i64 4 u0_1, .one (.v (.int .i64 x35)), .one (.v (.slice A45 (List.length v43) c46)), .one (.v (.slice A70 (List.length v68) c71)), .one (.v (.slice none (List.length ([] : List (List Int))) 0)), .one (.v (.slice none (List.length ([] : List (List Int))) 0)), .one (.v (.slice none (List.length ([] : List (List Int))) 0))]) (args := [rval (.lf (.v (.pointer (some ⟨b41, 0, none⟩)))), rval (.lf (.v (.int .i64 (1 : Int))))]) (by kernel_rfl) (by subst e_x74; kernel_rfl) (by kernel_rfl) (by subst e_x74; kernel_rfl) (by subst e_x74; kernel_rfl) (fun _ => w74) ?_) 
                  rintro _ M77 M78 hb0 - e_M78 hM78 ⟨q75, q76, rfl, fq75, fq76, nq75, nq76⟩ -
                  replace fq75 := memCell_rem e_M78 fq75 nq75
                  replace fq76 := memCell_rem e_M78 fq76 nq76
                  refine TL_nil (stageQ_of [] (by kernel_rfl) trivial ?_)
                  refine Stage_te (stage_all' [0, 1, 2, 3, 4, 12, 13] [] (by kernel_rfl) (by subst e_x74; kernel_rfl) (by kernel_rfl) trivial) (TE_lendT (d := 115) (f := 72) 72 b41 (c := [.one (.v (.slice Au0_0 (List.length u0_0) cu0_0)), .arr .i64 4 u0_1, .one (.v (.int .i64 x35)), .one (.v (.slice A45 (List.length v43) c46)), .one (.v (.slice A70 (List.length v68) c71)), .one (.v (.slice none (List.length ([] : List (List Int))) 0)), .one (.v (.slice none (List.length ([] : List (List Int))) 0)), .one (.v (.slice none (List.length ([] : List (List Int))) 0))]) (args := [rval (.lf (.v (.pointer (some ⟨b41, 0, none⟩)))), rval (.lf (.v (.int .i64 x74))), rval (.lf (.v (.func (.func 84) #[] #[(.pointer (some ⟨q75, 0, none⟩)), (.pointer (some ⟨q76, 0, none⟩))])))]) (by kernel_rfl) (by subst e_x74; kernel_rfl) (by kernel_rfl) (by subst e_x74; kernel_rfl) (by subst e_x74; kernel_rfl) (fun hb0 => w72b k (Crs_mk (addM_at _ _ _) hu0_1 (((((((hu0_0.le hM4).le hM9).le hM48).le hM67).le hM73).le hM78).le (addM_le hb0)) ((((fA45.le hM67).le hM73).le hM78).le (addM_le hb0)) ((fA70.le hM78).le (addM_le hb0)) (nilR _ _ _ _) (nilR _ _ _ _) (nilR _ _ _ _)) (memCell_le (addM_le hb0) fq75) (memCell_le (addM_le hb0) fq76) c_v79) ?_) 
                  rintro _ M83 M84 hb0 - e_M84 hM84 ⟨A81, c82, rfl, fA81, nA81⟩ -
                  replace fA81 := SlR.rem e_M84 fA81 nA81
                  refine TL_nil (stageQ_of [(106, .tup [(some (.v (.slice A81 (List.length v79) c82)), []), (some (.v (.bool v80)), [])]), (116, .lf (.v (.slice A81 (List.length v79) c82))), (117, .lf (.v (.bool v80))), (120, .lf (.own 72 8))] (by kernel_rfl) ⟨(by intro y hy; simp only [List.mem_cons, List.mem_nil_iff, or_false] at hy; rcases hy with rfl | rfl <;> exact trivial), ⟨trivial, ⟨trivial, ⟨trivial, trivial⟩⟩⟩⟩ ?_)
                  refine Stage_ex (stage_all' [0, 1, 9, 10, 11, 12, 13, 14] [] (by kernel_rfl) (by subst e_x74; kernel_rfl) (by kernel_rfl) trivial) ({ σ := [(106, .tup [(some (.v (.slice A81 (List.length v79) c82)), []), (some (.v (.bool v80)), [])]), (116, .lf (.v (.slice A81 (List.length v79) c82))), (117, .lf (.v (.bool v80))), (120, .lf (.own 72 8)), (115, .tup [(some (.v (.slice A81 (List.length v79) c82)), []), (some (.v (.bool v80)), [])]), (114, .lf (.v (.func (.func 84) #[] #[(.pointer (some ⟨q75, 0, none⟩)), (.pointer (some ⟨q76, 0, none⟩))]))), (107, .lf (.own 72 0)), (108, .lf (.v (.int .i64 (1 : Int)))), (109, .lf (.own 72 0)), (110, .lf (.v (.int .i64 x39))), (111, .lf (.v (.int .i64 x74))), (112, .lf (.own 72 0)), (113, .lf (.v (.int .i64 (1 : Int)))), (118, .lf (.own 72 0)), (119, .lf (.own 72 7)), (7, .lf (.own 72 0)), (8, .lf (.v (.int .i64 x39))), (10, .lf (.v (.int .i64 (1 : Int)))), (103, .lf (.v (.int .i64 (1 : Int))))], H := [(72, [.one (.v (.slice Au0_0 (List.length u0_0) cu0_0)), .arr .i64 4 u0_1, .one (.v (.int .i64 x35)), .one (.v (.slice A45 (List.length v43) c46)), .one (.v (.slice A70 (List.length v68) c71)), .one (.v (.slice A81 (List.length v79) c82)), .one (.v (.slice none (List.length ([] : List (List Int))) 0)), .one (.v (.slice none (List.length ([] : List (List Int))) 0))]), (72, [.one (.v (.slice Au0_0 (List.length u0_0) cu0_0)), .arr .i64 4 u0_1, .one (.v (.int .i64 x35)), .one (.v (.slice A45 (List.length v43) c46)), .one (.v (.slice A70 (List.length v68) c71)), .one (.v (.slice none (List.length ([] : List (List Int))) 0)), .one (.v (.slice none (List.length ([] : List (List Int))) 0)), .one (.v (.slice none (List.length ([] : List (List Int))) 0))])], V := [], M := M84, ds := [], ats := [(72, b41)] }) (by subst e_x74; kernel_rfl) [(9, .lf (.v (.bool v80)))] (by kernel_rfl) ⟨trivial, trivial⟩ ?_
                  refine Stage_nil (stage_all' [11, 16] [] (by kernel_rfl) (by subst e_x74; kernel_rfl) (by kernel_rfl) trivial) ?_
                  refine thenQ_n ?_
                  refine T_keep (s' := { σ := [(7, .lf (.own 72 0)), (8, .lf (.v (.int .i64 x39))), (9, .lf (.v (.bool v80))), (103, .lf (.v (.int .i64 (1 : Int))))], H := [(72, [.one (.v (.slice Au0_0 (List.length u0_0) cu0_0)), .arr .i64 4 u0_1, .one (.v (.int .i64 x35)), .one (.v (.slice A45 (List.length v43) c46)), .one (.v (.slice A70 (List.length v68) c71)), .one (.v (.slice A81 (List.length v79) c82)), .one (.v (.slice none (List.length ([] : List (List Int))) 0)), .one (.v (.slice none (List.length ([] : List (List Int))) 0))])], V := [], M := M84, ds := [], ats := [(72, b41)] }) [7, 8, 9, 103] [72] [] (by subst e_x74; kernel_rfl) ?_
                  refine T_seq (c1 := (sub [1, 1, 1, 1, 1, 1, 1, 1, 1, 0, 1, 0, 0, 1, 1, 0, 0, 1, 1, 0] (bodyOf Try.f46))) (c2 := (sub [1, 1, 1, 1, 1, 1, 1, 1, 1, 0, 1, 0, 0, 1, 1, 0, 0, 1, 1, 1] (bodyOf Try.f46))) (by kernel_rfl) ?_
                  refine T_region (id := 24) (by kernel_rfl) ?_
                  refine TI_segK (i := 0) (j := 2) (s' := { σ := [(7, .lf (.own 72 0)), (8, .lf (.v (.int .i64 x39))), (103, .lf (.v (.int .i64 (1 : Int)))), (122, .lf (.v (.bool (!v80))))], H := [(72, [.one (.v (.slice Au0_0 (List.length u0_0) cu0_0)), .arr .i64 4 u0_1, .one (.v (.int .i64 x35)), .one (.v (.slice A45 (List.length v43) c46)), .one (.v (.slice A70 (List.length v68) c71)), .one (.v (.slice A81 (List.length v79) c82)), .one (.v (.slice none (List.length ([] : List (List Int))) 0)), .one (.v (.slice none (List.length ([] : List (List Int))) 0))])], V := [], M := M84, ds := [], ats := [(72, b41)] }) [7, 8, 103, 122] [72] [] (by kernel_rfl) (by kernel_rfl) ?_
                  refine TI_end (by kernel_rfl) ?_
                  refine thenQ_n ?_
                  cases v80 with
                  | true =>
                    replace h := sp_t h
                    refine T_condF (x := (.tmp 122)) (c1 := (sub [1, 1, 1, 1, 1, 1, 1, 1, 1, 0, 1, 0, 0, 1, 1, 0, 0, 1, 1, 1, 0] (bodyOf Try.f46))) (c2 := (sub [1, 1, 1, 1, 1, 1, 1, 1, 1, 0, 1, 0, 0, 1, 1, 0, 0, 1, 1, 1, 1] (bodyOf Try.f46))) (by kernel_rfl) (by kernel_rfl) ?_
                    refine T_keep (s' := { σ := [(7, .lf (.own 72 0)), (8, .lf (.v (.int .i64 x39))), (103, .lf (.v (.int .i64 (1 : Int))))], H := [(72, [.one (.v (.slice Au0_0 (List.length u0_0) cu0_0)), .arr .i64 4 u0_1, .one (.v (.int .i64 x35)), .one (.v (.slice A45 (List.length v43) c46)), .one (.v (.slice A70 (List.length v68) c71)), .one (.v (.slice A81 (List.length v79) c82)), .one (.v (.slice none (List.length ([] : List (List Int))) 0)), .one (.v (.slice none (List.length ([] : List (List Int))) 0))])], V := [], M := M84, ds := [], ats := [(72, b41)] }) [7, 8, 103] [72] [] (by kernel_rfl) ?_
                    refine T_skip (by kernel_rfl) ?_
                    refine blockQ_n ?_
                    refine thenQ_n ?_
                    refine T_region (id := 26) (by kernel_rfl) ?_
                    refine TI_segK (i := 0) (j := 2) (s' := { σ := [(7, .lf (.own 72 0)), (8, .lf (.v (.int .i64 x39))), (103, .lf (.v (.int .i64 (2 : Int))))], H := [(72, [.one (.v (.slice Au0_0 (List.length u0_0) cu0_0)), .arr .i64 4 u0_1, .one (.v (.int .i64 x35)), .one (.v (.slice A45 (List.length v43) c46)), .one (.v (.slice A70 (List.length v68) c71)), .one (.v (.slice A81 (List.length v79) c82)), .one (.v (.slice none (List.length ([] : List (List Int))) 0)), .one (.v (.slice none (List.length ([] : List (List Int))) 0))])], V := [], M := M84, ds := [], ats := [(72, b41)] }) [7, 8, 103] [72] [] (by kernel_rfl) (by kernel_rfl) ?_
                    refine TI_end (by kernel_rfl) ?_
                    refine thenQ_n ?_
                    refine UN_s ?_
                    refine T_seq (c1 := (sub [1, 1, 1, 1, 1, 1, 1, 1, 1, 0, 1, 0, 0, 0] (bodyOf Try.f46))) (c2 := (sub [1, 1, 1, 1, 1, 1, 1, 1, 1, 0, 1, 0, 0, 1] (bodyOf Try.f46))) (by kernel_rfl) ?_
                    refine T_region (id := 21) (by kernel_rfl) ?_
                    refine TI_segK (i := 0) (j := 1) (s' := { σ := [(7, .lf (.own 72 0)), (8, .lf (.v (.int .i64 x39))), (103, .lf (.v (.int .i64 (2 : Int)))), (104, .lf (.v (.bool true)))], H := [(72, [.one (.v (.slice Au0_0 (List.length u0_0) cu0_0)), .arr .i64 4 u0_1, .one (.v (.int .i64 x35)), .one (.v (.slice A45 (List.length v43) c46)), .one (.v (.slice A70 (List.length v68) c71)), .one (.v (.slice A81 (List.length v79) c82)), .one (.v (.slice none (List.length ([] : List (List Int))) 0)), .one (.v (.slice none (List.length ([] : List (List Int))) 0))])], V := [], M := M84, ds := [], ats := [(72, b41)] }) [7, 8, 103, 104] [72] [] (by kernel_rfl) (by kernel_rfl) ?_
                    refine TI_end (by kernel_rfl) ?_
                    refine thenQ_n ?_
                    refine T_seq (c1 := (sub [1, 1, 1, 1, 1, 1, 1, 1, 1, 0, 1, 0, 0, 1, 0] (bodyOf Try.f46))) (c2 := (sub [1, 1, 1, 1, 1, 1, 1, 1, 1, 0, 1, 0, 0, 1, 1] (bodyOf Try.f46))) (by kernel_rfl) ?_
                    refine T_condT (x := (.tmp 104)) (c1 := (sub [1, 1, 1, 1, 1, 1, 1, 1, 1, 0, 1, 0, 0, 1, 0, 0] (bodyOf Try.f46))) (c2 := (sub [1, 1, 1, 1, 1, 1, 1, 1, 1, 0, 1, 0, 0, 1, 0, 1] (bodyOf Try.f46))) (by kernel_rfl) (by kernel_rfl) ?_
                    refine T_skip (by kernel_rfl) ?_
                    refine thenQ_n ?_
                    refine T_seq (c1 := (sub [1, 1, 1, 1, 1, 1, 1, 1, 1, 0, 1, 0, 0, 1, 1, 0] (bodyOf Try.f46))) (c2 := (sub [1, 1, 1, 1, 1, 1, 1, 1, 1, 0, 1, 0, 0, 1, 1, 1] (bodyOf Try.f46))) (by kernel_rfl) ?_
                    refine T_block (id := 3) (c1 := (sub [1, 1, 1, 1, 1, 1, 1, 1, 1, 0, 1, 0, 0, 1, 1, 0, 0] (bodyOf Try.f46))) (by kernel_rfl) ?_
                    refine T_seq (c1 := (sub [1, 1, 1, 1, 1, 1, 1, 1, 1, 0, 1, 0, 0, 1, 1, 0, 0, 0] (bodyOf Try.f46))) (c2 := (sub [1, 1, 1, 1, 1, 1, 1, 1, 1, 0, 1, 0, 0, 1, 1, 0, 0, 1] (bodyOf Try.f46))) (by kernel_rfl) ?_
                    refine T_region (id := 22) (by kernel_rfl) ?_
                    refine TI_segK (i := 0) (j := 2) (s' := { σ := [(7, .lf (.own 72 0)), (8, .lf (.v (.int .i64 x39))), (10, .lf (.v (.int .i64 (2 : Int)))), (103, .lf (.v (.int .i64 (2 : Int))))], H := [(72, [.one (.v (.slice Au0_0 (List.length u0_0) cu0_0)), .arr .i64 4 u0_1, .one (.v (.int .i64 x35)), .one (.v (.slice A45 (List.length v43) c46)), .one (.v (.slice A70 (List.length v68) c71)), .one (.v (.slice A81 (List.length v79) c82)), .one (.v (.slice none (List.length ([] : List (List Int))) 0)), .one (.v (.slice none (List.length ([] : List (List Int))) 0))])], V := [], M := M84, ds := [], ats := [(72, b41)] }) [7, 8, 10, 103] [72] [] (by kernel_rfl) (by kernel_rfl) ?_
                    refine TI_end (by kernel_rfl) ?_
                    refine thenQ_n ?_
                    refine T_seq (c1 := (sub [1, 1, 1, 1, 1, 1, 1, 1, 1, 0, 1, 0, 0, 1, 1, 0, 0, 1, 0] (bodyOf Try.f46))) (c2 := (sub [1, 1, 1, 1, 1, 1, 1, 1, 1, 0, 1, 0, 0, 1, 1, 0, 0, 1, 1] (bodyOf Try.f46))) (by kernel_rfl) ?_
                    obtain ⟨x85, e_x85, h⟩ := lt_some h
                    obtain ⟨v90, v91, c_v90, h⟩ := cl2_some h
                    refine T_draw' (id := 23) [7, 8, 15] [0, 0, 0, 0, 0, 0, 0, 0, 0, 2, 2, 2, 0, 0, 2, 0, 3] (by kernel_rfl) (by kernel_rfl) (by kernel_rfl) (by kernel_rfl) [(107, .lf (.own 72 0)), (108, .lf (.v (.int .i64 (2 : Int)))), (109, .lf (.own 72 0)), (110, .lf (.v (.int .i64 x39))), (111, .lf (.v (.int .i64 x85))), (112, .lf (.own 72 0)), (113, .lf (.v (.int .i64 (2 : Int)))), (118, .lf (.own 72 0)), (119, .lf (.own 72 7))] (by kernel_rfl) ⟨trivial, ⟨trivial, ⟨trivial, ⟨trivial, ⟨trivial, ⟨trivial, ⟨trivial, ⟨trivial, ⟨trivial, trivial⟩⟩⟩⟩⟩⟩⟩⟩⟩ ?_
                    refine Stage_te (stage_all' [0, 1, 2, 3, 4, 5, 6, 12, 13] [] (by kernel_rfl) (by subst e_x85; kernel_rfl) (by kernel_rfl) trivial) (TE_lendT (d := 114) (f := 74) 72 b41 (c := [.one (.v (.slice Au0_0 (List.length u0_0) cu0_0)), .arr .i64 4 u0_1, .one (.v (.int .i64 x35)), .one (.v (.slice A45 (List.length v43) c46)), .one (.v (.slice A70 (List.length v68) c71)), .one (.v (.slice A81 (List.length v79) c82)), .one (.v (.slice none (List.length ([] : List (List Int))) 0)), .one (.v (.slice none (List.length ([] : List (List Int))) 0))]) (args := [rval (.lf (.v (.pointer (some ⟨b41, 0, none⟩)))), rval (.lf (.v (.int .i64 (2 : Int))))]) (by kernel_rfl) (by subst e_x85; kernel_rfl) (by kernel_rfl) (by subst e_x85; kernel_rfl) (by subst e_x85; kernel_rfl) (fun _ => w74) ?_) 
                    rintro _ M88 M89 hb0 - e_M89 hM89 ⟨q86, q87, rfl, fq86, fq87, nq86, nq87⟩ -
                    replace fq86 := memCell_rem e_M89 fq86 nq86
                    replace fq87 := memCell_rem e_M89 fq87 nq87
                    refine TL_nil (stageQ_of [] (by kernel_rfl) trivial ?_)
                    refine Stage_te (stage_all' [0, 1, 2, 3, 4, 12, 13] [] (by kernel_rfl) (by subst e_x85; kernel_rfl) (by kernel_rfl) trivial) (TE_lendT (d := 115) (f := 72) 72 b41 (c := [.one (.v (.slice Au0_0 (List.length u0_0) cu0_0)), .arr .i64 4 u0_1, .one (.v (.int .i64 x35)), .one (.v (.slice A45 (List.length v43) c46)), .one (.v (.slice A70 (List.length v68) c71)), .one (.v (.slice A81 (List.length v79) c82)), .one (.v (.slice none (List.length ([] : List (List Int))) 0)), .one (.v (.slice none (List.length ([] : List (List Int))) 0))]) (args := [rval (.lf (.v (.pointer (some ⟨b41, 0, none⟩)))), rval (.lf (.v (.int .i64 x85))), rval (.lf (.v (.func (.func 84) #[] #[(.pointer (some ⟨q86, 0, none⟩)), (.pointer (some ⟨q87, 0, none⟩))])))]) (by kernel_rfl) (by subst e_x85; kernel_rfl) (by kernel_rfl) (by subst e_x85; kernel_rfl) (by subst e_x85; kernel_rfl) (fun hb0 => w72b k (Crs_mk (addM_at _ _ _) hu0_1 (((((((((hu0_0.le hM4).le hM9).le hM48).le hM67).le hM73).le hM78).le hM84).le hM89).le (addM_le hb0)) ((((((fA45.le hM67).le hM73).le hM78).le hM84).le hM89).le (addM_le hb0)) ((((fA70.le hM78).le hM84).le hM89).le (addM_le hb0)) ((fA81.le hM89).le (addM_le hb0)) (nilR _ _ _ _) (nilR _ _ _ _)) (memCell_le (addM_le hb0) fq86) (memCell_le (addM_le hb0) fq87) c_v90) ?_) 
                    rintro _ M94 M95 hb0 - e_M95 hM95 ⟨A92, c93, rfl, fA92, nA92⟩ -
                    replace fA92 := SlR.rem e_M95 fA92 nA92
                    refine TL_nil (stageQ_of [(106, .tup [(some (.v (.slice A92 (List.length v90) c93)), []), (some (.v (.bool v91)), [])]), (116, .lf (.v (.slice A92 (List.length v90) c93))), (117, .lf (.v (.bool v91))), (120, .lf (.own 72 9))] (by kernel_rfl) ⟨(by intro y hy; simp only [List.mem_cons, List.mem_nil_iff, or_false] at hy; rcases hy with rfl | rfl <;> exact trivial), ⟨trivial, ⟨trivial, ⟨trivial, trivial⟩⟩⟩⟩ ?_)
                    refine Stage_ex (stage_all' [0, 1, 9, 10, 11, 12, 13, 14] [] (by kernel_rfl) (by subst e_x85; kernel_rfl) (by kernel_rfl) trivial) ({ σ := [(106, .tup [(some (.v (.slice A92 (List.length v90) c93)), []), (some (.v (.bool v91)), [])]), (116, .lf (.v (.slice A92 (List.length v90) c93))), (117, .lf (.v (.bool v91))), (120, .lf (.own 72 9)), (115, .tup [(some (.v (.slice A92 (List.length v90) c93)), []), (some (.v (.bool v91)), [])]), (114, .lf (.v (.func (.func 84) #[] #[(.pointer (some ⟨q86, 0, none⟩)), (.pointer (some ⟨q87, 0, none⟩))]))), (107, .lf (.own 72 0)), (108, .lf (.v (.int .i64 (2 : Int)))), (109, .lf (.own 72 0)), (110, .lf (.v (.int .i64 x39))), (111, .lf (.v (.int .i64 x85))), (112, .lf (.own 72 0)), (113, .lf (.v (.int .i64 (2 : Int)))), (118, .lf (.own 72 0)), (119, .lf (.own 72 7)), (7, .lf (.own 72 0)), (8, .lf (.v (.int .i64 x39))), (10, .lf (.v (.int .i64 (2 : Int)))), (103, .lf (.v (.int .i64 (2 : Int))))], H := [(72, [.one (.v (.slice Au0_0 (List.length u0_0) cu0_0)), .arr .i64 4 u0_1, .one (.v (.int .i64 x35)), .one (.v (.slice A45 (List.length v43) c46)), .one (.v (.slice A70 (List.length v68) c71)), .one (.v (.slice A81 (List.length v79) c82)), .one (.v (.slice A92 (List.length v90) c93)), .one (.v (.slice none (List.length ([] : List (List Int))) 0))]), (72, [.one (.v (.slice Au0_0 (List.length u0_0) cu0_0)), .arr .i64 4 u0_1, .one (.v (.int .i64 x35)), .one (.v (.slice A45 (List.length v43) c46)), .one (.v (.slice A70 (List.length v68) c71)), .one (.v (.slice A81 (List.length v79) c82)), .one (.v (.slice none (List.length ([] : List (List Int))) 0)), .one (.v (.slice none (List.length ([] : List (List Int))) 0))])], V := [], M := M95, ds := [], ats := [(72, b41)] }) (by subst e_x85; kernel_rfl) [(9, .lf (.v (.bool v91)))] (by kernel_rfl) ⟨trivial, trivial⟩ ?_
                    refine Stage_nil (stage_all' [11, 16] [] (by kernel_rfl) (by subst e_x85; kernel_rfl) (by kernel_rfl) trivial) ?_
                    refine thenQ_n ?_
                    refine T_keep (s' := { σ := [(7, .lf (.own 72 0)), (8, .lf (.v (.int .i64 x39))), (9, .lf (.v (.bool v91))), (103, .lf (.v (.int .i64 (2 : Int))))], H := [(72, [.one (.v (.slice Au0_0 (List.length u0_0) cu0_0)), .arr .i64 4 u0_1, .one (.v (.int .i64 x35)), .one (.v (.slice A45 (List.length v43) c46)), .one (.v (.slice A70 (List.length v68) c71)), .one (.v (.slice A81 (List.length v79) c82)), .one (.v (.slice A92 (List.length v90) c93)), .one (.v (.slice none (List.length ([] : List (List Int))) 0))])], V := [], M := M95, ds := [], ats := [(72, b41)] }) [7, 8, 9, 103] [72] [] (by subst e_x85; kernel_rfl) ?_
                    refine T_seq (c1 := (sub [1, 1, 1, 1, 1, 1, 1, 1, 1, 0, 1, 0, 0, 1, 1, 0, 0, 1, 1, 0] (bodyOf Try.f46))) (c2 := (sub [1, 1, 1, 1, 1, 1, 1, 1, 1, 0, 1, 0, 0, 1, 1, 0, 0, 1, 1, 1] (bodyOf Try.f46))) (by kernel_rfl) ?_
                    refine T_region (id := 24) (by kernel_rfl) ?_
                    refine TI_segK (i := 0) (j := 2) (s' := { σ := [(7, .lf (.own 72 0)), (8, .lf (.v (.int .i64 x39))), (103, .lf (.v (.int .i64 (2 : Int)))), (122, .lf (.v (.bool (!v91))))], H := [(72, [.one (.v (.slice Au0_0 (List.length u0_0) cu0_0)), .arr .i64 4 u0_1, .one (.v (.int .i64 x35)), .one (.v (.slice A45 (List.length v43) c46)), .one (.v (.slice A70 (List.length v68) c71)), .one (.v (.slice A81 (List.length v79) c82)), .one (.v (.slice A92 (List.length v90) c93)), .one (.v (.slice none (List.length ([] : List (List Int))) 0))])], V := [], M := M95, ds := [], ats := [(72, b41)] }) [7, 8, 103, 122] [72] [] (by kernel_rfl) (by kernel_rfl) ?_
                    refine TI_end (by kernel_rfl) ?_
                    refine thenQ_n ?_
                    cases v91 with
                    | true =>
                      replace h := sp_t h
                      refine T_condF (x := (.tmp 122)) (c1 := (sub [1, 1, 1, 1, 1, 1, 1, 1, 1, 0, 1, 0, 0, 1, 1, 0, 0, 1, 1, 1, 0] (bodyOf Try.f46))) (c2 := (sub [1, 1, 1, 1, 1, 1, 1, 1, 1, 0, 1, 0, 0, 1, 1, 0, 0, 1, 1, 1, 1] (bodyOf Try.f46))) (by kernel_rfl) (by kernel_rfl) ?_
                      refine T_keep (s' := { σ := [(7, .lf (.own 72 0)), (8, .lf (.v (.int .i64 x39))), (103, .lf (.v (.int .i64 (2 : Int))))], H := [(72, [.one (.v (.slice Au0_0 (List.length u0_0) cu0_0)), .arr .i64 4 u0_1, .one (.v (.int .i64 x35)), .one (.v (.slice A45 (List.length v43) c46)), .one (.v (.slice A70 (List.length v68) c71)), .one (.v (.slice A81 (List.length v79) c82)), .one (.v (.slice A92 (List.length v90) c93)), .one (.v (.slice none (List.length ([] : List (List Int))) 0))])], V := [], M := M95, ds := [], ats := [(72, b41)] }) [7, 8, 103] [72] [] (by kernel_rfl) ?_
                      refine T_skip (by kernel_rfl) ?_
                      refine blockQ_n ?_
                      refine thenQ_n ?_
                      refine T_region (id := 26) (by kernel_rfl) ?_
                      refine TI_segK (i := 0) (j := 2) (s' := { σ := [(7, .lf (.own 72 0)), (8, .lf (.v (.int .i64 x39))), (103, .lf (.v (.int .i64 (3 : Int))))], H := [(72, [.one (.v (.slice Au0_0 (List.length u0_0) cu0_0)), .arr .i64 4 u0_1, .one (.v (.int .i64 x35)), .one (.v (.slice A45 (List.length v43) c46)), .one (.v (.slice A70 (List.length v68) c71)), .one (.v (.slice A81 (List.length v79) c82)), .one (.v (.slice A92 (List.length v90) c93)), .one (.v (.slice none (List.length ([] : List (List Int))) 0))])], V := [], M := M95, ds := [], ats := [(72, b41)] }) [7, 8, 103] [72] [] (by kernel_rfl) (by kernel_rfl) ?_
                      refine TI_end (by kernel_rfl) ?_
                      refine thenQ_n ?_
                      refine UN_s ?_
                      refine T_seq (c1 := (sub [1, 1, 1, 1, 1, 1, 1, 1, 1, 0, 1, 0, 0, 0] (bodyOf Try.f46))) (c2 := (sub [1, 1, 1, 1, 1, 1, 1, 1, 1, 0, 1, 0, 0, 1] (bodyOf Try.f46))) (by kernel_rfl) ?_
                      refine T_region (id := 21) (by kernel_rfl) ?_
                      refine TI_segK (i := 0) (j := 1) (s' := { σ := [(7, .lf (.own 72 0)), (8, .lf (.v (.int .i64 x39))), (103, .lf (.v (.int .i64 (3 : Int)))), (104, .lf (.v (.bool true)))], H := [(72, [.one (.v (.slice Au0_0 (List.length u0_0) cu0_0)), .arr .i64 4 u0_1, .one (.v (.int .i64 x35)), .one (.v (.slice A45 (List.length v43) c46)), .one (.v (.slice A70 (List.length v68) c71)), .one (.v (.slice A81 (List.length v79) c82)), .one (.v (.slice A92 (List.length v90) c93)), .one (.v (.slice none (List.length ([] : List (List Int))) 0))])], V := [], M := M95, ds := [], ats := [(72, b41)] }) [7, 8, 103, 104] [72] [] (by kernel_rfl) (by kernel_rfl) ?_
                      refine TI_end (by kernel_rfl) ?_
                      refine thenQ_n ?_
                      refine T_seq (c1 := (sub [1, 1, 1, 1, 1, 1, 1, 1, 1, 0, 1, 0, 0, 1, 0] (bodyOf Try.f46))) (c2 := (sub [1, 1, 1, 1, 1, 1, 1, 1, 1, 0, 1, 0, 0, 1, 1] (bodyOf Try.f46))) (by kernel_rfl) ?_
                      refine T_condT (x := (.tmp 104)) (c1 := (sub [1, 1, 1, 1, 1, 1, 1, 1, 1, 0, 1, 0, 0, 1, 0, 0] (bodyOf Try.f46))) (c2 := (sub [1, 1, 1, 1, 1, 1, 1, 1, 1, 0, 1, 0, 0, 1, 0, 1] (bodyOf Try.f46))) (by kernel_rfl) (by kernel_rfl) ?_
                      refine T_skip (by kernel_rfl) ?_
                      refine thenQ_n ?_
                      refine T_seq (c1 := (sub [1, 1, 1, 1, 1, 1, 1, 1, 1, 0, 1, 0, 0, 1, 1, 0] (bodyOf Try.f46))) (c2 := (sub [1, 1, 1, 1, 1, 1, 1, 1, 1, 0, 1, 0, 0, 1, 1, 1] (bodyOf Try.f46))) (by kernel_rfl) ?_
                      refine T_block (id := 3) (c1 := (sub [1, 1, 1, 1, 1, 1, 1, 1, 1, 0, 1, 0, 0, 1, 1, 0, 0] (bodyOf Try.f46))) (by kernel_rfl) ?_
                      refine T_seq (c1 := (sub [1, 1, 1, 1, 1, 1, 1, 1, 1, 0, 1, 0, 0, 1, 1, 0, 0, 0] (bodyOf Try.f46))) (c2 := (sub [1, 1, 1, 1, 1, 1, 1, 1, 1, 0, 1, 0, 0, 1, 1, 0, 0, 1] (bodyOf Try.f46))) (by kernel_rfl) ?_
                      refine T_region (id := 22) (by kernel_rfl) ?_
                      refine TI_segK (i := 0) (j := 2) (s' := { σ := [(7, .lf (.own 72 0)), (8, .lf (.v (.int .i64 x39))), (10, .lf (.v (.int .i64 (3 : Int)))), (103, .lf (.v (.int .i64 (3 : Int))))], H := [(72, [.one (.v (.slice Au0_0 (List.length u0_0) cu0_0)), .arr .i64 4 u0_1, .one (.v (.int .i64 x35)), .one (.v (.slice A45 (List.length v43) c46)), .one (.v (.slice A70 (List.length v68) c71)), .one (.v (.slice A81 (List.length v79) c82)), .one (.v (.slice A92 (List.length v90) c93)), .one (.v (.slice none (List.length ([] : List (List Int))) 0))])], V := [], M := M95, ds := [], ats := [(72, b41)] }) [7, 8, 10, 103] [72] [] (by kernel_rfl) (by kernel_rfl) ?_
                      refine TI_end (by kernel_rfl) ?_
                      refine thenQ_n ?_
                      refine T_seq (c1 := (sub [1, 1, 1, 1, 1, 1, 1, 1, 1, 0, 1, 0, 0, 1, 1, 0, 0, 1, 0] (bodyOf Try.f46))) (c2 := (sub [1, 1, 1, 1, 1, 1, 1, 1, 1, 0, 1, 0, 0, 1, 1, 0, 0, 1, 1] (bodyOf Try.f46))) (by kernel_rfl) ?_
                      obtain ⟨x96, e_x96, h⟩ := lt_some h
                      obtain ⟨v101, v102, c_v101, h⟩ := cl2_some h
                      refine T_draw' (id := 23) [7, 8, 15] [0, 0, 0, 0, 0, 0, 0, 0, 0, 2, 2, 2, 0, 0, 2, 0, 3] (by kernel_rfl) (by kernel_rfl) (by kernel_rfl) (by kernel_rfl) [(107, .lf (.own 72 0)), (108, .lf (.v (.int .i64 (3 : Int)))), (109, .lf (.own 72 0)), (110, .lf (.v (.int .i64 x39))), (111, .lf (.v (.int .i64 x96))), (112, .lf (.own 72 0)), (113, .lf (.v (.int .i64 (3 : Int)))), (118, .lf (.own 72 0)), (119, .lf (.own 72 7))] (by kernel_rfl) ⟨trivial, ⟨trivial, ⟨trivial, ⟨trivial, ⟨trivial, ⟨trivial, ⟨trivial, ⟨trivial, ⟨trivial, trivial⟩⟩⟩⟩⟩⟩⟩⟩⟩ ?_
                      refine Stage_te (stage_all' [0, 1, 2, 3, 4, 5, 6, 12, 13] [] (by kernel_rfl) (by subst e_x96; kernel_rfl) (by kernel_rfl) trivial) (TE_lendT (d := 114) (f := 74) 72 b41 (c := [.one (.v (.slice Au0_0 (List.length u0_0) cu0_0)), .arr .i64 4 u0_1, .one (.v (.int .i64 x35)), .one (.v (.slice A45 (List.length v43) c46)), .one (.v (.slice A70 (List.length v68) c71)), .one (.v (.slice A81 (List.length v79) c82)), .one (.v (.slice A92 (List.length v90) c93)), .one (.v (.slice none (List.length ([] : List (List Int))) 0))]) (args := [rval (.lf (.v (.pointer (some ⟨b41, 0, none⟩)))), rval (.lf (.v (.int .i64 (3 : Int))))]) (by kernel_rfl) (by subst e_x96; kernel_rfl) (by kernel_rfl) (by subst e_x96; kernel_rfl) (by subst e_x96; kernel_rfl) (fun _ => w74) ?_) 
                      rintro _ M99 M100 hb0 - e_M100 hM100 ⟨q97, q98, rfl, fq97, fq98, nq97, nq98⟩ -
                      replace fq97 := memCell_rem e_M100 fq97 nq97
                      replace fq98 := memCell_rem e_M100 fq98 nq98
                      refine TL_nil (stageQ_of [] (by kernel_rfl) trivial ?_)
                      refine Stage_te (stage_all' [0, 1, 2, 3, 4, 12, 13] [] (by kernel_rfl) (by subst e_x96; kernel_rfl) (by kernel_rfl) trivial) (TE_lendT (d := 115) (f := 72) 72 b41 (c := [.one (.v (.slice Au0_0 (List.length u0_0) cu0_0)), .arr .i64 4 u0_1, .one (.v (.int .i64 x35)), .one (.v (.slice A45 (List.length v43) c46)), .one (.v (.slice A70 (List.length v68) c71)), .one (.v (.slice A81 (List.length v79) c82)), .one (.v (.slice A92 (List.length v90) c93)), .one (.v (.slice none (List.length ([] : List (List Int))) 0))]) (args := [rval (.lf (.v (.pointer (some ⟨b41, 0, none⟩)))), rval (.lf (.v (.int .i64 x96))), rval (.lf (.v (.func (.func 84) #[] #[(.pointer (some ⟨q97, 0, none⟩)), (.pointer (some ⟨q98, 0, none⟩))])))]) (by kernel_rfl) (by subst e_x96; kernel_rfl) (by kernel_rfl) (by subst e_x96; kernel_rfl) (by subst e_x96; kernel_rfl) (fun hb0 => w72b k (Crs_mk (addM_at _ _ _) hu0_1 (((((((((((hu0_0.le hM4).le hM9).le hM48).le hM67).le hM73).le hM78).le hM84).le hM89).le hM95).le hM100).le (addM_le hb0)) ((((((((fA45.le hM67).le hM73).le hM78).le hM84).le hM89).le hM95).le hM100).le (addM_le hb0)) ((((((fA70.le hM78).le hM84).le hM89).le hM95).le hM100).le (addM_le hb0)) ((((fA81.le hM89).le hM95).le hM100).le (addM_le hb0)) ((fA92.le hM100).le (addM_le hb0)) (nilR _ _ _ _)) (memCell_le (addM_le hb0) fq97) (memCell_le (addM_le hb0) fq98) c_v101) ?_) 
                      rintro _ M105 M106 hb0 - e_M106 hM106 ⟨A103, c104, rfl, fA103, nA103⟩ -
                      replace fA103 := SlR.rem e_M106 fA103 nA103
                      refine TL_nil (stageQ_of [(106, .tup [(some (.v (.slice A103 (List.length v101) c104)), []), (some (.v (.bool v102)), [])]), (116, .lf (.v (.slice A103 (List.length v101) c104))), (117, .lf (.v (.bool v102))), (120, .lf (.own 72 10))] (by kernel_rfl) ⟨(by intro y hy; simp only [List.mem_cons, List.mem_nil_iff, or_false] at hy; rcases hy with rfl | rfl <;> exact trivial), ⟨trivial, ⟨trivial, ⟨trivial, trivial⟩⟩⟩⟩ ?_)
                      refine Stage_ex (stage_all' [0, 1, 9, 10, 11, 12, 13, 14] [] (by kernel_rfl) (by subst e_x96; kernel_rfl) (by kernel_rfl) trivial) ({ σ := [(106, .tup [(some (.v (.slice A103 (List.length v101) c104)), []), (some (.v (.bool v102)), [])]), (116, .lf (.v (.slice A103 (List.length v101) c104))), (117, .lf (.v (.bool v102))), (120, .lf (.own 72 10)), (115, .tup [(some (.v (.slice A103 (List.length v101) c104)), []), (some (.v (.bool v102)), [])]), (114, .lf (.v (.func (.func 84) #[] #[(.pointer (some ⟨q97, 0, none⟩)), (.pointer (some ⟨q98, 0, none⟩))]))), (107, .lf (.own 72 0)), (108, .lf (.v (.int .i64 (3 : Int)))), (109, .lf (.own 72 0)), (110, .lf (.v (.int .i64 x39))), (111, .lf (.v (.int .i64 x96))), (112, .lf (.own 72 0)), (113, .lf (.v (.int .i64 (3 : Int)))), (118, .lf (.own 72 0)), (119, .lf (.own 72 7)), (7, .lf (.own 72 0)), (8, .lf (.v (.int .i64 x39))), (10, .lf (.v (.int .i64 (3 : Int)))), (103, .lf (.v (.int .i64 (3 : Int))))], H := [(72, [.one (.v (.slice Au0_0 (List.length u0_0) cu0_0)), .arr .i64 4 u0_1, .one (.v (.int .i64 x35)), .one (.v (.slice A45 (List.length v43) c46)), .one (.v (.slice A70 (List.length v68) c71)), .one (.v (.slice A81 (List.length v79) c82)), .one (.v (.slice A92 (List.length v90) c93)), .one (.v (.slice A103 (List.length v101) c104))]), (72, [.one (.v (.slice Au0_0 (List.length u0_0) cu0_0)), .arr .i64 4 u0_1, .one (.v (.int .i64 x35)), .one (.v (.slice A45 (List.length v43) c46)), .one (.v (.slice A70 (List.length v68) c71)), .one (.v (.slice A81 (List.length v79) c82)), .one (.v (.slice A92 (List.length v90) c93)), .one (.v (.slice none (List.length ([] : List (List Int))) 0))])], V := [], M := M106, ds := [], ats := [(72, b41)] }) (by subst e_x96; kernel_rfl) [(9, .lf (.v (.bool v102)))] (by kernel_rfl) ⟨trivial, trivial⟩ ?_
                      refine Stage_nil (stage_all' [11, 16] [] (by kernel_rfl) (by subst e_x96; kernel_rfl) (by kernel_rfl) trivial) ?_
                      refine thenQ_n ?_
                      refine T_keep (s' := { σ := [(7, .lf (.own 72 0)), (8, .lf (.v (.int .i64 x39))), (9, .lf (.v (.bool v102))), (103, .lf (.v (.int .i64 (3 : Int))))], H := [(72, [.one (.v (.slice Au0_0 (List.length u0_0) cu0_0)), .arr .i64 4 u0_1, .one (.v (.int .i64 x35)), .one (.v (.slice A45 (List.length v43) c46)), .one (.v (.slice A70 (List.length v68) c71)), .one (.v (.slice A81 (List.length v79) c82)), .one (.v (.slice A92 (List.length v90) c93)), .one (.v (.slice A103 (List.length v101) c104))])], V := [], M := M106, ds := [], ats := [(72, b41)] }) [7, 8, 9, 103] [72] [] (by subst e_x96; kernel_rfl) ?_
                      refine T_seq (c1 := (sub [1, 1, 1, 1, 1, 1, 1, 1, 1, 0, 1, 0, 0, 1, 1, 0, 0, 1, 1, 0] (bodyOf Try.f46))) (c2 := (sub [1, 1, 1, 1, 1, 1, 1, 1, 1, 0, 1, 0, 0, 1, 1, 0, 0, 1, 1, 1] (bodyOf Try.f46))) (by kernel_rfl) ?_
                      refine T_region (id := 24) (by kernel_rfl) ?_
                      refine TI_segK (i := 0) (j := 2) (s' := { σ := [(7, .lf (.own 72 0)), (8, .lf (.v (.int .i64 x39))), (103, .lf (.v (.int .i64 (3 : Int)))), (122, .lf (.v (.bool (!v102))))], H := [(72, [.one (.v (.slice Au0_0 (List.length u0_0) cu0_0)), .arr .i64 4 u0_1, .one (.v (.int .i64 x35)), .one (.v (.slice A45 (List.length v43) c46)), .one (.v (.slice A70 (List.length v68) c71)), .one (.v (.slice A81 (List.length v79) c82)), .one (.v (.slice A92 (List.length v90) c93)), .one (.v (.slice A103 (List.length v101) c104))])], V := [], M := M106, ds := [], ats := [(72, b41)] }) [7, 8, 103, 122] [72] [] (by kernel_rfl) (by kernel_rfl) ?_
                      refine TI_end (by kernel_rfl) ?_
                      refine thenQ_n ?_
                      cases v102 with
                      | true =>
                        replace h := sp_t h
                        refine T_condF (x := (.tmp 122)) (c1 := (sub [1, 1, 1, 1, 1, 1, 1, 1, 1, 0, 1, 0, 0, 1, 1, 0, 0, 1, 1, 1, 0] (bodyOf Try.f46))) (c2 := (sub [1, 1, 1, 1, 1, 1, 1, 1, 1, 0, 1, 0, 0, 1, 1, 0, 0, 1, 1, 1, 1] (bodyOf Try.f46))) (by kernel_rfl) (by kernel_rfl) ?_
                        refine T_keep (s' := { σ := [(7, .lf (.own 72 0)), (8, .lf (.v (.int .i64 x39))), (103, .lf (.v (.int .i64 (3 : Int))))], H := [(72, [.one (.v (.slice Au0_0 (List.length u0_0) cu0_0)), .arr .i64 4 u0_1, .one (.v (.int .i64 x35)), .one (.v (.slice A45 (List.length v43) c46)), .one (.v (.slice A70 (List.length v68) c71)), .one (.v (.slice A81 (List.length v79) c82)), .one (.v (.slice A92 (List.length v90) c93)), .one (.v (.slice A103 (List.length v101) c104))])], V := [], M := M106, ds := [], ats := [(72, b41)] }) [7, 8, 103] [72] [] (by kernel_rfl) ?_
                        refine T_skip (by kernel_rfl) ?_
                        refine blockQ_n ?_
                        refine thenQ_n ?_
                        refine T_region (id := 26) (by kernel_rfl) ?_
                        refine TI_segK (i := 0) (j := 2) (s' := { σ := [(7, .lf (.own 72 0)), (8, .lf (.v (.int .i64 x39))), (103, .lf (.v (.int .i64 (4 : Int))))], H := [(72, [.one (.v (.slice Au0_0 (List.length u0_0) cu0_0)), .arr .i64 4 u0_1, .one (.v (.int .i64 x35)), .one (.v (.slice A45 (List.length v43) c46)), .one (.v (.slice A70 (List.length v68) c71)), .one (.v (.slice A81 (List.length v79) c82)), .one (.v (.slice A92 (List.length v90) c93)), .one (.v (.slice A103 (List.length v101) c104))])], V := [], M := M106, ds := [], ats := [(72, b41)] }) [7, 8, 103] [72] [] (by kernel_rfl) (by kernel_rfl) ?_
                        refine TI_end (by kernel_rfl) ?_
                        refine thenQ_n ?_
                        refine UN_s ?_
                        refine T_seq (c1 := (sub [1, 1, 1, 1, 1, 1, 1, 1, 1, 0, 1, 0, 0, 0] (bodyOf Try.f46))) (c2 := (sub [1, 1, 1, 1, 1, 1, 1, 1, 1, 0, 1, 0, 0, 1] (bodyOf Try.f46))) (by kernel_rfl) ?_
                        refine T_region (id := 21) (by kernel_rfl) ?_
                        refine TI_segK (i := 0) (j := 1) (s' := { σ := [(7, .lf (.own 72 0)), (8, .lf (.v (.int .i64 x39))), (103, .lf (.v (.int .i64 (4 : Int)))), (104, .lf (.v (.bool false)))], H := [(72, [.one (.v (.slice Au0_0 (List.length u0_0) cu0_0)), .arr .i64 4 u0_1, .one (.v (.int .i64 x35)), .one (.v (.slice A45 (List.length v43) c46)), .one (.v (.slice A70 (List.length v68) c71)), .one (.v (.slice A81 (List.length v79) c82)), .one (.v (.slice A92 (List.length v90) c93)), .one (.v (.slice A103 (List.length v101) c104))])], V := [], M := M106, ds := [], ats := [(72, b41)] }) [7, 8, 103, 104] [72] [] (by kernel_rfl) (by kernel_rfl) ?_
                        refine TI_end (by kernel_rfl) ?_
                        refine thenQ_n ?_
                        refine T_seq (c1 := (sub [1, 1, 1, 1, 1, 1, 1, 1, 1, 0, 1, 0, 0, 1, 0] (bodyOf Try.f46))) (c2 := (sub [1, 1, 1, 1, 1, 1, 1, 1, 1, 0, 1, 0, 0, 1, 1] (bodyOf Try.f46))) (by kernel_rfl) ?_
                        refine T_condF (x := (.tmp 104)) (c1 := (sub [1, 1, 1, 1, 1, 1, 1, 1, 1, 0, 1, 0, 0, 1, 0, 0] (bodyOf Try.f46))) (c2 := (sub [1, 1, 1, 1, 1, 1, 1, 1, 1, 0, 1, 0, 0, 1, 0, 1] (bodyOf Try.f46))) (by kernel_rfl) (by kernel_rfl) ?_
                        refine T_exit (id := 2) (by kernel_rfl) ?_
                        refine thenQ_x ?_
                        refine thenQ_x ?_
                        refine blockQ_x ?_
                        refine thenQ_n ?_
                        exact ⟨v68, v79, v90, v101, A70, c71, A81, c82, A92, c93, A103, c104, M106, keep_sub (ts := [7]) (hs := [72]) (vs := []) (by kernel_rfl), (Mem.le_trans (Mem.le_trans (Mem.le_trans (Mem.le_trans (Mem.le_trans (Mem.le_trans (Mem.le_trans (Mem.le_trans (Mem.le_refl _) hM67) hM73) hM78) hM84) hM89) hM95) hM100) hM106), ((((((fA70.le hM78).le hM84).le hM89).le hM95).le hM100).le hM106), ((((fA81.le hM89).le hM95).le hM100).le hM106), ((fA92.le hM100).le hM106), fA103, h⟩
                      | false =>
                        replace h := sp_f h
                        refine T_condT (x := (.tmp 122)) (c1 := (sub [1, 1, 1, 1, 1, 1, 1, 1, 1, 0, 1, 0, 0, 1, 1, 0, 0, 1, 1, 1, 0] (bodyOf Try.f46))) (c2 := (sub [1, 1, 1, 1, 1, 1, 1, 1, 1, 0, 1, 0, 0, 1, 1, 0, 0, 1, 1, 1, 1] (bodyOf Try.f46))) (by kernel_rfl) (by kernel_rfl) ?_
                        refine T_keep (s' := { σ := [], H := [], V := [], M := M106, ds := [], ats := [(72, b41)] }) [] [] [] (by kernel_rfl) ?_
                        refine T_seq (c1 := (sub [1, 1, 1, 1, 1, 1, 1, 1, 1, 0, 1, 0, 0, 1, 1, 0, 0, 1, 1, 1, 0, 0] (bodyOf Try.f46))) (c2 := (sub [1, 1, 1, 1, 1, 1, 1, 1, 1, 0, 1, 0, 0, 1, 1, 0, 0, 1, 1, 1, 0, 1] (bodyOf Try.f46))) (by kernel_rfl) ?_
                        refine T_region (id := 25) (by kernel_rfl) ?_
                        refine TI_segK (i := 0) (j := 2) (s' := { σ := [(2, .lf (.v (.pointer none))), (3, .lf (.v (.int .i64 (16 : Int))))], H := [], V := [], M := M106, ds := [], ats := [(72, b41)] }) [2, 3] [] [] (by kernel_rfl) (by kernel_rfl) ?_
                        refine TI_end (by kernel_rfl) ?_
                        refine thenQ_n ?_
                        refine T_ret (by kernel_rfl) ?_
                        refine blockQ_r ?_
                        refine thenQ_r ?_
                        refine thenQ_r ?_
                        refine blockQ_r ?_
                        refine thenQ_r ?_
                        refine thenQ_r ?_
                        have h := Option.some.inj h
                        subst h
                        refine fin_ret (.tup [(some (.v (.pointer none)), []), (some (.v (.int .i64 (16 : Int))), [])]) (by kernel_rfl) (by kernel_rfl) rfl ?_
                        exact ⟨(.pointer none), rfl, rfl⟩
                    | false =>
                      replace h := sp_f h
                      refine T_condT (x := (.tmp 122)) (c1 := (sub [1, 1, 1, 1, 1, 1, 1, 1, 1, 0, 1, 0, 0, 1, 1, 0, 0, 1, 1, 1, 0] (bodyOf Try.f46))) (c2 := (sub [1, 1, 1, 1, 1, 1, 1, 1, 1, 0, 1, 0, 0, 1, 1, 0, 0, 1, 1, 1, 1] (bodyOf Try.f46))) (by kernel_rfl) (by kernel_rfl) ?_
                      refine T_keep (s' := { σ := [], H := [], V := [], M := M95, ds := [], ats := [(72, b41)] }) [] [] [] (by kernel_rfl) ?_
                      refine T_seq (c1 := (sub [1, 1, 1, 1, 1, 1, 1, 1, 1, 0, 1, 0, 0, 1, 1, 0, 0, 1, 1, 1, 0, 0] (bodyOf Try.f46))) (c2 := (sub [1, 1, 1, 1, 1, 1, 1, 1, 1, 0, 1, 0, 0, 1, 1, 0, 0, 1, 1, 1, 0, 1] (bodyOf Try.f46))) (by kernel_rfl) ?_
                      refine T_region (id := 25) (by kernel_rfl) ?_
                      refine TI_segK (i := 0) (j := 2) (s' := { σ := [(2, .lf (.v (.pointer none))), (3, .lf (.v (.int .i64 (16 : Int))))], H := [], V := [], M := M95, ds := [], ats := [(72, b41)] }) [2, 3] [] [] (by kernel_rfl) (by kernel_rfl) ?_
                      refine TI_end (by kernel_rfl) ?_
                      refine thenQ_n ?_
                      refine T_ret (by kernel_rfl) ?_
                      refine blockQ_r ?_
                      refine thenQ_r ?_
                      refine thenQ_r ?_
                      refine blockQ_r ?_
                      refine thenQ_r ?_
                      refine thenQ_r ?_
                      have h := Option.some.inj h
                      subst h
                      refine fin_ret (.tup [(some (.v (.pointer none)), []), (some (.v (.int .i64 (16 : Int))), [])]) (by kernel_rfl) (by kernel_rfl) rfl ?_
                      exact ⟨(.pointer none), rfl, rfl⟩
                  | false =>
                    replace h := sp_f h
                    refine T_condT (x := (.tmp 122)) (c1 := (sub [1, 1, 1, 1, 1, 1, 1, 1, 1, 0, 1, 0, 0, 1, 1, 0, 0, 1, 1, 1, 0] (bodyOf Try.f46))) (c2 := (sub [1, 1, 1, 1, 1, 1, 1, 1, 1, 0, 1, 0, 0, 1, 1, 0, 0, 1, 1, 1, 1] (bodyOf Try.f46))) (by kernel_rfl) (by kernel_rfl) ?_
                    refine T_keep (s' := { σ := [], H := [], V := [], M := M84, ds := [], ats := [(72, b41)] }) [] [] [] (by kernel_rfl) ?_
                    refine T_seq (c1 := (sub [1, 1, 1, 1, 1, 1, 1, 1, 1, 0, 1, 0, 0, 1, 1, 0, 0, 1, 1, 1, 0, 0] (bodyOf Try.f46))) (c2 := (sub [1, 1, 1, 1, 1, 1, 1, 1, 1, 0, 1, 0, 0, 1, 1, 0, 0, 1, 1, 1, 0, 1] (bodyOf Try.f46))) (by kernel_rfl) ?_
                    refine T_region (id := 25) (by kernel_rfl) ?_
                    refine TI_segK (i := 0) (j := 2) (s' := { σ := [(2, .lf (.v (.pointer none))), (3, .lf (.v (.int .i64 (16 : Int))))], H := [], V := [], M := M84, ds := [], ats := [(72, b41)] }) [2, 3] [] [] (by kernel_rfl) (by kernel_rfl) ?_
                    refine TI_end (by kernel_rfl) ?_
                    refine thenQ_n ?_
                    refine T_ret (by kernel_rfl) ?_
                    refine blockQ_r ?_
                    refine thenQ_r ?_
                    refine thenQ_r ?_
                    refine blockQ_r ?_
                    refine thenQ_r ?_
                    refine thenQ_r ?_
                    have h := Option.some.inj h
                    subst h
                    refine fin_ret (.tup [(some (.v (.pointer none)), []), (some (.v (.int .i64 (16 : Int))), [])]) (by kernel_rfl) (by kernel_rfl) rfl ?_
                    exact ⟨(.pointer none), rfl, rfl⟩
                | false =>
                  replace h := sp_f h
                  refine T_condT (x := (.tmp 122)) (c1 := (sub [1, 1, 1, 1, 1, 1, 1, 1, 1, 0, 1, 0, 0, 1, 1, 0, 0, 1, 1, 1, 0] (bodyOf Try.f46))) (c2 := (sub [1, 1, 1, 1, 1, 1, 1, 1, 1, 0, 1, 0, 0, 1, 1, 0, 0, 1, 1, 1, 1] (bodyOf Try.f46))) (by kernel_rfl) (by kernel_rfl) ?_
                  refine T_keep (s' := { σ := [], H := [], V := [], M := M73, ds := [], ats := [(72, b41)] }) [] [] [] (by kernel_rfl) ?_
                  refine T_seq (c1 := (sub [1, 1, 1, 1, 1, 1, 1, 1, 1, 0, 1, 0, 0, 1, 1, 0, 0, 1, 1, 1, 0, 0] (bodyOf Try.f46))) (c2 := (sub [1, 1, 1, 1, 1, 1, 1, 1, 1, 0, 1, 0, 0, 1, 1, 0, 0, 1, 1, 1, 0, 1] (bodyOf Try.f46))) (by kernel_rfl) ?_
                  refine T_region (id := 25) (by kernel_rfl) ?_
                  refine TI_segK (i := 0) (j := 2) (s' := { σ := [(2, .lf (.v (.pointer none))), (3, .lf (.v (.int .i64 (16 : Int))))], H := [], V := [], M := M73, ds := [], ats := [(72, b41)] }) [2, 3] [] [] (by kernel_rfl) (by kernel_rfl) ?_
                  refine TI_end (by kernel_rfl) ?_
                  refine thenQ_n ?_
                  refine T_ret (by kernel_rfl) ?_
                  refine blockQ_r ?_
                  refine thenQ_r ?_
                  refine thenQ_r ?_
                  refine blockQ_r ?_
                  refine thenQ_r ?_
                  refine thenQ_r ?_
                  have h := Option.some.inj h
                  subst h
                  refine fin_ret (.tup [(some (.v (.pointer none)), []), (some (.v (.int .i64 (16 : Int))), [])]) (by kernel_rfl) (by kernel_rfl) rfl ?_
                  exact ⟨(.pointer none), rfl, rfl⟩
              · rintro s' ⟨R49, R52, R55, R58, A50, c51, A53, c54, A56, c57, A59, c60, M61, hsub, hM61, f_A50, f_A53, f_A56, f_A59, h⟩
                subst e_j62
                refine thenQ_n ?_
                refine T_sub hsub ?_
                refine T_seq (c1 := (sub [1, 1, 1, 1, 1, 1, 1, 1, 1, 1, 0] (bodyOf Try.f46))) (c2 := (sub [1, 1, 1, 1, 1, 1, 1, 1, 1, 1, 1] (bodyOf Try.f46))) (by kernel_rfl) ?_
                refine T_region (id := 27) (by kernel_rfl) ?_
                refine TI_segK (i := 0) (j := 3) (s' := { σ := [(2, .lf (.own 72 0)), (3, .lf (.v (.int .i64 (0 : Int))))], H := [(72, [.one (.v (.slice Au0_0 (List.length u0_0) cu0_0)), .arr .i64 4 u0_1, .one (.v (.int .i64 x35)), .one (.v (.slice A45 (List.length v43) c46)), .one (.v (.slice A50 (List.length R49) c51)), .one (.v (.slice A53 (List.length R52) c54)), .one (.v (.slice A56 (List.length R55) c57)), .one (.v (.slice A59 (List.length R58) c60))])], V := [], M := M61, ds := [], ats := [(72, b41)] }) [2, 3] [72] [] (by kernel_rfl) (by kernel_rfl) ?_
                refine TI_end (by kernel_rfl) ?_
                refine thenQ_n ?_
                refine T_turn (turn_pubH 72 (c := [.one (.v (.slice Au0_0 (List.length u0_0) cu0_0)), .arr .i64 4 u0_1, .one (.v (.int .i64 x35)), .one (.v (.slice A45 (List.length v43) c46)), .one (.v (.slice A50 (List.length R49) c51)), .one (.v (.slice A53 (List.length R52) c54)), .one (.v (.slice A56 (List.length R55) c57)), .one (.v (.slice A59 (List.length R58) c60))]) (by kernel_rfl) (by kernel_rfl)) ?_
                rintro _ ⟨b107, M108, rfl, -, e_M108, -, hM108⟩
                have fb107 : M108 b107 = some (sgCells (fun _ => 0) (fun _ => .slice none 0 0) [.one (.v (.slice Au0_0 (List.length u0_0) cu0_0)), .arr .i64 4 u0_1, .one (.v (.int .i64 x35)), .one (.v (.slice A45 (List.length v43) c46)), .one (.v (.slice A50 (List.length R49) c51)), .one (.v (.slice A53 (List.length R52) c54)), .one (.v (.slice A56 (List.length R55) c57)), .one (.v (.slice A59 (List.length R58) c60))]).toArray := by rw [e_M108]; exact addM_at _ _ _
                refine T_ret (by kernel_rfl) ?_
                have h := Option.some.inj h
                subst h
                refine fin_ret (.tup [(some (.v (.pointer (some ⟨b107, 0, none⟩))), []), (some (.v (.int .i64 (0 : Int))), [])]) (by kernel_rfl) (by kernel_rfl) rfl ?_
                exact ⟨(.pointer (some ⟨b107, 0, none⟩)), rfl, ⟨_, _, _, _, _, _, _, rfl, Crs_mk fb107 hu0_1 (((((hu0_0.le hM4).le hM9).le hM48).le hM61).le hM108) ((fA45.le hM61).le hM108) (f_A50.le hM108) (f_A53.le hM108) (f_A56.le hM108) (f_A59.le hM108)⟩⟩
            | false =>
              replace h := sp_f h
              refine T_condT (x := (.tmp 102)) (c1 := (sub [1, 1, 1, 1, 1, 1, 1, 1, 0, 1, 1, 0] (bodyOf Try.f46))) (c2 := (sub [1, 1, 1, 1, 1, 1, 1, 1, 0, 1, 1, 1] (bodyOf Try.f46))) (by kernel_rfl) (by kernel_rfl) ?_
              refine T_keep (s' := { σ := [], H := [], V := [], M := M48, ds := [], ats := [(72, b41)] }) [] [] [] (by kernel_rfl) ?_
              refine T_seq (c1 := (sub [1, 1, 1, 1, 1, 1, 1, 1, 0, 1, 1, 0, 0] (bodyOf Try.f46))) (c2 := (sub [1, 1, 1, 1, 1, 1, 1, 1, 0, 1, 1, 0, 1] (bodyOf Try.f46))) (by kernel_rfl) ?_
              refine T_region (id := 19) (by kernel_rfl) ?_
              refine TI_segK (i := 0) (j := 2) (s' := { σ := [(2, .lf (.v (.pointer none))), (3, .lf (.v (.int .i64 (16 : Int))))], H := [], V := [], M := M48, ds := [], ats := [(72, b41)] }) [2, 3] [] [] (by kernel_rfl) (by kernel_rfl) ?_
              refine TI_end (by kernel_rfl) ?_
              refine thenQ_n ?_
              refine T_ret (by kernel_rfl) ?_
              refine thenQ_r ?_
              have h := Option.some.inj h
              subst h
              refine fin_ret (.tup [(some (.v (.pointer none)), []), (some (.v (.int .i64 (16 : Int))), [])]) (by kernel_rfl) (by kernel_rfl) rfl ?_
              exact ⟨(.pointer none), rfl, rfl⟩
end Go.Proofs.Ythjkejbgknemgaa
namespace Go.Proofs.Ythjkejbgknemgaa
open Go.RowKit
/-- gooseneck claim.about -/
def p43 (k : Nat) (u0_0 : List (List Int)) (u0_1 : List Int) (u1 : List Int) : Option (Option CT × Int) :=
  cl2 (p46 k u0_0 u0_1) fun v2 v3 => lt' (v3 != (0 : Int)) fun b6 => sp b6 (some (none, v3)) (cl (p32 k u1) fun v7 => some (v2, v7))
theorem hf43 : Try.prog.funcs[43]? = some Try.f43 := by kernel_rfl
theorem w43 (k : Nat) {M : Mem} {Au0_0 : Option Addr} {cu0_0 : Nat} {u0_0 : List (List Int)} {u0_1 : List Int} {u1 : List Int} (hu0_0 : SlR M Au0_0 cu0_0 .i64 11 u0_0) (hu0_1 : u0_1.length = 4) (hu1 : u1.length = 7) {r} (h : p43 k u0_0 u0_1 u1 = some r) :
    Fn Try.prog 43 [rval (.agg [.one (.v (.slice Au0_0 (List.length u0_0) cu0_0)), .arr .i64 4 u0_1]), rval (.agg [.arr .i64 7 u1])] M (fun x M' => ∃ (q1 : Value), x = .tup [(some (.v q1), []), (some (.v (.int .i64 r.2)), [])] ∧ PtrR M' q1 r.1) := by
  unfold p43 at h
  refine Fn_of (P := Try.prog) (fn := Try.f43) (c := bodyOf Try.f43) [.agg [.one (.v (.slice Au0_0 (List.length u0_0) cu0_0)), .arr .i64 4 u0_1], .agg [.arr .i64 7 u1]] hf43 (by kernel_rfl) (Nat.le_of_ble_eq_true (by kernel_rfl)) (args_ok (by kernel_rfl) ⟨⟨rfl, ⟨hu0_1, trivial⟩⟩, ⟨⟨hu1, trivial⟩, trivial⟩⟩) fun w => ?_
  change T _ _ _ (endQ _ _ _)
  refine T_seq (c1 := (sub [0] (bodyOf Try.f43))) (c2 := (sub [1] (bodyOf Try.f43))) (by kernel_rfl) ?_
  refine T_region (id := 0) (by kernel_rfl) ?_
  refine TI_segK (i := 0) (j := 4) (s' := { σ := [(2, .lf (.own 2 0)), (3, .lf (.own 3 0))], H := [(2, [.one (.v (.slice Au0_0 (List.length u0_0) cu0_0)), .arr .i64 4 u0_1]), (3, [.arr .i64 7 u1])], V := [], M := M, ds := [] }) [2, 3] [2, 3] [] (by kernel_rfl) (by kernel_rfl) ?_
  refine TI_end (by kernel_rfl) ?_
  refine thenQ_n ?_
  refine T_seq (c1 := (sub [1, 0] (bodyOf Try.f43))) (c2 := (sub [1, 1] (bodyOf Try.f43))) (by kernel_rfl) ?_
  refine T_region (id := 1) (by kernel_rfl) ?_
  refine TI_segK (i := 0) (j := 1) (s' := { σ := [(3, .lf (.own 3 0)), (9, .agg [.one (.v (.slice Au0_0 (List.length u0_0) cu0_0)), .arr .i64 4 u0_1])], H := [(3, [.arr .i64 7 u1])], V := [], M := M, ds := [] }) [3, 9] [3] [] (by kernel_rfl) (by kernel_rfl) ?_
  obtain ⟨v2, v3, c_v2, h⟩ := cl2_some h
  refine TI_of (i := 1) (by kernel_rfl) (TE_callR (d := 10) (f := 46) (args := [rval (.agg [.one (.v (.slice Au0_0 (List.length u0_0) cu0_0)), .arr .i64 4 u0_1])]) (by kernel_rfl) (by kernel_rfl) (w46 k hu0_0 hu0_1 c_v2) ?_)
  rintro _ M5 _ hM5 _ ⟨q4, rfl, fq4⟩
  refine TI_segK (i := 2) (j := 7) (s' := { σ := [(3, .lf (.own 3 0)), (6, .lf (.v q4)), (7, .lf (.v (.int .i64 v3)))], H := [(3, [.arr .i64 7 u1])], V := [], M := M5, ds := [] }) [3, 6, 7] [3] [] (by kernel_rfl) (by kernel_rfl) ?_
  refine TI_end (by kernel_rfl) ?_
  refine thenQ_n ?_
  refine T_seq (c1 := (sub [1, 1, 0] (bodyOf Try.f43))) (c2 := (sub [1, 1, 1] (bodyOf Try.f43))) (by kernel_rfl) ?_
  refine T_seq (c1 := (sub [1, 1, 0, 0] (bodyOf Try.f43))) (c2 := (sub [1, 1, 0, 1] (bodyOf Try.f43))) (by kernel_rfl) ?_
  refine T_region (id := 2) (by kernel_rfl) ?_
  obtain ⟨b6, e_b6, h⟩ := lt_some h
  refine TI_segK (i := 0) (j := 2) (s' := { σ := [(3, .lf (.own 3 0)), (6, .lf (.v q4)), (7, .lf (.v (.int .i64 v3))), (14, .lf (.v (.bool b6)))], H := [(3, [.arr .i64 7 u1])], V := [], M := M5, ds := [] }) [3, 6, 7, 14] [3] [] (by subst e_b6; kernel_rfl) (by kernel_rfl) ?_
  refine TI_end (by kernel_rfl) ?_
  refine thenQ_n ?_
  cases b6 with
  | true =>
    replace h := sp_t h
    refine T_condT (x := (.tmp 14)) (c1 := (sub [1, 1, 0, 1, 0] (bodyOf Try.f43))) (c2 := (sub [1, 1, 0, 1, 1] (bodyOf Try.f43))) (by kernel_rfl) (by kernel_rfl) ?_
    refine T_keep (s' := { σ := [(7, .lf (.v (.int .i64 v3)))], H := [], V := [], M := M5, ds := [] }) [7] [] [] (by kernel_rfl) ?_
    refine T_seq (c1 := (sub [1, 1, 0, 1, 0, 0] (bodyOf Try.f43))) (c2 := (sub [1, 1, 0, 1, 0, 1] (bodyOf Try.f43))) (by kernel_rfl) ?_
    refine T_region (id := 3) (by kernel_rfl) ?_
    refine TI_segK (i := 0) (j := 3) (s' := { σ := [(4, .lf (.v (.pointer none))), (5, .lf (.v (.int .i64 v3)))], H := [], V := [], M := M5, ds := [] }) [4, 5] [] [] (by kernel_rfl) (by kernel_rfl) ?_
    refine TI_end (by kernel_rfl) ?_
    refine thenQ_n ?_
    refine T_ret (by kernel_rfl) ?_
    refine thenQ_r ?_
    have h := Option.some.inj h
    subst h
    refine fin_ret (.tup [(some (.v (.pointer none)), []), (some (.v (.int .i64 v3)), [])]) (by kernel_rfl) (by kernel_rfl) rfl ?_
    exact ⟨(.pointer none), rfl, rfl⟩
  | false =>
    replace h := sp_f h
    refine T_condF (x := (.tmp 14)) (c1 := (sub [1, 1, 0, 1, 0] (bodyOf Try.f43))) (c2 := (sub [1, 1, 0, 1, 1] (bodyOf Try.f43))) (by kernel_rfl) (by kernel_rfl) ?_
    refine T_keep (s' := { σ := [(3, .lf (.own 3 0)), (6, .lf (.v q4))], H := [(3, [.arr .i64 7 u1])], V := [], M := M5, ds := [] }) [3, 6] [3] [] (by kernel_rfl) ?_
    refine T_skip (by kernel_rfl) ?_
    refine thenQ_n ?_
    refine T_seq (c1 := (sub [1, 1, 1, 0] (bodyOf Try.f43))) (c2 := (sub [1, 1, 1, 1] (bodyOf Try.f43))) (by kernel_rfl) ?_
    refine T_region (id := 4) (by kernel_rfl) ?_
    refine TI_segK (i := 0) (j := 2) (s' := { σ := [(16, .lf (.v q4)), (17, .agg [.arr .i64 7 u1])], H := [], V := [], M := M5, ds := [] }) [16, 17] [] [] (by kernel_rfl) (by kernel_rfl) ?_
    obtain ⟨v7, c_v7, h⟩ := cl_some h
    refine TI_at (i := 2) (d := 18) (x := .lf (.v (.int .i64 v7))) (At_call (d := 18) (f := 32) (args := [rval (.agg [.arr .i64 7 u1])]) (x := .lf (.v (.int .i64 v7))) (by kernel_rfl) (w32 k hu1 c_v7)) (by kernel_rfl) trivial ?_
    refine TI_segK (i := 3) (j := 5) (s' := { σ := [(4, .lf (.v q4)), (5, .lf (.v (.int .i64 v7)))], H := [], V := [], M := M5, ds := [] }) [4, 5] [] [] (by kernel_rfl) (by kernel_rfl) ?_
    refine TI_end (by kernel_rfl) ?_
    refine thenQ_n ?_
    refine T_ret (by kernel_rfl) ?_
    have h := Option.some.inj h
    subst h
    refine fin_ret (.tup [(some (.v q4), []), (some (.v (.int .i64 v7)), [])]) (by kernel_rfl) (by kernel_rfl) rfl ?_
    exact ⟨q4, rfl, fq4⟩
/-- gooseneck claim.Minutes -/
def p23 (k : Nat) (u0_0 : List (List Int)) (u0_1 : List Int) : Option (Int × Int) :=
  cl2 (p46 k u0_0 u0_1) fun v1 v2 => lt' (v2 != (0 : Int)) fun b5 => sp b5 (some ((0 : Int), v2)) (cl v1 fun C6 => some ((List.length C6.2.2.2.1 : Int), (0 : Int)))
theorem hf23 : Try.prog.funcs[23]? = some Try.f23 := by kernel_rfl
theorem w23 (k : Nat) {M : Mem} {Au0_0 : Option Addr} {cu0_0 : Nat} {u0_0 : List (List Int)} {u0_1 : List Int} (hu0_0 : SlR M Au0_0 cu0_0 .i64 11 u0_0) (hu0_1 : u0_1.length = 4) {r} (h : p23 k u0_0 u0_1 = some r) :
    Fn Try.prog 23 [rval (.agg [.one (.v (.slice Au0_0 (List.length u0_0) cu0_0)), .arr .i64 4 u0_1])] M (fun x _ => x = .tup [(some (.v (.int .i64 r.1)), []), (some (.v (.int .i64 r.2)), [])]) := by
  unfold p23 at h
  refine Fn_of (P := Try.prog) (fn := Try.f23) (c := bodyOf Try.f23) [.agg [.one (.v (.slice Au0_0 (List.length u0_0) cu0_0)), .arr .i64 4 u0_1]] hf23 (by kernel_rfl) (Nat.le_of_ble_eq_true (by kernel_rfl)) (args_ok (by kernel_rfl) ⟨⟨rfl, ⟨hu0_1, trivial⟩⟩, trivial⟩) fun w => ?_
  change T _ _ _ (endQ _ _ _)
  refine T_seq (c1 := (sub [0] (bodyOf Try.f23))) (c2 := (sub [1] (bodyOf Try.f23))) (by kernel_rfl) ?_
  refine T_region (id := 0) (by kernel_rfl) ?_
  refine TI_segK (i := 0) (j := 3) (s' := { σ := [(1, .lf (.own 1 0))], H := [(1, [.one (.v (.slice Au0_0 (List.length u0_0) cu0_0)), .arr .i64 4 u0_1])], V := [], M := M, ds := [] }) [1] [1] [] (by kernel_rfl) (by kernel_rfl) ?_
  refine TI_end (by kernel_rfl) ?_
  refine thenQ_n ?_
  refine T_seq (c1 := (sub [1, 0] (bodyOf Try.f23))) (c2 := (sub [1, 1] (bodyOf Try.f23))) (by kernel_rfl) ?_
  refine T_region (id := 1) (by kernel_rfl) ?_
  refine TI_segK (i := 0) (j := 1) (s' := { σ := [(7, .agg [.one (.v (.slice Au0_0 (List.length u0_0) cu0_0)), .arr .i64 4 u0_1])], H := [], V := [], M := M, ds := [] }) [7] [] [] (by kernel_rfl) (by kernel_rfl) ?_
  obtain ⟨v1, v2, c_v1, h⟩ := cl2_some h
  refine TI_of (i := 1) (by kernel_rfl) (TE_callR (d := 8) (f := 46) (args := [rval (.agg [.one (.v (.slice Au0_0 (List.length u0_0) cu0_0)), .arr .i64 4 u0_1])]) (by kernel_rfl) (by kernel_rfl) (w46 k hu0_0 hu0_1 c_v1) ?_)
  rintro _ M4 _ hM4 _ ⟨q3, rfl, fq3⟩
  refine TI_segK (i := 2) (j := 7) (s' := { σ := [(4, .lf (.v q3)), (5, .lf (.v (.int .i64 v2)))], H := [], V := [], M := M4, ds := [] }) [4, 5] [] [] (by kernel_rfl) (by kernel_rfl) ?_
  refine TI_end (by kernel_rfl) ?_
  refine thenQ_n ?_
  refine T_seq (c1 := (sub [1, 1, 0] (bodyOf Try.f23))) (c2 := (sub [1, 1, 1] (bodyOf Try.f23))) (by kernel_rfl) ?_
  refine T_seq (c1 := (sub [1, 1, 0, 0] (bodyOf Try.f23))) (c2 := (sub [1, 1, 0, 1] (bodyOf Try.f23))) (by kernel_rfl) ?_
  refine T_region (id := 2) (by kernel_rfl) ?_
  obtain ⟨b5, e_b5, h⟩ := lt_some h
  refine TI_segK (i := 0) (j := 2) (s' := { σ := [(4, .lf (.v q3)), (5, .lf (.v (.int .i64 v2))), (12, .lf (.v (.bool b5)))], H := [], V := [], M := M4, ds := [] }) [4, 5, 12] [] [] (by subst e_b5; kernel_rfl) (by kernel_rfl) ?_
  refine TI_end (by kernel_rfl) ?_
  refine thenQ_n ?_
  cases b5 with
  | true =>
    replace h := sp_t h
    refine T_condT (x := (.tmp 12)) (c1 := (sub [1, 1, 0, 1, 0] (bodyOf Try.f23))) (c2 := (sub [1, 1, 0, 1, 1] (bodyOf Try.f23))) (by kernel_rfl) (by kernel_rfl) ?_
    refine T_keep (s' := { σ := [(5, .lf (.v (.int .i64 v2)))], H := [], V := [], M := M4, ds := [] }) [5] [] [] (by kernel_rfl) ?_
    refine T_seq (c1 := (sub [1, 1, 0, 1, 0, 0] (bodyOf Try.f23))) (c2 := (sub [1, 1, 0, 1, 0, 1] (bodyOf Try.f23))) (by kernel_rfl) ?_
    refine T_region (id := 3) (by kernel_rfl) ?_
    refine TI_segK (i := 0) (j := 3) (s' := { σ := [(2, .lf (.v (.int .i64 (0 : Int)))), (3, .lf (.v (.int .i64 v2)))], H := [], V := [], M := M4, ds := [] }) [2, 3] [] [] (by kernel_rfl) (by kernel_rfl) ?_
    refine TI_end (by kernel_rfl) ?_
    refine thenQ_n ?_
    refine T_ret (by kernel_rfl) ?_
    refine thenQ_r ?_
    have h := Option.some.inj h
    subst h
    refine fin_ret (.tup [(some (.v (.int .i64 (0 : Int))), []), (some (.v (.int .i64 v2)), [])]) (by kernel_rfl) (by kernel_rfl) rfl ?_
    rfl
  | false =>
    replace h := sp_f h
    refine T_condF (x := (.tmp 12)) (c1 := (sub [1, 1, 0, 1, 0] (bodyOf Try.f23))) (c2 := (sub [1, 1, 0, 1, 1] (bodyOf Try.f23))) (by kernel_rfl) (by kernel_rfl) ?_
    refine T_keep (s' := { σ := [(4, .lf (.v q3))], H := [], V := [], M := M4, ds := [] }) [4] [] [] (by kernel_rfl) ?_
    refine T_skip (by kernel_rfl) ?_
    refine thenQ_n ?_
    obtain ⟨C6, e_C6, h⟩ := cl_some h
    have hC6 := fq3
    rw [e_C6] at hC6
    obtain ⟨C6b, C6A, C6c, C6AP, C6cP, C6AV, C6cV, rfl, hC6⟩ := hC6
    refine T_seq (c1 := (sub [1, 1, 1, 0] (bodyOf Try.f23))) (c2 := (sub [1, 1, 1, 1] (bodyOf Try.f23))) (by kernel_rfl) ?_
    refine T_region (id := 4) (by kernel_rfl) ?_
    refine TI_segK (i := 0) (j := 3) (s' := { σ := [(16, .lf (.v (.pointer (some ⟨C6b, 6, none⟩))))], H := [], V := [], M := M4, ds := [] }) [16] [] [] (by kernel_rfl) (by kernel_rfl) ?_
    refine TI_at (i := 3) (d := 17) (x := .lf (.v (.slice C6AP (List.length C6.2.2.2.1) C6cP))) (by exact At_ldP (d := 17) (b := C6b) (off := 6) (m := 1) (v := (.slice C6AP (List.length C6.2.2.2.1) C6cP)) (by kernel_rfl) (hC6).plc) (by kernel_rfl) trivial ?_
    refine TI_segK (i := 4) (j := 7) (s' := { σ := [(2, .lf (.v (.int .i64 (List.length C6.2.2.2.1 : Int)))), (3, .lf (.v (.int .i64 (0 : Int))))], H := [], V := [], M := M4, ds := [] }) [2, 3] [] [] (by kernel_rfl) (by kernel_rfl) ?_
    refine TI_end (by kernel_rfl) ?_
    refine thenQ_n ?_
    refine T_ret (by kernel_rfl) ?_
    have h := Option.some.inj h
    subst h
    refine fin_ret (.tup [(some (.v (.int .i64 (List.length C6.2.2.2.1 : Int))), []), (some (.v (.int .i64 (0 : Int))), [])]) (by kernel_rfl) (by kernel_rfl) rfl ?_
    rfl
/-- gooseneck claim.Verdict -/
def p14 (k : Nat) (u0_0 : List (List Int)) (u0_1 : List Int) (u1 : List Int) : Option (Int × Int) :=
  cl2 (p43 k u0_0 u0_1 u1) fun v1 v2 => lt' (v2 != (0 : Int)) fun b5 => sp b5 (some ((0 : Int), v2)) (cl v1 fun C6 => cl (p44 k C6.1 C6.2.1 C6.2.2.1 C6.2.2.2.1 C6.2.2.2.2 u1) fun v7 => some (v7, (0 : Int)))
theorem hf14 : Try.prog.funcs[14]? = some Try.f14 := by kernel_rfl
theorem w14 (k : Nat) {M : Mem} {Au0_0 : Option Addr} {cu0_0 : Nat} {u0_0 : List (List Int)} {u0_1 : List Int} {u1 : List Int} (hu0_0 : SlR M Au0_0 cu0_0 .i64 11 u0_0) (hu0_1 : u0_1.length = 4) (hu1 : u1.length = 7) {r} (h : p14 k u0_0 u0_1 u1 = some r) :
    Fn Try.prog 14 [rval (.agg [.one (.v (.slice Au0_0 (List.length u0_0) cu0_0)), .arr .i64 4 u0_1]), rval (.agg [.arr .i64 7 u1])] M (fun x _ => x = .tup [(some (.v (.int .i64 r.1)), []), (some (.v (.int .i64 r.2)), [])]) := by
  unfold p14 at h
  refine Fn_of (P := Try.prog) (fn := Try.f14) (c := bodyOf Try.f14) [.agg [.one (.v (.slice Au0_0 (List.length u0_0) cu0_0)), .arr .i64 4 u0_1], .agg [.arr .i64 7 u1]] hf14 (by kernel_rfl) (Nat.le_of_ble_eq_true (by kernel_rfl)) (args_ok (by kernel_rfl) ⟨⟨rfl, ⟨hu0_1, trivial⟩⟩, ⟨⟨hu1, trivial⟩, trivial⟩⟩) fun w => ?_
  change T _ _ _ (endQ _ _ _)
  refine T_seq (c1 := (sub [0] (bodyOf Try.f14))) (c2 := (sub [1] (bodyOf Try.f14))) (by kernel_rfl) ?_
  refine T_region (id := 0) (by kernel_rfl) ?_
  refine TI_segK (i := 0) (j := 4) (s' := { σ := [(2, .lf (.own 2 0)), (3, .lf (.own 3 0))], H := [(2, [.one (.v (.slice Au0_0 (List.length u0_0) cu0_0)), .arr .i64 4 u0_1]), (3, [.arr .i64 7 u1])], V := [], M := M, ds := [] }) [2, 3] [2, 3] [] (by kernel_rfl) (by kernel_rfl) ?_
  refine TI_end (by kernel_rfl) ?_
  refine thenQ_n ?_
  refine T_seq (c1 := (sub [1, 0] (bodyOf Try.f14))) (c2 := (sub [1, 1] (bodyOf Try.f14))) (by kernel_rfl) ?_
  refine T_region (id := 1) (by kernel_rfl) ?_
  refine TI_segK (i := 0) (j := 2) (s' := { σ := [(3, .lf (.own 3 0)), (9, .agg [.one (.v (.slice Au0_0 (List.length u0_0) cu0_0)), .arr .i64 4 u0_1]), (10, .agg [.arr .i64 7 u1])], H := [(3, [.arr .i64 7 u1])], V := [], M := M, ds := [] }) [3, 9, 10] [3] [] (by kernel_rfl) (by kernel_rfl) ?_
  obtain ⟨v1, v2, c_v1, h⟩ := cl2_some h
  refine TI_of (i := 2) (by kernel_rfl) (TE_callR (d := 11) (f := 43) (args := [rval (.agg [.one (.v (.slice Au0_0 (List.length u0_0) cu0_0)), .arr .i64 4 u0_1]), rval (.agg [.arr .i64 7 u1])]) (by kernel_rfl) (by kernel_rfl) (w43 k hu0_0 hu0_1 hu1 c_v1) ?_)
  rintro _ M4 _ hM4 _ ⟨q3, rfl, fq3⟩
  refine TI_segK (i := 3) (j := 8) (s' := { σ := [(3, .lf (.own 3 0)), (6, .lf (.v q3)), (7, .lf (.v (.int .i64 v2)))], H := [(3, [.arr .i64 7 u1])], V := [], M := M4, ds := [] }) [3, 6, 7] [3] [] (by kernel_rfl) (by kernel_rfl) ?_
  refine TI_end (by kernel_rfl) ?_
  refine thenQ_n ?_
  refine T_seq (c1 := (sub [1, 1, 0] (bodyOf Try.f14))) (c2 := (sub [1, 1, 1] (bodyOf Try.f14))) (by kernel_rfl) ?_
  refine T_seq (c1 := (sub [1, 1, 0, 0] (bodyOf Try.f14))) (c2 := (sub [1, 1, 0, 1] (bodyOf Try.f14))) (by kernel_rfl) ?_
  refine T_region (id := 2) (by kernel_rfl) ?_
  obtain ⟨b5, e_b5, h⟩ := lt_some h
  refine TI_segK (i := 0) (j := 2) (s' := { σ := [(3, .lf (.own 3 0)), (6, .lf (.v q3)), (7, .lf (.v (.int .i64 v2))), (15, .lf (.v (.bool b5)))], H := [(3, [.arr .i64 7 u1])], V := [], M := M4, ds := [] }) [3, 6, 7, 15] [3] [] (by subst e_b5; kernel_rfl) (by kernel_rfl) ?_
  refine TI_end (by kernel_rfl) ?_
  refine thenQ_n ?_
  cases b5 with
  | true =>
    replace h := sp_t h
    refine T_condT (x := (.tmp 15)) (c1 := (sub [1, 1, 0, 1, 0] (bodyOf Try.f14))) (c2 := (sub [1, 1, 0, 1, 1] (bodyOf Try.f14))) (by kernel_rfl) (by kernel_rfl) ?_
    refine T_keep (s' := { σ := [(7, .lf (.v (.int .i64 v2)))], H := [], V := [], M := M4, ds := [] }) [7] [] [] (by kernel_rfl) ?_
    refine T_seq (c1 := (sub [1, 1, 0, 1, 0, 0] (bodyOf Try.f14))) (c2 := (sub [1, 1, 0, 1, 0, 1] (bodyOf Try.f14))) (by kernel_rfl) ?_
    refine T_region (id := 3) (by kernel_rfl) ?_
    refine TI_segK (i := 0) (j := 3) (s' := { σ := [(4, .lf (.v (.int .i64 (0 : Int)))), (5, .lf (.v (.int .i64 v2)))], H := [], V := [], M := M4, ds := [] }) [4, 5] [] [] (by kernel_rfl) (by kernel_rfl) ?_
    refine TI_end (by kernel_rfl) ?_
    refine thenQ_n ?_
    refine T_ret (by kernel_rfl) ?_
    refine thenQ_r ?_
    have h := Option.some.inj h
    subst h
    refine fin_ret (.tup [(some (.v (.int .i64 (0 : Int))), []), (some (.v (.int .i64 v2)), [])]) (by kernel_rfl) (by kernel_rfl) rfl ?_
    rfl
  | false =>
    replace h := sp_f h
    refine T_condF (x := (.tmp 15)) (c1 := (sub [1, 1, 0, 1, 0] (bodyOf Try.f14))) (c2 := (sub [1, 1, 0, 1, 1] (bodyOf Try.f14))) (by kernel_rfl) (by kernel_rfl) ?_
    refine T_keep (s' := { σ := [(3, .lf (.own 3 0)), (6, .lf (.v q3))], H := [(3, [.arr .i64 7 u1])], V := [], M := M4, ds := [] }) [3, 6] [3] [] (by kernel_rfl) ?_
    refine T_skip (by kernel_rfl) ?_
    refine thenQ_n ?_
    obtain ⟨C6, e_C6, h⟩ := cl_some h
    have hC6 := fq3
    rw [e_C6] at hC6
    obtain ⟨C6b, C6A, C6c, C6AP, C6cP, C6AV, C6cV, rfl, hC6⟩ := hC6
    refine T_seq (c1 := (sub [1, 1, 1, 0] (bodyOf Try.f14))) (c2 := (sub [1, 1, 1, 1] (bodyOf Try.f14))) (by kernel_rfl) ?_
    refine T_region (id := 4) (by kernel_rfl) ?_
    refine TI_segK (i := 0) (j := 2) (s' := { σ := [(17, .lf (.v (.pointer (some ⟨C6b, 0, none⟩)))), (18, .agg [.arr .i64 7 u1])], H := [], V := [], M := M4, ds := [] }) [17, 18] [] [] (by kernel_rfl) (by kernel_rfl) ?_
    obtain ⟨v7, c_v7, h⟩ := cl_some h
    refine TI_at (i := 2) (d := 19) (x := .lf (.v (.int .i64 v7))) (At_call (d := 19) (f := 44) (args := [rval (.lf (.v (.pointer (some ⟨C6b, 0, none⟩)))), rval (.agg [.arr .i64 7 u1])]) (x := .lf (.v (.int .i64 v7))) (by kernel_rfl) (w44 k hC6 hu1 c_v7)) (by kernel_rfl) trivial ?_
    refine TI_segK (i := 3) (j := 5) (s' := { σ := [(4, .lf (.v (.int .i64 v7))), (5, .lf (.v (.int .i64 (0 : Int))))], H := [], V := [], M := M4, ds := [] }) [4, 5] [] [] (by kernel_rfl) (by kernel_rfl) ?_
    refine TI_end (by kernel_rfl) ?_
    refine thenQ_n ?_
    refine T_ret (by kernel_rfl) ?_
    have h := Option.some.inj h
    subst h
    refine fin_ret (.tup [(some (.v (.int .i64 v7)), []), (some (.v (.int .i64 (0 : Int))), [])]) (by kernel_rfl) (by kernel_rfl) rfl ?_
    rfl
def p19_l1 (k : Nat) (u1 : List (List Int)) (u2 : Int) (j19 : Int → List Int → Option (List Int × Int)) (C16 : CT) : Nat → Int → Int → List Int → Option (List Int × Int)
  | 0, _, _, _ => none
  | n23 + 1, x20, x21, L22 => lt' (decide (x21 < (List.length u1 : Int))) fun b24 => sp b24 (gd ((0 : Int) ≤ x21 ∧ x21 < (List.length u1 : Int)) <| lt' (List.getD u1 ((x21).toNat) []) fun L26 => lt' (List.getD L26 6 0) fun x27 => cl (p44 k C16.1 C16.2.1 C16.2.2.1 C16.2.2.2.1 C16.2.2.2.2 L26) fun v28 => gd ((0 : Int) ≤ v28 ∧ v28 < ((3 : Nat) : Int)) <| lt' (List.getD ([u2, (1000 : Int), (0 : Int)]) (0 + (v28).toNat * 1) 0) fun x30 => lt' (wr .i64 (x27 * x30)) fun x31 => lt' (wr .i64 (Int.tdiv x31 (1000 : Int))) fun x32 => gd ((0 : Int) ≤ x21 ∧ x21 < (List.length L22 : Int)) <| lt' (List.set L22 ((x21).toNat) x32) fun L34 => gd ((0 : Int) ≤ x21 ∧ x21 < (List.length L34 : Int)) <| lt' (List.getD L34 ((x21).toNat) 0) fun x36 => lt' (wr .i64 (x20 + x36)) fun x37 => lt' (wr .i64 (x21 + (1 : Int))) fun x38 => p19_l1 k u1 u2 j19 C16 n23 x37 x38 L34) (j19 x20 L22)
def p19_l2 (k : Nat) (u3 : Int) (x17 : Int) (L18 : List Int) (j47 : Int → List Int → Option (List Int × Int)) : Nat → Int → Int → List Int → Option (List Int × Int)
  | 0, _, _, _ => none
  | n51 + 1, x48, x49, L50 => lt' (decide (x49 < (List.length L18 : Int))) fun b52 => sp b52 (gd ((0 : Int) ≤ x49 ∧ x49 < (List.length L18 : Int)) <| lt' (List.getD L18 ((x49).toNat) 0) fun x54 => lt' (wr .i64 (x54 * u3)) fun x55 => gd (x17 ≠ 0) <| lt' (wr .i64 (Int.tdiv x55 x17)) fun x57 => gd ((0 : Int) ≤ x49 ∧ x49 < (List.length L50 : Int)) <| lt' (List.set L50 ((x49).toNat) x57) fun L59 => gd ((0 : Int) ≤ x49 ∧ x49 < (List.length L59 : Int)) <| lt' (List.getD L59 ((x49).toNat) 0) fun x61 => lt' (wr .i64 (x48 - x61)) fun x62 => lt' (wr .i64 (x49 + (1 : Int))) fun x63 => p19_l2 k u3 x17 L18 j47 n51 x62 x63 L59) (j47 x48 L50)
def p19_l3 (k : Nat) (L18 : List Int) (L46 : List Int) (j65 : List Int → Option (List Int × Int)) : Nat → Int → Int → List Int → Option (List Int × Int)
  | 0, _, _, _ => none
  | n69 + 1, x66, x67, L68 => lt' (decide (x67 < (List.length L46 : Int))) fun b70 => sp b70 (jn (fun (x71 : Int) (L72 : List Int) => lt' (wr .i64 (x67 + (1 : Int))) fun x88 => p19_l3 k L18 L46 j65 n69 x71 x88 L72) fun j73 => jn (fun (b74 : Bool) => sp b74 (gd ((0 : Int) ≤ x67 ∧ x67 < (List.length L68 : Int)) <| lt' (List.getD L68 ((x67).toNat) 0) fun x83 => lt' (wr .i64 (x83 + (1 : Int))) fun x84 => gd ((0 : Int) ≤ x67 ∧ x67 < (List.length L68 : Int)) <| lt' (List.set L68 ((x67).toNat) x84) fun L86 => lt' (wr .i64 (x66 - (1 : Int))) fun x87 => j73 x87 L86) (j73 x66 L68)) fun j75 => lt' (decide (x66 > (0 : Int))) fun b76 => sp b76 (gd ((0 : Int) ≤ x67 ∧ x67 < (List.length L68 : Int)) <| lt' (List.getD L68 ((x67).toNat) 0) fun x78 => gd ((0 : Int) ≤ x67 ∧ x67 < (List.length L18 : Int)) <| lt' (List.getD L18 ((x67).toNat) 0) fun x80 => lt' (decide (x78 < x80)) fun b81 => j75 b81) (j75 false)) (j65 L68)
/-- gooseneck claim.Settle -/
def p19 (k : Nat) (u0_0 : List (List Int)) (u0_1 : List Int) (u1 : List (List Int)) (u2 : Int) (u3 : Int) : Option (List Int × Int) :=
  cl2 (p46 k u0_0 u0_1) fun v3 v4 => lt' (v4 != (0 : Int)) fun b7 => sp b7 (some (([] : List Int), v4)) (lt' (decide ((List.length u1 : Int) > (32 : Int))) fun b8 => sp b8 (some (([] : List Int), (6 : Int))) (jn (fun (b9 : Bool) => sp b9 (some (([] : List Int), (2 : Int))) (gd ((0 : Int) ≤ (List.length u1 : Int) ∧ 8 * ((List.length u1 : Int)).toNat ≤ 281474976710656) <| lt' (List.replicate ((List.length u1 : Int)).toNat (0 : Int)) fun W15 => cl v3 fun C16 => jn (fun (x17 : Int) (L18 : List Int) => lt' (decide (x17 ≤ u3)) fun b39 => sp b39 (some (L18, (0 : Int))) (gd ((0 : Int) ≤ (List.length L18 : Int) ∧ 8 * ((List.length L18 : Int)).toNat ≤ 281474976710656) <| lt' (List.replicate ((List.length L18 : Int)).toNat (0 : Int)) fun W44 => jn (fun (x45 : Int) (L46 : List Int) => jn (fun (L64 : List Int) => some (L64, (0 : Int))) fun j65 => p19_l3 k L18 L46 j65 k x45 (0 : Int) L46) fun j47 => p19_l2 k u3 x17 L18 j47 k u3 (0 : Int) W44)) fun j19 => p19_l1 k u1 u2 j19 C16 k (0 : Int) (0 : Int) W15)) fun j10 => cl (p47 k u1) fun v11 => sp v11 (j10 true) (cl (p49 k u2 (0 : Int) (1000 : Int)) fun v12 => sp v12 (cl (p49 k u3 (0 : Int) (1099511627776 : Int)) fun v13 => j10 (!v13)) (j10 true))))
theorem hf19 : Try.prog.funcs[19]? = some Try.f19 := by kernel_rfl
theorem w19 (k : Nat) {M : Mem} {Au0_0 : Option Addr} {cu0_0 : Nat} {Au1 : Option Addr} {cu1 : Nat} {u0_0 : List (List Int)} {u0_1 : List Int} {u1 : List (List Int)} {u2 : Int} {u3 : Int} (hu0_0 : SlR M Au0_0 cu0_0 .i64 11 u0_0) (hu0_1 : u0_1.length = 4) (hu1 : SlR M Au1 cu1 .i64 7 u1) {r} (h : p19 k u0_0 u0_1 u1 u2 u3 = some r) :
    Fn Try.prog 19 [rval (.agg [.one (.v (.slice Au0_0 (List.length u0_0) cu0_0)), .arr .i64 4 u0_1]), rval (.lf (.v (.slice Au1 (List.length u1) cu1))), rval (.lf (.v (.int .i64 u2))), rval (.lf (.v (.int .i64 u3)))] M (fun x M' => ∃ (A1 : Option Addr) (c2 : Nat), x = .tup [(some (.v (.slice A1 (List.length r.1) c2)), []), (some (.v (.int .i64 r.2)), [])] ∧ SlI M' A1 c2 .i64 r.1) := by
  unfold p19 at h
  refine Fn_of (P := Try.prog) (fn := Try.f19) (c := bodyOf Try.f19) [.agg [.one (.v (.slice Au0_0 (List.length u0_0) cu0_0)), .arr .i64 4 u0_1], .lf (.v (.slice Au1 (List.length u1) cu1)), .lf (.v (.int .i64 u2)), .lf (.v (.int .i64 u3))] hf19 (by kernel_rfl) (Nat.le_of_ble_eq_true (by kernel_rfl)) (args_ok (by kernel_rfl) ⟨⟨rfl, ⟨hu0_1, trivial⟩⟩, ⟨trivial, ⟨trivial, ⟨trivial, trivial⟩⟩⟩⟩) fun w => ?_
  change T _ _ _ (endQ _ _ _)
  refine T_seq (c1 := (sub [0] (bodyOf Try.f19))) (c2 := (sub [1] (bodyOf Try.f19))) (by kernel_rfl) ?_
  refine T_region (id := 0) (by kernel_rfl) ?_
  refine TI_segK (i := 0) (j := 3) (s' := { σ := [(1, .lf (.v (.slice Au1 (List.length u1) cu1))), (2, .lf (.v (.int .i64 u2))), (3, .lf (.v (.int .i64 u3))), (4, .lf (.own 4 0))], H := [(4, [.one (.v (.slice Au0_0 (List.length u0_0) cu0_0)), .arr .i64 4 u0_1])], V := [], M := M, ds := [] }) [1, 2, 3, 4] [4] [] (by kernel_rfl) (by kernel_rfl) ?_
  refine TI_end (by kernel_rfl) ?_
  refine thenQ_n ?_
  refine T_seq (c1 := (sub [1, 0] (bodyOf Try.f19))) (c2 := (sub [1, 1] (bodyOf Try.f19))) (by kernel_rfl) ?_
  refine T_region (id := 1) (by kernel_rfl) ?_
  refine TI_segK (i := 0) (j := 1) (s' := { σ := [(1, .lf (.v (.slice Au1 (List.length u1) cu1))), (2, .lf (.v (.int .i64 u2))), (3, .lf (.v (.int .i64 u3))), (23, .agg [.one (.v (.slice Au0_0 (List.length u0_0) cu0_0)), .arr .i64 4 u0_1])], H := [], V := [], M := M, ds := [] }) [1, 2, 3, 23] [] [] (by kernel_rfl) (by kernel_rfl) ?_
  obtain ⟨v3, v4, c_v3, h⟩ := cl2_some h
  refine TI_of (i := 1) (by kernel_rfl) (TE_callR (d := 24) (f := 46) (args := [rval (.agg [.one (.v (.slice Au0_0 (List.length u0_0) cu0_0)), .arr .i64 4 u0_1])]) (by kernel_rfl) (by kernel_rfl) (w46 k hu0_0 hu0_1 c_v3) ?_)
  rintro _ M6 _ hM6 _ ⟨q5, rfl, fq5⟩
  refine TI_segK (i := 2) (j := 7) (s' := { σ := [(1, .lf (.v (.slice Au1 (List.length u1) cu1))), (2, .lf (.v (.int .i64 u2))), (3, .lf (.v (.int .i64 u3))), (10, .lf (.v q5)), (11, .lf (.v (.int .i64 v4)))], H := [], V := [], M := M6, ds := [] }) [1, 2, 3, 10, 11] [] [] (by kernel_rfl) (by kernel_rfl) ?_
  refine TI_end (by kernel_rfl) ?_
  refine thenQ_n ?_
  refine T_seq (c1 := (sub [1, 1, 0] (bodyOf Try.f19))) (c2 := (sub [1, 1, 1] (bodyOf Try.f19))) (by kernel_rfl) ?_
  refine T_seq (c1 := (sub [1, 1, 0, 0] (bodyOf Try.f19))) (c2 := (sub [1, 1, 0, 1] (bodyOf Try.f19))) (by kernel_rfl) ?_
  refine T_region (id := 2) (by kernel_rfl) ?_
  obtain ⟨b7, e_b7, h⟩ := lt_some h
  refine TI_segK (i := 0) (j := 2) (s' := { σ := [(1, .lf (.v (.slice Au1 (List.length u1) cu1))), (2, .lf (.v (.int .i64 u2))), (3, .lf (.v (.int .i64 u3))), (10, .lf (.v q5)), (11, .lf (.v (.int .i64 v4))), (28, .lf (.v (.bool b7)))], H := [], V := [], M := M6, ds := [] }) [1, 2, 3, 10, 11, 28] [] [] (by subst e_b7; kernel_rfl) (by kernel_rfl) ?_
  refine TI_end (by kernel_rfl) ?_
  refine thenQ_n ?_
  cases b7 with
  | true =>
    replace h := sp_t h
    refine T_condT (x := (.tmp 28)) (c1 := (sub [1, 1, 0, 1, 0] (bodyOf Try.f19))) (c2 := (sub [1, 1, 0, 1, 1] (bodyOf Try.f19))) (by kernel_rfl) (by kernel_rfl) ?_
    refine T_keep (s' := { σ := [(11, .lf (.v (.int .i64 v4)))], H := [], V := [], M := M6, ds := [] }) [11] [] [] (by kernel_rfl) ?_
    refine T_seq (c1 := (sub [1, 1, 0, 1, 0, 0] (bodyOf Try.f19))) (c2 := (sub [1, 1, 0, 1, 0, 1] (bodyOf Try.f19))) (by kernel_rfl) ?_
    refine T_region (id := 3) (by kernel_rfl) ?_
    refine TI_segK (i := 0) (j := 3) (s' := { σ := [(8, .lf (.v (.slice none (List.length ([] : List Int)) 0))), (9, .lf (.v (.int .i64 v4)))], H := [], V := [], M := M6, ds := [] }) [8, 9] [] [] (by kernel_rfl) (by kernel_rfl) ?_
    refine TI_end (by kernel_rfl) ?_
    refine thenQ_n ?_
    refine T_ret (by kernel_rfl) ?_
    refine thenQ_r ?_
    have h := Option.some.inj h
    subst h
    refine fin_ret (.tup [(some (.v (.slice none (List.length ([] : List Int)) 0)), []), (some (.v (.int .i64 v4)), [])]) (by kernel_rfl) (by kernel_rfl) rfl ?_
    exact ⟨none, 0, rfl, (nilI _ _ _)⟩
  | false =>
    replace h := sp_f h
    refine T_condF (x := (.tmp 28)) (c1 := (sub [1, 1, 0, 1, 0] (bodyOf Try.f19))) (c2 := (sub [1, 1, 0, 1, 1] (bodyOf Try.f19))) (by kernel_rfl) (by kernel_rfl) ?_
    refine T_keep (s' := { σ := [(1, .lf (.v (.slice Au1 (List.length u1) cu1))), (2, .lf (.v (.int .i64 u2))), (3, .lf (.v (.int .i64 u3))), (10, .lf (.v q5))], H := [], V := [], M := M6, ds := [] }) [1, 2, 3, 10] [] [] (by kernel_rfl) ?_
    refine T_skip (by kernel_rfl) ?_
    refine thenQ_n ?_
    refine T_seq (c1 := (sub [1, 1, 1, 0] (bodyOf Try.f19))) (c2 := (sub [1, 1, 1, 1] (bodyOf Try.f19))) (by kernel_rfl) ?_
    refine T_seq (c1 := (sub [1, 1, 1, 0, 0] (bodyOf Try.f19))) (c2 := (sub [1, 1, 1, 0, 1] (bodyOf Try.f19))) (by kernel_rfl) ?_
    refine T_region (id := 4) (by kernel_rfl) ?_
    obtain ⟨b8, e_b8, h⟩ := lt_some h
    refine TI_segK (i := 0) (j := 3) (s' := { σ := [(1, .lf (.v (.slice Au1 (List.length u1) cu1))), (2, .lf (.v (.int .i64 u2))), (3, .lf (.v (.int .i64 u3))), (10, .lf (.v q5)), (32, .lf (.v (.bool b8)))], H := [], V := [], M := M6, ds := [] }) [1, 2, 3, 10, 32] [] [] (by subst e_b8; kernel_rfl) (by kernel_rfl) ?_
    refine TI_end (by kernel_rfl) ?_
    refine thenQ_n ?_
    cases b8 with
    | true =>
      replace h := sp_t h
      refine T_condT (x := (.tmp 32)) (c1 := (sub [1, 1, 1, 0, 1, 0] (bodyOf Try.f19))) (c2 := (sub [1, 1, 1, 0, 1, 1] (bodyOf Try.f19))) (by kernel_rfl) (by kernel_rfl) ?_
      refine T_keep (s' := { σ := [], H := [], V := [], M := M6, ds := [] }) [] [] [] (by kernel_rfl) ?_
      refine T_seq (c1 := (sub [1, 1, 1, 0, 1, 0, 0] (bodyOf Try.f19))) (c2 := (sub [1, 1, 1, 0, 1, 0, 1] (bodyOf Try.f19))) (by kernel_rfl) ?_
      refine T_region (id := 5) (by kernel_rfl) ?_
      refine TI_segK (i := 0) (j := 2) (s' := { σ := [(8, .lf (.v (.slice none (List.length ([] : List Int)) 0))), (9, .lf (.v (.int .i64 (6 : Int))))], H := [], V := [], M := M6, ds := [] }) [8, 9] [] [] (by kernel_rfl) (by kernel_rfl) ?_
      refine TI_end (by kernel_rfl) ?_
      refine thenQ_n ?_
      refine T_ret (by kernel_rfl) ?_
      refine thenQ_r ?_
      have h := Option.some.inj h
      subst h
      refine fin_ret (.tup [(some (.v (.slice none (List.length ([] : List Int)) 0)), []), (some (.v (.int .i64 (6 : Int))), [])]) (by kernel_rfl) (by kernel_rfl) rfl ?_
      exact ⟨none, 0, rfl, (nilI _ _ _)⟩
    | false =>
      replace h := sp_f h
      refine T_condF (x := (.tmp 32)) (c1 := (sub [1, 1, 1, 0, 1, 0] (bodyOf Try.f19))) (c2 := (sub [1, 1, 1, 0, 1, 1] (bodyOf Try.f19))) (by kernel_rfl) (by kernel_rfl) ?_
      refine T_keep (s' := { σ := [(1, .lf (.v (.slice Au1 (List.length u1) cu1))), (2, .lf (.v (.int .i64 u2))), (3, .lf (.v (.int .i64 u3))), (10, .lf (.v q5))], H := [], V := [], M := M6, ds := [] }) [1, 2, 3, 10] [] [] (by kernel_rfl) ?_
      refine T_skip (by kernel_rfl) ?_
      refine thenQ_n ?_
      refine T_seq (c1 := (sub [1, 1, 1, 1, 0] (bodyOf Try.f19))) (c2 := (sub [1, 1, 1, 1, 1] (bodyOf Try.f19))) (by kernel_rfl) ?_
      obtain ⟨j10, e_j10, h⟩ := jn_some h
      refine T_cut (c1 := (sub [1, 1, 1, 1, 0, 0] (bodyOf Try.f19))) (c2 := (sub [1, 1, 1, 1, 0, 1] (bodyOf Try.f19))) (fun s' => ∃ (b9 : Bool), Sub { σ := [(1, .lf (.v (.slice Au1 (List.length u1) cu1))), (2, .lf (.v (.int .i64 u2))), (3, .lf (.v (.int .i64 u3))), (10, .lf (.v q5)), (44, .lf (.v (.bool b9)))], H := [], V := [], M := M6, ds := [] } s' ∧ j10 b9 = some r) (by kernel_rfl) ?_ ?_
      · refine T_region (id := 6) (by kernel_rfl) ?_
        refine TI_segK (i := 0) (j := 1) (s' := { σ := [(1, .lf (.v (.slice Au1 (List.length u1) cu1))), (2, .lf (.v (.int .i64 u2))), (3, .lf (.v (.int .i64 u3))), (10, .lf (.v q5)), (33, .lf (.v (.slice Au1 (List.length u1) cu1)))], H := [], V := [], M := M6, ds := [] }) [1, 2, 3, 10, 33] [] [] (by kernel_rfl) (by kernel_rfl) ?_
        obtain ⟨v11, c_v11, h⟩ := cl_some h
        refine TI_at (i := 1) (d := 34) (x := .lf (.v (.bool v11))) (At_call (d := 34) (f := 47) (args := [rval (.lf (.v (.slice Au1 (List.length u1) cu1))), rval (.lf (.v (.func (.func 48) #[] #[])))]) (x := .lf (.v (.bool v11))) (by kernel_rfl) (w47 k (hu1.le hM6) c_v11)) (by kernel_rfl) trivial ?_
        refine TI_segK (i := 2) (j := 3) (s' := { σ := [(1, .lf (.v (.slice Au1 (List.length u1) cu1))), (2, .lf (.v (.int .i64 u2))), (3, .lf (.v (.int .i64 u3))), (10, .lf (.v q5)), (35, .lf (.v (.bool v11)))], H := [], V := [], M := M6, ds := [] }) [1, 2, 3, 10, 35] [] [] (by kernel_rfl) (by kernel_rfl) ?_
        cases v11 with
        | true =>
          replace h := sp_t h
          refine TI_segK (i := 3) (j := 12) (s' := { σ := [(1, .lf (.v (.slice Au1 (List.length u1) cu1))), (2, .lf (.v (.int .i64 u2))), (3, .lf (.v (.int .i64 u3))), (10, .lf (.v q5)), (44, .lf (.v (.bool true)))], H := [], V := [], M := M6, ds := [] }) [1, 2, 3, 10, 44] [] [] (by kernel_rfl) (by kernel_rfl) ?_
          refine TI_end (by kernel_rfl) ?_
          refine thenQ_n ?_
          exact ⟨true, keep_sub (ts := [1, 2, 3, 10, 44]) (hs := []) (vs := []) (by kernel_rfl), h⟩
        | false =>
          replace h := sp_f h
          refine TI_segK (i := 3) (j := 4) (s' := { σ := [(1, .lf (.v (.slice Au1 (List.length u1) cu1))), (2, .lf (.v (.int .i64 u2))), (3, .lf (.v (.int .i64 u3))), (10, .lf (.v q5)), (35, .lf (.v (.bool false))), (36, .lf (.v (.int .i64 u2)))], H := [], V := [], M := M6, ds := [] }) [1, 2, 3, 10, 35, 36] [] [] (by kernel_rfl) (by kernel_rfl) ?_
          obtain ⟨v12, c_v12, h⟩ := cl_some h
          refine TI_at (i := 4) (d := 37) (x := .lf (.v (.bool v12))) (At_call (d := 37) (f := 49) (args := [rval (.lf (.v (.int .i64 u2))), rval (.lf (.v (.int .i64 (0 : Int)))), rval (.lf (.v (.int .i64 (1000 : Int))))]) (x := .lf (.v (.bool v12))) (by kernel_rfl) (w49 k  c_v12)) (by kernel_rfl) trivial ?_
          refine TI_segK (i := 5) (j := 8) (s' := { σ := [(1, .lf (.v (.slice Au1 (List.length u1) cu1))), (2, .lf (.v (.int .i64 u2))), (3, .lf (.v (.int .i64 u3))), (10, .lf (.v q5)), (40, .lf (.v (.bool (!v12))))], H := [], V := [], M := M6, ds := [] }) [1, 2, 3, 10, 40] [] [] (by kernel_rfl) (by kernel_rfl) ?_
          cases v12 with
          | true =>
            replace h := sp_t h
            refine TI_segK (i := 8) (j := 9) (s' := { σ := [(1, .lf (.v (.slice Au1 (List.length u1) cu1))), (2, .lf (.v (.int .i64 u2))), (3, .lf (.v (.int .i64 u3))), (10, .lf (.v q5)), (40, .lf (.v (.bool false))), (41, .lf (.v (.int .i64 u3)))], H := [], V := [], M := M6, ds := [] }) [1, 2, 3, 10, 40, 41] [] [] (by kernel_rfl) (by kernel_rfl) ?_
            obtain ⟨v13, c_v13, h⟩ := cl_some h
            refine TI_at (i := 9) (d := 42) (x := .lf (.v (.bool v13))) (At_call (d := 42) (f := 49) (args := [rval (.lf (.v (.int .i64 u3))), rval (.lf (.v (.int .i64 (0 : Int)))), rval (.lf (.v (.int .i64 (1099511627776 : Int))))]) (x := .lf (.v (.bool v13))) (by kernel_rfl) (w49 k  c_v13)) (by kernel_rfl) trivial ?_
            refine TI_segK (i := 10) (j := 12) (s' := { σ := [(1, .lf (.v (.slice Au1 (List.length u1) cu1))), (2, .lf (.v (.int .i64 u2))), (3, .lf (.v (.int .i64 u3))), (10, .lf (.v q5)), (44, .lf (.v (.bool (!v13))))], H := [], V := [], M := M6, ds := [] }) [1, 2, 3, 10, 44] [] [] (by kernel_rfl) (by kernel_rfl) ?_
            refine TI_end (by kernel_rfl) ?_
            refine thenQ_n ?_
            exact ⟨(!v13), keep_sub (ts := [1, 2, 3, 10, 44]) (hs := []) (vs := []) (by kernel_rfl), h⟩
          | false =>
            replace h := sp_f h
            refine TI_segK (i := 8) (j := 12) (s' := { σ := [(1, .lf (.v (.slice Au1 (List.length u1) cu1))), (2, .lf (.v (.int .i64 u2))), (3, .lf (.v (.int .i64 u3))), (10, .lf (.v q5)), (44, .lf (.v (.bool true)))], H := [], V := [], M := M6, ds := [] }) [1, 2, 3, 10, 44] [] [] (by kernel_rfl) (by kernel_rfl) ?_
            refine TI_end (by kernel_rfl) ?_
            refine thenQ_n ?_
            exact ⟨true, keep_sub (ts := [1, 2, 3, 10, 44]) (hs := []) (vs := []) (by kernel_rfl), h⟩
      · rintro s' ⟨b9, hsub, h⟩
        subst e_j10
        refine T_sub hsub ?_
        cases b9 with
        | true =>
          replace h := sp_t h
          refine T_condT (x := (.tmp 44)) (c1 := (sub [1, 1, 1, 1, 0, 1, 0] (bodyOf Try.f19))) (c2 := (sub [1, 1, 1, 1, 0, 1, 1] (bodyOf Try.f19))) (by kernel_rfl) (by kernel_rfl) ?_
          refine T_keep (s' := { σ := [], H := [], V := [], M := M6, ds := [] }) [] [] [] (by kernel_rfl) ?_
          refine T_seq (c1 := (sub [1, 1, 1, 1, 0, 1, 0, 0] (bodyOf Try.f19))) (c2 := (sub [1, 1, 1, 1, 0, 1, 0, 1] (bodyOf Try.f19))) (by kernel_rfl) ?_
          refine T_region (id := 7) (by kernel_rfl) ?_
          refine TI_segK (i := 0) (j := 2) (s' := { σ := [(8, .lf (.v (.slice none (List.length ([] : List Int)) 0))), (9, .lf (.v (.int .i64 (2 : Int))))], H := [], V := [], M := M6, ds := [] }) [8, 9] [] [] (by kernel_rfl) (by kernel_rfl) ?_
          refine TI_end (by kernel_rfl) ?_
          refine thenQ_n ?_
          refine T_ret (by kernel_rfl) ?_
          refine thenQ_r ?_
          have h := Option.some.inj h
          subst h
          refine fin_ret (.tup [(some (.v (.slice none (List.length ([] : List Int)) 0)), []), (some (.v (.int .i64 (2 : Int))), [])]) (by kernel_rfl) (by kernel_rfl) rfl ?_
          exact ⟨none, 0, rfl, (nilI _ _ _)⟩
        | false =>
          replace h := sp_f h
          refine T_condF (x := (.tmp 44)) (c1 := (sub [1, 1, 1, 1, 0, 1, 0] (bodyOf Try.f19))) (c2 := (sub [1, 1, 1, 1, 0, 1, 1] (bodyOf Try.f19))) (by kernel_rfl) (by kernel_rfl) ?_
          refine T_keep (s' := { σ := [(1, .lf (.v (.slice Au1 (List.length u1) cu1))), (2, .lf (.v (.int .i64 u2))), (3, .lf (.v (.int .i64 u3))), (10, .lf (.v q5))], H := [], V := [], M := M6, ds := [] }) [1, 2, 3, 10] [] [] (by kernel_rfl) ?_
          refine T_skip (by kernel_rfl) ?_
          refine thenQ_n ?_
          refine T_seq (c1 := (sub [1, 1, 1, 1, 1, 0] (bodyOf Try.f19))) (c2 := (sub [1, 1, 1, 1, 1, 1] (bodyOf Try.f19))) (by kernel_rfl) ?_
          refine T_region (id := 8) (by kernel_rfl) ?_
          refine TI_segK (i := 0) (j := 4) (s' := { σ := [(1, .lf (.v (.slice Au1 (List.length u1) cu1))), (3, .lf (.v (.int .i64 u3))), (10, .lf (.v q5)), (12, .lf (.own 12 0))], H := [(12, [.arr .i64 3 [u2, (1000 : Int), (0 : Int)]])], V := [], M := M6, ds := [] }) [1, 3, 10, 12] [12] [] (by kernel_rfl) (by kernel_rfl) ?_
          refine TI_end (by kernel_rfl) ?_
          refine thenQ_n ?_
          refine T_seq (c1 := (sub [1, 1, 1, 1, 1, 1, 0] (bodyOf Try.f19))) (c2 := (sub [1, 1, 1, 1, 1, 1, 1] (bodyOf Try.f19))) (by kernel_rfl) ?_
          refine T_region (id := 9) (by kernel_rfl) ?_
          refine TI_segK (i := 0) (j := 2) (s' := { σ := [(1, .lf (.v (.slice Au1 (List.length u1) cu1))), (3, .lf (.v (.int .i64 u3))), (10, .lf (.v q5)), (12, .lf (.own 12 0)), (48, .lf (.v (.int .i64 (List.length u1 : Int))))], H := [(12, [.arr .i64 3 [u2, (1000 : Int), (0 : Int)]])], V := [], M := M6, ds := [] }) [1, 3, 10, 12, 48] [12] [] (by kernel_rfl) (by kernel_rfl) ?_
          obtain ⟨g14, h⟩ := gd_some h
          obtain ⟨W15, e_W15, h⟩ := lt_some h
          refine TI_of (i := 2) (by kernel_rfl) (TE_makeC (len2 := List.length W15) (d := 49) (e := 2) (sz := 1) (bytes := 8) (zs := [.int .i64 0]) (cs := ints .i64 W15) (z := (List.length u1 : Int)) (by subst e_W15; kernel_rfl) (by kernel_rfl) g14.1 g14.2 rfl (rep_ints' e_W15) (by rw [e_W15, List.length_replicate]) ?_)
          refine TI_segK (i := 3) (j := 5) (s' := { σ := [(1, .lf (.v (.slice Au1 (List.length u1) cu1))), (3, .lf (.v (.int .i64 u3))), (10, .lf (.v q5)), (12, .lf (.own 12 0)), (13, .lf (.vec 49)), (14, .lf (.v (.int .i64 (0 : Int))))], H := [(12, [.arr .i64 3 [u2, (1000 : Int), (0 : Int)]])], V := [(49, ⟨2, 1, List.length W15, ints .i64 W15⟩)], M := M6, ds := [] }) [1, 3, 10, 12, 13, 14] [12] [49] (by kernel_rfl) (by kernel_rfl) ?_
          refine TI_end (by kernel_rfl) ?_
          refine thenQ_n ?_
          refine T_seq (c1 := (sub [1, 1, 1, 1, 1, 1, 1, 0] (bodyOf Try.f19))) (c2 := (sub [1, 1, 1, 1, 1, 1, 1, 1] (bodyOf Try.f19))) (by kernel_rfl) ?_
          refine T_seq (c1 := (sub [1, 1, 1, 1, 1, 1, 1, 0, 0] (bodyOf Try.f19))) (c2 := (sub [1, 1, 1, 1, 1, 1, 1, 0, 1] (bodyOf Try.f19))) (by kernel_rfl) ?_
          refine T_region (id := 10) (by kernel_rfl) ?_
          refine TI_segK (i := 0) (j := 3) (s' := { σ := [(3, .lf (.v (.int .i64 u3))), (10, .lf (.v q5)), (12, .lf (.own 12 0)), (13, .lf (.vec 49)), (14, .lf (.v (.int .i64 (0 : Int)))), (50, .lf (.v (.slice Au1 (List.length u1) cu1))), (51, .lf (.v (.int .i64 (List.length u1 : Int)))), (52, .lf (.v (.int .i64 (0 : Int))))], H := [(12, [.arr .i64 3 [u2, (1000 : Int), (0 : Int)]])], V := [(49, ⟨2, 1, List.length W15, ints .i64 W15⟩)], M := M6, ds := [] }) [3, 10, 12, 13, 14, 50, 51, 52] [12] [49] (by kernel_rfl) (by kernel_rfl) ?_
          refine TI_end (by kernel_rfl) ?_
          refine thenQ_n ?_
          obtain ⟨C16, e_C16, h⟩ := cl_some h
          have hC16 := fq5
          rw [e_C16] at hC16
          obtain ⟨C16b, C16A, C16c, C16AP, C16cP, C16AV, C16cV, rfl, hC16⟩ := hC16
          obtain ⟨j19, e_j19, h⟩ := jn_some h
          refine T_bcut (id := 0) (c1 := (sub [1, 1, 1, 1, 1, 1, 1, 0, 1, 0] (bodyOf Try.f19))) (fun s' => ∃ (x17 : Int) (L18 : List Int), Sub { σ := [(3, .lf (.v (.int .i64 u3))), (13, .lf (.vec 49)), (14, .lf (.v (.int .i64 x17)))], H := [], V := [(49, ⟨2, 1, List.length L18, ints .i64 L18⟩)], M := M6, ds := [] } s' ∧ j19 x17 L18 = some r) (by kernel_rfl) ?_ ?_
          · refine T_loop (c1 := (sub [1, 1, 1, 1, 1, 1, 1, 0, 1, 0, 0] (bodyOf Try.f19))) (by kernel_rfl) (fun n23 s' => ∃ (x20 : Int) (x21 : Int) (L22 : List Int), Sub { σ := [(3, .lf (.v (.int .i64 u3))), (10, .lf (.v (.pointer (some ⟨C16b, 0, none⟩)))), (12, .lf (.own 12 0)), (13, .lf (.vec 49)), (14, .lf (.v (.int .i64 x20))), (50, .lf (.v (.slice Au1 (List.length u1) cu1))), (51, .lf (.v (.int .i64 (List.length u1 : Int)))), (52, .lf (.v (.int .i64 x21)))], H := [(12, [.arr .i64 3 [u2, (1000 : Int), (0 : Int)]])], V := [(49, ⟨2, 1, List.length L22, ints .i64 L22⟩)], M := M6, ds := [] } s' ∧ p19_l1 k u1 u2 j19 C16 n23 x20 x21 L22 = some r) (k := k) ⟨(0 : Int), (0 : Int), W15, keep_sub (ts := [3, 10, 12, 13, 14, 50, 51, 52]) (hs := [12]) (vs := [49]) (by kernel_rfl), h⟩ ?_
            rintro n23 s' ⟨x20, x21, L22, hsub, h⟩
            cases n23 with
            | zero => rw [p19_l1] at h; cases h
            | succ n23 =>
              rw [p19_l1] at h
              refine T_sub hsub ?_
              refine T_seq (c1 := (sub [1, 1, 1, 1, 1, 1, 1, 0, 1, 0, 0, 0] (bodyOf Try.f19))) (c2 := (sub [1, 1, 1, 1, 1, 1, 1, 0, 1, 0, 0, 1] (bodyOf Try.f19))) (by kernel_rfl) ?_
              refine T_region (id := 11) (by kernel_rfl) ?_
              obtain ⟨b24, e_b24, h⟩ := lt_some h
              refine TI_segK (i := 0) (j := 1) (s' := { σ := [(3, .lf (.v (.int .i64 u3))), (10, .lf (.v (.pointer (some ⟨C16b, 0, none⟩)))), (12, .lf (.own 12 0)), (13, .lf (.vec 49)), (14, .lf (.v (.int .i64 x20))), (50, .lf (.v (.slice Au1 (List.length u1) cu1))), (51, .lf (.v (.int .i64 (List.length u1 : Int)))), (52, .lf (.v (.int .i64 x21))), (53, .lf (.v (.bool b24)))], H := [(12, [.arr .i64 3 [u2, (1000 : Int), (0 : Int)]])], V := [(49, ⟨2, 1, List.length L22, ints .i64 L22⟩)], M := M6, ds := [] }) [3, 10, 12, 13, 14, 50, 51, 52, 53] [12] [49] (by subst e_b24; kernel_rfl) (by kernel_rfl) ?_
              refine TI_end (by kernel_rfl) ?_
              refine thenQ_n ?_
              refine T_seq (c1 := (sub [1, 1, 1, 1, 1, 1, 1, 0, 1, 0, 0, 1, 0] (bodyOf Try.f19))) (c2 := (sub [1, 1, 1, 1, 1, 1, 1, 0, 1, 0, 0, 1, 1] (bodyOf Try.f19))) (by kernel_rfl) ?_
              cases b24 with
              | true =>
                replace h := sp_t h
                refine T_condT (x := (.tmp 53)) (c1 := (sub [1, 1, 1, 1, 1, 1, 1, 0, 1, 0, 0, 1, 0, 0] (bodyOf Try.f19))) (c2 := (sub [1, 1, 1, 1, 1, 1, 1, 0, 1, 0, 0, 1, 0, 1] (bodyOf Try.f19))) (by kernel_rfl) (by kernel_rfl) ?_
                refine T_keep (s' := { σ := [(3, .lf (.v (.int .i64 u3))), (10, .lf (.v (.pointer (some ⟨C16b, 0, none⟩)))), (12, .lf (.own 12 0)), (13, .lf (.vec 49)), (14, .lf (.v (.int .i64 x20))), (50, .lf (.v (.slice Au1 (List.length u1) cu1))), (51, .lf (.v (.int .i64 (List.length u1 : Int)))), (52, .lf (.v (.int .i64 x21)))], H := [(12, [.arr .i64 3 [u2, (1000 : Int), (0 : Int)]])], V := [(49, ⟨2, 1, List.length L22, ints .i64 L22⟩)], M := M6, ds := [] }) [3, 10, 12, 13, 14, 50, 51, 52] [12] [49] (by kernel_rfl) ?_
                refine T_skip (by kernel_rfl) ?_
                refine thenQ_n ?_
                refine T_seq (c1 := (sub [1, 1, 1, 1, 1, 1, 1, 0, 1, 0, 0, 1, 1, 0] (bodyOf Try.f19))) (c2 := (sub [1, 1, 1, 1, 1, 1, 1, 0, 1, 0, 0, 1, 1, 1] (bodyOf Try.f19))) (by kernel_rfl) ?_
                refine T_block (id := 1) (c1 := (sub [1, 1, 1, 1, 1, 1, 1, 0, 1, 0, 0, 1, 1, 0, 0] (bodyOf Try.f19))) (by kernel_rfl) ?_
                refine T_seq (c1 := (sub [1, 1, 1, 1, 1, 1, 1, 0, 1, 0, 0, 1, 1, 0, 0, 0] (bodyOf Try.f19))) (c2 := (sub [1, 1, 1, 1, 1, 1, 1, 0, 1, 0, 0, 1, 1, 0, 0, 1] (bodyOf Try.f19))) (by kernel_rfl) ?_
                refine T_region (id := 12) (by kernel_rfl) ?_
                refine TI_segK (i := 0) (j := 1) (s' := { σ := [(3, .lf (.v (.int .i64 u3))), (10, .lf (.v (.pointer (some ⟨C16b, 0, none⟩)))), (12, .lf (.own 12 0)), (13, .lf (.vec 49)), (14, .lf (.v (.int .i64 x20))), (50, .lf (.v (.slice Au1 (List.length u1) cu1))), (51, .lf (.v (.int .i64 (List.length u1 : Int)))), (52, .lf (.v (.int .i64 x21))), (54, .lf (.v (.int .i64 x21)))], H := [(12, [.arr .i64 3 [u2, (1000 : Int), (0 : Int)]])], V := [(49, ⟨2, 1, List.length L22, ints .i64 L22⟩)], M := M6, ds := [] }) [3, 10, 12, 13, 14, 50, 51, 52, 54] [12] [49] (by kernel_rfl) (by kernel_rfl) ?_
                obtain ⟨g25, h⟩ := gd_some h
                refine TI_at (i := 1) (d := 55) (x := .lf (.ep (.slice Au1 (List.length u1) cu1) 7 ((x21).toNat) 0)) (by exact At_idxR (d := 55) (z := x21) (by kernel_rfl) g25 (hu1.le hM6)) (by kernel_rfl) trivial ?_
                obtain ⟨L26, e_L26, h⟩ := lt_some h
                have l_L26 : (L26).length = 7 := by rw [e_L26]; exact SlR_row (hu1.le hM6) (toNat_lt g25)
                refine TI_at (i := 2) (d := 56) (x := .agg [.arr .i64 7 L26]) (by rw [e_L26]; exact At_ldRow (d := 56) (q := (x21).toNat) (by subst e_L26; kernel_rfl) (toNat_lt g25) (hu1.le hM6)) (by kernel_rfl) ⟨l_L26, trivial⟩ ?_
                refine TI_segK (i := 3) (j := 6) (s' := { σ := [(3, .lf (.v (.int .i64 u3))), (10, .lf (.v (.pointer (some ⟨C16b, 0, none⟩)))), (12, .lf (.own 12 0)), (13, .lf (.vec 49)), (14, .lf (.v (.int .i64 x20))), (15, .lf (.v (.int .i64 x21))), (16, .lf (.own 16 0)), (50, .lf (.v (.slice Au1 (List.length u1) cu1))), (51, .lf (.v (.int .i64 (List.length u1 : Int)))), (52, .lf (.v (.int .i64 x21)))], H := [(12, [.arr .i64 3 [u2, (1000 : Int), (0 : Int)]]), (16, [.arr .i64 7 L26])], V := [(49, ⟨2, 1, List.length L22, ints .i64 L22⟩)], M := M6, ds := [] }) [3, 10, 12, 13, 14, 15, 16, 50, 51, 52] [12, 16] [49] (by kernel_rfl) (by kernel_rfl) ?_
                refine TI_end (by kernel_rfl) ?_
                refine thenQ_n ?_
                refine T_seq (c1 := (sub [1, 1, 1, 1, 1, 1, 1, 0, 1, 0, 0, 1, 1, 0, 0, 1, 0] (bodyOf Try.f19))) (c2 := (sub [1, 1, 1, 1, 1, 1, 1, 0, 1, 0, 0, 1, 1, 0, 0, 1, 1] (bodyOf Try.f19))) (by kernel_rfl) ?_
                obtain ⟨x27, e_x27, h⟩ := lt_some h
                obtain ⟨v28, c_v28, h⟩ := cl_some h
                obtain ⟨g29, h⟩ := gd_some h
                obtain ⟨x30, e_x30, h⟩ := lt_some h
                obtain ⟨x31, e_x31, h⟩ := lt_some h
                obtain ⟨x32, e_x32, h⟩ := lt_some h
                obtain ⟨g33, h⟩ := gd_some h
                obtain ⟨L34, e_L34, h⟩ := lt_some h
                refine T_draw' (id := 13) [12] [0, 0, 0, 0, 0, 0, 0, 0, 0, 0, 0, 0, 0] (by kernel_rfl) (by kernel_rfl) (by kernel_rfl) (by kernel_rfl) [(57, .lf (.vec 49)), (58, .lf (.v (.int .i64 x21))), (59, .lf (.own 16 6)), (60, .lf (.v (.int .i64 x27))), (61, .lf (.v (.pointer (some ⟨C16b, 0, none⟩)))), (62, .agg [.arr .i64 7 L26]), (63, .lf (.v (.int .i64 v28))), (64, .lf (.oel 12 (0 + (v28).toNat * 1))), (65, .lf (.v (.int .i64 x30))), (66, .lf (.v (.int .i64 x31))), (67, .lf (.v (.int .i64 x32))), (68, .lf (.vel 49 1 ((x21).toNat) 0))] (by kernel_rfl) ⟨trivial, ⟨trivial, ⟨trivial, ⟨trivial, ⟨trivial, ⟨⟨l_L26, trivial⟩, ⟨trivial, ⟨trivial, ⟨trivial, ⟨trivial, ⟨trivial, ⟨trivial, trivial⟩⟩⟩⟩⟩⟩⟩⟩⟩⟩⟩⟩ ?_
                refine Stage_te (stage_all' [0, 1, 2, 3, 4, 5, 9, 10] [6, 7, 8, 11] (by kernel_rfl) (by subst e_L34 e_x32 e_x31 e_x30 e_x27; kernel_rfl) (by kernel_rfl) ⟨QF_at (i := 6) (d := 63) (x := .lf (.v (.int .i64 v28))) (show OpAt _ _ _ 6 63 (.lf (.v (.int .i64 v28))) from by exact At_call (d := 63) (f := 44) (args := [rval (.lf (.v (.pointer (some ⟨C16b, 0, none⟩)))), rval (.agg [.arr .i64 7 L26])]) (x := .lf (.v (.int .i64 v28))) (by subst e_L34 e_x32 e_x31 e_x30 e_x27; kernel_rfl) (w44 k hC16 l_L26 c_v28)) (by kernel_rfl) (by subst e_L34 e_x32 e_x31 e_x30 e_x27; kernel_rfl), ⟨QF_at (i := 7) (d := 64) (x := .lf (.oel 12 (0 + (v28).toNat * 1))) (show OpAt _ _ _ 7 64 (.lf (.oel 12 (0 + (v28).toNat * 1))) from by exact At_idxO (d := 64) (z := v28) (b := 12) (off := 0) (sz := 1) (n := 3) (by subst e_L34 e_x32 e_x31 e_x30 e_x27; kernel_rfl) g29) (by kernel_rfl) (by subst e_L34 e_x32 e_x31 e_x30 e_x27; kernel_rfl), ⟨QF_at (i := 8) (d := 65) (x := .lf (.v (.int .i64 x30))) (show OpAt _ _ _ 8 65 (.lf (.v (.int .i64 x30))) from by rw [e_x30]; exact At_ldO1 (d := 65) (b := 12) (off := 0 + (v28).toNat * 1) (base := 0) (q := 0 + (v28).toNat * 1) (n := 3) (k := .i64) (L := [u2, (1000 : Int), (0 : Int)]) (by subst e_L34 e_x32 e_x31 e_x30 e_x27; kernel_rfl) (by subst e_L34 e_x32 e_x31 e_x30 e_x27; kernel_rfl) (by omega) (by omega)) (by kernel_rfl) (by subst e_L34 e_x32 e_x31 e_x30 e_x27; kernel_rfl), ⟨QF_at (i := 11) (d := 68) (x := .lf (.vel 49 1 ((x21).toNat) 0)) (show OpAt _ _ _ 11 68 (.lf (.vel 49 1 ((x21).toNat) 0)) from by exact At_idxV (d := 68) (z := x21) (n := 49) (sz := 1) (v := ⟨2, 1, List.length L22, ints .i64 L22⟩) (by subst e_L34 e_x32 e_x31 e_x30 e_x27; kernel_rfl) (by subst e_L34 e_x32 e_x31 e_x30 e_x27; kernel_rfl) g33) (by kernel_rfl) (by subst e_L34 e_x32 e_x31 e_x30 e_x27; kernel_rfl), trivial⟩⟩⟩⟩) (TE_stC (len2 := List.length L34) (m := 1) (n := 49) (sz := 1) (j := (x21).toNat) (q := 0) (e := 2) (len := List.length L22) (c := [.one (.v (.int .i64 x32))]) (cs0 := ints .i64 L22) (cs2 := ints .i64 L34) (by subst e_L34 e_x32 e_x31 e_x30 e_x27; kernel_rfl) (by kernel_rfl) (by subst e_L34 e_x32 e_x31 e_x30 e_x27; kernel_rfl) (vle (toNat_lt g33)) (by kernel_rfl) (by rw [e_L34]; exact set1_ints (toNat_lt g33)) (by rw [e_L34, List.length_set]) ?_) 
                refine TL_nil (stageQ_of [] (by kernel_rfl) trivial ?_)
                refine Stage_nil (stage_all' [] [] (by kernel_rfl) (by subst e_L34 e_x32 e_x31 e_x30 e_x27; kernel_rfl) (by kernel_rfl) trivial) ?_
                refine thenQ_n ?_
                refine T_keep (s' := { σ := [(3, .lf (.v (.int .i64 u3))), (10, .lf (.v (.pointer (some ⟨C16b, 0, none⟩)))), (12, .lf (.own 12 0)), (13, .lf (.vec 49)), (14, .lf (.v (.int .i64 x20))), (15, .lf (.v (.int .i64 x21))), (50, .lf (.v (.slice Au1 (List.length u1) cu1))), (51, .lf (.v (.int .i64 (List.length u1 : Int)))), (52, .lf (.v (.int .i64 x21)))], H := [(12, [.arr .i64 3 [u2, (1000 : Int), (0 : Int)]])], V := [(49, ⟨2, 1, List.length L34, ints .i64 L34⟩)], M := M6, ds := [] }) [3, 10, 12, 13, 14, 15, 50, 51, 52] [12] [49] (by subst e_L34 e_x32 e_x31 e_x30 e_x27; kernel_rfl) ?_
                refine T_region (id := 14) (by kernel_rfl) ?_
                refine TI_segK (i := 0) (j := 3) (s' := { σ := [(3, .lf (.v (.int .i64 u3))), (10, .lf (.v (.pointer (some ⟨C16b, 0, none⟩)))), (12, .lf (.own 12 0)), (13, .lf (.vec 49)), (50, .lf (.v (.slice Au1 (List.length u1) cu1))), (51, .lf (.v (.int .i64 (List.length u1 : Int)))), (52, .lf (.v (.int .i64 x21))), (69, .lf (.v (.int .i64 x20))), (70, .lf (.vec 49)), (71, .lf (.v (.int .i64 x21)))], H := [(12, [.arr .i64 3 [u2, (1000 : Int), (0 : Int)]])], V := [(49, ⟨2, 1, List.length L34, ints .i64 L34⟩)], M := M6, ds := [] }) [3, 10, 12, 13, 50, 51, 52, 69, 70, 71] [12] [49] (by kernel_rfl) (by kernel_rfl) ?_
                obtain ⟨g35, h⟩ := gd_some h
                refine TI_at (i := 3) (d := 72) (x := .lf (.vel 49 1 ((x21).toNat) 0)) (by exact At_idxV (d := 72) (z := x21) (n := 49) (sz := 1) (v := ⟨2, 1, List.length L34, ints .i64 L34⟩) (by kernel_rfl) (by kernel_rfl) g35) (by kernel_rfl) trivial ?_
                obtain ⟨x36, e_x36, h⟩ := lt_some h
                refine TI_at (i := 4) (d := 73) (x := .lf (.v (.int .i64 x36))) (by rw [e_x36]; exact At_ldVI (d := 73) (n := 49) (q := (x21).toNat) (k := .i64) (L := L34) (by subst e_x36; kernel_rfl) (v := ⟨2, 1, List.length L34, ints .i64 L34⟩) (by subst e_x36; kernel_rfl) rfl (toNat_lt g35)) (by kernel_rfl) trivial ?_
                obtain ⟨x37, e_x37, h⟩ := lt_some h
                refine TI_segK (i := 5) (j := 7) (s' := { σ := [(3, .lf (.v (.int .i64 u3))), (10, .lf (.v (.pointer (some ⟨C16b, 0, none⟩)))), (12, .lf (.own 12 0)), (13, .lf (.vec 49)), (14, .lf (.v (.int .i64 x37))), (50, .lf (.v (.slice Au1 (List.length u1) cu1))), (51, .lf (.v (.int .i64 (List.length u1 : Int)))), (52, .lf (.v (.int .i64 x21)))], H := [(12, [.arr .i64 3 [u2, (1000 : Int), (0 : Int)]])], V := [(49, ⟨2, 1, List.length L34, ints .i64 L34⟩)], M := M6, ds := [] }) [3, 10, 12, 13, 14, 50, 51, 52] [12] [49] (by subst e_x37; kernel_rfl) (by kernel_rfl) ?_
                refine TI_end (by kernel_rfl) ?_
                refine blockQ_n ?_
                refine thenQ_n ?_
                refine T_region (id := 15) (by kernel_rfl) ?_
                obtain ⟨x38, e_x38, h⟩ := lt_some h
                refine TI_segK (i := 0) (j := 2) (s' := { σ := [(3, .lf (.v (.int .i64 u3))), (10, .lf (.v (.pointer (some ⟨C16b, 0, none⟩)))), (12, .lf (.own 12 0)), (13, .lf (.vec 49)), (14, .lf (.v (.int .i64 x37))), (50, .lf (.v (.slice Au1 (List.length u1) cu1))), (51, .lf (.v (.int .i64 (List.length u1 : Int)))), (52, .lf (.v (.int .i64 x38)))], H := [(12, [.arr .i64 3 [u2, (1000 : Int), (0 : Int)]])], V := [(49, ⟨2, 1, List.length L34, ints .i64 L34⟩)], M := M6, ds := [] }) [3, 10, 12, 13, 14, 50, 51, 52] [12] [49] (by subst e_x38; kernel_rfl) (by kernel_rfl) ?_
                refine TI_end (by kernel_rfl) ?_
                refine thenQ_n ?_
                exact ⟨n23, Nat.lt_succ_self _, x37, x38, L34, keep_sub (ts := [3, 10, 12, 13, 14, 50, 51, 52]) (hs := [12]) (vs := [49]) (by kernel_rfl), h⟩
              | false =>
                replace h := sp_f h
                refine T_condF (x := (.tmp 53)) (c1 := (sub [1, 1, 1, 1, 1, 1, 1, 0, 1, 0, 0, 1, 0, 0] (bodyOf Try.f19))) (c2 := (sub [1, 1, 1, 1, 1, 1, 1, 0, 1, 0, 0, 1, 0, 1] (bodyOf Try.f19))) (by kernel_rfl) (by kernel_rfl) ?_
                refine T_keep (s' := { σ := [(3, .lf (.v (.int .i64 u3))), (13, .lf (.vec 49)), (14, .lf (.v (.int .i64 x20)))], H := [], V := [(49, ⟨2, 1, List.length L22, ints .i64 L22⟩)], M := M6, ds := [] }) [3, 13, 14] [] [49] (by kernel_rfl) ?_
                refine T_exit (id := 0) (by kernel_rfl) ?_
                refine thenQ_x ?_
                refine thenQ_x ?_
                refine blockQ_x ?_
                refine thenQ_n ?_
                exact ⟨x20, L22, keep_sub (ts := [3, 13, 14]) (hs := []) (vs := [49]) (by kernel_rfl), h⟩
          · rintro s' ⟨x17, L18, hsub, h⟩
            subst e_j19
            refine thenQ_n ?_
            refine T_sub hsub ?_
            refine T_seq (c1 := (sub [1, 1, 1, 1, 1, 1, 1, 1, 0] (bodyOf Try.f19))) (c2 := (sub [1, 1, 1, 1, 1, 1, 1, 1, 1] (bodyOf Try.f19))) (by kernel_rfl) ?_
            refine T_seq (c1 := (sub [1, 1, 1, 1, 1, 1, 1, 1, 0, 0] (bodyOf Try.f19))) (c2 := (sub [1, 1, 1, 1, 1, 1, 1, 1, 0, 1] (bodyOf Try.f19))) (by kernel_rfl) ?_
            refine T_region (id := 16) (by kernel_rfl) ?_
            obtain ⟨b39, e_b39, h⟩ := lt_some h
            refine TI_segK (i := 0) (j := 3) (s' := { σ := [(3, .lf (.v (.int .i64 u3))), (13, .lf (.vec 49)), (14, .lf (.v (.int .i64 x17))), (78, .lf (.v (.bool b39)))], H := [], V := [(49, ⟨2, 1, List.length L18, ints .i64 L18⟩)], M := M6, ds := [] }) [3, 13, 14, 78] [] [49] (by subst e_b39; kernel_rfl) (by kernel_rfl) ?_
            refine TI_end (by kernel_rfl) ?_
            refine thenQ_n ?_
            cases b39 with
            | true =>
              replace h := sp_t h
              refine T_condT (x := (.tmp 78)) (c1 := (sub [1, 1, 1, 1, 1, 1, 1, 1, 0, 1, 0] (bodyOf Try.f19))) (c2 := (sub [1, 1, 1, 1, 1, 1, 1, 1, 0, 1, 1] (bodyOf Try.f19))) (by kernel_rfl) (by kernel_rfl) ?_
              refine T_keep (s' := { σ := [(13, .lf (.vec 49))], H := [], V := [(49, ⟨2, 1, List.length L18, ints .i64 L18⟩)], M := M6, ds := [] }) [13] [] [49] (by kernel_rfl) ?_
              refine T_seq (c1 := (sub [1, 1, 1, 1, 1, 1, 1, 1, 0, 1, 0, 0] (bodyOf Try.f19))) (c2 := (sub [1, 1, 1, 1, 1, 1, 1, 1, 0, 1, 0, 1] (bodyOf Try.f19))) (by kernel_rfl) ?_
              refine T_region (id := 17) (by kernel_rfl) ?_
              refine TI_segK (i := 0) (j := 3) (s' := { σ := [(8, .lf (.vec 49)), (9, .lf (.v (.int .i64 (0 : Int))))], H := [], V := [(49, ⟨2, 1, List.length L18, ints .i64 L18⟩)], M := M6, ds := [] }) [8, 9] [] [49] (by kernel_rfl) (by kernel_rfl) ?_
              refine TI_end (by kernel_rfl) ?_
              refine thenQ_n ?_
              refine T_turn (turn_pubV 49 (v := ⟨2, 1, List.length L18, ints .i64 L18⟩) (by kernel_rfl)) ?_
              rintro _ ⟨A40, c41, M42, rfl, hSA40, hcA40, -, hNA40, hM42⟩
              have fA40 : SlI M42 A40 c41 .i64 L18 := ⟨hSA40, hcA40⟩
              refine T_keep (s' := { σ := [(8, .lf (.v (.slice A40 (List.length L18) c41))), (9, .lf (.v (.int .i64 (0 : Int))))], H := [], V := [], M := M42, ds := [] }) [8, 9] [] [] (by kernel_rfl) ?_
              refine T_ret (by kernel_rfl) ?_
              refine thenQ_r ?_
              have h := Option.some.inj h
              subst h
              refine fin_ret (.tup [(some (.v (.slice A40 (List.length L18) c41)), []), (some (.v (.int .i64 (0 : Int))), [])]) (by kernel_rfl) (by kernel_rfl) rfl ?_
              exact ⟨A40, c41, rfl, fA40⟩
            | false =>
              replace h := sp_f h
              refine T_condF (x := (.tmp 78)) (c1 := (sub [1, 1, 1, 1, 1, 1, 1, 1, 0, 1, 0] (bodyOf Try.f19))) (c2 := (sub [1, 1, 1, 1, 1, 1, 1, 1, 0, 1, 1] (bodyOf Try.f19))) (by kernel_rfl) (by kernel_rfl) ?_
              refine T_keep (s' := { σ := [(3, .lf (.v (.int .i64 u3))), (13, .lf (.vec 49)), (14, .lf (.v (.int .i64 x17)))], H := [], V := [(49, ⟨2, 1, List.length L18, ints .i64 L18⟩)], M := M6, ds := [] }) [3, 13, 14] [] [49] (by kernel_rfl) ?_
              refine T_skip (by kernel_rfl) ?_
              refine thenQ_n ?_
              refine T_seq (c1 := (sub [1, 1, 1, 1, 1, 1, 1, 1, 1, 0] (bodyOf Try.f19))) (c2 := (sub [1, 1, 1, 1, 1, 1, 1, 1, 1, 1] (bodyOf Try.f19))) (by kernel_rfl) ?_
              refine T_region (id := 18) (by kernel_rfl) ?_
              refine TI_segK (i := 0) (j := 2) (s' := { σ := [(3, .lf (.v (.int .i64 u3))), (13, .lf (.vec 49)), (14, .lf (.v (.int .i64 x17))), (81, .lf (.v (.int .i64 (List.length L18 : Int))))], H := [], V := [(49, ⟨2, 1, List.length L18, ints .i64 L18⟩)], M := M6, ds := [] }) [3, 13, 14, 81] [] [49] (by kernel_rfl) (by kernel_rfl) ?_
              obtain ⟨g43, h⟩ := gd_some h
              obtain ⟨W44, e_W44, h⟩ := lt_some h
              refine TI_of (i := 2) (by kernel_rfl) (TE_makeC (len2 := List.length W44) (d := 82) (e := 2) (sz := 1) (bytes := 8) (zs := [.int .i64 0]) (cs := ints .i64 W44) (z := (List.length L18 : Int)) (by subst e_W44; kernel_rfl) (by kernel_rfl) g43.1 g43.2 rfl (rep_ints' e_W44) (by rw [e_W44, List.length_replicate]) ?_)
              refine TI_segK (i := 3) (j := 6) (s' := { σ := [(3, .lf (.v (.int .i64 u3))), (13, .lf (.vec 49)), (14, .lf (.v (.int .i64 x17))), (17, .lf (.vec 82)), (18, .lf (.v (.int .i64 u3)))], H := [], V := [(49, ⟨2, 1, List.length L18, ints .i64 L18⟩), (82, ⟨2, 1, List.length W44, ints .i64 W44⟩)], M := M6, ds := [] }) [3, 13, 14, 17, 18] [] [49, 82] (by kernel_rfl) (by kernel_rfl) ?_
              refine TI_end (by kernel_rfl) ?_
              refine thenQ_n ?_
              refine T_seq (c1 := (sub [1, 1, 1, 1, 1, 1, 1, 1, 1, 1, 0] (bodyOf Try.f19))) (c2 := (sub [1, 1, 1, 1, 1, 1, 1, 1, 1, 1, 1] (bodyOf Try.f19))) (by kernel_rfl) ?_
              refine T_seq (c1 := (sub [1, 1, 1, 1, 1, 1, 1, 1, 1, 1, 0, 0] (bodyOf Try.f19))) (c2 := (sub [1, 1, 1, 1, 1, 1, 1, 1, 1, 1, 0, 1] (bodyOf Try.f19))) (by kernel_rfl) ?_
              refine T_region (id := 19) (by kernel_rfl) ?_
              refine TI_segK (i := 0) (j := 3) (s' := { σ := [(3, .lf (.v (.int .i64 u3))), (13, .lf (.vec 49)), (14, .lf (.v (.int .i64 x17))), (17, .lf (.vec 82)), (18, .lf (.v (.int .i64 u3))), (84, .lf (.vec 49)), (85, .lf (.v (.int .i64 (List.length L18 : Int)))), (86, .lf (.v (.int .i64 (0 : Int))))], H := [], V := [(49, ⟨2, 1, List.length L18, ints .i64 L18⟩), (82, ⟨2, 1, List.length W44, ints .i64 W44⟩)], M := M6, ds := [] }) [3, 13, 14, 17, 18, 84, 85, 86] [] [49, 82] (by kernel_rfl) (by kernel_rfl) ?_
              refine TI_end (by kernel_rfl) ?_
              refine thenQ_n ?_
              obtain ⟨j47, e_j47, h⟩ := jn_some h
              refine T_bcut (id := 2) (c1 := (sub [1, 1, 1, 1, 1, 1, 1, 1, 1, 1, 0, 1, 0] (bodyOf Try.f19))) (fun s' => ∃ (x45 : Int) (L46 : List Int), Sub { σ := [(13, .lf (.vec 49)), (17, .lf (.vec 82)), (18, .lf (.v (.int .i64 x45)))], H := [], V := [(49, ⟨2, 1, List.length L18, ints .i64 L18⟩), (82, ⟨2, 1, List.length L46, ints .i64 L46⟩)], M := M6, ds := [] } s' ∧ j47 x45 L46 = some r) (by kernel_rfl) ?_ ?_
              · refine T_loop (c1 := (sub [1, 1, 1, 1, 1, 1, 1, 1, 1, 1, 0, 1, 0, 0] (bodyOf Try.f19))) (by kernel_rfl) (fun n51 s' => ∃ (x48 : Int) (x49 : Int) (L50 : List Int), Sub { σ := [(3, .lf (.v (.int .i64 u3))), (13, .lf (.vec 49)), (14, .lf (.v (.int .i64 x17))), (17, .lf (.vec 82)), (18, .lf (.v (.int .i64 x48))), (84, .lf (.vec 49)), (85, .lf (.v (.int .i64 (List.length L18 : Int)))), (86, .lf (.v (.int .i64 x49)))], H := [], V := [(49, ⟨2, 1, List.length L18, ints .i64 L18⟩), (82, ⟨2, 1, List.length L50, ints .i64 L50⟩)], M := M6, ds := [] } s' ∧ p19_l2 k u3 x17 L18 j47 n51 x48 x49 L50 = some r) (k := k) ⟨u3, (0 : Int), W44, keep_sub (ts := [3, 13, 14, 17, 18, 84, 85, 86]) (hs := []) (vs := [49, 82]) (by kernel_rfl), h⟩ ?_
                rintro n51 s' ⟨x48, x49, L50, hsub, h⟩
                cases n51 with
                | zero => rw [p19_l2] at h; cases h
                | succ n51 =>
                  rw [p19_l2] at h
                  refine T_sub hsub ?_
                  refine T_seq (c1 := (sub [1, 1, 1, 1, 1, 1, 1, 1, 1, 1, 0, 1, 0, 0, 0] (bodyOf Try.f19))) (c2 := (sub [1, 1, 1, 1, 1, 1, 1, 1, 1, 1, 0, 1, 0, 0, 1] (bodyOf Try.f19))) (by kernel_rfl) ?_
                  refine T_region (id := 20) (by kernel_rfl) ?_
                  obtain ⟨b52, e_b52, h⟩ := lt_some h
                  refine TI_segK (i := 0) (j := 1) (s' := { σ := [(3, .lf (.v (.int .i64 u3))), (13, .lf (.vec 49)), (14, .lf (.v (.int .i64 x17))), (17, .lf (.vec 82)), (18, .lf (.v (.int .i64 x48))), (84, .lf (.vec 49)), (85, .lf (.v (.int .i64 (List.length L18 : Int)))), (86, .lf (.v (.int .i64 x49))), (87, .lf (.v (.bool b52)))], H := [], V := [(49, ⟨2, 1, List.length L18, ints .i64 L18⟩), (82, ⟨2, 1, List.length L50, ints .i64 L50⟩)], M := M6, ds := [] }) [3, 13, 14, 17, 18, 84, 85, 86, 87] [] [49, 82] (by subst e_b52; kernel_rfl) (by kernel_rfl) ?_
                  refine TI_end (by kernel_rfl) ?_
                  refine thenQ_n ?_
                  refine T_seq (c1 := (sub [1, 1, 1, 1, 1, 1, 1, 1, 1, 1, 0, 1, 0, 0, 1, 0] (bodyOf Try.f19))) (c2 := (sub [1, 1, 1, 1, 1, 1, 1, 1, 1, 1, 0, 1, 0, 0, 1, 1] (bodyOf Try.f19))) (by kernel_rfl) ?_
                  cases b52 with
                  | true =>
                    replace h := sp_t h
                    refine T_condT (x := (.tmp 87)) (c1 := (sub [1, 1, 1, 1, 1, 1, 1, 1, 1, 1, 0, 1, 0, 0, 1, 0, 0] (bodyOf Try.f19))) (c2 := (sub [1, 1, 1, 1, 1, 1, 1, 1, 1, 1, 0, 1, 0, 0, 1, 0, 1] (bodyOf Try.f19))) (by kernel_rfl) (by kernel_rfl) ?_
                    refine T_keep (s' := { σ := [(3, .lf (.v (.int .i64 u3))), (13, .lf (.vec 49)), (14, .lf (.v (.int .i64 x17))), (17, .lf (.vec 82)), (18, .lf (.v (.int .i64 x48))), (84, .lf (.vec 49)), (85, .lf (.v (.int .i64 (List.length L18 : Int)))), (86, .lf (.v (.int .i64 x49)))], H := [], V := [(49, ⟨2, 1, List.length L18, ints .i64 L18⟩), (82, ⟨2, 1, List.length L50, ints .i64 L50⟩)], M := M6, ds := [] }) [3, 13, 14, 17, 18, 84, 85, 86] [] [49, 82] (by kernel_rfl) ?_
                    refine T_skip (by kernel_rfl) ?_
                    refine thenQ_n ?_
                    refine T_seq (c1 := (sub [1, 1, 1, 1, 1, 1, 1, 1, 1, 1, 0, 1, 0, 0, 1, 1, 0] (bodyOf Try.f19))) (c2 := (sub [1, 1, 1, 1, 1, 1, 1, 1, 1, 1, 0, 1, 0, 0, 1, 1, 1] (bodyOf Try.f19))) (by kernel_rfl) ?_
                    refine T_block (id := 3) (c1 := (sub [1, 1, 1, 1, 1, 1, 1, 1, 1, 1, 0, 1, 0, 0, 1, 1, 0, 0] (bodyOf Try.f19))) (by kernel_rfl) ?_
                    refine T_seq (c1 := (sub [1, 1, 1, 1, 1, 1, 1, 1, 1, 1, 0, 1, 0, 0, 1, 1, 0, 0, 0] (bodyOf Try.f19))) (c2 := (sub [1, 1, 1, 1, 1, 1, 1, 1, 1, 1, 0, 1, 0, 0, 1, 1, 0, 0, 1] (bodyOf Try.f19))) (by kernel_rfl) ?_
                    refine T_region (id := 21) (by kernel_rfl) ?_
                    refine TI_segK (i := 0) (j := 1) (s' := { σ := [(3, .lf (.v (.int .i64 u3))), (13, .lf (.vec 49)), (14, .lf (.v (.int .i64 x17))), (17, .lf (.vec 82)), (18, .lf (.v (.int .i64 x48))), (84, .lf (.vec 49)), (85, .lf (.v (.int .i64 (List.length L18 : Int)))), (86, .lf (.v (.int .i64 x49))), (88, .lf (.v (.int .i64 x49)))], H := [], V := [(49, ⟨2, 1, List.length L18, ints .i64 L18⟩), (82, ⟨2, 1, List.length L50, ints .i64 L50⟩)], M := M6, ds := [] }) [3, 13, 14, 17, 18, 84, 85, 86, 88] [] [49, 82] (by kernel_rfl) (by kernel_rfl) ?_
                    obtain ⟨g53, h⟩ := gd_some h
                    refine TI_at (i := 1) (d := 89) (x := .lf (.vel 49 1 ((x49).toNat) 0)) (by exact At_idxV (d := 89) (z := x49) (n := 49) (sz := 1) (v := ⟨2, 1, List.length L18, ints .i64 L18⟩) (by kernel_rfl) (by kernel_rfl) g53) (by kernel_rfl) trivial ?_
                    obtain ⟨x54, e_x54, h⟩ := lt_some h
                    refine TI_at (i := 2) (d := 90) (x := .lf (.v (.int .i64 x54))) (by rw [e_x54]; exact At_ldVI (d := 90) (n := 49) (q := (x49).toNat) (k := .i64) (L := L18) (by subst e_x54; kernel_rfl) (v := ⟨2, 1, List.length L18, ints .i64 L18⟩) (by subst e_x54; kernel_rfl) rfl (toNat_lt g53)) (by kernel_rfl) trivial ?_
                    refine TI_segK (i := 3) (j := 5) (s' := { σ := [(3, .lf (.v (.int .i64 u3))), (13, .lf (.vec 49)), (14, .lf (.v (.int .i64 x17))), (17, .lf (.vec 82)), (18, .lf (.v (.int .i64 x48))), (19, .lf (.v (.int .i64 x49))), (20, .lf (.v (.int .i64 x54))), (84, .lf (.vec 49)), (85, .lf (.v (.int .i64 (List.length L18 : Int)))), (86, .lf (.v (.int .i64 x49)))], H := [], V := [(49, ⟨2, 1, List.length L18, ints .i64 L18⟩), (82, ⟨2, 1, List.length L50, ints .i64 L50⟩)], M := M6, ds := [] }) [3, 13, 14, 17, 18, 19, 20, 84, 85, 86] [] [49, 82] (by kernel_rfl) (by kernel_rfl) ?_
                    refine TI_end (by kernel_rfl) ?_
                    refine thenQ_n ?_
                    refine T_seq (c1 := (sub [1, 1, 1, 1, 1, 1, 1, 1, 1, 1, 0, 1, 0, 0, 1, 1, 0, 0, 1, 0] (bodyOf Try.f19))) (c2 := (sub [1, 1, 1, 1, 1, 1, 1, 1, 1, 1, 0, 1, 0, 0, 1, 1, 0, 0, 1, 1] (bodyOf Try.f19))) (by kernel_rfl) ?_
                    refine T_region (id := 22) (by kernel_rfl) ?_
                    obtain ⟨x55, e_x55, h⟩ := lt_some h
                    refine TI_segK (i := 0) (j := 6) (s' := { σ := [(3, .lf (.v (.int .i64 u3))), (13, .lf (.vec 49)), (14, .lf (.v (.int .i64 x17))), (17, .lf (.vec 82)), (18, .lf (.v (.int .i64 x48))), (19, .lf (.v (.int .i64 x49))), (84, .lf (.vec 49)), (85, .lf (.v (.int .i64 (List.length L18 : Int)))), (86, .lf (.v (.int .i64 x49))), (91, .lf (.vec 82)), (92, .lf (.v (.int .i64 x49))), (95, .lf (.v (.int .i64 x55))), (96, .lf (.v (.int .i64 x17)))], H := [], V := [(49, ⟨2, 1, List.length L18, ints .i64 L18⟩), (82, ⟨2, 1, List.length L50, ints .i64 L50⟩)], M := M6, ds := [] }) [3, 13, 14, 17, 18, 19, 84, 85, 86, 91, 92, 95, 96] [] [49, 82] (by subst e_x55; kernel_rfl) (by kernel_rfl) ?_
                    obtain ⟨g56, h⟩ := gd_some h
                    obtain ⟨x57, e_x57, h⟩ := lt_some h
                    refine TI_at (i := 6) (d := 97) (x := .lf (.v (.int .i64 x57))) (by rw [e_x57]; exact At_quo (d := 97) (k := .i64) (m := x55) (n := x17) (by subst e_x57; kernel_rfl) g56) (by kernel_rfl) trivial ?_
                    obtain ⟨g58, h⟩ := gd_some h
                    refine TI_at (i := 7) (d := 98) (x := .lf (.vel 82 1 ((x49).toNat) 0)) (by exact At_idxV (d := 98) (z := x49) (n := 82) (sz := 1) (v := ⟨2, 1, List.length L50, ints .i64 L50⟩) (by kernel_rfl) (by kernel_rfl) g58) (by kernel_rfl) trivial ?_
                    obtain ⟨L59, e_L59, h⟩ := lt_some h
                    refine TI_of (i := 8) (by kernel_rfl) (TE_stC (len2 := List.length L59) (m := 1) (n := 82) (sz := 1) (j := (x49).toNat) (q := 0) (e := 2) (len := List.length L50) (c := [.one (.v (.int .i64 x57))]) (cs0 := ints .i64 L50) (cs2 := ints .i64 L59) (by subst e_L59; kernel_rfl) (by kernel_rfl) (by subst e_L59; kernel_rfl) (vle (toNat_lt g58)) (by kernel_rfl) (by rw [e_L59]; exact set1_ints (toNat_lt g58)) (by rw [e_L59, List.length_set]) ?_)
                    refine TI_segK (i := 9) (j := 9) (s' := { σ := [(3, .lf (.v (.int .i64 u3))), (13, .lf (.vec 49)), (14, .lf (.v (.int .i64 x17))), (17, .lf (.vec 82)), (18, .lf (.v (.int .i64 x48))), (19, .lf (.v (.int .i64 x49))), (84, .lf (.vec 49)), (85, .lf (.v (.int .i64 (List.length L18 : Int)))), (86, .lf (.v (.int .i64 x49)))], H := [], V := [(49, ⟨2, 1, List.length L18, ints .i64 L18⟩), (82, ⟨2, 1, List.length L59, ints .i64 L59⟩)], M := M6, ds := [] }) [3, 13, 14, 17, 18, 19, 84, 85, 86] [] [49, 82] (by kernel_rfl) (by kernel_rfl) ?_
                    refine TI_end (by kernel_rfl) ?_
                    refine thenQ_n ?_
                    refine T_region (id := 23) (by kernel_rfl) ?_
                    refine TI_segK (i := 0) (j := 3) (s' := { σ := [(3, .lf (.v (.int .i64 u3))), (13, .lf (.vec 49)), (14, .lf (.v (.int .i64 x17))), (17, .lf (.vec 82)), (84, .lf (.vec 49)), (85, .lf (.v (.int .i64 (List.length L18 : Int)))), (86, .lf (.v (.int .i64 x49))), (99, .lf (.v (.int .i64 x48))), (100, .lf (.vec 82)), (101, .lf (.v (.int .i64 x49)))], H := [], V := [(49, ⟨2, 1, List.length L18, ints .i64 L18⟩), (82, ⟨2, 1, List.length L59, ints .i64 L59⟩)], M := M6, ds := [] }) [3, 13, 14, 17, 84, 85, 86, 99, 100, 101] [] [49, 82] (by kernel_rfl) (by kernel_rfl) ?_
                    obtain ⟨g60, h⟩ := gd_some h
                    refine TI_at (i := 3) (d := 102) (x := .lf (.vel 82 1 ((x49).toNat) 0)) (by exact At_idxV (d := 102) (z := x49) (n := 82) (sz := 1) (v := ⟨2, 1, List.length L59, ints .i64 L59⟩) (by kernel_rfl) (by kernel_rfl) g60) (by kernel_rfl) trivial ?_
                    obtain ⟨x61, e_x61, h⟩ := lt_some h
                    refine TI_at (i := 4) (d := 103) (x := .lf (.v (.int .i64 x61))) (by rw [e_x61]; exact At_ldVI (d := 103) (n := 82) (q := (x49).toNat) (k := .i64) (L := L59) (by subst e_x61; kernel_rfl) (v := ⟨2, 1, List.length L59, ints .i64 L59⟩) (by subst e_x61; kernel_rfl) rfl (toNat_lt g60)) (by kernel_rfl) trivial ?_
                    obtain ⟨x62, e_x62, h⟩ := lt_some h
                    refine TI_segK (i := 5) (j := 7) (s' := { σ := [(3, .lf (.v (.int .i64 u3))), (13, .lf (.vec 49)), (14, .lf (.v (.int .i64 x17))), (17, .lf (.vec 82)), (18, .lf (.v (.int .i64 x62))), (84, .lf (.vec 49)), (85, .lf (.v (.int .i64 (List.length L18 : Int)))), (86, .lf (.v (.int .i64 x49)))], H := [], V := [(49, ⟨2, 1, List.length L18, ints .i64 L18⟩), (82, ⟨2, 1, List.length L59, ints .i64 L59⟩)], M := M6, ds := [] }) [3, 13, 14, 17, 18, 84, 85, 86] [] [49, 82] (by subst e_x62; kernel_rfl) (by kernel_rfl) ?_
                    refine TI_end (by kernel_rfl) ?_
                    refine blockQ_n ?_
                    refine thenQ_n ?_
                    refine T_region (id := 24) (by kernel_rfl) ?_
                    obtain ⟨x63, e_x63, h⟩ := lt_some h
                    refine TI_segK (i := 0) (j := 2) (s' := { σ := [(3, .lf (.v (.int .i64 u3))), (13, .lf (.vec 49)), (14, .lf (.v (.int .i64 x17))), (17, .lf (.vec 82)), (18, .lf (.v (.int .i64 x62))), (84, .lf (.vec 49)), (85, .lf (.v (.int .i64 (List.length L18 : Int)))), (86, .lf (.v (.int .i64 x63)))], H := [], V := [(49, ⟨2, 1, List.length L18, ints .i64 L18⟩), (82, ⟨2, 1, List.length L59, ints .i64 L59⟩)], M := M6, ds := [] }) [3, 13, 14, 17, 18, 84, 85, 86] [] [49, 82] (by subst e_x63; kernel_rfl) (by kernel_rfl) ?_
                    refine TI_end (by kernel_rfl) ?_
                    refine thenQ_n ?_
                    exact ⟨n51, Nat.lt_succ_self _, x62, x63, L59, keep_sub (ts := [3, 13, 14, 17, 18, 84, 85, 86]) (hs := []) (vs := [49, 82]) (by kernel_rfl), h⟩
                  | false =>
                    replace h := sp_f h
                    refine T_condF (x := (.tmp 87)) (c1 := (sub [1, 1, 1, 1, 1, 1, 1, 1, 1, 1, 0, 1, 0, 0, 1, 0, 0] (bodyOf Try.f19))) (c2 := (sub [1, 1, 1, 1, 1, 1, 1, 1, 1, 1, 0, 1, 0, 0, 1, 0, 1] (bodyOf Try.f19))) (by kernel_rfl) (by kernel_rfl) ?_
                    refine T_keep (s' := { σ := [(13, .lf (.vec 49)), (17, .lf (.vec 82)), (18, .lf (.v (.int .i64 x48)))], H := [], V := [(49, ⟨2, 1, List.length L18, ints .i64 L18⟩), (82, ⟨2, 1, List.length L50, ints .i64 L50⟩)], M := M6, ds := [] }) [13, 17, 18] [] [49, 82] (by kernel_rfl) ?_
                    refine T_exit (id := 2) (by kernel_rfl) ?_
                    refine thenQ_x ?_
                    refine thenQ_x ?_
                    refine blockQ_x ?_
                    refine thenQ_n ?_
                    exact ⟨x48, L50, keep_sub (ts := [13, 17, 18]) (hs := []) (vs := [49, 82]) (by kernel_rfl), h⟩
              · rintro s' ⟨x45, L46, hsub, h⟩
                subst e_j47
                refine thenQ_n ?_
                refine T_sub hsub ?_
                refine T_seq (c1 := (sub [1, 1, 1, 1, 1, 1, 1, 1, 1, 1, 1, 0] (bodyOf Try.f19))) (c2 := (sub [1, 1, 1, 1, 1, 1, 1, 1, 1, 1, 1, 1] (bodyOf Try.f19))) (by kernel_rfl) ?_
                refine T_seq (c1 := (sub [1, 1, 1, 1, 1, 1, 1, 1, 1, 1, 1, 0, 0] (bodyOf Try.f19))) (c2 := (sub [1, 1, 1, 1, 1, 1, 1, 1, 1, 1, 1, 0, 1] (bodyOf Try.f19))) (by kernel_rfl) ?_
                refine T_region (id := 25) (by kernel_rfl) ?_
                refine TI_segK (i := 0) (j := 3) (s' := { σ := [(13, .lf (.vec 49)), (17, .lf (.vec 82)), (18, .lf (.v (.int .i64 x45))), (107, .lf (.v (.int .i64 (List.length L46 : Int)))), (108, .lf (.v (.int .i64 (0 : Int))))], H := [], V := [(49, ⟨2, 1, List.length L18, ints .i64 L18⟩), (82, ⟨2, 1, List.length L46, ints .i64 L46⟩)], M := M6, ds := [] }) [13, 17, 18, 107, 108] [] [49, 82] (by kernel_rfl) (by kernel_rfl) ?_
                refine TI_end (by kernel_rfl) ?_
                refine thenQ_n ?_
                obtain ⟨j65, e_j65, h⟩ := jn_some h
                refine T_bcut (id := 4) (c1 := (sub [1, 1, 1, 1, 1, 1, 1, 1, 1, 1, 1, 0, 1, 0] (bodyOf Try.f19))) (fun s' => ∃ (L64 : List Int), Sub { σ := [(17, .lf (.vec 82))], H := [], V := [(82, ⟨2, 1, List.length L64, ints .i64 L64⟩)], M := M6, ds := [] } s' ∧ j65 L64 = some r) (by kernel_rfl) ?_ ?_
                · refine T_loop (c1 := (sub [1, 1, 1, 1, 1, 1, 1, 1, 1, 1, 1, 0, 1, 0, 0] (bodyOf Try.f19))) (by kernel_rfl) (fun n69 s' => ∃ (x66 : Int) (x67 : Int) (L68 : List Int), Sub { σ := [(13, .lf (.vec 49)), (17, .lf (.vec 82)), (18, .lf (.v (.int .i64 x66))), (107, .lf (.v (.int .i64 (List.length L46 : Int)))), (108, .lf (.v (.int .i64 x67)))], H := [], V := [(49, ⟨2, 1, List.length L18, ints .i64 L18⟩), (82, ⟨2, 1, List.length L68, ints .i64 L68⟩)], M := M6, ds := [] } s' ∧ p19_l3 k L18 L46 j65 n69 x66 x67 L68 = some r) (k := k) ⟨x45, (0 : Int), L46, keep_sub (ts := [13, 17, 18, 107, 108]) (hs := []) (vs := [49, 82]) (by kernel_rfl), h⟩ ?_
                  rintro n69 s' ⟨x66, x67, L68, hsub, h⟩
                  cases n69 with
                  | zero => rw [p19_l3] at h; cases h
                  | succ n69 =>
                    rw [p19_l3] at h
                    refine T_sub hsub ?_
                    refine T_seq (c1 := (sub [1, 1, 1, 1, 1, 1, 1, 1, 1, 1, 1, 0, 1, 0, 0, 0] (bodyOf Try.f19))) (c2 := (sub [1, 1, 1, 1, 1, 1, 1, 1, 1, 1, 1, 0, 1, 0, 0, 1] (bodyOf Try.f19))) (by kernel_rfl) ?_
                    refine T_region (id := 26) (by kernel_rfl) ?_
                    obtain ⟨b70, e_b70, h⟩ := lt_some h
                    refine TI_segK (i := 0) (j := 1) (s' := { σ := [(13, .lf (.vec 49)), (17, .lf (.vec 82)), (18, .lf (.v (.int .i64 x66))), (107, .lf (.v (.int .i64 (List.length L46 : Int)))), (108, .lf (.v (.int .i64 x67))), (109, .lf (.v (.bool b70)))], H := [], V := [(49, ⟨2, 1, List.length L18, ints .i64 L18⟩), (82, ⟨2, 1, List.length L68, ints .i64 L68⟩)], M := M6, ds := [] }) [13, 17, 18, 107, 108, 109] [] [49, 82] (by subst e_b70; kernel_rfl) (by kernel_rfl) ?_
                    refine TI_end (by kernel_rfl) ?_
                    refine thenQ_n ?_
                    refine T_seq (c1 := (sub [1, 1, 1, 1, 1, 1, 1, 1, 1, 1, 1, 0, 1, 0, 0, 1, 0] (bodyOf Try.f19))) (c2 := (sub [1, 1, 1, 1, 1, 1, 1, 1, 1, 1, 1, 0, 1, 0, 0, 1, 1] (bodyOf Try.f19))) (by kernel_rfl) ?_
                    cases b70 with
                    | true =>
                      replace h := sp_t h
                      refine T_condT (x := (.tmp 109)) (c1 := (sub [1, 1, 1, 1, 1, 1, 1, 1, 1, 1, 1, 0, 1, 0, 0, 1, 0, 0] (bodyOf Try.f19))) (c2 := (sub [1, 1, 1, 1, 1, 1, 1, 1, 1, 1, 1, 0, 1, 0, 0, 1, 0, 1] (bodyOf Try.f19))) (by kernel_rfl) (by kernel_rfl) ?_
                      refine T_keep (s' := { σ := [(13, .lf (.vec 49)), (17, .lf (.vec 82)), (18, .lf (.v (.int .i64 x66))), (107, .lf (.v (.int .i64 (List.length L46 : Int)))), (108, .lf (.v (.int .i64 x67)))], H := [], V := [(49, ⟨2, 1, List.length L18, ints .i64 L18⟩), (82, ⟨2, 1, List.length L68, ints .i64 L68⟩)], M := M6, ds := [] }) [13, 17, 18, 107, 108] [] [49, 82] (by kernel_rfl) ?_
                      refine T_skip (by kernel_rfl) ?_
                      refine thenQ_n ?_
                      obtain ⟨j73, e_j73, h⟩ := jn_some h
                      refine T_cut (c1 := (sub [1, 1, 1, 1, 1, 1, 1, 1, 1, 1, 1, 0, 1, 0, 0, 1, 1, 0] (bodyOf Try.f19))) (c2 := (sub [1, 1, 1, 1, 1, 1, 1, 1, 1, 1, 1, 0, 1, 0, 0, 1, 1, 1] (bodyOf Try.f19))) (fun s' => ∃ (x71 : Int) (L72 : List Int), Sub { σ := [(13, .lf (.vec 49)), (17, .lf (.vec 82)), (18, .lf (.v (.int .i64 x71))), (107, .lf (.v (.int .i64 (List.length L46 : Int)))), (108, .lf (.v (.int .i64 x67)))], H := [], V := [(49, ⟨2, 1, List.length L18, ints .i64 L18⟩), (82, ⟨2, 1, List.length L72, ints .i64 L72⟩)], M := M6, ds := [] } s' ∧ j73 x71 L72 = some r) (by kernel_rfl) ?_ ?_
                      · refine T_block (id := 5) (c1 := (sub [1, 1, 1, 1, 1, 1, 1, 1, 1, 1, 1, 0, 1, 0, 0, 1, 1, 0, 0] (bodyOf Try.f19))) (by kernel_rfl) ?_
                        refine T_seq (c1 := (sub [1, 1, 1, 1, 1, 1, 1, 1, 1, 1, 1, 0, 1, 0, 0, 1, 1, 0, 0, 0] (bodyOf Try.f19))) (c2 := (sub [1, 1, 1, 1, 1, 1, 1, 1, 1, 1, 1, 0, 1, 0, 0, 1, 1, 0, 0, 1] (bodyOf Try.f19))) (by kernel_rfl) ?_
                        refine T_region (id := 27) (by kernel_rfl) ?_
                        refine TI_segK (i := 0) (j := 2) (s' := { σ := [(13, .lf (.vec 49)), (17, .lf (.vec 82)), (18, .lf (.v (.int .i64 x66))), (21, .lf (.v (.int .i64 x67))), (107, .lf (.v (.int .i64 (List.length L46 : Int)))), (108, .lf (.v (.int .i64 x67)))], H := [], V := [(49, ⟨2, 1, List.length L18, ints .i64 L18⟩), (82, ⟨2, 1, List.length L68, ints .i64 L68⟩)], M := M6, ds := [] }) [13, 17, 18, 21, 107, 108] [] [49, 82] (by kernel_rfl) (by kernel_rfl) ?_
                        refine TI_end (by kernel_rfl) ?_
                        refine thenQ_n ?_
                        obtain ⟨j75, e_j75, h⟩ := jn_some h
                        refine T_cut (c1 := (sub [1, 1, 1, 1, 1, 1, 1, 1, 1, 1, 1, 0, 1, 0, 0, 1, 1, 0, 0, 1, 0] (bodyOf Try.f19))) (c2 := (sub [1, 1, 1, 1, 1, 1, 1, 1, 1, 1, 1, 0, 1, 0, 0, 1, 1, 0, 0, 1, 1] (bodyOf Try.f19))) (fun s' => ∃ (b74 : Bool), Sub { σ := [(13, .lf (.vec 49)), (17, .lf (.vec 82)), (18, .lf (.v (.int .i64 x66))), (21, .lf (.v (.int .i64 x67))), (107, .lf (.v (.int .i64 (List.length L46 : Int)))), (108, .lf (.v (.int .i64 x67))), (123, .lf (.v (.bool b74)))], H := [], V := [(49, ⟨2, 1, List.length L18, ints .i64 L18⟩), (82, ⟨2, 1, List.length L68, ints .i64 L68⟩)], M := M6, ds := [] } s' ∧ j75 b74 = some r) (by kernel_rfl) ?_ ?_
                        · obtain ⟨b76, e_b76, h⟩ := lt_some h
                          cases b76 with
                          | true =>
                            replace h := sp_t h
                            obtain ⟨g77, h⟩ := gd_some h
                            obtain ⟨x78, e_x78, h⟩ := lt_some h
                            obtain ⟨g79, h⟩ := gd_some h
                            obtain ⟨x80, e_x80, h⟩ := lt_some h
                            obtain ⟨b81, e_b81, h⟩ := lt_some h
                            refine T_draw' (id := 28) [] [0, 0, 0, 0, 0, 0, 0, 0, 0, 0, 0, 0, 0] (by kernel_rfl) (by kernel_rfl) (by kernel_rfl) (by kernel_rfl) [(111, .lf (.v (.int .i64 x66))), (112, .lf (.v (.bool true))), (113, .lf (.v (.bool true))), (114, .lf (.vec 82)), (115, .lf (.v (.int .i64 x67))), (116, .lf (.vel 82 1 ((x67).toNat) 0)), (117, .lf (.v (.int .i64 x78))), (118, .lf (.vec 49)), (119, .lf (.v (.int .i64 x67))), (120, .lf (.vel 49 1 ((x67).toNat) 0)), (121, .lf (.v (.int .i64 x80))), (122, .lf (.v (.bool b81))), (123, .lf (.v (.bool b81)))] (by kernel_rfl) ⟨trivial, ⟨trivial, ⟨trivial, ⟨trivial, ⟨trivial, ⟨trivial, ⟨trivial, ⟨trivial, ⟨trivial, ⟨trivial, ⟨trivial, ⟨trivial, ⟨trivial, trivial⟩⟩⟩⟩⟩⟩⟩⟩⟩⟩⟩⟩⟩ ?_
                            refine Stage_nil (stage_all' [0, 2, 3, 4, 7, 8, 11, 12] [1, 5, 6, 9, 10] (by kernel_rfl) (by subst e_b81 e_x80 e_x78; kernel_rfl) (by kernel_rfl) ⟨QF_at (i := 1) (d := 112) (x := .lf (.v (.bool true))) (show OpAt _ _ _ 1 112 (.lf (.v (.bool true))) from by exact At_bin (d := 112) (b := .gtr) (u := .int .i64 x66) (v := .int .i64 (0 : Int)) (w' := .bool true) (by subst e_b81 e_x80 e_x78; kernel_rfl) (by rw [show exBin .gtr (.int .i64 x66) (.int .i64 (0 : Int)) = some (.bool (decide (x66 > (0 : Int)))) from by kernel_rfl, ← e_b76])) (by kernel_rfl) (by subst e_b81 e_x80 e_x78; kernel_rfl), ⟨QF_at (i := 5) (d := 116) (x := .lf (.vel 82 1 ((x67).toNat) 0)) (show OpAt _ _ _ 5 116 (.lf (.vel 82 1 ((x67).toNat) 0)) from by exact At_idxV (d := 116) (z := x67) (n := 82) (sz := 1) (v := ⟨2, 1, List.length L68, ints .i64 L68⟩) (by subst e_b81 e_x80 e_x78; kernel_rfl) (by subst e_b81 e_x80 e_x78; kernel_rfl) g77) (by kernel_rfl) (by subst e_b81 e_x80 e_x78; kernel_rfl), ⟨QF_at (i := 6) (d := 117) (x := .lf (.v (.int .i64 x78))) (show OpAt _ _ _ 6 117 (.lf (.v (.int .i64 x78))) from by rw [e_x78]; exact At_ldVI (d := 117) (n := 82) (q := (x67).toNat) (k := .i64) (L := L68) (by subst e_b81 e_x80 e_x78; kernel_rfl) (v := ⟨2, 1, List.length L68, ints .i64 L68⟩) (by subst e_b81 e_x80 e_x78; kernel_rfl) rfl (toNat_lt g77)) (by kernel_rfl) (by subst e_b81 e_x80 e_x78; kernel_rfl), ⟨QF_at (i := 9) (d := 120) (x := .lf (.vel 49 1 ((x67).toNat) 0)) (show OpAt _ _ _ 9 120 (.lf (.vel 49 1 ((x67).toNat) 0)) from by exact At_idxV (d := 120) (z := x67) (n := 49) (sz := 1) (v := ⟨2, 1, List.length L18, ints .i64 L18⟩) (by subst e_b81 e_x80 e_x78; kernel_rfl) (by subst e_b81 e_x80 e_x78; kernel_rfl) g79) (by kernel_rfl) (by subst e_b81 e_x80 e_x78; kernel_rfl), ⟨QF_at (i := 10) (d := 121) (x := .lf (.v (.int .i64 x80))) (show OpAt _ _ _ 10 121 (.lf (.v (.int .i64 x80))) from by rw [e_x80]; exact At_ldVI (d := 121) (n := 49) (q := (x67).toNat) (k := .i64) (L := L18) (by subst e_b81 e_x80 e_x78; kernel_rfl) (v := ⟨2, 1, List.length L18, ints .i64 L18⟩) (by subst e_b81 e_x80 e_x78; kernel_rfl) rfl (toNat_lt g79)) (by kernel_rfl) (by subst e_b81 e_x80 e_x78; kernel_rfl), trivial⟩⟩⟩⟩⟩) ?_
                            refine thenQ_n ?_
                            exact ⟨b81, keep_sub (ts := [13, 17, 18, 21, 107, 108, 123]) (hs := []) (vs := [49, 82]) (by subst e_b81 e_x80 e_x78; kernel_rfl), h⟩
                          | false =>
                            replace h := sp_f h
                            refine T_draw' (id := 28) [] [0, 0, 0, 0, 0, 0, 0, 0, 0, 0, 0, 0, 0] (by kernel_rfl) (by kernel_rfl) (by kernel_rfl) (by kernel_rfl) [(111, .lf (.v (.int .i64 x66))), (112, .lf (.v (.bool false))), (113, .lf (.v (.bool false))), (114, .tup []), (115, .tup []), (116, .tup []), (117, .tup []), (118, .tup []), (119, .tup []), (120, .tup []), (121, .tup []), (122, .tup []), (123, .lf (.v (.bool false)))] (by kernel_rfl) ⟨trivial, ⟨trivial, ⟨trivial, ⟨(by intro y hy; cases hy), ⟨(by intro y hy; cases hy), ⟨(by intro y hy; cases hy), ⟨(by intro y hy; cases hy), ⟨(by intro y hy; cases hy), ⟨(by intro y hy; cases hy), ⟨(by intro y hy; cases hy), ⟨(by intro y hy; cases hy), ⟨(by intro y hy; cases hy), ⟨trivial, trivial⟩⟩⟩⟩⟩⟩⟩⟩⟩⟩⟩⟩⟩ ?_
                            refine Stage_nil (stage_all' [0, 2, 3, 4, 5, 6, 7, 8, 9, 10, 11, 12] [1] (by kernel_rfl) (by kernel_rfl) (by kernel_rfl) ⟨QF_at (i := 1) (d := 112) (x := .lf (.v (.bool false))) (show OpAt _ _ _ 1 112 (.lf (.v (.bool false))) from by exact At_bin (d := 112) (b := .gtr) (u := .int .i64 x66) (v := .int .i64 (0 : Int)) (w' := .bool false) (by kernel_rfl) (by rw [show exBin .gtr (.int .i64 x66) (.int .i64 (0 : Int)) = some (.bool (decide (x66 > (0 : Int)))) from by kernel_rfl, ← e_b76])) (by kernel_rfl) (by kernel_rfl), trivial⟩) ?_
                            refine thenQ_n ?_
                            exact ⟨false, keep_sub (ts := [13, 17, 18, 21, 107, 108, 123]) (hs := []) (vs := [49, 82]) (by kernel_rfl), h⟩
                        · rintro s' ⟨b74, hsub, h⟩
                          subst e_j75
                          refine T_sub hsub ?_
                          cases b74 with
                          | true =>
                            replace h := sp_t h
                            refine T_condT (x := (.tmp 123)) (c1 := (sub [1, 1, 1, 1, 1, 1, 1, 1, 1, 1, 1, 0, 1, 0, 0, 1, 1, 0, 0, 1, 1, 0] (bodyOf Try.f19))) (c2 := (sub [1, 1, 1, 1, 1, 1, 1, 1, 1, 1, 1, 0, 1, 0, 0, 1, 1, 0, 0, 1, 1, 1] (bodyOf Try.f19))) (by kernel_rfl) (by kernel_rfl) ?_
                            refine T_keep (s' := { σ := [(13, .lf (.vec 49)), (17, .lf (.vec 82)), (18, .lf (.v (.int .i64 x66))), (21, .lf (.v (.int .i64 x67))), (107, .lf (.v (.int .i64 (List.length L46 : Int)))), (108, .lf (.v (.int .i64 x67)))], H := [], V := [(49, ⟨2, 1, List.length L18, ints .i64 L18⟩), (82, ⟨2, 1, List.length L68, ints .i64 L68⟩)], M := M6, ds := [] }) [13, 17, 18, 21, 107, 108] [] [49, 82] (by kernel_rfl) ?_
                            refine T_seq (c1 := (sub [1, 1, 1, 1, 1, 1, 1, 1, 1, 1, 1, 0, 1, 0, 0, 1, 1, 0, 0, 1, 1, 0, 0] (bodyOf Try.f19))) (c2 := (sub [1, 1, 1, 1, 1, 1, 1, 1, 1, 1, 1, 0, 1, 0, 0, 1, 1, 0, 0, 1, 1, 0, 1] (bodyOf Try.f19))) (by kernel_rfl) ?_
                            refine T_region (id := 29) (by kernel_rfl) ?_
                            refine TI_segK (i := 0) (j := 2) (s' := { σ := [(13, .lf (.vec 49)), (17, .lf (.vec 82)), (18, .lf (.v (.int .i64 x66))), (107, .lf (.v (.int .i64 (List.length L46 : Int)))), (108, .lf (.v (.int .i64 x67))), (124, .lf (.vec 82)), (125, .lf (.v (.int .i64 x67)))], H := [], V := [(49, ⟨2, 1, List.length L18, ints .i64 L18⟩), (82, ⟨2, 1, List.length L68, ints .i64 L68⟩)], M := M6, ds := [] }) [13, 17, 18, 107, 108, 124, 125] [] [49, 82] (by kernel_rfl) (by kernel_rfl) ?_
                            obtain ⟨g82, h⟩ := gd_some h
                            refine TI_at (i := 2) (d := 126) (x := .lf (.vel 82 1 ((x67).toNat) 0)) (by exact At_idxV (d := 126) (z := x67) (n := 82) (sz := 1) (v := ⟨2, 1, List.length L68, ints .i64 L68⟩) (by kernel_rfl) (by kernel_rfl) g82) (by kernel_rfl) trivial ?_
                            obtain ⟨x83, e_x83, h⟩ := lt_some h
                            refine TI_at (i := 3) (d := 127) (x := .lf (.v (.int .i64 x83))) (by rw [e_x83]; exact At_ldVI (d := 127) (n := 82) (q := (x67).toNat) (k := .i64) (L := L68) (by subst e_x83; kernel_rfl) (v := ⟨2, 1, List.length L68, ints .i64 L68⟩) (by subst e_x83; kernel_rfl) rfl (toNat_lt g82)) (by kernel_rfl) trivial ?_
                            obtain ⟨x84, e_x84, h⟩ := lt_some h
                            refine TI_segK (i := 4) (j := 5) (s' := { σ := [(13, .lf (.vec 49)), (17, .lf (.vec 82)), (18, .lf (.v (.int .i64 x66))), (107, .lf (.v (.int .i64 (List.length L46 : Int)))), (108, .lf (.v (.int .i64 x67))), (124, .lf (.vec 82)), (125, .lf (.v (.int .i64 x67))), (128, .lf (.v (.int .i64 x84)))], H := [], V := [(49, ⟨2, 1, List.length L18, ints .i64 L18⟩), (82, ⟨2, 1, List.length L68, ints .i64 L68⟩)], M := M6, ds := [] }) [13, 17, 18, 107, 108, 124, 125, 128] [] [49, 82] (by subst e_x84; kernel_rfl) (by kernel_rfl) ?_
                            obtain ⟨g85, h⟩ := gd_some h
                            refine TI_at (i := 5) (d := 129) (x := .lf (.vel 82 1 ((x67).toNat) 0)) (by exact At_idxV (d := 129) (z := x67) (n := 82) (sz := 1) (v := ⟨2, 1, List.length L68, ints .i64 L68⟩) (by kernel_rfl) (by kernel_rfl) g85) (by kernel_rfl) trivial ?_
                            obtain ⟨L86, e_L86, h⟩ := lt_some h
                            refine TI_of (i := 6) (by kernel_rfl) (TE_stC (len2 := List.length L86) (m := 1) (n := 82) (sz := 1) (j := (x67).toNat) (q := 0) (e := 2) (len := List.length L68) (c := [.one (.v (.int .i64 x84))]) (cs0 := ints .i64 L68) (cs2 := ints .i64 L86) (by subst e_L86; kernel_rfl) (by kernel_rfl) (by subst e_L86; kernel_rfl) (vle (toNat_lt g85)) (by kernel_rfl) (by rw [e_L86]; exact set1_ints (toNat_lt g85)) (by rw [e_L86, List.length_set]) ?_)
                            refine TI_segK (i := 7) (j := 7) (s' := { σ := [(13, .lf (.vec 49)), (17, .lf (.vec 82)), (18, .lf (.v (.int .i64 x66))), (107, .lf (.v (.int .i64 (List.length L46 : Int)))), (108, .lf (.v (.int .i64 x67)))], H := [], V := [(49, ⟨2, 1, List.length L18, ints .i64 L18⟩), (82, ⟨2, 1, List.length L86, ints .i64 L86⟩)], M := M6, ds := [] }) [13, 17, 18, 107, 108] [] [49, 82] (by kernel_rfl) (by kernel_rfl) ?_
                            refine TI_end (by kernel_rfl) ?_
                            refine thenQ_n ?_
                            refine T_region (id := 30) (by kernel_rfl) ?_
                            obtain ⟨x87, e_x87, h⟩ := lt_some h
                            refine TI_segK (i := 0) (j := 3) (s' := { σ := [(13, .lf (.vec 49)), (17, .lf (.vec 82)), (18, .lf (.v (.int .i64 x87))), (107, .lf (.v (.int .i64 (List.length L46 : Int)))), (108, .lf (.v (.int .i64 x67)))], H := [], V := [(49, ⟨2, 1, List.length L18, ints .i64 L18⟩), (82, ⟨2, 1, List.length L86, ints .i64 L86⟩)], M := M6, ds := [] }) [13, 17, 18, 107, 108] [] [49, 82] (by subst e_x87; kernel_rfl) (by kernel_rfl) ?_
                            refine TI_end (by kernel_rfl) ?_
                            refine blockQ_n ?_
                            refine thenQ_n ?_
                            exact ⟨x87, L86, keep_sub (ts := [13, 17, 18, 107, 108]) (hs := []) (vs := [49, 82]) (by kernel_rfl), h⟩
                          | false =>
                            replace h := sp_f h
                            refine T_condF (x := (.tmp 123)) (c1 := (sub [1, 1, 1, 1, 1, 1, 1, 1, 1, 1, 1, 0, 1, 0, 0, 1, 1, 0, 0, 1, 1, 0] (bodyOf Try.f19))) (c2 := (sub [1, 1, 1, 1, 1, 1, 1, 1, 1, 1, 1, 0, 1, 0, 0, 1, 1, 0, 0, 1, 1, 1] (bodyOf Try.f19))) (by kernel_rfl) (by kernel_rfl) ?_
                            refine T_keep (s' := { σ := [(13, .lf (.vec 49)), (17, .lf (.vec 82)), (18, .lf (.v (.int .i64 x66))), (107, .lf (.v (.int .i64 (List.length L46 : Int)))), (108, .lf (.v (.int .i64 x67)))], H := [], V := [(49, ⟨2, 1, List.length L18, ints .i64 L18⟩), (82, ⟨2, 1, List.length L68, ints .i64 L68⟩)], M := M6, ds := [] }) [13, 17, 18, 107, 108] [] [49, 82] (by kernel_rfl) ?_
                            refine T_skip (by kernel_rfl) ?_
                            refine blockQ_n ?_
                            refine thenQ_n ?_
                            exact ⟨x66, L68, keep_sub (ts := [13, 17, 18, 107, 108]) (hs := []) (vs := [49, 82]) (by kernel_rfl), h⟩
                      · rintro s' ⟨x71, L72, hsub, h⟩
                        subst e_j73
                        refine T_sub hsub ?_
                        refine T_region (id := 31) (by kernel_rfl) ?_
                        obtain ⟨x88, e_x88, h⟩ := lt_some h
                        refine TI_segK (i := 0) (j := 2) (s' := { σ := [(13, .lf (.vec 49)), (17, .lf (.vec 82)), (18, .lf (.v (.int .i64 x71))), (107, .lf (.v (.int .i64 (List.length L46 : Int)))), (108, .lf (.v (.int .i64 x88)))], H := [], V := [(49, ⟨2, 1, List.length L18, ints .i64 L18⟩), (82, ⟨2, 1, List.length L72, ints .i64 L72⟩)], M := M6, ds := [] }) [13, 17, 18, 107, 108] [] [49, 82] (by subst e_x88; kernel_rfl) (by kernel_rfl) ?_
                        refine TI_end (by kernel_rfl) ?_
                        refine thenQ_n ?_
                        exact ⟨n69, Nat.lt_succ_self _, x71, x88, L72, keep_sub (ts := [13, 17, 18, 107, 108]) (hs := []) (vs := [49, 82]) (by kernel_rfl), h⟩
                    | false =>
                      replace h := sp_f h
                      refine T_condF (x := (.tmp 109)) (c1 := (sub [1, 1, 1, 1, 1, 1, 1, 1, 1, 1, 1, 0, 1, 0, 0, 1, 0, 0] (bodyOf Try.f19))) (c2 := (sub [1, 1, 1, 1, 1, 1, 1, 1, 1, 1, 1, 0, 1, 0, 0, 1, 0, 1] (bodyOf Try.f19))) (by kernel_rfl) (by kernel_rfl) ?_
                      refine T_keep (s' := { σ := [(17, .lf (.vec 82))], H := [], V := [(82, ⟨2, 1, List.length L68, ints .i64 L68⟩)], M := M6, ds := [] }) [17] [] [82] (by kernel_rfl) ?_
                      refine T_exit (id := 4) (by kernel_rfl) ?_
                      refine thenQ_x ?_
                      refine thenQ_x ?_
                      refine blockQ_x ?_
                      refine thenQ_n ?_
                      exact ⟨L68, keep_sub (ts := [17]) (hs := []) (vs := [82]) (by kernel_rfl), h⟩
                · rintro s' ⟨L64, hsub, h⟩
                  subst e_j65
                  refine thenQ_n ?_
                  refine T_sub hsub ?_
                  refine T_seq (c1 := (sub [1, 1, 1, 1, 1, 1, 1, 1, 1, 1, 1, 1, 0] (bodyOf Try.f19))) (c2 := (sub [1, 1, 1, 1, 1, 1, 1, 1, 1, 1, 1, 1, 1] (bodyOf Try.f19))) (by kernel_rfl) ?_
                  refine T_region (id := 32) (by kernel_rfl) ?_
                  refine TI_segK (i := 0) (j := 3) (s' := { σ := [(8, .lf (.vec 82)), (9, .lf (.v (.int .i64 (0 : Int))))], H := [], V := [(82, ⟨2, 1, List.length L64, ints .i64 L64⟩)], M := M6, ds := [] }) [8, 9] [] [82] (by kernel_rfl) (by kernel_rfl) ?_
                  refine TI_end (by kernel_rfl) ?_
                  refine thenQ_n ?_
                  refine T_turn (turn_pubV 82 (v := ⟨2, 1, List.length L64, ints .i64 L64⟩) (by kernel_rfl)) ?_
                  rintro _ ⟨A89, c90, M91, rfl, hSA89, hcA89, -, hNA89, hM91⟩
                  have fA89 : SlI M91 A89 c90 .i64 L64 := ⟨hSA89, hcA89⟩
                  refine T_keep (s' := { σ := [(8, .lf (.v (.slice A89 (List.length L64) c90))), (9, .lf (.v (.int .i64 (0 : Int))))], H := [], V := [], M := M91, ds := [] }) [8, 9] [] [] (by kernel_rfl) ?_
                  refine T_ret (by kernel_rfl) ?_
                  have h := Option.some.inj h
                  subst h
                  refine fin_ret (.tup [(some (.v (.slice A89 (List.length L64) c90)), []), (some (.v (.int .i64 (0 : Int))), [])]) (by kernel_rfl) (by kernel_rfl) rfl ?_
                  exact ⟨A89, c90, rfl, fA89⟩
/-- gooseneck goosenecklaw11.works -/
def p12 (k : Nat) : Option Bool :=
  cl2 (p40 k ) fun v1 v2 => gd ((v2).length = 4) <| cl2 (p14 k v1 v2 ([(40 : Int), (50 : Int), (0 : Int), (4 : Int), (0 : Int), (1000 : Int), (0 : Int)])) fun v7 v8 => cl2 (p40 k ) fun v9 v10 => gd ((v10).length = 4) <| cl2 (p23 k v9 v10) fun v15 v16 => jn (fun (b17 : Bool) => some b17) fun j18 => lt' (v8 == (0 : Int)) fun b19 => sp b19 (lt' (v16 == (0 : Int)) fun b20 => sp b20 (lt' (v7 == (1 : Int)) fun b21 => sp b21 (lt' (v15 == (5 : Int)) fun b22 => j18 b22) (j18 false)) (j18 false)) (j18 false)
theorem hf12 : Try.prog.funcs[12]? = some Try.f12 := by kernel_rfl
theorem w12 (k : Nat) {M : Mem} {r} (h : p12 k = some r) :
    Fn Try.prog 12 [] M (fun x _ => x = .lf (.v (.bool r))) := by
  unfold p12 at h
  refine Fn_of (P := Try.prog) (fn := Try.f12) (c := bodyOf Try.f12) [] hf12 (by kernel_rfl) (Nat.le_of_ble_eq_true (by kernel_rfl)) (args_ok (by kernel_rfl) trivial) fun w => ?_
  change T _ _ _ (endQ _ _ _)
  refine T_seq (c1 := (sub [0] (bodyOf Try.f12))) (c2 := (sub [1] (bodyOf Try.f12))) (by kernel_rfl) ?_
  refine T_region (id := 0) (by kernel_rfl) ?_
  refine TI_segK (i := 0) (j := 1) (s' := { σ := [], H := [], V := [], M := M, ds := [] }) [] [] [] (by kernel_rfl) (by kernel_rfl) ?_
  refine TI_end (by kernel_rfl) ?_
  refine thenQ_n ?_
  refine T_seq (c1 := (sub [1, 0] (bodyOf Try.f12))) (c2 := (sub [1, 1] (bodyOf Try.f12))) (by kernel_rfl) ?_
  refine T_region (id := 1) (by kernel_rfl) ?_
  obtain ⟨v1, v2, c_v1, h⟩ := cl2_some h
  obtain ⟨g5, h⟩ := gd_some h
  refine TI_of (i := 0) (by kernel_rfl) (TE_callR (d := 6) (f := 40) (args := []) (by kernel_rfl) (by kernel_rfl) (w40 k  c_v1) ?_)
  rintro _ M6 _ hM6 _ ⟨A3, c4, rfl, fA3⟩
  refine TI_segK (i := 1) (j := 2) (s' := { σ := [(6, .agg [.one (.v (.slice A3 (List.length v1) c4)), .arr .i64 4 v2]), (7, .agg [.arr .i64 7 [(40 : Int), (50 : Int), (0 : Int), (4 : Int), (0 : Int), (1000 : Int), (0 : Int)]])], H := [], V := [], M := M6, ds := [] }) [6, 7] [] [] (by kernel_rfl) (by kernel_rfl) ?_
  obtain ⟨v7, v8, c_v7, h⟩ := cl2_some h
  refine TI_at (i := 2) (d := 8) (x := .tup [(some (.v (.int .i64 v7)), []), (some (.v (.int .i64 v8)), [])]) (At_call (d := 8) (f := 14) (args := [rval (.agg [.one (.v (.slice A3 (List.length v1) c4)), .arr .i64 4 v2]), rval (.agg [.arr .i64 7 [(40 : Int), (50 : Int), (0 : Int), (4 : Int), (0 : Int), (1000 : Int), (0 : Int)]])]) (x := .tup [(some (.v (.int .i64 v7)), []), (some (.v (.int .i64 v8)), [])]) (by kernel_rfl) (w14 k fA3 g5 rfl c_v7)) (by kernel_rfl) (by intro y hy; simp only [List.mem_cons, List.mem_nil_iff, or_false] at hy; rcases hy with rfl | rfl <;> exact trivial) ?_
  refine TI_segK (i := 3) (j := 8) (s' := { σ := [(1, .lf (.v (.int .i64 v7))), (2, .lf (.v (.int .i64 v8)))], H := [], V := [], M := M6, ds := [] }) [1, 2] [] [] (by kernel_rfl) (by kernel_rfl) ?_
  refine TI_end (by kernel_rfl) ?_
  refine thenQ_n ?_
  refine T_seq (c1 := (sub [1, 1, 0] (bodyOf Try.f12))) (c2 := (sub [1, 1, 1] (bodyOf Try.f12))) (by kernel_rfl) ?_
  refine T_region (id := 2) (by kernel_rfl) ?_
  obtain ⟨v9, v10, c_v9, h⟩ := cl2_some h
  obtain ⟨g13, h⟩ := gd_some h
  refine TI_of (i := 0) (by kernel_rfl) (TE_callR (d := 12) (f := 40) (args := []) (by kernel_rfl) (by kernel_rfl) (w40 k  c_v9) ?_)
  rintro _ M14 _ hM14 _ ⟨A11, c12, rfl, fA11⟩
  obtain ⟨v15, v16, c_v15, h⟩ := cl2_some h
  refine TI_at (i := 1) (d := 13) (x := .tup [(some (.v (.int .i64 v15)), []), (some (.v (.int .i64 v16)), [])]) (At_call (d := 13) (f := 23) (args := [rval (.agg [.one (.v (.slice A11 (List.length v9) c12)), .arr .i64 4 v10])]) (x := .tup [(some (.v (.int .i64 v15)), []), (some (.v (.int .i64 v16)), [])]) (by kernel_rfl) (w23 k fA11 g13 c_v15)) (by kernel_rfl) (by intro y hy; simp only [List.mem_cons, List.mem_nil_iff, or_false] at hy; rcases hy with rfl | rfl <;> exact trivial) ?_
  refine TI_segK (i := 2) (j := 7) (s' := { σ := [(1, .lf (.v (.int .i64 v7))), (2, .lf (.v (.int .i64 v8))), (3, .lf (.v (.int .i64 v15))), (4, .lf (.v (.int .i64 v16)))], H := [], V := [], M := M14, ds := [] }) [1, 2, 3, 4] [] [] (by kernel_rfl) (by kernel_rfl) ?_
  refine TI_end (by kernel_rfl) ?_
  refine thenQ_n ?_
  obtain ⟨j18, e_j18, h⟩ := jn_some h
  refine T_cut (c1 := (sub [1, 1, 1, 0] (bodyOf Try.f12))) (c2 := (sub [1, 1, 1, 1] (bodyOf Try.f12))) (fun s' => ∃ (b17 : Bool), Sub { σ := [(0, .lf (.v (.bool b17)))], H := [], V := [], M := M14, ds := [] } s' ∧ j18 b17 = some r) (by kernel_rfl) ?_ ?_
  · refine T_region (id := 3) (by kernel_rfl) ?_
    obtain ⟨b19, e_b19, h⟩ := lt_some h
    refine TI_segK (i := 0) (j := 3) (s' := { σ := [(1, .lf (.v (.int .i64 v7))), (3, .lf (.v (.int .i64 v15))), (4, .lf (.v (.int .i64 v16))), (18, .lf (.v (.bool b19)))], H := [], V := [], M := M14, ds := [] }) [1, 3, 4, 18] [] [] (by subst e_b19; kernel_rfl) (by kernel_rfl) ?_
    cases b19 with
    | true =>
      replace h := sp_t h
      obtain ⟨b20, e_b20, h⟩ := lt_some h
      refine TI_segK (i := 3) (j := 7) (s' := { σ := [(1, .lf (.v (.int .i64 v7))), (3, .lf (.v (.int .i64 v15))), (22, .lf (.v (.bool b20)))], H := [], V := [], M := M14, ds := [] }) [1, 3, 22] [] [] (by subst e_b20; kernel_rfl) (by kernel_rfl) ?_
      cases b20 with
      | true =>
        replace h := sp_t h
        obtain ⟨b21, e_b21, h⟩ := lt_some h
        refine TI_segK (i := 7) (j := 11) (s' := { σ := [(3, .lf (.v (.int .i64 v15))), (26, .lf (.v (.bool b21)))], H := [], V := [], M := M14, ds := [] }) [3, 26] [] [] (by subst e_b21; kernel_rfl) (by kernel_rfl) ?_
        cases b21 with
        | true =>
          replace h := sp_t h
          obtain ⟨b22, e_b22, h⟩ := lt_some h
          refine TI_segK (i := 11) (j := 15) (s' := { σ := [(0, .lf (.v (.bool b22)))], H := [], V := [], M := M14, ds := [] }) [0] [] [] (by subst e_b22; kernel_rfl) (by kernel_rfl) ?_
          refine TI_end (by kernel_rfl) ?_
          refine thenQ_n ?_
          exact ⟨b22, keep_sub (ts := [0]) (hs := []) (vs := []) (by kernel_rfl), h⟩
        | false =>
          replace h := sp_f h
          refine TI_segK (i := 11) (j := 15) (s' := { σ := [(0, .lf (.v (.bool false)))], H := [], V := [], M := M14, ds := [] }) [0] [] [] (by kernel_rfl) (by kernel_rfl) ?_
          refine TI_end (by kernel_rfl) ?_
          refine thenQ_n ?_
          exact ⟨false, keep_sub (ts := [0]) (hs := []) (vs := []) (by kernel_rfl), h⟩
      | false =>
        replace h := sp_f h
        refine TI_segK (i := 7) (j := 15) (s' := { σ := [(0, .lf (.v (.bool false)))], H := [], V := [], M := M14, ds := [] }) [0] [] [] (by kernel_rfl) (by kernel_rfl) ?_
        refine TI_end (by kernel_rfl) ?_
        refine thenQ_n ?_
        exact ⟨false, keep_sub (ts := [0]) (hs := []) (vs := []) (by kernel_rfl), h⟩
    | false =>
      replace h := sp_f h
      refine TI_segK (i := 3) (j := 15) (s' := { σ := [(0, .lf (.v (.bool false)))], H := [], V := [], M := M14, ds := [] }) [0] [] [] (by kernel_rfl) (by kernel_rfl) ?_
      refine TI_end (by kernel_rfl) ?_
      refine thenQ_n ?_
      exact ⟨false, keep_sub (ts := [0]) (hs := []) (vs := []) (by kernel_rfl), h⟩
  · rintro s' ⟨b17, hsub, h⟩
    subst e_j18
    refine T_sub hsub ?_
    refine T_ret (by kernel_rfl) ?_
    have h := Option.some.inj h
    subst h
    refine fin_ret (.lf (.v (.bool b17))) (by kernel_rfl) (by kernel_rfl) rfl ?_
    rfl
end Go.Proofs.Ythjkejbgknemgaa
