/- Lemmas and walks for the law ClaimSettles (part 3). No condition: every theorem names its own hypotheses. -/
import Derived.Test.YthjkejbgknemgaaK2
import Derived.Test.YthjkejbgknemgaaProg
set_option linter.unusedVariables false
set_option linter.unusedSimpArgs false
set_option maxHeartbeats 4000000
namespace Go.Proofs.Ythjkejbgknemgaa
open Go.RowKit
def p21_l2 (k : Nat) (j21 : Option Int) (L8 : List Int) : Nat → Int → Option Int
 | 0,_ => none
 | n23 + 1,x22 => lt' (decide (x22 < (4 : Int))) fun b24 => sp b24 (gd ((0 : Int) ≤ x22 ∧ x22 < ((4 : Nat) : Int)) <| lt' (List.take 2 (List.drop (3 + (x22).toNat * 2) L8)) fun L26 => cl (p52 k L26) fun v27 => sp v27 (lt' (wr .i64 (x22 + (1 : Int))) fun x28 => p21_l2 k j21 L8 n23 x28) (some (2 : Int))) (j21)
def p21_l1 (k : Nat) (u0_0 : List (List Int)) (j3 : Option Int) : Nat → Int → Option Int
 | 0,_ => none
 | n5 + 1,x4 => lt' (decide (x4 < (List.length u0_0 : Int))) fun b6 => sp b6 (gd ((0 : Int) ≤ x4 ∧ x4 < (List.length u0_0 : Int)) <| lt' (List.getD u0_0 ((x4).toNat) []) fun L8 => jn (fun (b9 : Bool) => sp b9 (some (2 : Int)) (jn (lt' (wr .i64 (x4 + (1 : Int))) fun x29 => p21_l1 k u0_0 j3 n5 x29) fun j21 => p21_l2 k j21 L8 k (0 : Int))) fun j10 => lt' (List.getD L8 0 0) fun x11 => cl (p50 k x11 (0 : Int) (1099511627776 : Int)) fun v12 => sp v12 (lt' (decide (x4 > (0 : Int))) fun b13 => sp b13 (lt' (List.getD L8 0 0) fun x14 => lt' (wr .i64 (x4 - (1 : Int))) fun x15 => gd ((0 : Int) ≤ x15 ∧ x15 < (List.length u0_0 : Int)) <| lt' (List.getD (List.getD u0_0 ((x15).toNat) []) 0 0) fun x17 => lt' (decide (x14 ≤ x17)) fun b18 => sp b18 (j10 true) (cl (p52 k (List.take 2 (List.drop 1 L8))) fun v19 => j10 (!v19))) (cl (p52 k (List.take 2 (List.drop 1 L8))) fun v20 => j10 (!v20))) (j10 true)) (j3)
def p21_l3 (k : Nat) (u0_1 : List Int) (j37 : Option Int) : Nat → Int → Option Int
 | 0,_ => none
 | n39 + 1,x38 => lt' (decide (x38 < (4 : Int))) fun b40 => sp b40 (gd ((0 : Int) ≤ x38 ∧ x38 < ((4 : Nat) : Int)) <| lt' (List.getD u0_1 (0 + (x38).toNat * 1) 0) fun x42 => cl (p50 k x42 (0 : Int) (1048576 : Int)) fun v43 => sp v43 (lt' (wr .i64 (x38 + (1 : Int))) fun x44 => p21_l3 k u0_1 j37 n39 x44) (some (2 : Int))) (j37)
def p21_l5 (k : Nat) (u0_0 : List (List Int)) (u0_1 : List Int) (x46 : Int) (j55 : Option Int) : Nat → Int → Option Int
 | 0,_ => none
 | n57 + 1,x56 => lt' (decide (x56 < (4 : Int))) fun b58 => sp b58 (cl (p17 k u0_0 u0_1 x46 x56) fun v59 => gd ((v59).length = 2) <| lt' (List.getD v59 0 0) fun x61 => lt' (List.getD v59 1 0) fun x62 => lt' (decide (x61 > x62)) fun b63 => sp b63 (some (16 : Int)) (lt' (wr .i64 (x56 + (1 : Int))) fun x64 => p21_l5 k u0_0 u0_1 x46 j55 n57 x64)) (j55)
def p21_l4 (k : Nat) (u0_0 : List (List Int)) (u0_1 : List Int) (j45 : Option Int) : Nat → Int → Option Int
 | 0,_ => none
 | n47 + 1,x46 => cl (p53 k u0_0 u0_1) fun v48 => lt' (decide (x46 ≤ v48)) fun b49 => sp b49 (cl (p16 k u0_0 u0_1 x46) fun v50 => gd ((v50).length = 2) <| lt' (List.getD v50 0 0) fun x52 => lt' (List.getD v50 1 0) fun x53 => lt' (decide (x52 > x53)) fun b54 => sp b54 (some (16 : Int)) (jn (lt' (wr .i64 (x46 + (1 : Int))) fun x65 => p21_l4 k u0_0 u0_1 j45 n47 x65) fun j55 => p21_l5 k u0_0 u0_1 x46 j55 k (0 : Int))) (j45)
def p21 (k : Nat) (u0_0 : List (List Int)) (u0_1 : List Int) : Option Int :=
 lt' (decide ((List.length u0_0 : Int) > (64 : Int))) fun b1 => sp b1 (some (6 : Int)) (lt' (decide ((List.length u0_0 : Int) < (2 : Int))) fun b2 => sp b2 (some (2 : Int)) (jn (lt' (wr .i64 ((List.length u0_0 : Int) - (1 : Int))) fun x30 => gd ((0 : Int) ≤ x30 ∧ x30 < (List.length u0_0 : Int)) <| lt' (List.getD (List.getD u0_0 ((x30).toNat) []) 0 0) fun x32 => gd ((0 : Int) ≤ (0 : Int) ∧ (0 : Int) < (List.length u0_0 : Int)) <| lt' (List.getD (List.getD u0_0 0 []) 0 0) fun x34 => lt' (wr .i64 (x32 - x34)) fun x35 => lt' (decide (x35 > (2000 : Int))) fun b36 => sp b36 (some (2 : Int)) (jn (jn (some (0 : Int)) fun j45 => p21_l4 k u0_0 u0_1 j45 k (0 : Int)) fun j37 => p21_l3 k u0_1 j37 k (0 : Int))) fun j3 => p21_l1 k u0_0 j3 k (0 : Int)))
theorem hf21 : Try.prog.funcs[21]? = some Try.f21 := by kernel_rfl
theorem w21 (k : Nat) {M : Mem} {Au0_0 : Option Addr} {cu0_0 : Nat} {u0_0 : List (List Int)} {u0_1 : List Int} (hu0_0 : SlR M Au0_0 cu0_0 .i64 11 u0_0) (hu0_1 : u0_1.length = 4) {r} (h : p21 k u0_0 u0_1 = some r) :
  Fn Try.prog 21 [rval (.agg [.one (.v (.slice Au0_0 (List.length u0_0) cu0_0)),.arr .i64 4 u0_1])] M (fun x _ => x = .lf (.v (.int .i64 r))) := by
 unfold p21 at h
 refine Fn_of (P:=Try.prog) (fn:=Try.f21) (c:=bodyOf Try.f21) [.agg [.one (.v (.slice Au0_0 (List.length u0_0) cu0_0)),.arr .i64 4 u0_1]] hf21 (by kernel_rfl) (Nat.le_of_ble_eq_true (by kernel_rfl)) (args_ok (by kernel_rfl) ⟨⟨rfl,⟨hu0_1,trivial⟩⟩,trivial⟩) fun w => ?_
 change T _ _ _ (endQ _ _ _)
 refine T_seq (c1:=(sub [0] (bodyOf Try.f21))) (c2:=(sub [1] (bodyOf Try.f21))) (by kernel_rfl) ?_
 refine T_region (id:=0) (by kernel_rfl) ?_
 refine TI_segK (i:=0) (j:=2) (s':={ σ := [(1,.lf (.own 1 0))],H := [(1,[.one (.v (.slice Au0_0 (List.length u0_0) cu0_0)),.arr .i64 4 u0_1])],V := [],M := M,ds := [] }) [1] [1] [] (by kernel_rfl) (by kernel_rfl) ?_
 refine TI_end (by kernel_rfl) ?_
 refine thenQ_n ?_
 refine T_seq (c1:=(sub [1,0] (bodyOf Try.f21))) (c2:=(sub [1,1] (bodyOf Try.f21))) (by kernel_rfl) ?_
 refine T_region (id:=1) (by kernel_rfl) ?_
 refine TI_segK (i:=0) (j:=4) (s':={ σ := [(1,.lf (.own 1 0)),(3,.lf (.v (.int .i64 (List.length u0_0 : Int))))],H := [(1,[.one (.v (.slice Au0_0 (List.length u0_0) cu0_0)),.arr .i64 4 u0_1])],V := [],M := M,ds := [] }) [1,3] [1] [] (by kernel_rfl) (by kernel_rfl) ?_
 refine TI_end (by kernel_rfl) ?_
 refine thenQ_n ?_
 refine T_seq (c1:=(sub [1,1,0] (bodyOf Try.f21))) (c2:=(sub [1,1,1] (bodyOf Try.f21))) (by kernel_rfl) ?_
 refine T_seq (c1:=(sub [1,1,0,0] (bodyOf Try.f21))) (c2:=(sub [1,1,0,1] (bodyOf Try.f21))) (by kernel_rfl) ?_
 refine T_region (id:=2) (by kernel_rfl) ?_
 obtain ⟨b1,e_b1,h⟩ := lt_some h
 refine TI_segK (i:=0) (j:=2) (s':={ σ := [(1,.lf (.own 1 0)),(3,.lf (.v (.int .i64 (List.length u0_0 : Int)))),(16,.lf (.v (.bool b1)))],H := [(1,[.one (.v (.slice Au0_0 (List.length u0_0) cu0_0)),.arr .i64 4 u0_1])],V := [],M := M,ds := [] }) [1,3,16] [1] [] (by subst e_b1;kernel_rfl) (by kernel_rfl) ?_
 refine TI_end (by kernel_rfl) ?_
 refine thenQ_n ?_
 cases b1 with
 | true =>
  replace h := sp_t h
  refine T_condT (x:=(.tmp 16)) (c1:=(sub [1,1,0,1,0] (bodyOf Try.f21))) (c2:=(sub [1,1,0,1,1] (bodyOf Try.f21))) (by kernel_rfl) (by kernel_rfl) ?_
  refine T_keep (s':={ σ := [],H := [],V := [],M := M,ds := [] }) [] [] [] (by kernel_rfl) ?_
  refine T_seq (c1:=(sub [1,1,0,1,0,0] (bodyOf Try.f21))) (c2:=(sub [1,1,0,1,0,1] (bodyOf Try.f21))) (by kernel_rfl) ?_
  refine T_region (id:=3) (by kernel_rfl) ?_
  refine TI_segK (i:=0) (j:=1) (s':={ σ := [(2,.lf (.v (.int .i64 (6 : Int))))],H := [],V := [],M := M,ds := [] }) [2] [] [] (by kernel_rfl) (by kernel_rfl) ?_
  refine TI_end (by kernel_rfl) ?_
  refine thenQ_n ?_
  refine T_ret (by kernel_rfl) ?_
  refine thenQ_r ?_
  have h := Option.some.inj h
  subst h
  refine fin_ret (.lf (.v (.int .i64 (6 : Int)))) (by kernel_rfl) (by kernel_rfl) rfl ?_
  rfl
 | false =>
  replace h := sp_f h
  refine T_condF (x:=(.tmp 16)) (c1:=(sub [1,1,0,1,0] (bodyOf Try.f21))) (c2:=(sub [1,1,0,1,1] (bodyOf Try.f21))) (by kernel_rfl) (by kernel_rfl) ?_
  refine T_keep (s':={ σ := [(1,.lf (.own 1 0)),(3,.lf (.v (.int .i64 (List.length u0_0 : Int))))],H := [(1,[.one (.v (.slice Au0_0 (List.length u0_0) cu0_0)),.arr .i64 4 u0_1])],V := [],M := M,ds := [] }) [1,3] [1] [] (by kernel_rfl) ?_
  refine T_skip (by kernel_rfl) ?_
  refine thenQ_n ?_
  refine T_seq (c1:=(sub [1,1,1,0] (bodyOf Try.f21))) (c2:=(sub [1,1,1,1] (bodyOf Try.f21))) (by kernel_rfl) ?_
  refine T_seq (c1:=(sub [1,1,1,0,0] (bodyOf Try.f21))) (c2:=(sub [1,1,1,0,1] (bodyOf Try.f21))) (by kernel_rfl) ?_
  refine T_region (id:=4) (by kernel_rfl) ?_
  obtain ⟨b2,e_b2,h⟩ := lt_some h
  refine TI_segK (i:=0) (j:=2) (s':={ σ := [(1,.lf (.own 1 0)),(3,.lf (.v (.int .i64 (List.length u0_0 : Int)))),(18,.lf (.v (.bool b2)))],H := [(1,[.one (.v (.slice Au0_0 (List.length u0_0) cu0_0)),.arr .i64 4 u0_1])],V := [],M := M,ds := [] }) [1,3,18] [1] [] (by subst e_b2;kernel_rfl) (by kernel_rfl) ?_
  refine TI_end (by kernel_rfl) ?_
  refine thenQ_n ?_
  cases b2 with
  | true =>
   replace h := sp_t h
   refine T_condT (x:=(.tmp 18)) (c1:=(sub [1,1,1,0,1,0] (bodyOf Try.f21))) (c2:=(sub [1,1,1,0,1,1] (bodyOf Try.f21))) (by kernel_rfl) (by kernel_rfl) ?_
   refine T_keep (s':={ σ := [],H := [],V := [],M := M,ds := [] }) [] [] [] (by kernel_rfl) ?_
   refine T_seq (c1:=(sub [1,1,1,0,1,0,0] (bodyOf Try.f21))) (c2:=(sub [1,1,1,0,1,0,1] (bodyOf Try.f21))) (by kernel_rfl) ?_
   refine T_region (id:=5) (by kernel_rfl) ?_
   refine TI_segK (i:=0) (j:=1) (s':={ σ := [(2,.lf (.v (.int .i64 (2 : Int))))],H := [],V := [],M := M,ds := [] }) [2] [] [] (by kernel_rfl) (by kernel_rfl) ?_
   refine TI_end (by kernel_rfl) ?_
   refine thenQ_n ?_
   refine T_ret (by kernel_rfl) ?_
   refine thenQ_r ?_
   have h := Option.some.inj h
   subst h
   refine fin_ret (.lf (.v (.int .i64 (2 : Int)))) (by kernel_rfl) (by kernel_rfl) rfl ?_
   rfl
  | false =>
   replace h := sp_f h
   refine T_condF (x:=(.tmp 18)) (c1:=(sub [1,1,1,0,1,0] (bodyOf Try.f21))) (c2:=(sub [1,1,1,0,1,1] (bodyOf Try.f21))) (by kernel_rfl) (by kernel_rfl) ?_
   refine T_keep (s':={ σ := [(1,.lf (.own 1 0)),(3,.lf (.v (.int .i64 (List.length u0_0 : Int))))],H := [(1,[.one (.v (.slice Au0_0 (List.length u0_0) cu0_0)),.arr .i64 4 u0_1])],V := [],M := M,ds := [] }) [1,3] [1] [] (by kernel_rfl) ?_
   refine T_skip (by kernel_rfl) ?_
   refine thenQ_n ?_
   refine T_seq (c1:=(sub [1,1,1,1,0] (bodyOf Try.f21))) (c2:=(sub [1,1,1,1,1] (bodyOf Try.f21))) (by kernel_rfl) ?_
   refine T_seq (c1:=(sub [1,1,1,1,0,0] (bodyOf Try.f21))) (c2:=(sub [1,1,1,1,0,1] (bodyOf Try.f21))) (by kernel_rfl) ?_
   refine T_region (id:=6) (by kernel_rfl) ?_
   refine TI_segK (i:=0) (j:=1) (s':={ σ := [(1,.lf (.own 1 0)),(3,.lf (.v (.int .i64 (List.length u0_0 : Int)))),(4,.lf (.v (.int .i64 (0 : Int))))],H := [(1,[.one (.v (.slice Au0_0 (List.length u0_0) cu0_0)),.arr .i64 4 u0_1])],V := [],M := M,ds := [] }) [1,3,4] [1] [] (by kernel_rfl) (by kernel_rfl) ?_
   refine TI_end (by kernel_rfl) ?_
   refine thenQ_n ?_
   obtain ⟨j3,e_j3,h⟩ := jn_some h
   refine T_bcut (id:=0) (c1:=(sub [1,1,1,1,0,1,0] (bodyOf Try.f21))) (fun s' => Sub { σ := [(1,.lf (.own 1 0)),(3,.lf (.v (.int .i64 (List.length u0_0 : Int))))],H := [(1,[.one (.v (.slice Au0_0 (List.length u0_0) cu0_0)),.arr .i64 4 u0_1])],V := [],M := M,ds := [] } s' ∧ j3 = some r) (by kernel_rfl) ?_ ?_
   ·refine T_loop (c1:=(sub [1,1,1,1,0,1,0,0] (bodyOf Try.f21))) (by kernel_rfl) (fun n5 s' => ∃ (x4 : Int),Sub { σ := [(1,.lf (.own 1 0)),(3,.lf (.v (.int .i64 (List.length u0_0 : Int)))),(4,.lf (.v (.int .i64 x4)))],H := [(1,[.one (.v (.slice Au0_0 (List.length u0_0) cu0_0)),.arr .i64 4 u0_1])],V := [],M := M,ds := [] } s' ∧ p21_l1 k u0_0 j3 n5 x4 = some r) (k:=k) ⟨(0 : Int),keep_sub (ts:=[1,3,4]) (hs:=[1]) (vs:=[]) (by kernel_rfl),h⟩ ?_
    rintro n5 s' ⟨x4,hsub,h⟩
    cases n5 with
    | zero => rw [p21_l1] at h;cases h
    | succ n5 =>
     rw [p21_l1] at h
     refine T_sub hsub ?_
     refine T_seq (c1:=(sub [1,1,1,1,0,1,0,0,0] (bodyOf Try.f21))) (c2:=(sub [1,1,1,1,0,1,0,0,1] (bodyOf Try.f21))) (by kernel_rfl) ?_
     refine T_seq (c1:=(sub [1,1,1,1,0,1,0,0,0,0] (bodyOf Try.f21))) (c2:=(sub [1,1,1,1,0,1,0,0,0,1] (bodyOf Try.f21))) (by kernel_rfl) ?_
     refine T_region (id:=7) (by kernel_rfl) ?_
     obtain ⟨b6,e_b6,h⟩ := lt_some h
     refine TI_segK (i:=0) (j:=3) (s':={ σ := [(1,.lf (.own 1 0)),(3,.lf (.v (.int .i64 (List.length u0_0 : Int)))),(4,.lf (.v (.int .i64 x4))),(21,.lf (.v (.bool b6)))],H := [(1,[.one (.v (.slice Au0_0 (List.length u0_0) cu0_0)),.arr .i64 4 u0_1])],V := [],M := M,ds := [] }) [1,3,4,21] [1] [] (by subst e_b6;kernel_rfl) (by kernel_rfl) ?_
     refine TI_end (by kernel_rfl) ?_
     refine thenQ_n ?_
     cases b6 with
     | true =>
      replace h := sp_t h
      refine T_condT (x:=(.tmp 21)) (c1:=(sub [1,1,1,1,0,1,0,0,0,1,0] (bodyOf Try.f21))) (c2:=(sub [1,1,1,1,0,1,0,0,0,1,1] (bodyOf Try.f21))) (by kernel_rfl) (by kernel_rfl) ?_
      refine T_keep (s':={ σ := [(1,.lf (.own 1 0)),(3,.lf (.v (.int .i64 (List.length u0_0 : Int)))),(4,.lf (.v (.int .i64 x4)))],H := [(1,[.one (.v (.slice Au0_0 (List.length u0_0) cu0_0)),.arr .i64 4 u0_1])],V := [],M := M,ds := [] }) [1,3,4] [1] [] (by kernel_rfl) ?_
      refine T_skip (by kernel_rfl) ?_
      refine thenQ_n ?_
      refine T_seq (c1:=(sub [1,1,1,1,0,1,0,0,1,0] (bodyOf Try.f21))) (c2:=(sub [1,1,1,1,0,1,0,0,1,1] (bodyOf Try.f21))) (by kernel_rfl) ?_
      refine T_block (id:=1) (c1:=(sub [1,1,1,1,0,1,0,0,1,0,0] (bodyOf Try.f21))) (by kernel_rfl) ?_
      refine T_seq (c1:=(sub [1,1,1,1,0,1,0,0,1,0,0,0] (bodyOf Try.f21))) (c2:=(sub [1,1,1,1,0,1,0,0,1,0,0,1] (bodyOf Try.f21))) (by kernel_rfl) ?_
      refine T_region (id:=9) (by kernel_rfl) ?_
      refine TI_segK (i:=0) (j:=3) (s':={ σ := [(1,.lf (.own 1 0)),(3,.lf (.v (.int .i64 (List.length u0_0 : Int)))),(4,.lf (.v (.int .i64 x4))),(25,.lf (.v (.slice Au0_0 (List.length u0_0) cu0_0))),(26,.lf (.v (.int .i64 x4)))],H := [(1,[.one (.v (.slice Au0_0 (List.length u0_0) cu0_0)),.arr .i64 4 u0_1])],V := [],M := M,ds := [] }) [1,3,4,25,26] [1] [] (by kernel_rfl) (by kernel_rfl) ?_
      obtain ⟨g7,h⟩ := gd_some h
      refine TI_at (i:=3) (d:=27) (x:=.lf (.ep (.slice Au0_0 (List.length u0_0) cu0_0) 11 ((x4).toNat) 0)) (by exact At_idxR (d:=27) (z:=x4) (by kernel_rfl) g7 hu0_0) (by kernel_rfl) trivial ?_
      obtain ⟨L8,e_L8,h⟩ := lt_some h
      have l_L8 : (L8).length = 11 := by rw [e_L8]; exact SlR_row hu0_0 (toNat_lt g7)
      refine TI_at (i:=4) (d:=28) (x:=.agg [.arr .i64 11 L8]) (by rw [e_L8]; exact At_ldRow (d:=28) (q:=(x4).toNat) (by subst e_L8; kernel_rfl) (toNat_lt g7) hu0_0) (by kernel_rfl) ⟨l_L8,trivial⟩ ?_
      refine TI_segK (i:=5) (j:=7) (s':={ σ := [(1,.lf (.own 1 0)),(3,.lf (.v (.int .i64 (List.length u0_0 : Int)))),(4,.lf (.v (.int .i64 x4))),(5,.lf (.own 5 0))],H := [(1,[.one (.v (.slice Au0_0 (List.length u0_0) cu0_0)),.arr .i64 4 u0_1]),(5,[.arr .i64 11 L8])],V := [],M := M,ds := [] }) [1,3,4,5] [1,5] [] (by kernel_rfl) (by kernel_rfl) ?_
      refine TI_end (by kernel_rfl) ?_
      refine thenQ_n ?_
      refine T_seq (c1:=(sub [1,1,1,1,0,1,0,0,1,0,0,1,0] (bodyOf Try.f21))) (c2:=(sub [1,1,1,1,0,1,0,0,1,0,0,1,1] (bodyOf Try.f21))) (by kernel_rfl) ?_
      obtain ⟨j10,e_j10,h⟩ := jn_some h
      refine T_cut (c1:=(sub [1,1,1,1,0,1,0,0,1,0,0,1,0,0] (bodyOf Try.f21))) (c2:=(sub [1,1,1,1,0,1,0,0,1,0,0,1,0,1] (bodyOf Try.f21))) (fun s' => ∃ (b9 : Bool),Sub { σ := [(1,.lf (.own 1 0)),(3,.lf (.v (.int .i64 (List.length u0_0 : Int)))),(4,.lf (.v (.int .i64 x4))),(5,.lf (.own 5 0)),(54,.lf (.v (.bool b9)))],H := [(1,[.one (.v (.slice Au0_0 (List.length u0_0) cu0_0)),.arr .i64 4 u0_1]),(5,[.arr .i64 11 L8])],V := [],M := M,ds := [] } s' ∧ j10 b9 = some r) (by kernel_rfl) ?_ ?_
      ·obtain ⟨x11,e_x11,h⟩ := lt_some h
       obtain ⟨v12,c_v12,h⟩ := cl_some h
       cases v12 with
       | true =>
        replace h := sp_t h
        obtain ⟨b13,e_b13,h⟩ := lt_some h
        cases b13 with
        | true =>
         replace h := sp_t h
         obtain ⟨x14,e_x14,h⟩ := lt_some h
         obtain ⟨x15,e_x15,h⟩ := lt_some h
         obtain ⟨g16,h⟩ := gd_some h
         obtain ⟨x17,e_x17,h⟩ := lt_some h
         obtain ⟨b18,e_b18,h⟩ := lt_some h
         cases b18 with
         | true =>
          replace h := sp_t h
          refine T_draw' (id:=10) [] [0,0,0,0,0,0,0,0,0,0,0,0,0,0,0,0,0,0,0,0,0,0,0,0,0,0] (by kernel_rfl) (by kernel_rfl) (by kernel_rfl) (by kernel_rfl) [(29,.lf (.own 5 0)),(30,.lf (.v (.int .i64 x11))),(31,.lf (.v (.bool true))),(32,.lf (.v (.bool false))),(33,.lf (.v (.bool false))),(34,.lf (.v (.int .i64 x4))),(35,.lf (.v (.bool true))),(36,.lf (.v (.bool true))),(37,.lf (.own 5 0)),(38,.lf (.v (.int .i64 x14))),(39,.lf (.own 1 0)),(40,.lf (.v (.slice Au0_0 (List.length u0_0) cu0_0))),(41,.lf (.v (.int .i64 x4))),(42,.lf (.v (.int .i64 x15))),(43,.lf (.ep (.slice Au0_0 (List.length u0_0) cu0_0) 11 ((x15).toNat) 0)),(44,.lf (.ep (.slice Au0_0 (List.length u0_0) cu0_0) 11 ((x15).toNat) 0)),(45,.lf (.v (.int .i64 x17))),(46,.lf (.v (.bool true))),(47,.lf (.v (.bool true))),(48,.lf (.v (.bool true))),(49,.lf (.v (.bool true))),(50,.tup []),(51,.tup []),(52,.tup []),(53,.tup []),(54,.lf (.v (.bool true)))] (by kernel_rfl) ⟨trivial,⟨trivial,⟨trivial,⟨trivial,⟨trivial,⟨trivial,⟨trivial,⟨trivial,⟨trivial,⟨trivial,⟨trivial,⟨trivial,⟨trivial,⟨trivial,⟨trivial,⟨trivial,⟨trivial,⟨trivial,⟨trivial,⟨trivial,⟨trivial,⟨(by intro y hy;cases hy),⟨(by intro y hy;cases hy),⟨(by intro y hy;cases hy),⟨(by intro y hy;cases hy),⟨trivial,trivial⟩⟩⟩⟩⟩⟩⟩⟩⟩⟩⟩⟩⟩⟩⟩⟩⟩⟩⟩⟩⟩⟩⟩⟩⟩⟩ ?_
          refine Stage_nil (stage_all' [0,1,3,4,5,7,8,9,10,11,12,13,15,18,19,20,21,22,23,24,25] [2,6,14,16,17] (by kernel_rfl) (by subst_vars; kernel_rfl) (by kernel_rfl) ⟨QF_at (i:=2) (d:=31) (x:=.lf (.v (.bool true))) (show OpAt _ _ _ 2 31 _ from by exact At_call (d:=31) (f:=50) (args:=[rval (.lf (.v (.int .i64 x11))),rval (.lf (.v (.int .i64 (0 : Int)))),rval (.lf (.v (.int .i64 (1099511627776 : Int))))]) (x:=.lf (.v (.bool true))) (by subst_vars; kernel_rfl) (w50 k  c_v12)) (by kernel_rfl) (by subst_vars; kernel_rfl),⟨QF_at (i:=6) (d:=35) (x:=.lf (.v (.bool true))) (show OpAt _ _ _ 6 35 _ from by exact At_bin (d:=35) (b:=.gtr) (u:=.int .i64 x4) (v:=.int .i64 (0 : Int)) (w':=.bool true) (by subst_vars; kernel_rfl) (by rw [show exBin .gtr (.int .i64 x4) (.int .i64 (0 : Int)) = some (.bool (decide (x4 > (0 : Int)))) from by kernel_rfl,← e_b13])) (by kernel_rfl) (by subst_vars; kernel_rfl),⟨QF_at (i:=14) (d:=43) (x:=.lf (.ep (.slice Au0_0 (List.length u0_0) cu0_0) 11 ((x15).toNat) 0)) (show OpAt _ _ _ 14 43 _ from by exact At_idxR (d:=43) (z:=x15) (by subst_vars; kernel_rfl) g16 hu0_0) (by kernel_rfl) (by subst_vars; kernel_rfl),⟨QF_at (i:=16) (d:=45) (x:=.lf (.v (.int .i64 x17))) (show OpAt _ _ _ 16 45 _ from by rw [e_x17]; exact At_ldR1 (d:=45) (q:=(x15).toNat) (j:=0) (by subst_vars; kernel_rfl) rfl (toNat_lt g16) hu0_0) (by kernel_rfl) (by subst_vars; kernel_rfl),⟨QF_at (i:=17) (d:=46) (x:=.lf (.v (.bool true))) (show OpAt _ _ _ 17 46 _ from by exact At_bin (d:=46) (b:=.leq) (u:=.int .i64 x14) (v:=.int .i64 x17) (w':=.bool true) (by subst_vars; kernel_rfl) (by rw [show exBin .leq (.int .i64 x14) (.int .i64 x17) = some (.bool (decide (x14 ≤ x17))) from by kernel_rfl,← e_b18])) (by kernel_rfl) (by subst_vars; kernel_rfl),trivial⟩⟩⟩⟩⟩) ?_
          refine thenQ_n ?_
          exact ⟨true,keep_sub (ts:=[1,3,4,5,54]) (hs:=[1,5]) (vs:=[]) (by subst_vars;kernel_rfl),h⟩
         | false =>
          replace h := sp_f h
          obtain ⟨v19,c_v19,h⟩ := cl_some h
          refine T_draw' (id:=10) [] [0,0,0,0,0,0,0,0,0,0,0,0,0,0,0,0,0,0,0,0,0,0,0,0,0,0] (by kernel_rfl) (by kernel_rfl) (by kernel_rfl) (by kernel_rfl) [(29,.lf (.own 5 0)),(30,.lf (.v (.int .i64 x11))),(31,.lf (.v (.bool true))),(32,.lf (.v (.bool false))),(33,.lf (.v (.bool false))),(34,.lf (.v (.int .i64 x4))),(35,.lf (.v (.bool true))),(36,.lf (.v (.bool true))),(37,.lf (.own 5 0)),(38,.lf (.v (.int .i64 x14))),(39,.lf (.own 1 0)),(40,.lf (.v (.slice Au0_0 (List.length u0_0) cu0_0))),(41,.lf (.v (.int .i64 x4))),(42,.lf (.v (.int .i64 x15))),(43,.lf (.ep (.slice Au0_0 (List.length u0_0) cu0_0) 11 ((x15).toNat) 0)),(44,.lf (.ep (.slice Au0_0 (List.length u0_0) cu0_0) 11 ((x15).toNat) 0)),(45,.lf (.v (.int .i64 x17))),(46,.lf (.v (.bool false))),(47,.lf (.v (.bool false))),(48,.lf (.v (.bool false))),(49,.lf (.v (.bool false))),(50,.lf (.own 5 1)),(51,.agg [.arr .i64 2 (List.take 2 (List.drop 1 L8))]),(52,.lf (.v (.bool v19))),(53,.lf (.v (.bool (!v19)))),(54,.lf (.v (.bool (!v19))))] (by kernel_rfl) ⟨trivial,⟨trivial,⟨trivial,⟨trivial,⟨trivial,⟨trivial,⟨trivial,⟨trivial,⟨trivial,⟨trivial,⟨trivial,⟨trivial,⟨trivial,⟨trivial,⟨trivial,⟨trivial,⟨trivial,⟨trivial,⟨trivial,⟨trivial,⟨trivial,⟨trivial,⟨⟨(len_dt l_L8 (Nat.le_of_ble_eq_true rfl)),trivial⟩,⟨trivial,⟨trivial,⟨trivial,trivial⟩⟩⟩⟩⟩⟩⟩⟩⟩⟩⟩⟩⟩⟩⟩⟩⟩⟩⟩⟩⟩⟩⟩⟩⟩⟩ ?_
          refine Stage_nil (stage_all' [0,1,3,4,5,7,8,9,10,11,12,13,15,18,19,20,21,22,24,25] [2,6,14,16,17,23] (by kernel_rfl) (by subst_vars; kernel_rfl) (by kernel_rfl) ⟨QF_at (i:=2) (d:=31) (x:=.lf (.v (.bool true))) (show OpAt _ _ _ 2 31 _ from by exact At_call (d:=31) (f:=50) (args:=[rval (.lf (.v (.int .i64 x11))),rval (.lf (.v (.int .i64 (0 : Int)))),rval (.lf (.v (.int .i64 (1099511627776 : Int))))]) (x:=.lf (.v (.bool true))) (by subst_vars; kernel_rfl) (w50 k  c_v12)) (by kernel_rfl) (by subst_vars; kernel_rfl),⟨QF_at (i:=6) (d:=35) (x:=.lf (.v (.bool true))) (show OpAt _ _ _ 6 35 _ from by exact At_bin (d:=35) (b:=.gtr) (u:=.int .i64 x4) (v:=.int .i64 (0 : Int)) (w':=.bool true) (by subst_vars; kernel_rfl) (by rw [show exBin .gtr (.int .i64 x4) (.int .i64 (0 : Int)) = some (.bool (decide (x4 > (0 : Int)))) from by kernel_rfl,← e_b13])) (by kernel_rfl) (by subst_vars; kernel_rfl),⟨QF_at (i:=14) (d:=43) (x:=.lf (.ep (.slice Au0_0 (List.length u0_0) cu0_0) 11 ((x15).toNat) 0)) (show OpAt _ _ _ 14 43 _ from by exact At_idxR (d:=43) (z:=x15) (by subst_vars; kernel_rfl) g16 hu0_0) (by kernel_rfl) (by subst_vars; kernel_rfl),⟨QF_at (i:=16) (d:=45) (x:=.lf (.v (.int .i64 x17))) (show OpAt _ _ _ 16 45 _ from by rw [e_x17]; exact At_ldR1 (d:=45) (q:=(x15).toNat) (j:=0) (by subst_vars; kernel_rfl) rfl (toNat_lt g16) hu0_0) (by kernel_rfl) (by subst_vars; kernel_rfl),⟨QF_at (i:=17) (d:=46) (x:=.lf (.v (.bool false))) (show OpAt _ _ _ 17 46 _ from by exact At_bin (d:=46) (b:=.leq) (u:=.int .i64 x14) (v:=.int .i64 x17) (w':=.bool false) (by subst_vars; kernel_rfl) (by rw [show exBin .leq (.int .i64 x14) (.int .i64 x17) = some (.bool (decide (x14 ≤ x17))) from by kernel_rfl,← e_b18])) (by kernel_rfl) (by subst_vars; kernel_rfl),⟨QF_at (i:=23) (d:=52) (x:=.lf (.v (.bool v19))) (show OpAt _ _ _ 23 52 _ from by exact At_call (d:=52) (f:=52) (args:=[rval (.agg [.arr .i64 2 (List.take 2 (List.drop 1 L8))])]) (x:=.lf (.v (.bool v19))) (by subst_vars; kernel_rfl) (w52 k (len_dt l_L8 (Nat.le_of_ble_eq_true rfl)) c_v19)) (by kernel_rfl) (by subst_vars; kernel_rfl),trivial⟩⟩⟩⟩⟩⟩) ?_
          refine thenQ_n ?_
          exact ⟨(!v19),keep_sub (ts:=[1,3,4,5,54]) (hs:=[1,5]) (vs:=[]) (by subst_vars;kernel_rfl),h⟩
        | false =>
         replace h := sp_f h
         obtain ⟨v20,c_v20,h⟩ := cl_some h
         refine T_draw' (id:=10) [] [0,0,0,0,0,0,0,0,0,0,0,0,0,0,0,0,0,0,0,0,0,0,0,0,0,0] (by kernel_rfl) (by kernel_rfl) (by kernel_rfl) (by kernel_rfl) [(29,.lf (.own 5 0)),(30,.lf (.v (.int .i64 x11))),(31,.lf (.v (.bool true))),(32,.lf (.v (.bool false))),(33,.lf (.v (.bool false))),(34,.lf (.v (.int .i64 x4))),(35,.lf (.v (.bool false))),(36,.lf (.v (.bool false))),(37,.tup []),(38,.tup []),(39,.tup []),(40,.tup []),(41,.tup []),(42,.tup []),(43,.tup []),(44,.tup []),(45,.tup []),(46,.tup []),(47,.lf (.v (.bool false))),(48,.lf (.v (.bool false))),(49,.lf (.v (.bool false))),(50,.lf (.own 5 1)),(51,.agg [.arr .i64 2 (List.take 2 (List.drop 1 L8))]),(52,.lf (.v (.bool v20))),(53,.lf (.v (.bool (!v20)))),(54,.lf (.v (.bool (!v20))))] (by kernel_rfl) ⟨trivial,⟨trivial,⟨trivial,⟨trivial,⟨trivial,⟨trivial,⟨trivial,⟨trivial,⟨(by intro y hy;cases hy),⟨(by intro y hy;cases hy),⟨(by intro y hy;cases hy),⟨(by intro y hy;cases hy),⟨(by intro y hy;cases hy),⟨(by intro y hy;cases hy),⟨(by intro y hy;cases hy),⟨(by intro y hy;cases hy),⟨(by intro y hy;cases hy),⟨(by intro y hy;cases hy),⟨trivial,⟨trivial,⟨trivial,⟨trivial,⟨⟨(len_dt l_L8 (Nat.le_of_ble_eq_true rfl)),trivial⟩,⟨trivial,⟨trivial,⟨trivial,trivial⟩⟩⟩⟩⟩⟩⟩⟩⟩⟩⟩⟩⟩⟩⟩⟩⟩⟩⟩⟩⟩⟩⟩⟩⟩⟩ ?_
         refine Stage_nil (stage_all' [0,1,3,4,5,7,8,9,10,11,12,13,14,15,16,17,18,19,20,21,22,24,25] [2,6,23] (by kernel_rfl) (by subst e_x11;kernel_rfl) (by kernel_rfl) ⟨QF_at (i:=2) (d:=31) (x:=.lf (.v (.bool true))) (show OpAt _ _ _ 2 31 _ from by exact At_call (d:=31) (f:=50) (args:=[rval (.lf (.v (.int .i64 x11))),rval (.lf (.v (.int .i64 (0 : Int)))),rval (.lf (.v (.int .i64 (1099511627776 : Int))))]) (x:=.lf (.v (.bool true))) (by subst e_x11;kernel_rfl) (w50 k  c_v12)) (by kernel_rfl) (by subst e_x11;kernel_rfl),⟨QF_at (i:=6) (d:=35) (x:=.lf (.v (.bool false))) (show OpAt _ _ _ 6 35 _ from by exact At_bin (d:=35) (b:=.gtr) (u:=.int .i64 x4) (v:=.int .i64 (0 : Int)) (w':=.bool false) (by subst e_x11;kernel_rfl) (by rw [show exBin .gtr (.int .i64 x4) (.int .i64 (0 : Int)) = some (.bool (decide (x4 > (0 : Int)))) from by kernel_rfl,← e_b13])) (by kernel_rfl) (by subst e_x11;kernel_rfl),⟨QF_at (i:=23) (d:=52) (x:=.lf (.v (.bool v20))) (show OpAt _ _ _ 23 52 _ from by exact At_call (d:=52) (f:=52) (args:=[rval (.agg [.arr .i64 2 (List.take 2 (List.drop 1 L8))])]) (x:=.lf (.v (.bool v20))) (by subst e_x11;kernel_rfl) (w52 k (len_dt l_L8 (Nat.le_of_ble_eq_true rfl)) c_v20)) (by kernel_rfl) (by subst e_x11;kernel_rfl),trivial⟩⟩⟩) ?_
         refine thenQ_n ?_
         exact ⟨(!v20),keep_sub (ts:=[1,3,4,5,54]) (hs:=[1,5]) (vs:=[]) (by subst e_x11;kernel_rfl),h⟩
       | false =>
        replace h := sp_f h
        refine T_draw' (id:=10) [] [0,0,0,0,0,0,0,0,0,0,0,0,0,0,0,0,0,0,0,0,0,0,0,0,0,0] (by kernel_rfl) (by kernel_rfl) (by kernel_rfl) (by kernel_rfl) [(29,.lf (.own 5 0)),(30,.lf (.v (.int .i64 x11))),(31,.lf (.v (.bool false))),(32,.lf (.v (.bool true))),(33,.lf (.v (.bool true))),(34,.tup []),(35,.tup []),(36,.tup []),(37,.tup []),(38,.tup []),(39,.tup []),(40,.tup []),(41,.tup []),(42,.tup []),(43,.tup []),(44,.tup []),(45,.tup []),(46,.tup []),(47,.tup []),(48,.lf (.v (.bool true))),(49,.lf (.v (.bool true))),(50,.tup []),(51,.tup []),(52,.tup []),(53,.tup []),(54,.lf (.v (.bool true)))] (by kernel_rfl) ⟨trivial,⟨trivial,⟨trivial,⟨trivial,⟨trivial,⟨(by intro y hy;cases hy),⟨(by intro y hy;cases hy),⟨(by intro y hy;cases hy),⟨(by intro y hy;cases hy),⟨(by intro y hy;cases hy),⟨(by intro y hy;cases hy),⟨(by intro y hy;cases hy),⟨(by intro y hy;cases hy),⟨(by intro y hy;cases hy),⟨(by intro y hy;cases hy),⟨(by intro y hy;cases hy),⟨(by intro y hy;cases hy),⟨(by intro y hy;cases hy),⟨(by intro y hy;cases hy),⟨trivial,⟨trivial,⟨(by intro y hy;cases hy),⟨(by intro y hy;cases hy),⟨(by intro y hy;cases hy),⟨(by intro y hy;cases hy),⟨trivial,trivial⟩⟩⟩⟩⟩⟩⟩⟩⟩⟩⟩⟩⟩⟩⟩⟩⟩⟩⟩⟩⟩⟩⟩⟩⟩⟩ ?_
        refine Stage_nil (stage_all' [0,1,3,4,5,6,7,8,9,10,11,12,13,14,15,16,17,18,19,20,21,22,23,24,25] [2] (by kernel_rfl) (by subst e_x11;kernel_rfl) (by kernel_rfl) ⟨QF_at (i:=2) (d:=31) (x:=.lf (.v (.bool false))) (show OpAt _ _ _ 2 31 _ from by exact At_call (d:=31) (f:=50) (args:=[rval (.lf (.v (.int .i64 x11))),rval (.lf (.v (.int .i64 (0 : Int)))),rval (.lf (.v (.int .i64 (1099511627776 : Int))))]) (x:=.lf (.v (.bool false))) (by subst e_x11;kernel_rfl) (w50 k  c_v12)) (by kernel_rfl) (by subst e_x11;kernel_rfl),trivial⟩) ?_
        refine thenQ_n ?_
        exact ⟨true,keep_sub (ts:=[1,3,4,5,54]) (hs:=[1,5]) (vs:=[]) (by subst e_x11;kernel_rfl),h⟩
      ·rintro s' ⟨b9,hsub,h⟩
       subst e_j10
       refine T_sub hsub ?_
       cases b9 with
       | true =>
        replace h := sp_t h
        refine T_condT (x:=(.tmp 54)) (c1:=(sub [1,1,1,1,0,1,0,0,1,0,0,1,0,1,0] (bodyOf Try.f21))) (c2:=(sub [1,1,1,1,0,1,0,0,1,0,0,1,0,1,1] (bodyOf Try.f21))) (by kernel_rfl) (by kernel_rfl) ?_
        refine T_keep (s':={ σ := [],H := [],V := [],M := M,ds := [] }) [] [] [] (by kernel_rfl) ?_
        refine T_seq (c1:=(sub [1,1,1,1,0,1,0,0,1,0,0,1,0,1,0,0] (bodyOf Try.f21))) (c2:=(sub [1,1,1,1,0,1,0,0,1,0,0,1,0,1,0,1] (bodyOf Try.f21))) (by kernel_rfl) ?_
        refine T_region (id:=11) (by kernel_rfl) ?_
        refine TI_segK (i:=0) (j:=1) (s':={ σ := [(2,.lf (.v (.int .i64 (2 : Int))))],H := [],V := [],M := M,ds := [] }) [2] [] [] (by kernel_rfl) (by kernel_rfl) ?_
        refine TI_end (by kernel_rfl) ?_
        refine thenQ_n ?_
        refine T_ret (by kernel_rfl) ?_
        refine thenQ_r ?_
        refine blockQ_r ?_
        refine thenQ_r ?_
        refine thenQ_r ?_
        refine blockQ_r ?_
        refine thenQ_r ?_
        refine thenQ_r ?_
        have h := Option.some.inj h
        subst h
        refine fin_ret (.lf (.v (.int .i64 (2 : Int)))) (by kernel_rfl) (by kernel_rfl) rfl ?_
        rfl
       | false =>
        replace h := sp_f h
        refine T_condF (x:=(.tmp 54)) (c1:=(sub [1,1,1,1,0,1,0,0,1,0,0,1,0,1,0] (bodyOf Try.f21))) (c2:=(sub [1,1,1,1,0,1,0,0,1,0,0,1,0,1,1] (bodyOf Try.f21))) (by kernel_rfl) (by kernel_rfl) ?_
        refine T_keep (s':={ σ := [(1,.lf (.own 1 0)),(3,.lf (.v (.int .i64 (List.length u0_0 : Int)))),(4,.lf (.v (.int .i64 x4))),(5,.lf (.own 5 0))],H := [(1,[.one (.v (.slice Au0_0 (List.length u0_0) cu0_0)),.arr .i64 4 u0_1]),(5,[.arr .i64 11 L8])],V := [],M := M,ds := [] }) [1,3,4,5] [1,5] [] (by kernel_rfl) ?_
        refine T_skip (by kernel_rfl) ?_
        refine thenQ_n ?_
        refine T_seq (c1:=(sub [1,1,1,1,0,1,0,0,1,0,0,1,1,0] (bodyOf Try.f21))) (c2:=(sub [1,1,1,1,0,1,0,0,1,0,0,1,1,1] (bodyOf Try.f21))) (by kernel_rfl) ?_
        refine T_region (id:=12) (by kernel_rfl) ?_
        refine TI_segK (i:=0) (j:=1) (s':={ σ := [(1,.lf (.own 1 0)),(3,.lf (.v (.int .i64 (List.length u0_0 : Int)))),(4,.lf (.v (.int .i64 x4))),(5,.lf (.own 5 0)),(6,.lf (.v (.int .i64 (0 : Int))))],H := [(1,[.one (.v (.slice Au0_0 (List.length u0_0) cu0_0)),.arr .i64 4 u0_1]),(5,[.arr .i64 11 L8])],V := [],M := M,ds := [] }) [1,3,4,5,6] [1,5] [] (by kernel_rfl) (by kernel_rfl) ?_
        refine TI_end (by kernel_rfl) ?_
        refine thenQ_n ?_
        obtain ⟨j21,e_j21,h⟩ := jn_some h
        refine T_bcut (id:=2) (c1:=(sub [1,1,1,1,0,1,0,0,1,0,0,1,1,1,0] (bodyOf Try.f21))) (fun s' => Sub { σ := [(1,.lf (.own 1 0)),(3,.lf (.v (.int .i64 (List.length u0_0 : Int)))),(4,.lf (.v (.int .i64 x4)))],H := [(1,[.one (.v (.slice Au0_0 (List.length u0_0) cu0_0)),.arr .i64 4 u0_1])],V := [],M := M,ds := [] } s' ∧ j21 = some r) (by kernel_rfl) ?_ ?_
        ·refine T_loop (c1:=(sub [1,1,1,1,0,1,0,0,1,0,0,1,1,1,0,0] (bodyOf Try.f21))) (by kernel_rfl) (fun n23 s' => ∃ (x22 : Int),Sub { σ := [(1,.lf (.own 1 0)),(3,.lf (.v (.int .i64 (List.length u0_0 : Int)))),(4,.lf (.v (.int .i64 x4))),(5,.lf (.own 5 0)),(6,.lf (.v (.int .i64 x22)))],H := [(1,[.one (.v (.slice Au0_0 (List.length u0_0) cu0_0)),.arr .i64 4 u0_1]),(5,[.arr .i64 11 L8])],V := [],M := M,ds := [] } s' ∧ p21_l2 k j21 L8 n23 x22 = some r) (k:=k) ⟨(0 : Int),keep_sub (ts:=[1,3,4,5,6]) (hs:=[1,5]) (vs:=[]) (by kernel_rfl),h⟩ ?_
         rintro n23 s' ⟨x22,hsub,h⟩
         cases n23 with
         | zero => rw [p21_l2] at h;cases h
         | succ n23 =>
          rw [p21_l2] at h
          refine T_sub hsub ?_
          refine T_seq (c1:=(sub [1,1,1,1,0,1,0,0,1,0,0,1,1,1,0,0,0] (bodyOf Try.f21))) (c2:=(sub [1,1,1,1,0,1,0,0,1,0,0,1,1,1,0,0,1] (bodyOf Try.f21))) (by kernel_rfl) ?_
          refine T_seq (c1:=(sub [1,1,1,1,0,1,0,0,1,0,0,1,1,1,0,0,0,0] (bodyOf Try.f21))) (c2:=(sub [1,1,1,1,0,1,0,0,1,0,0,1,1,1,0,0,0,1] (bodyOf Try.f21))) (by kernel_rfl) ?_
          refine T_region (id:=13) (by kernel_rfl) ?_
          obtain ⟨b24,e_b24,h⟩ := lt_some h
          refine TI_segK (i:=0) (j:=2) (s':={ σ := [(1,.lf (.own 1 0)),(3,.lf (.v (.int .i64 (List.length u0_0 : Int)))),(4,.lf (.v (.int .i64 x4))),(5,.lf (.own 5 0)),(6,.lf (.v (.int .i64 x22))),(56,.lf (.v (.bool b24)))],H := [(1,[.one (.v (.slice Au0_0 (List.length u0_0) cu0_0)),.arr .i64 4 u0_1]),(5,[.arr .i64 11 L8])],V := [],M := M,ds := [] }) [1,3,4,5,6,56] [1,5] [] (by subst e_b24;kernel_rfl) (by kernel_rfl) ?_
          refine TI_end (by kernel_rfl) ?_
          refine thenQ_n ?_
          cases b24 with
          | true =>
           replace h := sp_t h
           refine T_condT (x:=(.tmp 56)) (c1:=(sub [1,1,1,1,0,1,0,0,1,0,0,1,1,1,0,0,0,1,0] (bodyOf Try.f21))) (c2:=(sub [1,1,1,1,0,1,0,0,1,0,0,1,1,1,0,0,0,1,1] (bodyOf Try.f21))) (by kernel_rfl) (by kernel_rfl) ?_
           refine T_keep (s':={ σ := [(1,.lf (.own 1 0)),(3,.lf (.v (.int .i64 (List.length u0_0 : Int)))),(4,.lf (.v (.int .i64 x4))),(5,.lf (.own 5 0)),(6,.lf (.v (.int .i64 x22)))],H := [(1,[.one (.v (.slice Au0_0 (List.length u0_0) cu0_0)),.arr .i64 4 u0_1]),(5,[.arr .i64 11 L8])],V := [],M := M,ds := [] }) [1,3,4,5,6] [1,5] [] (by kernel_rfl) ?_
           refine T_skip (by kernel_rfl) ?_
           refine thenQ_n ?_
           refine T_seq (c1:=(sub [1,1,1,1,0,1,0,0,1,0,0,1,1,1,0,0,1,0] (bodyOf Try.f21))) (c2:=(sub [1,1,1,1,0,1,0,0,1,0,0,1,1,1,0,0,1,1] (bodyOf Try.f21))) (by kernel_rfl) ?_
           refine T_block (id:=3) (c1:=(sub [1,1,1,1,0,1,0,0,1,0,0,1,1,1,0,0,1,0,0] (bodyOf Try.f21))) (by kernel_rfl) ?_
           refine T_seq (c1:=(sub [1,1,1,1,0,1,0,0,1,0,0,1,1,1,0,0,1,0,0,0] (bodyOf Try.f21))) (c2:=(sub [1,1,1,1,0,1,0,0,1,0,0,1,1,1,0,0,1,0,0,1] (bodyOf Try.f21))) (by kernel_rfl) ?_
           refine T_region (id:=15) (by kernel_rfl) ?_
           refine TI_segK (i:=0) (j:=2) (s':={ σ := [(1,.lf (.own 1 0)),(3,.lf (.v (.int .i64 (List.length u0_0 : Int)))),(4,.lf (.v (.int .i64 x4))),(5,.lf (.own 5 0)),(6,.lf (.v (.int .i64 x22))),(59,.lf (.v (.int .i64 x22))),(60,.lf (.own 5 3))],H := [(1,[.one (.v (.slice Au0_0 (List.length u0_0) cu0_0)),.arr .i64 4 u0_1]),(5,[.arr .i64 11 L8])],V := [],M := M,ds := [] }) [1,3,4,5,6,59,60] [1,5] [] (by kernel_rfl) (by kernel_rfl) ?_
           obtain ⟨g25,h⟩ := gd_some h
           refine TI_at (i:=2) (d:=61) (x:=.lf (.oel 5 (3 + (x22).toNat * 2))) (by exact At_idxO (d:=61) (z:=x22) (b:=5) (off:=3) (sz:=2) (n:=4) (by kernel_rfl) g25) (by kernel_rfl) trivial ?_
           obtain ⟨L26,e_L26,h⟩ := lt_some h
           have l_L26 : (L26).length = 2 := by rw [e_L26]; exact len_dt l_L8 (by omega)
           refine TI_at (i:=3) (d:=62) (x:=.agg [.arr .i64 2 L26]) (by rw [e_L26]; exact At_ldO (d:=62) (b:=5) (off:=3 + (x22).toNat * 2) (base:=0) (q:=3 + (x22).toNat * 2) (n:=11) (k:=.i64) (L:=L8) (by subst e_L26; kernel_rfl) (by subst e_L26; kernel_rfl) (by omega) (by omega)) (by kernel_rfl) ⟨l_L26,trivial⟩ ?_
           obtain ⟨v27,c_v27,h⟩ := cl_some h
           refine TI_at (i:=4) (d:=63) (x:=.lf (.v (.bool v27))) (At_call (d:=63) (f:=52) (args:=[rval (.agg [.arr .i64 2 L26])]) (x:=.lf (.v (.bool v27))) (by kernel_rfl) (w52 k l_L26 c_v27)) (by kernel_rfl) trivial ?_
           refine TI_segK (i:=5) (j:=6) (s':={ σ := [(1,.lf (.own 1 0)),(3,.lf (.v (.int .i64 (List.length u0_0 : Int)))),(4,.lf (.v (.int .i64 x4))),(5,.lf (.own 5 0)),(6,.lf (.v (.int .i64 x22))),(64,.lf (.v (.bool (!v27))))],H := [(1,[.one (.v (.slice Au0_0 (List.length u0_0) cu0_0)),.arr .i64 4 u0_1]),(5,[.arr .i64 11 L8])],V := [],M := M,ds := [] }) [1,3,4,5,6,64] [1,5] [] (by kernel_rfl) (by kernel_rfl) ?_
           refine TI_end (by kernel_rfl) ?_
           refine thenQ_n ?_
           cases v27 with
           | true =>
            replace h := sp_t h
            refine T_condF (x:=(.tmp 64)) (c1:=(sub [1,1,1,1,0,1,0,0,1,0,0,1,1,1,0,0,1,0,0,1,0] (bodyOf Try.f21))) (c2:=(sub [1,1,1,1,0,1,0,0,1,0,0,1,1,1,0,0,1,0,0,1,1] (bodyOf Try.f21))) (by kernel_rfl) (by kernel_rfl) ?_
            refine T_keep (s':={ σ := [(1,.lf (.own 1 0)),(3,.lf (.v (.int .i64 (List.length u0_0 : Int)))),(4,.lf (.v (.int .i64 x4))),(5,.lf (.own 5 0)),(6,.lf (.v (.int .i64 x22)))],H := [(1,[.one (.v (.slice Au0_0 (List.length u0_0) cu0_0)),.arr .i64 4 u0_1]),(5,[.arr .i64 11 L8])],V := [],M := M,ds := [] }) [1,3,4,5,6] [1,5] [] (by kernel_rfl) ?_
            refine T_skip (by kernel_rfl) ?_
            refine blockQ_n ?_
            refine thenQ_n ?_
            refine T_region (id:=14) (by kernel_rfl) ?_
            obtain ⟨x28,e_x28,h⟩ := lt_some h
            refine TI_segK (i:=0) (j:=3) (s':={ σ := [(1,.lf (.own 1 0)),(3,.lf (.v (.int .i64 (List.length u0_0 : Int)))),(4,.lf (.v (.int .i64 x4))),(5,.lf (.own 5 0)),(6,.lf (.v (.int .i64 x28)))],H := [(1,[.one (.v (.slice Au0_0 (List.length u0_0) cu0_0)),.arr .i64 4 u0_1]),(5,[.arr .i64 11 L8])],V := [],M := M,ds := [] }) [1,3,4,5,6] [1,5] [] (by subst e_x28;kernel_rfl) (by kernel_rfl) ?_
            refine TI_end (by kernel_rfl) ?_
            refine thenQ_n ?_
            exact ⟨n23,Nat.lt_succ_self _,x28,keep_sub (ts:=[1,3,4,5,6]) (hs:=[1,5]) (vs:=[]) (by kernel_rfl),h⟩
           | false =>
            replace h := sp_f h
            refine T_condT (x:=(.tmp 64)) (c1:=(sub [1,1,1,1,0,1,0,0,1,0,0,1,1,1,0,0,1,0,0,1,0] (bodyOf Try.f21))) (c2:=(sub [1,1,1,1,0,1,0,0,1,0,0,1,1,1,0,0,1,0,0,1,1] (bodyOf Try.f21))) (by kernel_rfl) (by kernel_rfl) ?_
            refine T_keep (s':={ σ := [],H := [],V := [],M := M,ds := [] }) [] [] [] (by kernel_rfl) ?_
            refine T_seq (c1:=(sub [1,1,1,1,0,1,0,0,1,0,0,1,1,1,0,0,1,0,0,1,0,0] (bodyOf Try.f21))) (c2:=(sub [1,1,1,1,0,1,0,0,1,0,0,1,1,1,0,0,1,0,0,1,0,1] (bodyOf Try.f21))) (by kernel_rfl) ?_
            refine T_region (id:=16) (by kernel_rfl) ?_
            refine TI_segK (i:=0) (j:=1) (s':={ σ := [(2,.lf (.v (.int .i64 (2 : Int))))],H := [],V := [],M := M,ds := [] }) [2] [] [] (by kernel_rfl) (by kernel_rfl) ?_
            refine TI_end (by kernel_rfl) ?_
            refine thenQ_n ?_
            refine T_ret (by kernel_rfl) ?_
            refine blockQ_r ?_
            refine thenQ_r ?_
            refine thenQ_r ?_
            refine blockQ_r ?_
            refine thenQ_r ?_
            refine blockQ_r ?_
            refine thenQ_r ?_
            refine thenQ_r ?_
            refine blockQ_r ?_
            refine thenQ_r ?_
            refine thenQ_r ?_
            have h := Option.some.inj h
            subst h
            refine fin_ret (.lf (.v (.int .i64 (2 : Int)))) (by kernel_rfl) (by kernel_rfl) rfl ?_
            rfl
          | false =>
           replace h := sp_f h
           refine T_condF (x:=(.tmp 56)) (c1:=(sub [1,1,1,1,0,1,0,0,1,0,0,1,1,1,0,0,0,1,0] (bodyOf Try.f21))) (c2:=(sub [1,1,1,1,0,1,0,0,1,0,0,1,1,1,0,0,0,1,1] (bodyOf Try.f21))) (by kernel_rfl) (by kernel_rfl) ?_
           refine T_keep (s':={ σ := [(1,.lf (.own 1 0)),(3,.lf (.v (.int .i64 (List.length u0_0 : Int)))),(4,.lf (.v (.int .i64 x4)))],H := [(1,[.one (.v (.slice Au0_0 (List.length u0_0) cu0_0)),.arr .i64 4 u0_1])],V := [],M := M,ds := [] }) [1,3,4] [1] [] (by kernel_rfl) ?_
           refine T_exit (id:=2) (by kernel_rfl) ?_
           refine thenQ_x ?_
           refine thenQ_x ?_
           refine blockQ_x ?_
           refine thenQ_n ?_
           exact ⟨keep_sub (ts:=[1,3,4]) (hs:=[1]) (vs:=[]) (by kernel_rfl),h⟩
        ·rintro s' ⟨hsub,h⟩
         subst e_j21
         refine blockQ_n ?_
         refine thenQ_n ?_
         refine T_sub hsub ?_
         refine T_region (id:=8) (by kernel_rfl) ?_
         obtain ⟨x29,e_x29,h⟩ := lt_some h
         refine TI_segK (i:=0) (j:=3) (s':={ σ := [(1,.lf (.own 1 0)),(3,.lf (.v (.int .i64 (List.length u0_0 : Int)))),(4,.lf (.v (.int .i64 x29)))],H := [(1,[.one (.v (.slice Au0_0 (List.length u0_0) cu0_0)),.arr .i64 4 u0_1])],V := [],M := M,ds := [] }) [1,3,4] [1] [] (by subst e_x29;kernel_rfl) (by kernel_rfl) ?_
         refine TI_end (by kernel_rfl) ?_
         refine thenQ_n ?_
         exact ⟨n5,Nat.lt_succ_self _,x29,keep_sub (ts:=[1,3,4]) (hs:=[1]) (vs:=[]) (by kernel_rfl),h⟩
     | false =>
      replace h := sp_f h
      refine T_condF (x:=(.tmp 21)) (c1:=(sub [1,1,1,1,0,1,0,0,0,1,0] (bodyOf Try.f21))) (c2:=(sub [1,1,1,1,0,1,0,0,0,1,1] (bodyOf Try.f21))) (by kernel_rfl) (by kernel_rfl) ?_
      refine T_keep (s':={ σ := [(1,.lf (.own 1 0)),(3,.lf (.v (.int .i64 (List.length u0_0 : Int))))],H := [(1,[.one (.v (.slice Au0_0 (List.length u0_0) cu0_0)),.arr .i64 4 u0_1])],V := [],M := M,ds := [] }) [1,3] [1] [] (by kernel_rfl) ?_
      refine T_exit (id:=0) (by kernel_rfl) ?_
      refine thenQ_x ?_
      refine thenQ_x ?_
      refine blockQ_x ?_
      refine thenQ_n ?_
      exact ⟨keep_sub (ts:=[1,3]) (hs:=[1]) (vs:=[]) (by kernel_rfl),h⟩
   ·rintro s' ⟨hsub,h⟩
    subst e_j3
    refine thenQ_n ?_
    refine T_sub hsub ?_
    refine T_seq (c1:=(sub [1,1,1,1,1,0] (bodyOf Try.f21))) (c2:=(sub [1,1,1,1,1,1] (bodyOf Try.f21))) (by kernel_rfl) ?_
    refine T_seq (c1:=(sub [1,1,1,1,1,0,0] (bodyOf Try.f21))) (c2:=(sub [1,1,1,1,1,0,1] (bodyOf Try.f21))) (by kernel_rfl) ?_
    obtain ⟨x30,e_x30,h⟩ := lt_some h
    obtain ⟨g31,h⟩ := gd_some h
    obtain ⟨x32,e_x32,h⟩ := lt_some h
    obtain ⟨g33,h⟩ := gd_some h
    obtain ⟨x34,e_x34,h⟩ := lt_some h
    obtain ⟨x35,e_x35,h⟩ := lt_some h
    obtain ⟨b36,e_b36,h⟩ := lt_some h
    refine T_draw' (id:=17) [] [0,0,0,0,0,0,0,0,0,0,0,0,0,0] (by kernel_rfl) (by kernel_rfl) (by kernel_rfl) (by kernel_rfl) [(65,.lf (.own 1 0)),(66,.lf (.v (.slice Au0_0 (List.length u0_0) cu0_0))),(67,.lf (.v (.int .i64 (List.length u0_0 : Int)))),(68,.lf (.v (.int .i64 x30))),(69,.lf (.ep (.slice Au0_0 (List.length u0_0) cu0_0) 11 ((x30).toNat) 0)),(70,.lf (.ep (.slice Au0_0 (List.length u0_0) cu0_0) 11 ((x30).toNat) 0)),(71,.lf (.v (.int .i64 x32))),(72,.lf (.own 1 0)),(73,.lf (.v (.slice Au0_0 (List.length u0_0) cu0_0))),(74,.lf (.ep (.slice Au0_0 (List.length u0_0) cu0_0) 11 0 0)),(75,.lf (.ep (.slice Au0_0 (List.length u0_0) cu0_0) 11 0 0)),(76,.lf (.v (.int .i64 x34))),(77,.lf (.v (.int .i64 x35))),(78,.lf (.v (.bool b36)))] (by kernel_rfl) (wfs_lf _ (by kernel_rfl)) ?_
    refine Stage_nil (stage_all' [0,1,2,3,5,7,8,10,12,13] [4,6,9,11] (by kernel_rfl) (by subst_vars; kernel_rfl) (by kernel_rfl) ⟨QF_at (i:=4) (d:=69) (x:=.lf (.ep (.slice Au0_0 (List.length u0_0) cu0_0) 11 ((x30).toNat) 0)) (show OpAt _ _ _ 4 69 _ from by exact At_idxR (d:=69) (z:=x30) (by subst_vars; kernel_rfl) g31 hu0_0) (by kernel_rfl) (by subst_vars; kernel_rfl),⟨QF_at (i:=6) (d:=71) (x:=.lf (.v (.int .i64 x32))) (show OpAt _ _ _ 6 71 _ from by rw [e_x32]; exact At_ldR1 (d:=71) (q:=(x30).toNat) (j:=0) (by subst_vars; kernel_rfl) rfl (toNat_lt g31) hu0_0) (by kernel_rfl) (by subst_vars; kernel_rfl),⟨QF_at (i:=9) (d:=74) (x:=.lf (.ep (.slice Au0_0 (List.length u0_0) cu0_0) 11 0 0)) (show OpAt _ _ _ 9 74 _ from by exact At_idxR (d:=74) (z:=(0 : Int)) (by subst_vars; kernel_rfl) g33 hu0_0) (by kernel_rfl) (by subst_vars; kernel_rfl),⟨QF_at (i:=11) (d:=76) (x:=.lf (.v (.int .i64 x34))) (show OpAt _ _ _ 11 76 _ from by rw [e_x34]; exact At_ldR1 (d:=76) (q:=0) (j:=0) (by subst_vars; kernel_rfl) rfl (toNat_lt g33) hu0_0) (by kernel_rfl) (by subst_vars; kernel_rfl),trivial⟩⟩⟩⟩) ?_
    refine thenQ_n ?_
    refine T_keep (s':={ σ := [(1,.lf (.own 1 0)),(78,.lf (.v (.bool b36)))],H := [(1,[.one (.v (.slice Au0_0 (List.length u0_0) cu0_0)),.arr .i64 4 u0_1])],V := [],M := M,ds := [] }) [1,78] [1] [] (by subst_vars;kernel_rfl) ?_
    cases b36 with
    | true =>
     replace h := sp_t h
     refine T_condT (x:=(.tmp 78)) (c1:=(sub [1,1,1,1,1,0,1,0] (bodyOf Try.f21))) (c2:=(sub [1,1,1,1,1,0,1,1] (bodyOf Try.f21))) (by kernel_rfl) (by kernel_rfl) ?_
     refine T_keep (s':={ σ := [],H := [],V := [],M := M,ds := [] }) [] [] [] (by kernel_rfl) ?_
     refine T_seq (c1:=(sub [1,1,1,1,1,0,1,0,0] (bodyOf Try.f21))) (c2:=(sub [1,1,1,1,1,0,1,0,1] (bodyOf Try.f21))) (by kernel_rfl) ?_
     refine T_region (id:=18) (by kernel_rfl) ?_
     refine TI_segK (i:=0) (j:=1) (s':={ σ := [(2,.lf (.v (.int .i64 (2 : Int))))],H := [],V := [],M := M,ds := [] }) [2] [] [] (by kernel_rfl) (by kernel_rfl) ?_
     refine TI_end (by kernel_rfl) ?_
     refine thenQ_n ?_
     refine T_ret (by kernel_rfl) ?_
     refine thenQ_r ?_
     have h := Option.some.inj h
     subst h
     refine fin_ret (.lf (.v (.int .i64 (2 : Int)))) (by kernel_rfl) (by kernel_rfl) rfl ?_
     rfl
    | false =>
     replace h := sp_f h
     refine T_condF (x:=(.tmp 78)) (c1:=(sub [1,1,1,1,1,0,1,0] (bodyOf Try.f21))) (c2:=(sub [1,1,1,1,1,0,1,1] (bodyOf Try.f21))) (by kernel_rfl) (by kernel_rfl) ?_
     refine T_keep (s':={ σ := [(1,.lf (.own 1 0))],H := [(1,[.one (.v (.slice Au0_0 (List.length u0_0) cu0_0)),.arr .i64 4 u0_1])],V := [],M := M,ds := [] }) [1] [1] [] (by kernel_rfl) ?_
     refine T_skip (by kernel_rfl) ?_
     refine thenQ_n ?_
     refine T_seq (c1:=(sub [1,1,1,1,1,1,0] (bodyOf Try.f21))) (c2:=(sub [1,1,1,1,1,1,1] (bodyOf Try.f21))) (by kernel_rfl) ?_
     refine T_seq (c1:=(sub [1,1,1,1,1,1,0,0] (bodyOf Try.f21))) (c2:=(sub [1,1,1,1,1,1,0,1] (bodyOf Try.f21))) (by kernel_rfl) ?_
     refine T_region (id:=19) (by kernel_rfl) ?_
     refine TI_segK (i:=0) (j:=1) (s':={ σ := [(1,.lf (.own 1 0)),(7,.lf (.v (.int .i64 (0 : Int))))],H := [(1,[.one (.v (.slice Au0_0 (List.length u0_0) cu0_0)),.arr .i64 4 u0_1])],V := [],M := M,ds := [] }) [1,7] [1] [] (by kernel_rfl) (by kernel_rfl) ?_
     refine TI_end (by kernel_rfl) ?_
     refine thenQ_n ?_
     obtain ⟨j37,e_j37,h⟩ := jn_some h
     refine T_bcut (id:=4) (c1:=(sub [1,1,1,1,1,1,0,1,0] (bodyOf Try.f21))) (fun s' => Sub { σ := [(1,.lf (.own 1 0))],H := [(1,[.one (.v (.slice Au0_0 (List.length u0_0) cu0_0)),.arr .i64 4 u0_1])],V := [],M := M,ds := [] } s' ∧ j37 = some r) (by kernel_rfl) ?_ ?_
     ·refine T_loop (c1:=(sub [1,1,1,1,1,1,0,1,0,0] (bodyOf Try.f21))) (by kernel_rfl) (fun n39 s' => ∃ (x38 : Int),Sub { σ := [(1,.lf (.own 1 0)),(7,.lf (.v (.int .i64 x38)))],H := [(1,[.one (.v (.slice Au0_0 (List.length u0_0) cu0_0)),.arr .i64 4 u0_1])],V := [],M := M,ds := [] } s' ∧ p21_l3 k u0_1 j37 n39 x38 = some r) (k:=k) ⟨(0 : Int),keep_sub (ts:=[1,7]) (hs:=[1]) (vs:=[]) (by kernel_rfl),h⟩ ?_
      rintro n39 s' ⟨x38,hsub,h⟩
      cases n39 with
      | zero => rw [p21_l3] at h;cases h
      | succ n39 =>
       rw [p21_l3] at h
       refine T_sub hsub ?_
       refine T_seq (c1:=(sub [1,1,1,1,1,1,0,1,0,0,0] (bodyOf Try.f21))) (c2:=(sub [1,1,1,1,1,1,0,1,0,0,1] (bodyOf Try.f21))) (by kernel_rfl) ?_
       refine T_seq (c1:=(sub [1,1,1,1,1,1,0,1,0,0,0,0] (bodyOf Try.f21))) (c2:=(sub [1,1,1,1,1,1,0,1,0,0,0,1] (bodyOf Try.f21))) (by kernel_rfl) ?_
       refine T_region (id:=20) (by kernel_rfl) ?_
       obtain ⟨b40,e_b40,h⟩ := lt_some h
       refine TI_segK (i:=0) (j:=2) (s':={ σ := [(1,.lf (.own 1 0)),(7,.lf (.v (.int .i64 x38))),(80,.lf (.v (.bool b40)))],H := [(1,[.one (.v (.slice Au0_0 (List.length u0_0) cu0_0)),.arr .i64 4 u0_1])],V := [],M := M,ds := [] }) [1,7,80] [1] [] (by subst e_b40;kernel_rfl) (by kernel_rfl) ?_
       refine TI_end (by kernel_rfl) ?_
       refine thenQ_n ?_
       cases b40 with
       | true =>
        replace h := sp_t h
        refine T_condT (x:=(.tmp 80)) (c1:=(sub [1,1,1,1,1,1,0,1,0,0,0,1,0] (bodyOf Try.f21))) (c2:=(sub [1,1,1,1,1,1,0,1,0,0,0,1,1] (bodyOf Try.f21))) (by kernel_rfl) (by kernel_rfl) ?_
        refine T_keep (s':={ σ := [(1,.lf (.own 1 0)),(7,.lf (.v (.int .i64 x38)))],H := [(1,[.one (.v (.slice Au0_0 (List.length u0_0) cu0_0)),.arr .i64 4 u0_1])],V := [],M := M,ds := [] }) [1,7] [1] [] (by kernel_rfl) ?_
        refine T_skip (by kernel_rfl) ?_
        refine thenQ_n ?_
        refine T_seq (c1:=(sub [1,1,1,1,1,1,0,1,0,0,1,0] (bodyOf Try.f21))) (c2:=(sub [1,1,1,1,1,1,0,1,0,0,1,1] (bodyOf Try.f21))) (by kernel_rfl) ?_
        refine T_block (id:=5) (c1:=(sub [1,1,1,1,1,1,0,1,0,0,1,0,0] (bodyOf Try.f21))) (by kernel_rfl) ?_
        refine T_seq (c1:=(sub [1,1,1,1,1,1,0,1,0,0,1,0,0,0] (bodyOf Try.f21))) (c2:=(sub [1,1,1,1,1,1,0,1,0,0,1,0,0,1] (bodyOf Try.f21))) (by kernel_rfl) ?_
        refine T_region (id:=22) (by kernel_rfl) ?_
        refine TI_segK (i:=0) (j:=2) (s':={ σ := [(1,.lf (.own 1 0)),(7,.lf (.v (.int .i64 x38))),(83,.lf (.v (.int .i64 x38))),(84,.lf (.own 1 1))],H := [(1,[.one (.v (.slice Au0_0 (List.length u0_0) cu0_0)),.arr .i64 4 u0_1])],V := [],M := M,ds := [] }) [1,7,83,84] [1] [] (by kernel_rfl) (by kernel_rfl) ?_
        obtain ⟨g41,h⟩ := gd_some h
        refine TI_at (i:=2) (d:=85) (x:=.lf (.oel 1 (1 + (x38).toNat * 1))) (by exact At_idxO (d:=85) (z:=x38) (b:=1) (off:=1) (sz:=1) (n:=4) (by kernel_rfl) g41) (by kernel_rfl) trivial ?_
        obtain ⟨x42,e_x42,h⟩ := lt_some h
        refine TI_at (i:=3) (d:=86) (x:=.lf (.v (.int .i64 x42))) (by rw [e_x42]; exact At_ldO1 (d:=86) (b:=1) (off:=1 + (x38).toNat * 1) (base:=1) (q:=0 + (x38).toNat * 1) (n:=4) (k:=.i64) (L:=u0_1) (by subst e_x42; kernel_rfl) (by subst e_x42; kernel_rfl) (by omega) (by omega)) (by kernel_rfl) trivial ?_
        obtain ⟨v43,c_v43,h⟩ := cl_some h
        refine TI_at (i:=4) (d:=87) (x:=.lf (.v (.bool v43))) (At_call (d:=87) (f:=50) (args:=[rval (.lf (.v (.int .i64 x42))),rval (.lf (.v (.int .i64 (0 : Int)))),rval (.lf (.v (.int .i64 (1048576 : Int))))]) (x:=.lf (.v (.bool v43))) (by kernel_rfl) (w50 k  c_v43)) (by kernel_rfl) trivial ?_
        refine TI_segK (i:=5) (j:=6) (s':={ σ := [(1,.lf (.own 1 0)),(7,.lf (.v (.int .i64 x38))),(88,.lf (.v (.bool (!v43))))],H := [(1,[.one (.v (.slice Au0_0 (List.length u0_0) cu0_0)),.arr .i64 4 u0_1])],V := [],M := M,ds := [] }) [1,7,88] [1] [] (by kernel_rfl) (by kernel_rfl) ?_
        refine TI_end (by kernel_rfl) ?_
        refine thenQ_n ?_
        cases v43 with
        | true =>
         replace h := sp_t h
         refine T_condF (x:=(.tmp 88)) (c1:=(sub [1,1,1,1,1,1,0,1,0,0,1,0,0,1,0] (bodyOf Try.f21))) (c2:=(sub [1,1,1,1,1,1,0,1,0,0,1,0,0,1,1] (bodyOf Try.f21))) (by kernel_rfl) (by kernel_rfl) ?_
         refine T_keep (s':={ σ := [(1,.lf (.own 1 0)),(7,.lf (.v (.int .i64 x38)))],H := [(1,[.one (.v (.slice Au0_0 (List.length u0_0) cu0_0)),.arr .i64 4 u0_1])],V := [],M := M,ds := [] }) [1,7] [1] [] (by kernel_rfl) ?_
         refine T_skip (by kernel_rfl) ?_
         refine blockQ_n ?_
         refine thenQ_n ?_
         refine T_region (id:=21) (by kernel_rfl) ?_
         obtain ⟨x44,e_x44,h⟩ := lt_some h
         refine TI_segK (i:=0) (j:=3) (s':={ σ := [(1,.lf (.own 1 0)),(7,.lf (.v (.int .i64 x44)))],H := [(1,[.one (.v (.slice Au0_0 (List.length u0_0) cu0_0)),.arr .i64 4 u0_1])],V := [],M := M,ds := [] }) [1,7] [1] [] (by subst e_x44;kernel_rfl) (by kernel_rfl) ?_
         refine TI_end (by kernel_rfl) ?_
         refine thenQ_n ?_
         exact ⟨n39,Nat.lt_succ_self _,x44,keep_sub (ts:=[1,7]) (hs:=[1]) (vs:=[]) (by kernel_rfl),h⟩
        | false =>
         replace h := sp_f h
         refine T_condT (x:=(.tmp 88)) (c1:=(sub [1,1,1,1,1,1,0,1,0,0,1,0,0,1,0] (bodyOf Try.f21))) (c2:=(sub [1,1,1,1,1,1,0,1,0,0,1,0,0,1,1] (bodyOf Try.f21))) (by kernel_rfl) (by kernel_rfl) ?_
         refine T_keep (s':={ σ := [],H := [],V := [],M := M,ds := [] }) [] [] [] (by kernel_rfl) ?_
         refine T_seq (c1:=(sub [1,1,1,1,1,1,0,1,0,0,1,0,0,1,0,0] (bodyOf Try.f21))) (c2:=(sub [1,1,1,1,1,1,0,1,0,0,1,0,0,1,0,1] (bodyOf Try.f21))) (by kernel_rfl) ?_
         refine T_region (id:=23) (by kernel_rfl) ?_
         refine TI_segK (i:=0) (j:=1) (s':={ σ := [(2,.lf (.v (.int .i64 (2 : Int))))],H := [],V := [],M := M,ds := [] }) [2] [] [] (by kernel_rfl) (by kernel_rfl) ?_
         refine TI_end (by kernel_rfl) ?_
         refine thenQ_n ?_
         refine T_ret (by kernel_rfl) ?_
         refine blockQ_r ?_
         refine thenQ_r ?_
         refine thenQ_r ?_
         refine blockQ_r ?_
         refine thenQ_r ?_
         refine thenQ_r ?_
         have h := Option.some.inj h
         subst h
         refine fin_ret (.lf (.v (.int .i64 (2 : Int)))) (by kernel_rfl) (by kernel_rfl) rfl ?_
         rfl
       | false =>
        replace h := sp_f h
        refine T_condF (x:=(.tmp 80)) (c1:=(sub [1,1,1,1,1,1,0,1,0,0,0,1,0] (bodyOf Try.f21))) (c2:=(sub [1,1,1,1,1,1,0,1,0,0,0,1,1] (bodyOf Try.f21))) (by kernel_rfl) (by kernel_rfl) ?_
        refine T_keep (s':={ σ := [(1,.lf (.own 1 0))],H := [(1,[.one (.v (.slice Au0_0 (List.length u0_0) cu0_0)),.arr .i64 4 u0_1])],V := [],M := M,ds := [] }) [1] [1] [] (by kernel_rfl) ?_
        refine T_exit (id:=4) (by kernel_rfl) ?_
        refine thenQ_x ?_
        refine thenQ_x ?_
        refine blockQ_x ?_
        refine thenQ_n ?_
        exact ⟨keep_sub (ts:=[1]) (hs:=[1]) (vs:=[]) (by kernel_rfl),h⟩
     ·rintro s' ⟨hsub,h⟩
      subst e_j37
      refine thenQ_n ?_
      refine T_sub hsub ?_
      refine T_seq (c1:=(sub [1,1,1,1,1,1,1,0] (bodyOf Try.f21))) (c2:=(sub [1,1,1,1,1,1,1,1] (bodyOf Try.f21))) (by kernel_rfl) ?_
      refine T_seq (c1:=(sub [1,1,1,1,1,1,1,0,0] (bodyOf Try.f21))) (c2:=(sub [1,1,1,1,1,1,1,0,1] (bodyOf Try.f21))) (by kernel_rfl) ?_
      refine T_region (id:=24) (by kernel_rfl) ?_
      refine TI_segK (i:=0) (j:=1) (s':={ σ := [(1,.lf (.own 1 0)),(8,.lf (.v (.int .i64 (0 : Int))))],H := [(1,[.one (.v (.slice Au0_0 (List.length u0_0) cu0_0)),.arr .i64 4 u0_1])],V := [],M := M,ds := [] }) [1,8] [1] [] (by kernel_rfl) (by kernel_rfl) ?_
      refine TI_end (by kernel_rfl) ?_
      refine thenQ_n ?_
      obtain ⟨j45,e_j45,h⟩ := jn_some h
      refine T_bcut (id:=6) (c1:=(sub [1,1,1,1,1,1,1,0,1,0] (bodyOf Try.f21))) (fun s' => Sub { σ := [],H := [],V := [],M := M,ds := [] } s' ∧ j45 = some r) (by kernel_rfl) ?_ ?_
      ·refine T_loop (c1:=(sub [1,1,1,1,1,1,1,0,1,0,0] (bodyOf Try.f21))) (by kernel_rfl) (fun n47 s' => ∃ (x46 : Int),Sub { σ := [(1,.lf (.own 1 0)),(8,.lf (.v (.int .i64 x46)))],H := [(1,[.one (.v (.slice Au0_0 (List.length u0_0) cu0_0)),.arr .i64 4 u0_1])],V := [],M := M,ds := [] } s' ∧ p21_l4 k u0_0 u0_1 j45 n47 x46 = some r) (k:=k) ⟨(0 : Int),keep_sub (ts:=[1,8]) (hs:=[1]) (vs:=[]) (by kernel_rfl),h⟩ ?_
       rintro n47 s' ⟨x46,hsub,h⟩
       cases n47 with
       | zero => rw [p21_l4] at h;cases h
       | succ n47 =>
        rw [p21_l4] at h
        refine T_sub hsub ?_
        refine T_seq (c1:=(sub [1,1,1,1,1,1,1,0,1,0,0,0] (bodyOf Try.f21))) (c2:=(sub [1,1,1,1,1,1,1,0,1,0,0,1] (bodyOf Try.f21))) (by kernel_rfl) ?_
        refine T_seq (c1:=(sub [1,1,1,1,1,1,1,0,1,0,0,0,0] (bodyOf Try.f21))) (c2:=(sub [1,1,1,1,1,1,1,0,1,0,0,0,1] (bodyOf Try.f21))) (by kernel_rfl) ?_
        refine T_region (id:=25) (by kernel_rfl) ?_
        refine TI_segK (i:=0) (j:=2) (s':={ σ := [(1,.lf (.own 1 0)),(8,.lf (.v (.int .i64 x46))),(89,.lf (.v (.int .i64 x46))),(90,.agg [.one (.v (.slice Au0_0 (List.length u0_0) cu0_0)),.arr .i64 4 u0_1])],H := [(1,[.one (.v (.slice Au0_0 (List.length u0_0) cu0_0)),.arr .i64 4 u0_1])],V := [],M := M,ds := [] }) [1,8,89,90] [1] [] (by kernel_rfl) (by kernel_rfl) ?_
        obtain ⟨v48,c_v48,h⟩ := cl_some h
        refine TI_at (i:=2) (d:=91) (x:=.lf (.v (.int .i64 v48))) (At_call (d:=91) (f:=53) (args:=[rval (.agg [.one (.v (.slice Au0_0 (List.length u0_0) cu0_0)),.arr .i64 4 u0_1])]) (x:=.lf (.v (.int .i64 v48))) (by kernel_rfl) (w53 k hu0_0 hu0_1 c_v48)) (by kernel_rfl) trivial ?_
        obtain ⟨b49,e_b49,h⟩ := lt_some h
        refine TI_segK (i:=3) (j:=4) (s':={ σ := [(1,.lf (.own 1 0)),(8,.lf (.v (.int .i64 x46))),(92,.lf (.v (.bool b49)))],H := [(1,[.one (.v (.slice Au0_0 (List.length u0_0) cu0_0)),.arr .i64 4 u0_1])],V := [],M := M,ds := [] }) [1,8,92] [1] [] (by subst e_b49;kernel_rfl) (by kernel_rfl) ?_
        refine TI_end (by kernel_rfl) ?_
        refine thenQ_n ?_
        cases b49 with
        | true =>
         replace h := sp_t h
         refine T_condT (x:=(.tmp 92)) (c1:=(sub [1,1,1,1,1,1,1,0,1,0,0,0,1,0] (bodyOf Try.f21))) (c2:=(sub [1,1,1,1,1,1,1,0,1,0,0,0,1,1] (bodyOf Try.f21))) (by kernel_rfl) (by kernel_rfl) ?_
         refine T_keep (s':={ σ := [(1,.lf (.own 1 0)),(8,.lf (.v (.int .i64 x46)))],H := [(1,[.one (.v (.slice Au0_0 (List.length u0_0) cu0_0)),.arr .i64 4 u0_1])],V := [],M := M,ds := [] }) [1,8] [1] [] (by kernel_rfl) ?_
         refine T_skip (by kernel_rfl) ?_
         refine thenQ_n ?_
         refine T_seq (c1:=(sub [1,1,1,1,1,1,1,0,1,0,0,1,0] (bodyOf Try.f21))) (c2:=(sub [1,1,1,1,1,1,1,0,1,0,0,1,1] (bodyOf Try.f21))) (by kernel_rfl) ?_
         refine T_block (id:=7) (c1:=(sub [1,1,1,1,1,1,1,0,1,0,0,1,0,0] (bodyOf Try.f21))) (by kernel_rfl) ?_
         refine T_seq (c1:=(sub [1,1,1,1,1,1,1,0,1,0,0,1,0,0,0] (bodyOf Try.f21))) (c2:=(sub [1,1,1,1,1,1,1,0,1,0,0,1,0,0,1] (bodyOf Try.f21))) (by kernel_rfl) ?_
         refine T_region (id:=27) (by kernel_rfl) ?_
         refine TI_segK (i:=0) (j:=2) (s':={ σ := [(1,.lf (.own 1 0)),(8,.lf (.v (.int .i64 x46))),(95,.agg [.one (.v (.slice Au0_0 (List.length u0_0) cu0_0)),.arr .i64 4 u0_1]),(96,.lf (.v (.int .i64 x46)))],H := [(1,[.one (.v (.slice Au0_0 (List.length u0_0) cu0_0)),.arr .i64 4 u0_1])],V := [],M := M,ds := [] }) [1,8,95,96] [1] [] (by kernel_rfl) (by kernel_rfl) ?_
         obtain ⟨v50,c_v50,h⟩ := cl_some h
         obtain ⟨g51,h⟩ := gd_some h
         refine TI_at (i:=2) (d:=97) (x:=.agg [.arr .i64 2 v50]) (At_call (d:=97) (f:=16) (args:=[rval (.agg [.one (.v (.slice Au0_0 (List.length u0_0) cu0_0)),.arr .i64 4 u0_1]),rval (.lf (.v (.int .i64 x46)))]) (x:=.agg [.arr .i64 2 v50]) (by kernel_rfl) (w16 k hu0_0 hu0_1 c_v50)) (by kernel_rfl) ⟨g51,trivial⟩ ?_
         refine TI_segK (i:=3) (j:=5) (s':={ σ := [(1,.lf (.own 1 0)),(8,.lf (.v (.int .i64 x46))),(9,.lf (.own 9 0))],H := [(1,[.one (.v (.slice Au0_0 (List.length u0_0) cu0_0)),.arr .i64 4 u0_1]),(9,[.arr .i64 2 v50])],V := [],M := M,ds := [] }) [1,8,9] [1,9] [] (by kernel_rfl) (by kernel_rfl) ?_
         refine TI_end (by kernel_rfl) ?_
         refine thenQ_n ?_
         refine T_seq (c1:=(sub [1,1,1,1,1,1,1,0,1,0,0,1,0,0,1,0] (bodyOf Try.f21))) (c2:=(sub [1,1,1,1,1,1,1,0,1,0,0,1,0,0,1,1] (bodyOf Try.f21))) (by kernel_rfl) ?_
         refine T_seq (c1:=(sub [1,1,1,1,1,1,1,0,1,0,0,1,0,0,1,0,0] (bodyOf Try.f21))) (c2:=(sub [1,1,1,1,1,1,1,0,1,0,0,1,0,0,1,0,1] (bodyOf Try.f21))) (by kernel_rfl) ?_
         refine T_region (id:=28) (by kernel_rfl) ?_
         obtain ⟨x52,e_x52,h⟩ := lt_some h
         obtain ⟨x53,e_x53,h⟩ := lt_some h
         obtain ⟨b54,e_b54,h⟩ := lt_some h
         refine TI_segK (i:=0) (j:=5) (s':={ σ := [(1,.lf (.own 1 0)),(8,.lf (.v (.int .i64 x46))),(102,.lf (.v (.bool b54)))],H := [(1,[.one (.v (.slice Au0_0 (List.length u0_0) cu0_0)),.arr .i64 4 u0_1])],V := [],M := M,ds := [] }) [1,8,102] [1] [] (by subst_vars;kernel_rfl) (by kernel_rfl) ?_
         refine TI_end (by kernel_rfl) ?_
         refine thenQ_n ?_
         cases b54 with
         | true =>
          replace h := sp_t h
          refine T_condT (x:=(.tmp 102)) (c1:=(sub [1,1,1,1,1,1,1,0,1,0,0,1,0,0,1,0,1,0] (bodyOf Try.f21))) (c2:=(sub [1,1,1,1,1,1,1,0,1,0,0,1,0,0,1,0,1,1] (bodyOf Try.f21))) (by kernel_rfl) (by kernel_rfl) ?_
          refine T_keep (s':={ σ := [],H := [],V := [],M := M,ds := [] }) [] [] [] (by kernel_rfl) ?_
          refine T_seq (c1:=(sub [1,1,1,1,1,1,1,0,1,0,0,1,0,0,1,0,1,0,0] (bodyOf Try.f21))) (c2:=(sub [1,1,1,1,1,1,1,0,1,0,0,1,0,0,1,0,1,0,1] (bodyOf Try.f21))) (by kernel_rfl) ?_
          refine T_region (id:=29) (by kernel_rfl) ?_
          refine TI_segK (i:=0) (j:=1) (s':={ σ := [(2,.lf (.v (.int .i64 (16 : Int))))],H := [],V := [],M := M,ds := [] }) [2] [] [] (by kernel_rfl) (by kernel_rfl) ?_
          refine TI_end (by kernel_rfl) ?_
          refine thenQ_n ?_
          refine T_ret (by kernel_rfl) ?_
          refine thenQ_r ?_
          refine blockQ_r ?_
          refine thenQ_r ?_
          refine thenQ_r ?_
          refine blockQ_r ?_
          refine thenQ_r ?_
          refine thenQ_r ?_
          have h := Option.some.inj h
          subst h
          refine fin_ret (.lf (.v (.int .i64 (16 : Int)))) (by kernel_rfl) (by kernel_rfl) rfl ?_
          rfl
         | false =>
          replace h := sp_f h
          refine T_condF (x:=(.tmp 102)) (c1:=(sub [1,1,1,1,1,1,1,0,1,0,0,1,0,0,1,0,1,0] (bodyOf Try.f21))) (c2:=(sub [1,1,1,1,1,1,1,0,1,0,0,1,0,0,1,0,1,1] (bodyOf Try.f21))) (by kernel_rfl) (by kernel_rfl) ?_
          refine T_keep (s':={ σ := [(1,.lf (.own 1 0)),(8,.lf (.v (.int .i64 x46)))],H := [(1,[.one (.v (.slice Au0_0 (List.length u0_0) cu0_0)),.arr .i64 4 u0_1])],V := [],M := M,ds := [] }) [1,8] [1] [] (by kernel_rfl) ?_
          refine T_skip (by kernel_rfl) ?_
          refine thenQ_n ?_
          refine T_seq (c1:=(sub [1,1,1,1,1,1,1,0,1,0,0,1,0,0,1,1,0] (bodyOf Try.f21))) (c2:=(sub [1,1,1,1,1,1,1,0,1,0,0,1,0,0,1,1,1] (bodyOf Try.f21))) (by kernel_rfl) ?_
          refine T_region (id:=30) (by kernel_rfl) ?_
          refine TI_segK (i:=0) (j:=1) (s':={ σ := [(1,.lf (.own 1 0)),(8,.lf (.v (.int .i64 x46))),(10,.lf (.v (.int .i64 (0 : Int))))],H := [(1,[.one (.v (.slice Au0_0 (List.length u0_0) cu0_0)),.arr .i64 4 u0_1])],V := [],M := M,ds := [] }) [1,8,10] [1] [] (by kernel_rfl) (by kernel_rfl) ?_
          refine TI_end (by kernel_rfl) ?_
          refine thenQ_n ?_
          obtain ⟨j55,e_j55,h⟩ := jn_some h
          refine T_bcut (id:=8) (c1:=(sub [1,1,1,1,1,1,1,0,1,0,0,1,0,0,1,1,1,0] (bodyOf Try.f21))) (fun s' => Sub { σ := [(1,.lf (.own 1 0)),(8,.lf (.v (.int .i64 x46)))],H := [(1,[.one (.v (.slice Au0_0 (List.length u0_0) cu0_0)),.arr .i64 4 u0_1])],V := [],M := M,ds := [] } s' ∧ j55 = some r) (by kernel_rfl) ?_ ?_
          ·refine T_loop (c1:=(sub [1,1,1,1,1,1,1,0,1,0,0,1,0,0,1,1,1,0,0] (bodyOf Try.f21))) (by kernel_rfl) (fun n57 s' => ∃ (x56 : Int),Sub { σ := [(1,.lf (.own 1 0)),(8,.lf (.v (.int .i64 x46))),(10,.lf (.v (.int .i64 x56)))],H := [(1,[.one (.v (.slice Au0_0 (List.length u0_0) cu0_0)),.arr .i64 4 u0_1])],V := [],M := M,ds := [] } s' ∧ p21_l5 k u0_0 u0_1 x46 j55 n57 x56 = some r) (k:=k) ⟨(0 : Int),keep_sub (ts:=[1,8,10]) (hs:=[1]) (vs:=[]) (by kernel_rfl),h⟩ ?_
           rintro n57 s' ⟨x56,hsub,h⟩
           cases n57 with
           | zero => rw [p21_l5] at h;cases h
           | succ n57 =>
            rw [p21_l5] at h
            refine T_sub hsub ?_
            refine T_seq (c1:=(sub [1,1,1,1,1,1,1,0,1,0,0,1,0,0,1,1,1,0,0,0] (bodyOf Try.f21))) (c2:=(sub [1,1,1,1,1,1,1,0,1,0,0,1,0,0,1,1,1,0,0,1] (bodyOf Try.f21))) (by kernel_rfl) ?_
            refine T_seq (c1:=(sub [1,1,1,1,1,1,1,0,1,0,0,1,0,0,1,1,1,0,0,0,0] (bodyOf Try.f21))) (c2:=(sub [1,1,1,1,1,1,1,0,1,0,0,1,0,0,1,1,1,0,0,0,1] (bodyOf Try.f21))) (by kernel_rfl) ?_
            refine T_region (id:=31) (by kernel_rfl) ?_
            obtain ⟨b58,e_b58,h⟩ := lt_some h
            refine TI_segK (i:=0) (j:=2) (s':={ σ := [(1,.lf (.own 1 0)),(8,.lf (.v (.int .i64 x46))),(10,.lf (.v (.int .i64 x56))),(104,.lf (.v (.bool b58)))],H := [(1,[.one (.v (.slice Au0_0 (List.length u0_0) cu0_0)),.arr .i64 4 u0_1])],V := [],M := M,ds := [] }) [1,8,10,104] [1] [] (by subst e_b58;kernel_rfl) (by kernel_rfl) ?_
            refine TI_end (by kernel_rfl) ?_
            refine thenQ_n ?_
            cases b58 with
            | true =>
             replace h := sp_t h
             refine T_condT (x:=(.tmp 104)) (c1:=(sub [1,1,1,1,1,1,1,0,1,0,0,1,0,0,1,1,1,0,0,0,1,0] (bodyOf Try.f21))) (c2:=(sub [1,1,1,1,1,1,1,0,1,0,0,1,0,0,1,1,1,0,0,0,1,1] (bodyOf Try.f21))) (by kernel_rfl) (by kernel_rfl) ?_
             refine T_keep (s':={ σ := [(1,.lf (.own 1 0)),(8,.lf (.v (.int .i64 x46))),(10,.lf (.v (.int .i64 x56)))],H := [(1,[.one (.v (.slice Au0_0 (List.length u0_0) cu0_0)),.arr .i64 4 u0_1])],V := [],M := M,ds := [] }) [1,8,10] [1] [] (by kernel_rfl) ?_
             refine T_skip (by kernel_rfl) ?_
             refine thenQ_n ?_
             refine T_seq (c1:=(sub [1,1,1,1,1,1,1,0,1,0,0,1,0,0,1,1,1,0,0,1,0] (bodyOf Try.f21))) (c2:=(sub [1,1,1,1,1,1,1,0,1,0,0,1,0,0,1,1,1,0,0,1,1] (bodyOf Try.f21))) (by kernel_rfl) ?_
             refine T_block (id:=9) (c1:=(sub [1,1,1,1,1,1,1,0,1,0,0,1,0,0,1,1,1,0,0,1,0,0] (bodyOf Try.f21))) (by kernel_rfl) ?_
             refine T_seq (c1:=(sub [1,1,1,1,1,1,1,0,1,0,0,1,0,0,1,1,1,0,0,1,0,0,0] (bodyOf Try.f21))) (c2:=(sub [1,1,1,1,1,1,1,0,1,0,0,1,0,0,1,1,1,0,0,1,0,0,1] (bodyOf Try.f21))) (by kernel_rfl) ?_
             refine T_region (id:=33) (by kernel_rfl) ?_
             refine TI_segK (i:=0) (j:=3) (s':={ σ := [(1,.lf (.own 1 0)),(8,.lf (.v (.int .i64 x46))),(10,.lf (.v (.int .i64 x56))),(107,.agg [.one (.v (.slice Au0_0 (List.length u0_0) cu0_0)),.arr .i64 4 u0_1]),(108,.lf (.v (.int .i64 x46))),(109,.lf (.v (.int .i64 x56)))],H := [(1,[.one (.v (.slice Au0_0 (List.length u0_0) cu0_0)),.arr .i64 4 u0_1])],V := [],M := M,ds := [] }) [1,8,10,107,108,109] [1] [] (by kernel_rfl) (by kernel_rfl) ?_
             obtain ⟨v59,c_v59,h⟩ := cl_some h
             obtain ⟨g60,h⟩ := gd_some h
             refine TI_at (i:=3) (d:=110) (x:=.agg [.arr .i64 2 v59]) (At_call (d:=110) (f:=17) (args:=[rval (.agg [.one (.v (.slice Au0_0 (List.length u0_0) cu0_0)),.arr .i64 4 u0_1]),rval (.lf (.v (.int .i64 x46))),rval (.lf (.v (.int .i64 x56)))]) (x:=.agg [.arr .i64 2 v59]) (by kernel_rfl) (w17 k hu0_0 hu0_1 c_v59)) (by kernel_rfl) ⟨g60,trivial⟩ ?_
             refine TI_segK (i:=4) (j:=6) (s':={ σ := [(1,.lf (.own 1 0)),(8,.lf (.v (.int .i64 x46))),(10,.lf (.v (.int .i64 x56))),(11,.lf (.own 11 0))],H := [(1,[.one (.v (.slice Au0_0 (List.length u0_0) cu0_0)),.arr .i64 4 u0_1]),(11,[.arr .i64 2 v59])],V := [],M := M,ds := [] }) [1,8,10,11] [1,11] [] (by kernel_rfl) (by kernel_rfl) ?_
             refine TI_end (by kernel_rfl) ?_
             refine thenQ_n ?_
             refine T_seq (c1:=(sub [1,1,1,1,1,1,1,0,1,0,0,1,0,0,1,1,1,0,0,1,0,0,1,0] (bodyOf Try.f21))) (c2:=(sub [1,1,1,1,1,1,1,0,1,0,0,1,0,0,1,1,1,0,0,1,0,0,1,1] (bodyOf Try.f21))) (by kernel_rfl) ?_
             refine T_region (id:=34) (by kernel_rfl) ?_
             obtain ⟨x61,e_x61,h⟩ := lt_some h
             obtain ⟨x62,e_x62,h⟩ := lt_some h
             obtain ⟨b63,e_b63,h⟩ := lt_some h
             refine TI_segK (i:=0) (j:=5) (s':={ σ := [(1,.lf (.own 1 0)),(8,.lf (.v (.int .i64 x46))),(10,.lf (.v (.int .i64 x56))),(115,.lf (.v (.bool b63)))],H := [(1,[.one (.v (.slice Au0_0 (List.length u0_0) cu0_0)),.arr .i64 4 u0_1])],V := [],M := M,ds := [] }) [1,8,10,115] [1] [] (by subst_vars;kernel_rfl) (by kernel_rfl) ?_
             refine TI_end (by kernel_rfl) ?_
             refine thenQ_n ?_
             cases b63 with
             | true =>
              replace h := sp_t h
              refine T_condT (x:=(.tmp 115)) (c1:=(sub [1,1,1,1,1,1,1,0,1,0,0,1,0,0,1,1,1,0,0,1,0,0,1,1,0] (bodyOf Try.f21))) (c2:=(sub [1,1,1,1,1,1,1,0,1,0,0,1,0,0,1,1,1,0,0,1,0,0,1,1,1] (bodyOf Try.f21))) (by kernel_rfl) (by kernel_rfl) ?_
              refine T_keep (s':={ σ := [],H := [],V := [],M := M,ds := [] }) [] [] [] (by kernel_rfl) ?_
              refine T_seq (c1:=(sub [1,1,1,1,1,1,1,0,1,0,0,1,0,0,1,1,1,0,0,1,0,0,1,1,0,0] (bodyOf Try.f21))) (c2:=(sub [1,1,1,1,1,1,1,0,1,0,0,1,0,0,1,1,1,0,0,1,0,0,1,1,0,1] (bodyOf Try.f21))) (by kernel_rfl) ?_
              refine T_region (id:=35) (by kernel_rfl) ?_
              refine TI_segK (i:=0) (j:=1) (s':={ σ := [(2,.lf (.v (.int .i64 (16 : Int))))],H := [],V := [],M := M,ds := [] }) [2] [] [] (by kernel_rfl) (by kernel_rfl) ?_
              refine TI_end (by kernel_rfl) ?_
              refine thenQ_n ?_
              refine T_ret (by kernel_rfl) ?_
              refine blockQ_r ?_
              refine thenQ_r ?_
              refine thenQ_r ?_
              refine blockQ_r ?_
              refine thenQ_r ?_
              refine blockQ_r ?_
              refine thenQ_r ?_
              refine thenQ_r ?_
              refine blockQ_r ?_
              refine thenQ_r ?_
              refine thenQ_r ?_
              have h := Option.some.inj h
              subst h
              refine fin_ret (.lf (.v (.int .i64 (16 : Int)))) (by kernel_rfl) (by kernel_rfl) rfl ?_
              rfl
             | false =>
              replace h := sp_f h
              refine T_condF (x:=(.tmp 115)) (c1:=(sub [1,1,1,1,1,1,1,0,1,0,0,1,0,0,1,1,1,0,0,1,0,0,1,1,0] (bodyOf Try.f21))) (c2:=(sub [1,1,1,1,1,1,1,0,1,0,0,1,0,0,1,1,1,0,0,1,0,0,1,1,1] (bodyOf Try.f21))) (by kernel_rfl) (by kernel_rfl) ?_
              refine T_keep (s':={ σ := [(1,.lf (.own 1 0)),(8,.lf (.v (.int .i64 x46))),(10,.lf (.v (.int .i64 x56)))],H := [(1,[.one (.v (.slice Au0_0 (List.length u0_0) cu0_0)),.arr .i64 4 u0_1])],V := [],M := M,ds := [] }) [1,8,10] [1] [] (by kernel_rfl) ?_
              refine T_skip (by kernel_rfl) ?_
              refine blockQ_n ?_
              refine thenQ_n ?_
              refine T_region (id:=32) (by kernel_rfl) ?_
              obtain ⟨x64,e_x64,h⟩ := lt_some h
              refine TI_segK (i:=0) (j:=3) (s':={ σ := [(1,.lf (.own 1 0)),(8,.lf (.v (.int .i64 x46))),(10,.lf (.v (.int .i64 x64)))],H := [(1,[.one (.v (.slice Au0_0 (List.length u0_0) cu0_0)),.arr .i64 4 u0_1])],V := [],M := M,ds := [] }) [1,8,10] [1] [] (by subst e_x64;kernel_rfl) (by kernel_rfl) ?_
              refine TI_end (by kernel_rfl) ?_
              refine thenQ_n ?_
              exact ⟨n57,Nat.lt_succ_self _,x64,keep_sub (ts:=[1,8,10]) (hs:=[1]) (vs:=[]) (by kernel_rfl),h⟩
            | false =>
             replace h := sp_f h
             refine T_condF (x:=(.tmp 104)) (c1:=(sub [1,1,1,1,1,1,1,0,1,0,0,1,0,0,1,1,1,0,0,0,1,0] (bodyOf Try.f21))) (c2:=(sub [1,1,1,1,1,1,1,0,1,0,0,1,0,0,1,1,1,0,0,0,1,1] (bodyOf Try.f21))) (by kernel_rfl) (by kernel_rfl) ?_
             refine T_keep (s':={ σ := [(1,.lf (.own 1 0)),(8,.lf (.v (.int .i64 x46)))],H := [(1,[.one (.v (.slice Au0_0 (List.length u0_0) cu0_0)),.arr .i64 4 u0_1])],V := [],M := M,ds := [] }) [1,8] [1] [] (by kernel_rfl) ?_
             refine T_exit (id:=8) (by kernel_rfl) ?_
             refine thenQ_x ?_
             refine thenQ_x ?_
             refine blockQ_x ?_
             refine thenQ_n ?_
             exact ⟨keep_sub (ts:=[1,8]) (hs:=[1]) (vs:=[]) (by kernel_rfl),h⟩
          ·rintro s' ⟨hsub,h⟩
           subst e_j55
           refine blockQ_n ?_
           refine thenQ_n ?_
           refine T_sub hsub ?_
           refine T_region (id:=26) (by kernel_rfl) ?_
           obtain ⟨x65,e_x65,h⟩ := lt_some h
           refine TI_segK (i:=0) (j:=3) (s':={ σ := [(1,.lf (.own 1 0)),(8,.lf (.v (.int .i64 x65)))],H := [(1,[.one (.v (.slice Au0_0 (List.length u0_0) cu0_0)),.arr .i64 4 u0_1])],V := [],M := M,ds := [] }) [1,8] [1] [] (by subst e_x65;kernel_rfl) (by kernel_rfl) ?_
           refine TI_end (by kernel_rfl) ?_
           refine thenQ_n ?_
           exact ⟨n47,Nat.lt_succ_self _,x65,keep_sub (ts:=[1,8]) (hs:=[1]) (vs:=[]) (by kernel_rfl),h⟩
        | false =>
         replace h := sp_f h
         refine T_condF (x:=(.tmp 92)) (c1:=(sub [1,1,1,1,1,1,1,0,1,0,0,0,1,0] (bodyOf Try.f21))) (c2:=(sub [1,1,1,1,1,1,1,0,1,0,0,0,1,1] (bodyOf Try.f21))) (by kernel_rfl) (by kernel_rfl) ?_
         refine T_keep (s':={ σ := [],H := [],V := [],M := M,ds := [] }) [] [] [] (by kernel_rfl) ?_
         refine T_exit (id:=6) (by kernel_rfl) ?_
         refine thenQ_x ?_
         refine thenQ_x ?_
         refine blockQ_x ?_
         refine thenQ_n ?_
         exact ⟨keep_sub (ts:=[]) (hs:=[]) (vs:=[]) (by kernel_rfl),h⟩
      ·rintro s' ⟨hsub,h⟩
       subst e_j45
       refine thenQ_n ?_
       refine T_sub hsub ?_
       refine T_seq (c1:=(sub [1,1,1,1,1,1,1,1,0] (bodyOf Try.f21))) (c2:=(sub [1,1,1,1,1,1,1,1,1] (bodyOf Try.f21))) (by kernel_rfl) ?_
       refine T_region (id:=36) (by kernel_rfl) ?_
       refine TI_segK (i:=0) (j:=1) (s':={ σ := [(2,.lf (.v (.int .i64 (0 : Int))))],H := [],V := [],M := M,ds := [] }) [2] [] [] (by kernel_rfl) (by kernel_rfl) ?_
       refine TI_end (by kernel_rfl) ?_
       refine thenQ_n ?_
       refine T_ret (by kernel_rfl) ?_
       have h := Option.some.inj h
       subst h
       refine fin_ret (.lf (.v (.int .i64 (0 : Int)))) (by kernel_rfl) (by kernel_rfl) rfl ?_
       rfl
def p80 (k : Nat) (u0_0 : List (List Int)) (u0_1 : List Int) (u1 : List Int) (u2 : Int) : Option Bool :=
 jn (fun (b1 : Bool) => some b1) fun j2 => cl (p45 k u0_0 u0_1 u2) fun v3 => lt' (List.getD u1 4 0) fun x4 => lt' (decide (v3 ≥ x4)) fun b5 => sp b5 (lt' (wr .i64 (u2 + (1 : Int))) fun x6 => cl (p45 k u0_0 u0_1 x6) fun v7 => lt' (List.getD u1 5 0) fun x8 => lt' (decide (v7 ≤ x8)) fun b9 => j2 b9) (j2 false)
theorem hf80 : Try.prog.funcs[80]? = some Try.f80 := by kernel_rfl
theorem w80 (k : Nat) {M : Mem} {Au0_0 : Option Addr} {cu0_0 : Nat} {u0_0 : List (List Int)} {u0_1 : List Int} {u1 : List Int} {u2 : Int} (hu0_0 : SlR M Au0_0 cu0_0 .i64 11 u0_0) (hu0_1 : u0_1.length = 4) (hu1 : u1.length = 7) {r} (h : p80 k u0_0 u0_1 u1 u2 = some r) :
  Fn Try.prog 80 [rval (.agg [.one (.v (.slice Au0_0 (List.length u0_0) cu0_0)),.arr .i64 4 u0_1]),rval (.agg [.arr .i64 7 u1]),rval (.lf (.v (.int .i64 u2)))] M (fun x _ => x = .lf (.v (.bool r))) := by
 unfold p80 at h
 refine Fn_of (P:=Try.prog) (fn:=Try.f80) (c:=bodyOf Try.f80) [.agg [.one (.v (.slice Au0_0 (List.length u0_0) cu0_0)),.arr .i64 4 u0_1],.agg [.arr .i64 7 u1],.lf (.v (.int .i64 u2))] hf80 (by kernel_rfl) (Nat.le_of_ble_eq_true (by kernel_rfl)) (args_ok (by kernel_rfl) ⟨⟨rfl,⟨hu0_1,trivial⟩⟩,⟨⟨hu1,trivial⟩,⟨trivial,trivial⟩⟩⟩) fun w => ?_
 change T _ _ _ (endQ _ _ _)
 refine T_seq (c1:=(sub [0] (bodyOf Try.f80))) (c2:=(sub [1] (bodyOf Try.f80))) (by kernel_rfl) ?_
 refine T_region (id:=0) (by kernel_rfl) ?_
 refine TI_segK (i:=0) (j:=3) (s':={ σ := [(2,.lf (.v (.int .i64 u2))),(3,.lf (.own 3 0)),(4,.lf (.own 4 0))],H := [(3,[.one (.v (.slice Au0_0 (List.length u0_0) cu0_0)),.arr .i64 4 u0_1]),(4,[.arr .i64 7 u1])],V := [],M := M,ds := [] }) [2,3,4] [3,4] [] (by kernel_rfl) (by kernel_rfl) ?_
 refine TI_end (by kernel_rfl) ?_
 refine thenQ_n ?_
 obtain ⟨j2,e_j2,h⟩ := jn_some h
 refine T_cut (c1:=(sub [1,0] (bodyOf Try.f80))) (c2:=(sub [1,1] (bodyOf Try.f80))) (fun s' => ∃ (b1 : Bool),Sub { σ := [(6,.lf (.v (.bool b1)))],H := [],V := [],M := M,ds := [] } s' ∧ j2 b1 = some r) (by kernel_rfl) ?_ ?_
 ·obtain ⟨v3,c_v3,h⟩ := cl_some h
  obtain ⟨x4,e_x4,h⟩ := lt_some h
  obtain ⟨b5,e_b5,h⟩ := lt_some h
  cases b5 with
  | true =>
   replace h := sp_t h
   obtain ⟨x6,e_x6,h⟩ := lt_some h
   obtain ⟨v7,c_v7,h⟩ := cl_some h
   obtain ⟨x8,e_x8,h⟩ := lt_some h
   obtain ⟨b9,e_b9,h⟩ := lt_some h
   refine T_draw' (id:=1) [] [0,0,0,0,0,0,0,0,0,0,0,0,0,0,0,0] (by kernel_rfl) (by kernel_rfl) (by kernel_rfl) (by kernel_rfl) [(7,.agg [.one (.v (.slice Au0_0 (List.length u0_0) cu0_0)),.arr .i64 4 u0_1]),(8,.lf (.v (.int .i64 u2))),(9,.lf (.v (.int .i64 v3))),(10,.lf (.own 4 4)),(11,.lf (.v (.int .i64 x4))),(12,.lf (.v (.bool true))),(13,.lf (.v (.bool true))),(14,.agg [.one (.v (.slice Au0_0 (List.length u0_0) cu0_0)),.arr .i64 4 u0_1]),(15,.lf (.v (.int .i64 u2))),(16,.lf (.v (.int .i64 x6))),(17,.lf (.v (.int .i64 v7))),(18,.lf (.own 4 5)),(19,.lf (.v (.int .i64 x8))),(20,.lf (.v (.bool b9))),(21,.lf (.v (.bool b9))),(6,.lf (.v (.bool b9)))] (by kernel_rfl) ⟨⟨rfl,⟨hu0_1,trivial⟩⟩,⟨trivial,⟨trivial,⟨trivial,⟨trivial,⟨trivial,⟨trivial,⟨⟨rfl,⟨hu0_1,trivial⟩⟩,⟨trivial,⟨trivial,⟨trivial,⟨trivial,⟨trivial,⟨trivial,⟨trivial,⟨trivial,trivial⟩⟩⟩⟩⟩⟩⟩⟩⟩⟩⟩⟩⟩⟩⟩⟩ ?_
   refine Stage_nil (stage_all' [0,1,3,4,6,7,8,9,11,12,13,14,15] [2,5,10] (by kernel_rfl) (by subst_vars;kernel_rfl) (by kernel_rfl) ⟨QF_at (i:=2) (d:=9) (x:=.lf (.v (.int .i64 v3))) (show OpAt _ _ _ 2 9 _ from by exact At_call (d:=9) (f:=45) (args:=[rval (.agg [.one (.v (.slice Au0_0 (List.length u0_0) cu0_0)),.arr .i64 4 u0_1]),rval (.lf (.v (.int .i64 u2)))]) (x:=.lf (.v (.int .i64 v3))) (by subst_vars;kernel_rfl) (w45 k hu0_0 hu0_1 c_v3)) (by kernel_rfl) (by subst_vars;kernel_rfl),⟨QF_at (i:=5) (d:=12) (x:=.lf (.v (.bool true))) (show OpAt _ _ _ 5 12 _ from by exact At_bin (d:=12) (b:=.geq) (u:=.int .i64 v3) (v:=.int .i64 x4) (w':=.bool true) (by subst_vars;kernel_rfl) (by rw [show exBin .geq (.int .i64 v3) (.int .i64 x4) = some (.bool (decide (v3 ≥ x4))) from by kernel_rfl,← e_b5])) (by kernel_rfl) (by subst_vars;kernel_rfl),⟨QF_at (i:=10) (d:=17) (x:=.lf (.v (.int .i64 v7))) (show OpAt _ _ _ 10 17 _ from by exact At_call (d:=17) (f:=45) (args:=[rval (.agg [.one (.v (.slice Au0_0 (List.length u0_0) cu0_0)),.arr .i64 4 u0_1]),rval (.lf (.v (.int .i64 x6)))]) (x:=.lf (.v (.int .i64 v7))) (by subst_vars;kernel_rfl) (w45 k hu0_0 hu0_1 c_v7)) (by kernel_rfl) (by subst_vars;kernel_rfl),trivial⟩⟩⟩) ?_
   refine thenQ_n ?_
   exact ⟨b9,keep_sub (ts:=[6]) (hs:=[]) (vs:=[]) (by subst_vars;kernel_rfl),h⟩
  | false =>
   replace h := sp_f h
   refine T_draw' (id:=1) [] [0,0,0,0,0,0,0,0,0,0,0,0,0,0,0,0] (by kernel_rfl) (by kernel_rfl) (by kernel_rfl) (by kernel_rfl) [(7,.agg [.one (.v (.slice Au0_0 (List.length u0_0) cu0_0)),.arr .i64 4 u0_1]),(8,.lf (.v (.int .i64 u2))),(9,.lf (.v (.int .i64 v3))),(10,.lf (.own 4 4)),(11,.lf (.v (.int .i64 x4))),(12,.lf (.v (.bool false))),(13,.lf (.v (.bool false))),(14,.tup []),(15,.tup []),(16,.tup []),(17,.tup []),(18,.tup []),(19,.tup []),(20,.tup []),(21,.lf (.v (.bool false))),(6,.lf (.v (.bool false)))] (by kernel_rfl) ⟨⟨rfl,⟨hu0_1,trivial⟩⟩,⟨trivial,⟨trivial,⟨trivial,⟨trivial,⟨trivial,⟨trivial,⟨(by intro y hy;cases hy),⟨(by intro y hy;cases hy),⟨(by intro y hy;cases hy),⟨(by intro y hy;cases hy),⟨(by intro y hy;cases hy),⟨(by intro y hy;cases hy),⟨(by intro y hy;cases hy),⟨trivial,⟨trivial,trivial⟩⟩⟩⟩⟩⟩⟩⟩⟩⟩⟩⟩⟩⟩⟩⟩ ?_
   refine Stage_nil (stage_all' [0,1,3,4,6,7,8,9,10,11,12,13,14,15] [2,5] (by kernel_rfl) (by subst e_x4;kernel_rfl) (by kernel_rfl) ⟨QF_at (i:=2) (d:=9) (x:=.lf (.v (.int .i64 v3))) (show OpAt _ _ _ 2 9 _ from by exact At_call (d:=9) (f:=45) (args:=[rval (.agg [.one (.v (.slice Au0_0 (List.length u0_0) cu0_0)),.arr .i64 4 u0_1]),rval (.lf (.v (.int .i64 u2)))]) (x:=.lf (.v (.int .i64 v3))) (by subst e_x4;kernel_rfl) (w45 k hu0_0 hu0_1 c_v3)) (by kernel_rfl) (by subst e_x4;kernel_rfl),⟨QF_at (i:=5) (d:=12) (x:=.lf (.v (.bool false))) (show OpAt _ _ _ 5 12 _ from by exact At_bin (d:=12) (b:=.geq) (u:=.int .i64 v3) (v:=.int .i64 x4) (w':=.bool false) (by subst e_x4;kernel_rfl) (by rw [show exBin .geq (.int .i64 v3) (.int .i64 x4) = some (.bool (decide (v3 ≥ x4))) from by kernel_rfl,← e_b5])) (by kernel_rfl) (by subst e_x4;kernel_rfl),trivial⟩⟩) ?_
   refine thenQ_n ?_
   exact ⟨false,keep_sub (ts:=[6]) (hs:=[]) (vs:=[]) (by subst e_x4;kernel_rfl),h⟩
 ·rintro s' ⟨b1,hsub,h⟩
  subst e_j2
  refine T_sub hsub ?_
  refine T_ret (by kernel_rfl) ?_
  have h := Option.some.inj h
  subst h
  refine fin_ret (.lf (.v (.bool b1))) (by kernel_rfl) (by kernel_rfl) rfl ?_
  rfl
def p76_l1 (k : Nat) (u0_0 : List (List Int)) (u0_1 : List Int) (u1 : List Int) (j1 : Option Int) : Nat → Int → Option Int
 | 0,_ => none
 | n3 + 1,x2 => cl (p53 k u0_0 u0_1) fun v4 => lt' (decide (x2 < v4)) fun b5 => sp b5 (lt' (List.getD u1 2 0) fun x6 => cl (p17 k u0_0 u0_1 x2 x6) fun v7 => gd ((v7).length = 2) <| lt' (List.getD v7 1 0) fun x9 => lt' (wr .i64 (x2 + (1 : Int))) fun x10 => lt' (List.getD u1 2 0) fun x11 => cl (p17 k u0_0 u0_1 x10 x11) fun v12 => gd ((v12).length = 2) <| lt' (List.getD v12 1 0) fun x14 => lt' (mx x9 x14) fun x15 => jn (fun (b16 : Bool) => sp b16 (some x2) (lt' (wr .i64 (x2 + (1 : Int))) fun x32 => p76_l1 k u0_0 u0_1 u1 j1 n3 x32)) fun j17 => cl (p80 k u0_0 u0_1 u1 x2) fun v18 => sp v18 (lt' (List.getD u1 3 0) fun x19 => lt' (decide (x15 > x19)) fun b20 => sp b20 (cl (p16 k u0_0 u0_1 x2) fun v21 => gd ((v21).length = 2) <| lt' (List.getD v21 0 0) fun x23 => lt' (List.getD u1 1 0) fun x24 => lt' (decide (x23 ≤ x24)) fun b25 => sp b25 (lt' (wr .i64 (x2 + (1 : Int))) fun x26 => cl (p16 k u0_0 u0_1 x26) fun v27 => gd ((v27).length = 2) <| lt' (List.getD v27 1 0) fun x29 => lt' (List.getD u1 0 0) fun x30 => lt' (decide (x29 ≥ x30)) fun b31 => j17 b31) (j17 false)) (j17 false)) (j17 false)) (j1)
def p76 (k : Nat) (u0_0 : List (List Int)) (u0_1 : List Int) (u1 : List Int) : Option Int :=
 jn (some (-1 : Int)) fun j1 => p76_l1 k u0_0 u0_1 u1 j1 k (0 : Int)
theorem hf76 : Try.prog.funcs[76]? = some Try.f76 := by kernel_rfl
theorem w76 (k : Nat) {M : Mem} {Au0_0 : Option Addr} {cu0_0 : Nat} {u0_0 : List (List Int)} {u0_1 : List Int} {u1 : List Int} (hu0_0 : SlR M Au0_0 cu0_0 .i64 11 u0_0) (hu0_1 : u0_1.length = 4) (hu1 : u1.length = 7) {r} (h : p76 k u0_0 u0_1 u1 = some r) :
  Fn Try.prog 76 [rval (.agg [.one (.v (.slice Au0_0 (List.length u0_0) cu0_0)),.arr .i64 4 u0_1]),rval (.agg [.arr .i64 7 u1])] M (fun x _ => x = .lf (.v (.int .i64 r))) := by
 unfold p76 at h
 refine Fn_of (P:=Try.prog) (fn:=Try.f76) (c:=bodyOf Try.f76) [.agg [.one (.v (.slice Au0_0 (List.length u0_0) cu0_0)),.arr .i64 4 u0_1],.agg [.arr .i64 7 u1]] hf76 (by kernel_rfl) (Nat.le_of_ble_eq_true (by kernel_rfl)) (args_ok (by kernel_rfl) ⟨⟨rfl,⟨hu0_1,trivial⟩⟩,⟨⟨hu1,trivial⟩,trivial⟩⟩) fun w => ?_
 change T _ _ _ (endQ _ _ _)
 refine T_seq (c1:=(sub [0] (bodyOf Try.f76))) (c2:=(sub [1] (bodyOf Try.f76))) (by kernel_rfl) ?_
 refine T_region (id:=0) (by kernel_rfl) ?_
 refine TI_segK (i:=0) (j:=3) (s':={ σ := [(2,.lf (.own 2 0)),(3,.lf (.own 3 0))],H := [(2,[.one (.v (.slice Au0_0 (List.length u0_0) cu0_0)),.arr .i64 4 u0_1]),(3,[.arr .i64 7 u1])],V := [],M := M,ds := [] }) [2,3] [2,3] [] (by kernel_rfl) (by kernel_rfl) ?_
 refine TI_end (by kernel_rfl) ?_
 refine thenQ_n ?_
 refine T_seq (c1:=(sub [1,0] (bodyOf Try.f76))) (c2:=(sub [1,1] (bodyOf Try.f76))) (by kernel_rfl) ?_
 refine T_seq (c1:=(sub [1,0,0] (bodyOf Try.f76))) (c2:=(sub [1,0,1] (bodyOf Try.f76))) (by kernel_rfl) ?_
 refine T_region (id:=1) (by kernel_rfl) ?_
 refine TI_segK (i:=0) (j:=1) (s':={ σ := [(2,.lf (.own 2 0)),(3,.lf (.own 3 0)),(5,.lf (.v (.int .i64 (0 : Int))))],H := [(2,[.one (.v (.slice Au0_0 (List.length u0_0) cu0_0)),.arr .i64 4 u0_1]),(3,[.arr .i64 7 u1])],V := [],M := M,ds := [] }) [2,3,5] [2,3] [] (by kernel_rfl) (by kernel_rfl) ?_
 refine TI_end (by kernel_rfl) ?_
 refine thenQ_n ?_
 obtain ⟨j1,e_j1,h⟩ := jn_some h
 refine T_bcut (id:=0) (c1:=(sub [1,0,1,0] (bodyOf Try.f76))) (fun s' => Sub { σ := [],H := [],V := [],M := M,ds := [] } s' ∧ j1 = some r) (by kernel_rfl) ?_ ?_
 ·refine T_loop (c1:=(sub [1,0,1,0,0] (bodyOf Try.f76))) (by kernel_rfl) (fun n3 s' => ∃ (x2 : Int),Sub { σ := [(2,.lf (.own 2 0)),(3,.lf (.own 3 0)),(5,.lf (.v (.int .i64 x2)))],H := [(2,[.one (.v (.slice Au0_0 (List.length u0_0) cu0_0)),.arr .i64 4 u0_1]),(3,[.arr .i64 7 u1])],V := [],M := M,ds := [] } s' ∧ p76_l1 k u0_0 u0_1 u1 j1 n3 x2 = some r) (k:=k) ⟨(0 : Int),keep_sub (ts:=[2,3,5]) (hs:=[2,3]) (vs:=[]) (by kernel_rfl),h⟩ ?_
  rintro n3 s' ⟨x2,hsub,h⟩
  cases n3 with
  | zero => rw [p76_l1] at h;cases h
  | succ n3 =>
   rw [p76_l1] at h
   refine T_sub hsub ?_
   refine T_seq (c1:=(sub [1,0,1,0,0,0] (bodyOf Try.f76))) (c2:=(sub [1,0,1,0,0,1] (bodyOf Try.f76))) (by kernel_rfl) ?_
   refine T_seq (c1:=(sub [1,0,1,0,0,0,0] (bodyOf Try.f76))) (c2:=(sub [1,0,1,0,0,0,1] (bodyOf Try.f76))) (by kernel_rfl) ?_
   refine T_region (id:=2) (by kernel_rfl) ?_
   refine TI_segK (i:=0) (j:=2) (s':={ σ := [(2,.lf (.own 2 0)),(3,.lf (.own 3 0)),(5,.lf (.v (.int .i64 x2))),(7,.lf (.v (.int .i64 x2))),(8,.agg [.one (.v (.slice Au0_0 (List.length u0_0) cu0_0)),.arr .i64 4 u0_1])],H := [(2,[.one (.v (.slice Au0_0 (List.length u0_0) cu0_0)),.arr .i64 4 u0_1]),(3,[.arr .i64 7 u1])],V := [],M := M,ds := [] }) [2,3,5,7,8] [2,3] [] (by kernel_rfl) (by kernel_rfl) ?_
   obtain ⟨v4,c_v4,h⟩ := cl_some h
   refine TI_at (i:=2) (d:=9) (x:=.lf (.v (.int .i64 v4))) (At_call (d:=9) (f:=53) (args:=[rval (.agg [.one (.v (.slice Au0_0 (List.length u0_0) cu0_0)),.arr .i64 4 u0_1])]) (x:=.lf (.v (.int .i64 v4))) (by kernel_rfl) (w53 k hu0_0 hu0_1 c_v4)) (by kernel_rfl) trivial ?_
   obtain ⟨b5,e_b5,h⟩ := lt_some h
   refine TI_segK (i:=3) (j:=4) (s':={ σ := [(2,.lf (.own 2 0)),(3,.lf (.own 3 0)),(5,.lf (.v (.int .i64 x2))),(10,.lf (.v (.bool b5)))],H := [(2,[.one (.v (.slice Au0_0 (List.length u0_0) cu0_0)),.arr .i64 4 u0_1]),(3,[.arr .i64 7 u1])],V := [],M := M,ds := [] }) [2,3,5,10] [2,3] [] (by subst e_b5;kernel_rfl) (by kernel_rfl) ?_
   refine TI_end (by kernel_rfl) ?_
   refine thenQ_n ?_
   cases b5 with
   | true =>
    replace h := sp_t h
    refine T_condT (x:=(.tmp 10)) (c1:=(sub [1,0,1,0,0,0,1,0] (bodyOf Try.f76))) (c2:=(sub [1,0,1,0,0,0,1,1] (bodyOf Try.f76))) (by kernel_rfl) (by kernel_rfl) ?_
    refine T_keep (s':={ σ := [(2,.lf (.own 2 0)),(3,.lf (.own 3 0)),(5,.lf (.v (.int .i64 x2)))],H := [(2,[.one (.v (.slice Au0_0 (List.length u0_0) cu0_0)),.arr .i64 4 u0_1]),(3,[.arr .i64 7 u1])],V := [],M := M,ds := [] }) [2,3,5] [2,3] [] (by kernel_rfl) ?_
    refine T_skip (by kernel_rfl) ?_
    refine thenQ_n ?_
    refine T_seq (c1:=(sub [1,0,1,0,0,1,0] (bodyOf Try.f76))) (c2:=(sub [1,0,1,0,0,1,1] (bodyOf Try.f76))) (by kernel_rfl) ?_
    refine T_block (id:=1) (c1:=(sub [1,0,1,0,0,1,0,0] (bodyOf Try.f76))) (by kernel_rfl) ?_
    refine T_seq (c1:=(sub [1,0,1,0,0,1,0,0,0] (bodyOf Try.f76))) (c2:=(sub [1,0,1,0,0,1,0,0,1] (bodyOf Try.f76))) (by kernel_rfl) ?_
    obtain ⟨x6,e_x6,h⟩ := lt_some h
    obtain ⟨v7,c_v7,h⟩ := cl_some h
    obtain ⟨g8,h⟩ := gd_some h
    obtain ⟨x9,e_x9,h⟩ := lt_some h
    obtain ⟨x10,e_x10,h⟩ := lt_some h
    obtain ⟨x11,e_x11,h⟩ := lt_some h
    obtain ⟨v12,c_v12,h⟩ := cl_some h
    obtain ⟨g13,h⟩ := gd_some h
    obtain ⟨x14,e_x14,h⟩ := lt_some h
    obtain ⟨x15,e_x15,h⟩ := lt_some h
    refine T_draw' (id:=4) [] [0,0,0,0,0,0,0,0,0,0,0,0,0,0,0] (by kernel_rfl) (by kernel_rfl) (by kernel_rfl) (by kernel_rfl) [(13,.agg [.one (.v (.slice Au0_0 (List.length u0_0) cu0_0)),.arr .i64 4 u0_1]),(14,.lf (.v (.int .i64 x2))),(15,.lf (.own 3 2)),(16,.lf (.v (.int .i64 x6))),(17,.agg [.arr .i64 2 v7]),(18,.lf (.v (.int .i64 x9))),(19,.agg [.one (.v (.slice Au0_0 (List.length u0_0) cu0_0)),.arr .i64 4 u0_1]),(20,.lf (.v (.int .i64 x2))),(21,.lf (.v (.int .i64 x10))),(22,.lf (.own 3 2)),(23,.lf (.v (.int .i64 x11))),(24,.agg [.arr .i64 2 v12]),(25,.lf (.v (.int .i64 x14))),(26,.lf (.v (.int .i64 x15))),(6,.lf (.v (.int .i64 x15)))] (by kernel_rfl) ⟨⟨rfl,⟨hu0_1,trivial⟩⟩,⟨trivial,⟨trivial,⟨trivial,⟨⟨g8,trivial⟩,⟨trivial,⟨⟨rfl,⟨hu0_1,trivial⟩⟩,⟨trivial,⟨trivial,⟨trivial,⟨trivial,⟨⟨g13,trivial⟩,⟨trivial,⟨trivial,⟨trivial,trivial⟩⟩⟩⟩⟩⟩⟩⟩⟩⟩⟩⟩⟩⟩⟩ ?_
    refine Stage_nil (stage_all' [0,1,2,3,5,6,7,8,9,10,12,13,14] [4,11] (by kernel_rfl) (by subst_vars;kernel_rfl) (by kernel_rfl) ⟨QF_at (i:=4) (d:=17) (x:=.agg [.arr .i64 2 v7]) (show OpAt _ _ _ 4 17 _ from by exact At_call (d:=17) (f:=17) (args:=[rval (.agg [.one (.v (.slice Au0_0 (List.length u0_0) cu0_0)),.arr .i64 4 u0_1]),rval (.lf (.v (.int .i64 x2))),rval (.lf (.v (.int .i64 x6)))]) (x:=.agg [.arr .i64 2 v7]) (by subst_vars;kernel_rfl) (w17 k hu0_0 hu0_1 c_v7)) (by kernel_rfl) (by subst_vars;kernel_rfl),⟨QF_at (i:=11) (d:=24) (x:=.agg [.arr .i64 2 v12]) (show OpAt _ _ _ 11 24 _ from by exact At_call (d:=24) (f:=17) (args:=[rval (.agg [.one (.v (.slice Au0_0 (List.length u0_0) cu0_0)),.arr .i64 4 u0_1]),rval (.lf (.v (.int .i64 x10))),rval (.lf (.v (.int .i64 x11)))]) (x:=.agg [.arr .i64 2 v12]) (by subst_vars;kernel_rfl) (w17 k hu0_0 hu0_1 c_v12)) (by kernel_rfl) (by subst_vars;kernel_rfl),trivial⟩⟩) ?_
    refine thenQ_n ?_
    refine T_keep (s':={ σ := [(2,.lf (.own 2 0)),(3,.lf (.own 3 0)),(5,.lf (.v (.int .i64 x2))),(6,.lf (.v (.int .i64 x15)))],H := [(2,[.one (.v (.slice Au0_0 (List.length u0_0) cu0_0)),.arr .i64 4 u0_1]),(3,[.arr .i64 7 u1])],V := [],M := M,ds := [] }) [2,3,5,6] [2,3] [] (by subst_vars;kernel_rfl) ?_
    obtain ⟨j17,e_j17,h⟩ := jn_some h
    refine T_cut (c1:=(sub [1,0,1,0,0,1,0,0,1,0] (bodyOf Try.f76))) (c2:=(sub [1,0,1,0,0,1,0,0,1,1] (bodyOf Try.f76))) (fun s' => ∃ (b16 : Bool),Sub { σ := [(2,.lf (.own 2 0)),(3,.lf (.own 3 0)),(5,.lf (.v (.int .i64 x2))),(55,.lf (.v (.bool b16)))],H := [(2,[.one (.v (.slice Au0_0 (List.length u0_0) cu0_0)),.arr .i64 4 u0_1]),(3,[.arr .i64 7 u1])],V := [],M := M,ds := [] } s' ∧ j17 b16 = some r) (by kernel_rfl) ?_ ?_
    ·obtain ⟨v18,c_v18,h⟩ := cl_some h
     cases v18 with
     | true =>
      replace h := sp_t h
      obtain ⟨x19,e_x19,h⟩ := lt_some h
      obtain ⟨b20,e_b20,h⟩ := lt_some h
      cases b20 with
      | true =>
       replace h := sp_t h
       obtain ⟨v21,c_v21,h⟩ := cl_some h
       obtain ⟨g22,h⟩ := gd_some h
       obtain ⟨x23,e_x23,h⟩ := lt_some h
       obtain ⟨x24,e_x24,h⟩ := lt_some h
       obtain ⟨b25,e_b25,h⟩ := lt_some h
       cases b25 with
       | true =>
        replace h := sp_t h
        obtain ⟨x26,e_x26,h⟩ := lt_some h
        obtain ⟨v27,c_v27,h⟩ := cl_some h
        obtain ⟨g28,h⟩ := gd_some h
        obtain ⟨x29,e_x29,h⟩ := lt_some h
        obtain ⟨x30,e_x30,h⟩ := lt_some h
        obtain ⟨b31,e_b31,h⟩ := lt_some h
        refine T_draw' (id:=5) [] [0,0,0,0,0,0,0,0,0,0,0,0,0,0,0,0,0,0,0,0,0,0,0,0,0,0,0,0,0] (by kernel_rfl) (by kernel_rfl) (by kernel_rfl) (by kernel_rfl) ((27,.agg [.one (.v (.slice Au0_0 (List.length u0_0) cu0_0)),.arr .i64 4 u0_1])::(28,.agg [.arr .i64 7 u1])::(29,.lf (.v (.int .i64 x2)))::(30,.lf (.v (.bool true)))::(31,.lf (.v (.bool true)))::(32,.lf (.v (.int .i64 x15)))::(33,.lf (.own 3 3))::(34,.lf (.v (.int .i64 x19)))::(35,.lf (.v (.bool true)))::(36,.lf (.v (.bool true)))::(37,.lf (.v (.bool true)))::(38,.agg [.one (.v (.slice Au0_0 (List.length u0_0) cu0_0)),.arr .i64 4 u0_1])::(39,.lf (.v (.int .i64 x2)))::(40,.agg [.arr .i64 2 v21])::(41,.lf (.v (.int .i64 x23)))::(42,.lf (.own 3 1))::(43,.lf (.v (.int .i64 x24)))::(44,.lf (.v (.bool true)))::(45,.lf (.v (.bool true)))::(46,.lf (.v (.bool true)))::(47,.agg [.one (.v (.slice Au0_0 (List.length u0_0) cu0_0)),.arr .i64 4 u0_1])::(48,.lf (.v (.int .i64 x2)))::(49,.lf (.v (.int .i64 x26)))::(50,.agg [.arr .i64 2 v27])::(51,.lf (.v (.int .i64 x29)))::(52,.lf (.own 3 0))::(53,.lf (.v (.int .i64 x30)))::(54,.lf (.v (.bool b31)))::(55,.lf (.v (.bool b31)))::[]) (by kernel_rfl) ⟨⟨rfl,⟨hu0_1,trivial⟩⟩,⟨⟨hu1,trivial⟩,⟨trivial,⟨trivial,⟨trivial,⟨trivial,⟨trivial,⟨trivial,⟨trivial,⟨trivial,⟨trivial,⟨⟨rfl,⟨hu0_1,trivial⟩⟩,⟨trivial,⟨⟨g22,trivial⟩,⟨trivial,⟨trivial,⟨trivial,⟨trivial,⟨trivial,⟨trivial,⟨⟨rfl,⟨hu0_1,trivial⟩⟩,⟨trivial,⟨trivial,⟨⟨g28,trivial⟩,⟨trivial,⟨trivial,⟨trivial,⟨trivial,⟨trivial,trivial⟩⟩⟩⟩⟩⟩⟩⟩⟩⟩⟩⟩⟩⟩⟩⟩⟩⟩⟩⟩⟩⟩⟩⟩⟩⟩⟩⟩⟩ ?_
        refine Stage_nil (stage_all' [0,1,2,4,5,6,7,9,10,11,12,14,15,16,18,19,20,21,22,24,25,26,27,28] [3,8,13,17,23] (by kernel_rfl) (by subst_vars;kernel_rfl) (by kernel_rfl) ⟨QF_at (i:=3) (d:=30) (x:=.lf (.v (.bool true))) (show OpAt _ _ _ 3 30 _ from by exact At_call (d:=30) (f:=80) (args:=[rval (.agg [.one (.v (.slice Au0_0 (List.length u0_0) cu0_0)),.arr .i64 4 u0_1]),rval (.agg [.arr .i64 7 u1]),rval (.lf (.v (.int .i64 x2)))]) (x:=.lf (.v (.bool true))) (by subst_vars;kernel_rfl) (w80 k hu0_0 hu0_1 hu1 c_v18)) (by kernel_rfl) (by subst_vars;kernel_rfl),⟨QF_at (i:=8) (d:=35) (x:=.lf (.v (.bool true))) (show OpAt _ _ _ 8 35 _ from by exact At_bin (d:=35) (b:=.gtr) (u:=.int .i64 x15) (v:=.int .i64 x19) (w':=.bool true) (by subst_vars;kernel_rfl) (by rw [show exBin .gtr (.int .i64 x15) (.int .i64 x19) = some (.bool (decide (x15 > x19))) from by kernel_rfl,← e_b20])) (by kernel_rfl) (by subst_vars;kernel_rfl),⟨QF_at (i:=13) (d:=40) (x:=.agg [.arr .i64 2 v21]) (show OpAt _ _ _ 13 40 _ from by exact At_call (d:=40) (f:=16) (args:=[rval (.agg [.one (.v (.slice Au0_0 (List.length u0_0) cu0_0)),.arr .i64 4 u0_1]),rval (.lf (.v (.int .i64 x2)))]) (x:=.agg [.arr .i64 2 v21]) (by subst_vars;kernel_rfl) (w16 k hu0_0 hu0_1 c_v21)) (by kernel_rfl) (by subst_vars;kernel_rfl),⟨QF_at (i:=17) (d:=44) (x:=.lf (.v (.bool true))) (show OpAt _ _ _ 17 44 _ from by exact At_bin (d:=44) (b:=.leq) (u:=.int .i64 x23) (v:=.int .i64 x24) (w':=.bool true) (by subst_vars;kernel_rfl) (by rw [show exBin .leq (.int .i64 x23) (.int .i64 x24) = some (.bool (decide (x23 ≤ x24))) from by kernel_rfl,← e_b25])) (by kernel_rfl) (by subst_vars;kernel_rfl),⟨QF_at (i:=23) (d:=50) (x:=.agg [.arr .i64 2 v27]) (show OpAt _ _ _ 23 50 _ from by exact At_call (d:=50) (f:=16) (args:=[rval (.agg [.one (.v (.slice Au0_0 (List.length u0_0) cu0_0)),.arr .i64 4 u0_1]),rval (.lf (.v (.int .i64 x26)))]) (x:=.agg [.arr .i64 2 v27]) (by subst_vars;kernel_rfl) (w16 k hu0_0 hu0_1 c_v27)) (by kernel_rfl) (by subst_vars;kernel_rfl),trivial⟩⟩⟩⟩⟩) ?_
        refine thenQ_n ?_
        exact ⟨b31,keep_sub (ts:=[2,3,5,55]) (hs:=[2,3]) (vs:=[]) (by subst_vars;kernel_rfl),h⟩
       | false =>
        replace h := sp_f h
        refine T_draw' (id:=5) [] [0,0,0,0,0,0,0,0,0,0,0,0,0,0,0,0,0,0,0,0,0,0,0,0,0,0,0,0,0] (by kernel_rfl) (by kernel_rfl) (by kernel_rfl) (by kernel_rfl) ((27,.agg [.one (.v (.slice Au0_0 (List.length u0_0) cu0_0)),.arr .i64 4 u0_1])::(28,.agg [.arr .i64 7 u1])::(29,.lf (.v (.int .i64 x2)))::(30,.lf (.v (.bool true)))::(31,.lf (.v (.bool true)))::(32,.lf (.v (.int .i64 x15)))::(33,.lf (.own 3 3))::(34,.lf (.v (.int .i64 x19)))::(35,.lf (.v (.bool true)))::(36,.lf (.v (.bool true)))::(37,.lf (.v (.bool true)))::(38,.agg [.one (.v (.slice Au0_0 (List.length u0_0) cu0_0)),.arr .i64 4 u0_1])::(39,.lf (.v (.int .i64 x2)))::(40,.agg [.arr .i64 2 v21])::(41,.lf (.v (.int .i64 x23)))::(42,.lf (.own 3 1))::(43,.lf (.v (.int .i64 x24)))::(44,.lf (.v (.bool false)))::(45,.lf (.v (.bool false)))::(46,.lf (.v (.bool false)))::(47,.tup [])::(48,.tup [])::(49,.tup [])::(50,.tup [])::(51,.tup [])::(52,.tup [])::(53,.tup [])::(54,.tup [])::(55,.lf (.v (.bool false)))::[]) (by kernel_rfl) ⟨⟨rfl,⟨hu0_1,trivial⟩⟩,⟨⟨hu1,trivial⟩,⟨trivial,⟨trivial,⟨trivial,⟨trivial,⟨trivial,⟨trivial,⟨trivial,⟨trivial,⟨trivial,⟨⟨rfl,⟨hu0_1,trivial⟩⟩,⟨trivial,⟨⟨g22,trivial⟩,⟨trivial,⟨trivial,⟨trivial,⟨trivial,⟨trivial,⟨trivial,⟨(by intro y hy;cases hy),⟨(by intro y hy;cases hy),⟨(by intro y hy;cases hy),⟨(by intro y hy;cases hy),⟨(by intro y hy;cases hy),⟨(by intro y hy;cases hy),⟨(by intro y hy;cases hy),⟨(by intro y hy;cases hy),⟨trivial,trivial⟩⟩⟩⟩⟩⟩⟩⟩⟩⟩⟩⟩⟩⟩⟩⟩⟩⟩⟩⟩⟩⟩⟩⟩⟩⟩⟩⟩⟩ ?_
        refine Stage_nil (stage_all' [0,1,2,4,5,6,7,9,10,11,12,14,15,16,18,19,20,21,22,23,24,25,26,27,28] [3,8,13,17] (by kernel_rfl) (by subst_vars;kernel_rfl) (by kernel_rfl) ⟨QF_at (i:=3) (d:=30) (x:=.lf (.v (.bool true))) (show OpAt _ _ _ 3 30 _ from by exact At_call (d:=30) (f:=80) (args:=[rval (.agg [.one (.v (.slice Au0_0 (List.length u0_0) cu0_0)),.arr .i64 4 u0_1]),rval (.agg [.arr .i64 7 u1]),rval (.lf (.v (.int .i64 x2)))]) (x:=.lf (.v (.bool true))) (by subst_vars;kernel_rfl) (w80 k hu0_0 hu0_1 hu1 c_v18)) (by kernel_rfl) (by subst_vars;kernel_rfl),⟨QF_at (i:=8) (d:=35) (x:=.lf (.v (.bool true))) (show OpAt _ _ _ 8 35 _ from by exact At_bin (d:=35) (b:=.gtr) (u:=.int .i64 x15) (v:=.int .i64 x19) (w':=.bool true) (by subst_vars;kernel_rfl) (by rw [show exBin .gtr (.int .i64 x15) (.int .i64 x19) = some (.bool (decide (x15 > x19))) from by kernel_rfl,← e_b20])) (by kernel_rfl) (by subst_vars;kernel_rfl),⟨QF_at (i:=13) (d:=40) (x:=.agg [.arr .i64 2 v21]) (show OpAt _ _ _ 13 40 _ from by exact At_call (d:=40) (f:=16) (args:=[rval (.agg [.one (.v (.slice Au0_0 (List.length u0_0) cu0_0)),.arr .i64 4 u0_1]),rval (.lf (.v (.int .i64 x2)))]) (x:=.agg [.arr .i64 2 v21]) (by subst_vars;kernel_rfl) (w16 k hu0_0 hu0_1 c_v21)) (by kernel_rfl) (by subst_vars;kernel_rfl),⟨QF_at (i:=17) (d:=44) (x:=.lf (.v (.bool false))) (show OpAt _ _ _ 17 44 _ from by exact At_bin (d:=44) (b:=.leq) (u:=.int .i64 x23) (v:=.int .i64 x24) (w':=.bool false) (by subst_vars;kernel_rfl) (by rw [show exBin .leq (.int .i64 x23) (.int .i64 x24) = some (.bool (decide (x23 ≤ x24))) from by kernel_rfl,← e_b25])) (by kernel_rfl) (by subst_vars;kernel_rfl),trivial⟩⟩⟩⟩) ?_
        refine thenQ_n ?_
        exact ⟨false,keep_sub (ts:=[2,3,5,55]) (hs:=[2,3]) (vs:=[]) (by subst_vars;kernel_rfl),h⟩
      | false =>
       replace h := sp_f h
       refine T_draw' (id:=5) [] [0,0,0,0,0,0,0,0,0,0,0,0,0,0,0,0,0,0,0,0,0,0,0,0,0,0,0,0,0] (by kernel_rfl) (by kernel_rfl) (by kernel_rfl) (by kernel_rfl) ((27,.agg [.one (.v (.slice Au0_0 (List.length u0_0) cu0_0)),.arr .i64 4 u0_1])::(28,.agg [.arr .i64 7 u1])::(29,.lf (.v (.int .i64 x2)))::(30,.lf (.v (.bool true)))::(31,.lf (.v (.bool true)))::(32,.lf (.v (.int .i64 x15)))::(33,.lf (.own 3 3))::(34,.lf (.v (.int .i64 x19)))::(35,.lf (.v (.bool false)))::(36,.lf (.v (.bool false)))::(37,.lf (.v (.bool false)))::(38,.tup [])::(39,.tup [])::(40,.tup [])::(41,.tup [])::(42,.tup [])::(43,.tup [])::(44,.tup [])::(45,.lf (.v (.bool false)))::(46,.lf (.v (.bool false)))::(47,.tup [])::(48,.tup [])::(49,.tup [])::(50,.tup [])::(51,.tup [])::(52,.tup [])::(53,.tup [])::(54,.tup [])::(55,.lf (.v (.bool false)))::[]) (by kernel_rfl) ⟨⟨rfl,⟨hu0_1,trivial⟩⟩,⟨⟨hu1,trivial⟩,⟨trivial,⟨trivial,⟨trivial,⟨trivial,⟨trivial,⟨trivial,⟨trivial,⟨trivial,⟨trivial,⟨(by intro y hy;cases hy),⟨(by intro y hy;cases hy),⟨(by intro y hy;cases hy),⟨(by intro y hy;cases hy),⟨(by intro y hy;cases hy),⟨(by intro y hy;cases hy),⟨(by intro y hy;cases hy),⟨trivial,⟨trivial,⟨(by intro y hy;cases hy),⟨(by intro y hy;cases hy),⟨(by intro y hy;cases hy),⟨(by intro y hy;cases hy),⟨(by intro y hy;cases hy),⟨(by intro y hy;cases hy),⟨(by intro y hy;cases hy),⟨(by intro y hy;cases hy),⟨trivial,trivial⟩⟩⟩⟩⟩⟩⟩⟩⟩⟩⟩⟩⟩⟩⟩⟩⟩⟩⟩⟩⟩⟩⟩⟩⟩⟩⟩⟩⟩ ?_
       refine Stage_nil (stage_all' [0,1,2,4,5,6,7,9,10,11,12,13,14,15,16,17,18,19,20,21,22,23,24,25,26,27,28] [3,8] (by kernel_rfl) (by subst e_x19;kernel_rfl) (by kernel_rfl) ⟨QF_at (i:=3) (d:=30) (x:=.lf (.v (.bool true))) (show OpAt _ _ _ 3 30 _ from by exact At_call (d:=30) (f:=80) (args:=[rval (.agg [.one (.v (.slice Au0_0 (List.length u0_0) cu0_0)),.arr .i64 4 u0_1]),rval (.agg [.arr .i64 7 u1]),rval (.lf (.v (.int .i64 x2)))]) (x:=.lf (.v (.bool true))) (by subst e_x19;kernel_rfl) (w80 k hu0_0 hu0_1 hu1 c_v18)) (by kernel_rfl) (by subst e_x19;kernel_rfl),⟨QF_at (i:=8) (d:=35) (x:=.lf (.v (.bool false))) (show OpAt _ _ _ 8 35 _ from by exact At_bin (d:=35) (b:=.gtr) (u:=.int .i64 x15) (v:=.int .i64 x19) (w':=.bool false) (by subst e_x19;kernel_rfl) (by rw [show exBin .gtr (.int .i64 x15) (.int .i64 x19) = some (.bool (decide (x15 > x19))) from by kernel_rfl,← e_b20])) (by kernel_rfl) (by subst e_x19;kernel_rfl),trivial⟩⟩) ?_
       refine thenQ_n ?_
       exact ⟨false,keep_sub (ts:=[2,3,5,55]) (hs:=[2,3]) (vs:=[]) (by subst e_x19;kernel_rfl),h⟩
     | false =>
      replace h := sp_f h
      refine T_draw' (id:=5) [] [0,0,0,0,0,0,0,0,0,0,0,0,0,0,0,0,0,0,0,0,0,0,0,0,0,0,0,0,0] (by kernel_rfl) (by kernel_rfl) (by kernel_rfl) (by kernel_rfl) ((27,.agg [.one (.v (.slice Au0_0 (List.length u0_0) cu0_0)),.arr .i64 4 u0_1])::(28,.agg [.arr .i64 7 u1])::(29,.lf (.v (.int .i64 x2)))::(30,.lf (.v (.bool false)))::(31,.lf (.v (.bool false)))::(32,.tup [])::(33,.tup [])::(34,.tup [])::(35,.tup [])::(36,.lf (.v (.bool false)))::(37,.lf (.v (.bool false)))::(38,.tup [])::(39,.tup [])::(40,.tup [])::(41,.tup [])::(42,.tup [])::(43,.tup [])::(44,.tup [])::(45,.lf (.v (.bool false)))::(46,.lf (.v (.bool false)))::(47,.tup [])::(48,.tup [])::(49,.tup [])::(50,.tup [])::(51,.tup [])::(52,.tup [])::(53,.tup [])::(54,.tup [])::(55,.lf (.v (.bool false)))::[]) (by kernel_rfl) ⟨⟨rfl,⟨hu0_1,trivial⟩⟩,⟨⟨hu1,trivial⟩,⟨trivial,⟨trivial,⟨trivial,⟨(by intro y hy;cases hy),⟨(by intro y hy;cases hy),⟨(by intro y hy;cases hy),⟨(by intro y hy;cases hy),⟨trivial,⟨trivial,⟨(by intro y hy;cases hy),⟨(by intro y hy;cases hy),⟨(by intro y hy;cases hy),⟨(by intro y hy;cases hy),⟨(by intro y hy;cases hy),⟨(by intro y hy;cases hy),⟨(by intro y hy;cases hy),⟨trivial,⟨trivial,⟨(by intro y hy;cases hy),⟨(by intro y hy;cases hy),⟨(by intro y hy;cases hy),⟨(by intro y hy;cases hy),⟨(by intro y hy;cases hy),⟨(by intro y hy;cases hy),⟨(by intro y hy;cases hy),⟨(by intro y hy;cases hy),⟨trivial,trivial⟩⟩⟩⟩⟩⟩⟩⟩⟩⟩⟩⟩⟩⟩⟩⟩⟩⟩⟩⟩⟩⟩⟩⟩⟩⟩⟩⟩⟩ ?_
      refine Stage_nil (stage_all' [0,1,2,4,5,6,7,8,9,10,11,12,13,14,15,16,17,18,19,20,21,22,23,24,25,26,27,28] [3] (by kernel_rfl) (by kernel_rfl) (by kernel_rfl) ⟨QF_at (i:=3) (d:=30) (x:=.lf (.v (.bool false))) (show OpAt _ _ _ 3 30 _ from by exact At_call (d:=30) (f:=80) (args:=[rval (.agg [.one (.v (.slice Au0_0 (List.length u0_0) cu0_0)),.arr .i64 4 u0_1]),rval (.agg [.arr .i64 7 u1]),rval (.lf (.v (.int .i64 x2)))]) (x:=.lf (.v (.bool false))) (by kernel_rfl) (w80 k hu0_0 hu0_1 hu1 c_v18)) (by kernel_rfl) (by kernel_rfl),trivial⟩) ?_
      refine thenQ_n ?_
      exact ⟨false,keep_sub (ts:=[2,3,5,55]) (hs:=[2,3]) (vs:=[]) (by kernel_rfl),h⟩
    ·rintro s' ⟨b16,hsub,h⟩
     subst e_j17
     refine T_sub hsub ?_
     cases b16 with
     | true =>
      replace h := sp_t h
      refine T_condT (x:=(.tmp 55)) (c1:=(sub [1,0,1,0,0,1,0,0,1,1,0] (bodyOf Try.f76))) (c2:=(sub [1,0,1,0,0,1,0,0,1,1,1] (bodyOf Try.f76))) (by kernel_rfl) (by kernel_rfl) ?_
      refine T_keep (s':={ σ := [(5,.lf (.v (.int .i64 x2)))],H := [],V := [],M := M,ds := [] }) [5] [] [] (by kernel_rfl) ?_
      refine T_seq (c1:=(sub [1,0,1,0,0,1,0,0,1,1,0,0] (bodyOf Try.f76))) (c2:=(sub [1,0,1,0,0,1,0,0,1,1,0,1] (bodyOf Try.f76))) (by kernel_rfl) ?_
      refine T_region (id:=6) (by kernel_rfl) ?_
      refine TI_segK (i:=0) (j:=2) (s':={ σ := [(4,.lf (.v (.int .i64 x2)))],H := [],V := [],M := M,ds := [] }) [4] [] [] (by kernel_rfl) (by kernel_rfl) ?_
      refine TI_end (by kernel_rfl) ?_
      refine thenQ_n ?_
      refine T_ret (by kernel_rfl) ?_
      refine blockQ_r ?_
      refine thenQ_r ?_
      refine thenQ_r ?_
      refine blockQ_r ?_
      refine thenQ_r ?_
      refine thenQ_r ?_
      have h := Option.some.inj h
      subst h
      refine fin_ret (.lf (.v (.int .i64 x2))) (by kernel_rfl) (by kernel_rfl) rfl ?_
      rfl
     | false =>
      replace h := sp_f h
      refine T_condF (x:=(.tmp 55)) (c1:=(sub [1,0,1,0,0,1,0,0,1,1,0] (bodyOf Try.f76))) (c2:=(sub [1,0,1,0,0,1,0,0,1,1,1] (bodyOf Try.f76))) (by kernel_rfl) (by kernel_rfl) ?_
      refine T_keep (s':={ σ := [(2,.lf (.own 2 0)),(3,.lf (.own 3 0)),(5,.lf (.v (.int .i64 x2)))],H := [(2,[.one (.v (.slice Au0_0 (List.length u0_0) cu0_0)),.arr .i64 4 u0_1]),(3,[.arr .i64 7 u1])],V := [],M := M,ds := [] }) [2,3,5] [2,3] [] (by kernel_rfl) ?_
      refine T_skip (by kernel_rfl) ?_
      refine blockQ_n ?_
      refine thenQ_n ?_
      refine T_region (id:=3) (by kernel_rfl) ?_
      obtain ⟨x32,e_x32,h⟩ := lt_some h
      refine TI_segK (i:=0) (j:=3) (s':={ σ := [(2,.lf (.own 2 0)),(3,.lf (.own 3 0)),(5,.lf (.v (.int .i64 x32)))],H := [(2,[.one (.v (.slice Au0_0 (List.length u0_0) cu0_0)),.arr .i64 4 u0_1]),(3,[.arr .i64 7 u1])],V := [],M := M,ds := [] }) [2,3,5] [2,3] [] (by subst e_x32;kernel_rfl) (by kernel_rfl) ?_
      refine TI_end (by kernel_rfl) ?_
      refine thenQ_n ?_
      exact ⟨n3,Nat.lt_succ_self _,x32,keep_sub (ts:=[2,3,5]) (hs:=[2,3]) (vs:=[]) (by kernel_rfl),h⟩
   | false =>
    replace h := sp_f h
    refine T_condF (x:=(.tmp 10)) (c1:=(sub [1,0,1,0,0,0,1,0] (bodyOf Try.f76))) (c2:=(sub [1,0,1,0,0,0,1,1] (bodyOf Try.f76))) (by kernel_rfl) (by kernel_rfl) ?_
    refine T_keep (s':={ σ := [],H := [],V := [],M := M,ds := [] }) [] [] [] (by kernel_rfl) ?_
    refine T_exit (id:=0) (by kernel_rfl) ?_
    refine thenQ_x ?_
    refine thenQ_x ?_
    refine blockQ_x ?_
    refine thenQ_n ?_
    exact ⟨keep_sub (ts:=[]) (hs:=[]) (vs:=[]) (by kernel_rfl),h⟩
 ·rintro s' ⟨hsub,h⟩
  subst e_j1
  refine thenQ_n ?_
  refine T_sub hsub ?_
  refine T_seq (c1:=(sub [1,1,0] (bodyOf Try.f76))) (c2:=(sub [1,1,1] (bodyOf Try.f76))) (by kernel_rfl) ?_
  refine T_region (id:=7) (by kernel_rfl) ?_
  refine TI_segK (i:=0) (j:=1) (s':={ σ := [(4,.lf (.v (.int .i64 (-1 : Int))))],H := [],V := [],M := M,ds := [] }) [4] [] [] (by kernel_rfl) (by kernel_rfl) ?_
  refine TI_end (by kernel_rfl) ?_
  refine thenQ_n ?_
  refine T_ret (by kernel_rfl) ?_
  have h := Option.some.inj h
  subst h
  refine fin_ret (.lf (.v (.int .i64 (-1 : Int)))) (by kernel_rfl) (by kernel_rfl) rfl ?_
  rfl
end Go.Proofs.Ythjkejbgknemgaa
namespace Go.Proofs.Ythjkejbgknemgaa
open Go.RowKit
def p18 (k : Nat) (u0_0 : List (List Int)) (u0_1 : List Int) : Option Bool :=
 jn (fun (b1 : Bool) => sp b1 (some true) (jn (fun (b6 : Bool) => some b6) fun j7 => lt' (decide ((List.length u0_0 : Int) > (1 : Int))) fun b8 => sp b8 (lt' (wr .i64 ((List.length u0_0 : Int) - (1 : Int))) fun x9 => gd ((0 : Int) ≤ x9 ∧ x9 < (List.length u0_0 : Int)) <| lt' (List.getD (List.getD u0_0 ((x9).toNat) []) 0 0) fun x11 => gd ((0 : Int) ≤ (0 : Int) ∧ (0 : Int) < (List.length u0_0 : Int)) <| lt' (List.getD (List.getD u0_0 0 []) 0 0) fun x13 => lt' (decide (x11 > x13)) fun b14 => sp b14 (lt' (wr .i64 ((List.length u0_0 : Int) - (1 : Int))) fun x15 => gd ((0 : Int) ≤ x15 ∧ x15 < (List.length u0_0 : Int)) <| lt' (List.getD (List.getD u0_0 ((x15).toNat) []) 0 0) fun x17 => gd ((0 : Int) ≤ (0 : Int) ∧ (0 : Int) < (List.length u0_0 : Int)) <| lt' (List.getD (List.getD u0_0 0 []) 0 0) fun x19 => lt' (wr .i64 (x17 - x19)) fun x20 => lt' (decide (x20 > (120 : Int))) fun b21 => sp b21 (lt' (wr .i64 ((List.length u0_0 : Int) - (1 : Int))) fun x22 => gd ((0 : Int) ≤ x22 ∧ x22 < (List.length u0_0 : Int)) <| lt' (List.getD (List.getD u0_0 ((x22).toNat) []) 0 0) fun x24 => gd ((0 : Int) ≤ (0 : Int) ∧ (0 : Int) < (List.length u0_0 : Int)) <| lt' (List.getD (List.getD u0_0 0 []) 0 0) fun x26 => lt' (wr .i64 (x24 - x26)) fun x27 => lt' (decide (x27 ≤ (2000 : Int))) fun b28 => j7 b28) (j7 false)) (j7 false)) (j7 false))) fun j2 => lt' (decide ((List.length u0_0 : Int) > (100 : Int))) fun b3 => sp b3 (j2 true) (lt' (decide ((List.length u0_0 : Int) > (20 : Int))) fun b4 => sp b4 (lt' (decide ((List.length u0_0 : Int) ≤ (64 : Int))) fun b5 => j2 b5) (j2 false))
theorem hf18 : Try.prog.funcs[18]? = some Try.f18 := by kernel_rfl
theorem w18 (k : Nat) {M : Mem} {Au0_0 : Option Addr} {cu0_0 : Nat} {u0_0 : List (List Int)} {u0_1 : List Int} (hu0_0 : SlR M Au0_0 cu0_0 .i64 11 u0_0) (hu0_1 : u0_1.length = 4) {r} (h : p18 k u0_0 u0_1 = some r) :
  Fn Try.prog 18 [rval (.agg [.one (.v (.slice Au0_0 (List.length u0_0) cu0_0)),.arr .i64 4 u0_1])] M (fun x _ => x = .lf (.v (.bool r))) := by
 unfold p18 at h
 refine Fn_of (P:=Try.prog) (fn:=Try.f18) (c:=bodyOf Try.f18) [.agg [.one (.v (.slice Au0_0 (List.length u0_0) cu0_0)),.arr .i64 4 u0_1]] hf18 (by kernel_rfl) (Nat.le_of_ble_eq_true (by kernel_rfl)) (args_ok (by kernel_rfl) ⟨⟨rfl,⟨hu0_1,trivial⟩⟩,trivial⟩) fun w => ?_
 change T _ _ _ (endQ _ _ _)
 refine T_seq (c1:=(sub [0] (bodyOf Try.f18))) (c2:=(sub [1] (bodyOf Try.f18))) (by kernel_rfl) ?_
 refine T_region (id:=0) (by kernel_rfl) ?_
 refine TI_segK (i:=0) (j:=2) (s':={ σ := [(1,.lf (.own 1 0))],H := [(1,[.one (.v (.slice Au0_0 (List.length u0_0) cu0_0)),.arr .i64 4 u0_1])],V := [],M := M,ds := [] }) [1] [1] [] (by kernel_rfl) (by kernel_rfl) ?_
 refine TI_end (by kernel_rfl) ?_
 refine thenQ_n ?_
 refine T_seq (c1:=(sub [1,0] (bodyOf Try.f18))) (c2:=(sub [1,1] (bodyOf Try.f18))) (by kernel_rfl) ?_
 refine T_region (id:=1) (by kernel_rfl) ?_
 refine TI_segK (i:=0) (j:=4) (s':={ σ := [(1,.lf (.own 1 0)),(3,.lf (.v (.int .i64 (List.length u0_0 : Int))))],H := [(1,[.one (.v (.slice Au0_0 (List.length u0_0) cu0_0)),.arr .i64 4 u0_1])],V := [],M := M,ds := [] }) [1,3] [1] [] (by kernel_rfl) (by kernel_rfl) ?_
 refine TI_end (by kernel_rfl) ?_
 refine thenQ_n ?_
 refine T_seq (c1:=(sub [1,1,0] (bodyOf Try.f18))) (c2:=(sub [1,1,1] (bodyOf Try.f18))) (by kernel_rfl) ?_
 obtain ⟨j2,e_j2,h⟩ := jn_some h
 refine T_cut (c1:=(sub [1,1,0,0] (bodyOf Try.f18))) (c2:=(sub [1,1,0,1] (bodyOf Try.f18))) (fun s' => ∃ (b1 : Bool),Sub { σ := [(1,.lf (.own 1 0)),(3,.lf (.v (.int .i64 (List.length u0_0 : Int)))),(16,.lf (.v (.bool b1)))],H := [(1,[.one (.v (.slice Au0_0 (List.length u0_0) cu0_0)),.arr .i64 4 u0_1])],V := [],M := M,ds := [] } s' ∧ j2 b1 = some r) (by kernel_rfl) ?_ ?_
 ·refine T_region (id:=2) (by kernel_rfl) ?_
  obtain ⟨b3,e_b3,h⟩ := lt_some h
  refine TI_segK (i:=0) (j:=3) (s':={ σ := [(1,.lf (.own 1 0)),(3,.lf (.v (.int .i64 (List.length u0_0 : Int)))),(9,.lf (.v (.bool b3)))],H := [(1,[.one (.v (.slice Au0_0 (List.length u0_0) cu0_0)),.arr .i64 4 u0_1])],V := [],M := M,ds := [] }) [1,3,9] [1] [] (by subst e_b3;kernel_rfl) (by kernel_rfl) ?_
  cases b3 with
  | true =>
   replace h := sp_t h
   refine TI_segK (i:=3) (j:=10) (s':={ σ := [(1,.lf (.own 1 0)),(3,.lf (.v (.int .i64 (List.length u0_0 : Int)))),(16,.lf (.v (.bool true)))],H := [(1,[.one (.v (.slice Au0_0 (List.length u0_0) cu0_0)),.arr .i64 4 u0_1])],V := [],M := M,ds := [] }) [1,3,16] [1] [] (by kernel_rfl) (by kernel_rfl) ?_
   refine TI_end (by kernel_rfl) ?_
   refine thenQ_n ?_
   exact ⟨true,keep_sub (ts:=[1,3,16]) (hs:=[1]) (vs:=[]) (by kernel_rfl),h⟩
  | false =>
   replace h := sp_f h
   obtain ⟨b4,e_b4,h⟩ := lt_some h
   refine TI_segK (i:=3) (j:=6) (s':={ σ := [(1,.lf (.own 1 0)),(3,.lf (.v (.int .i64 (List.length u0_0 : Int)))),(9,.lf (.v (.bool false))),(12,.lf (.v (.bool b4)))],H := [(1,[.one (.v (.slice Au0_0 (List.length u0_0) cu0_0)),.arr .i64 4 u0_1])],V := [],M := M,ds := [] }) [1,3,9,12] [1] [] (by subst e_b4;kernel_rfl) (by kernel_rfl) ?_
   cases b4 with
   | true =>
    replace h := sp_t h
    obtain ⟨b5,e_b5,h⟩ := lt_some h
    refine TI_segK (i:=6) (j:=10) (s':={ σ := [(1,.lf (.own 1 0)),(3,.lf (.v (.int .i64 (List.length u0_0 : Int)))),(16,.lf (.v (.bool b5)))],H := [(1,[.one (.v (.slice Au0_0 (List.length u0_0) cu0_0)),.arr .i64 4 u0_1])],V := [],M := M,ds := [] }) [1,3,16] [1] [] (by subst e_b5;kernel_rfl) (by kernel_rfl) ?_
    refine TI_end (by kernel_rfl) ?_
    refine thenQ_n ?_
    exact ⟨b5,keep_sub (ts:=[1,3,16]) (hs:=[1]) (vs:=[]) (by kernel_rfl),h⟩
   | false =>
    replace h := sp_f h
    refine TI_segK (i:=6) (j:=10) (s':={ σ := [(1,.lf (.own 1 0)),(3,.lf (.v (.int .i64 (List.length u0_0 : Int)))),(16,.lf (.v (.bool false)))],H := [(1,[.one (.v (.slice Au0_0 (List.length u0_0) cu0_0)),.arr .i64 4 u0_1])],V := [],M := M,ds := [] }) [1,3,16] [1] [] (by kernel_rfl) (by kernel_rfl) ?_
    refine TI_end (by kernel_rfl) ?_
    refine thenQ_n ?_
    exact ⟨false,keep_sub (ts:=[1,3,16]) (hs:=[1]) (vs:=[]) (by kernel_rfl),h⟩
 ·rintro s' ⟨b1,hsub,h⟩
  subst e_j2
  refine T_sub hsub ?_
  cases b1 with
  | true =>
   replace h := sp_t h
   refine T_condT (x:=(.tmp 16)) (c1:=(sub [1,1,0,1,0] (bodyOf Try.f18))) (c2:=(sub [1,1,0,1,1] (bodyOf Try.f18))) (by kernel_rfl) (by kernel_rfl) ?_
   refine T_keep (s':={ σ := [],H := [],V := [],M := M,ds := [] }) [] [] [] (by kernel_rfl) ?_
   refine T_seq (c1:=(sub [1,1,0,1,0,0] (bodyOf Try.f18))) (c2:=(sub [1,1,0,1,0,1] (bodyOf Try.f18))) (by kernel_rfl) ?_
   refine T_region (id:=3) (by kernel_rfl) ?_
   refine TI_segK (i:=0) (j:=1) (s':={ σ := [(2,.lf (.v (.bool true)))],H := [],V := [],M := M,ds := [] }) [2] [] [] (by kernel_rfl) (by kernel_rfl) ?_
   refine TI_end (by kernel_rfl) ?_
   refine thenQ_n ?_
   refine T_ret (by kernel_rfl) ?_
   refine thenQ_r ?_
   have h := Option.some.inj h
   subst h
   refine fin_ret (.lf (.v (.bool true))) (by kernel_rfl) (by kernel_rfl) rfl ?_
   rfl
  | false =>
   replace h := sp_f h
   refine T_condF (x:=(.tmp 16)) (c1:=(sub [1,1,0,1,0] (bodyOf Try.f18))) (c2:=(sub [1,1,0,1,1] (bodyOf Try.f18))) (by kernel_rfl) (by kernel_rfl) ?_
   refine T_keep (s':={ σ := [(1,.lf (.own 1 0)),(3,.lf (.v (.int .i64 (List.length u0_0 : Int))))],H := [(1,[.one (.v (.slice Au0_0 (List.length u0_0) cu0_0)),.arr .i64 4 u0_1])],V := [],M := M,ds := [] }) [1,3] [1] [] (by kernel_rfl) ?_
   refine T_skip (by kernel_rfl) ?_
   refine thenQ_n ?_
   obtain ⟨j7,e_j7,h⟩ := jn_some h
   refine T_cut (c1:=(sub [1,1,1,0] (bodyOf Try.f18))) (c2:=(sub [1,1,1,1] (bodyOf Try.f18))) (fun s' => ∃ (b6 : Bool),Sub { σ := [(2,.lf (.v (.bool b6)))],H := [],V := [],M := M,ds := [] } s' ∧ j7 b6 = some r) (by kernel_rfl) ?_ ?_
   ·obtain ⟨b8,e_b8,h⟩ := lt_some h
    cases b8 with
    | true =>
     replace h := sp_t h
     obtain ⟨x9,e_x9,h⟩ := lt_some h
     obtain ⟨g10,h⟩ := gd_some h
     obtain ⟨x11,e_x11,h⟩ := lt_some h
     obtain ⟨g12,h⟩ := gd_some h
     obtain ⟨x13,e_x13,h⟩ := lt_some h
     obtain ⟨b14,e_b14,h⟩ := lt_some h
     cases b14 with
     | true =>
      replace h := sp_t h
      obtain ⟨x15,e_x15,h⟩ := lt_some h
      obtain ⟨g16,h⟩ := gd_some h
      obtain ⟨x17,e_x17,h⟩ := lt_some h
      obtain ⟨g18,h⟩ := gd_some h
      obtain ⟨x19,e_x19,h⟩ := lt_some h
      obtain ⟨x20,e_x20,h⟩ := lt_some h
      obtain ⟨b21,e_b21,h⟩ := lt_some h
      cases b21 with
      | true =>
       replace h := sp_t h
       obtain ⟨x22,e_x22,h⟩ := lt_some h
       obtain ⟨g23,h⟩ := gd_some h
       obtain ⟨x24,e_x24,h⟩ := lt_some h
       obtain ⟨g25,h⟩ := gd_some h
       obtain ⟨x26,e_x26,h⟩ := lt_some h
       obtain ⟨x27,e_x27,h⟩ := lt_some h
       obtain ⟨b28,e_b28,h⟩ := lt_some h
       refine T_draw' (id:=4) [] [0,0,0,0,0,0,0,0,0,0,0,0,0,0,0,0,0,0,0,0,0,0,0,0,0,0,0,0,0,0,0,0,0,0,0,0,0,0,0,0,0,0,0,0,0,0,0,0,0,0] (by kernel_rfl) (by kernel_rfl) (by kernel_rfl) (by kernel_rfl) ((17,.lf (.v (.int .i64 (List.length u0_0 : Int))))::(18,.lf (.v (.bool true)))::(19,.lf (.v (.bool true)))::(20,.lf (.own 1 0))::(21,.lf (.v (.slice Au0_0 (List.length u0_0) cu0_0)))::(22,.lf (.v (.int .i64 (List.length u0_0 : Int))))::(23,.lf (.v (.int .i64 x9)))::(24,.lf (.ep (.slice Au0_0 (List.length u0_0) cu0_0) 11 ((x9).toNat) 0))::(25,.lf (.ep (.slice Au0_0 (List.length u0_0) cu0_0) 11 ((x9).toNat) 0))::(26,.lf (.v (.int .i64 x11)))::(27,.lf (.own 1 0))::(28,.lf (.v (.slice Au0_0 (List.length u0_0) cu0_0)))::(29,.lf (.ep (.slice Au0_0 (List.length u0_0) cu0_0) 11 0 0))::(30,.lf (.ep (.slice Au0_0 (List.length u0_0) cu0_0) 11 0 0))::(31,.lf (.v (.int .i64 x13)))::(32,.lf (.v (.bool true)))::(33,.lf (.v (.bool true)))::(34,.lf (.v (.bool true)))::(35,.lf (.own 1 0))::(36,.lf (.v (.slice Au0_0 (List.length u0_0) cu0_0)))::(37,.lf (.v (.int .i64 (List.length u0_0 : Int))))::(38,.lf (.v (.int .i64 x15)))::(39,.lf (.ep (.slice Au0_0 (List.length u0_0) cu0_0) 11 ((x15).toNat) 0))::(40,.lf (.ep (.slice Au0_0 (List.length u0_0) cu0_0) 11 ((x15).toNat) 0))::(41,.lf (.v (.int .i64 x17)))::(42,.lf (.own 1 0))::(43,.lf (.v (.slice Au0_0 (List.length u0_0) cu0_0)))::(44,.lf (.ep (.slice Au0_0 (List.length u0_0) cu0_0) 11 0 0))::(45,.lf (.ep (.slice Au0_0 (List.length u0_0) cu0_0) 11 0 0))::(46,.lf (.v (.int .i64 x19)))::(47,.lf (.v (.int .i64 x20)))::(48,.lf (.v (.bool true)))::(49,.lf (.v (.bool true)))::(50,.lf (.v (.bool true)))::(51,.lf (.own 1 0))::(52,.lf (.v (.slice Au0_0 (List.length u0_0) cu0_0)))::(53,.lf (.v (.int .i64 (List.length u0_0 : Int))))::(54,.lf (.v (.int .i64 x22)))::(55,.lf (.ep (.slice Au0_0 (List.length u0_0) cu0_0) 11 ((x22).toNat) 0))::(56,.lf (.ep (.slice Au0_0 (List.length u0_0) cu0_0) 11 ((x22).toNat) 0))::(57,.lf (.v (.int .i64 x24)))::(58,.lf (.own 1 0))::(59,.lf (.v (.slice Au0_0 (List.length u0_0) cu0_0)))::(60,.lf (.ep (.slice Au0_0 (List.length u0_0) cu0_0) 11 0 0))::(61,.lf (.ep (.slice Au0_0 (List.length u0_0) cu0_0) 11 0 0))::(62,.lf (.v (.int .i64 x26)))::(63,.lf (.v (.int .i64 x27)))::(64,.lf (.v (.bool b28)))::(65,.lf (.v (.bool b28)))::(2,.lf (.v (.bool b28)))::[]) (by kernel_rfl) (wfs_lf _ (by kernel_rfl)) ?_
       refine Stage_nil (stage_all' [0,2,3,4,5,6,8,10,11,13,16,17,18,19,20,21,23,25,26,28,30,32,33,34,35,36,37,39,41,42,44,46,47,48,49] [1,7,9,12,14,15,22,24,27,29,31,38,40,43,45] (by kernel_rfl) (by subst_vars; kernel_rfl) (by kernel_rfl) ⟨QF_at (i:=1) (d:=18) (x:=.lf (.v (.bool true))) (show OpAt _ _ _ 1 18 _ from by exact At_bin (d:=18) (b:=.gtr) (u:=.int .i64 (List.length u0_0 : Int)) (v:=.int .i64 (1 : Int)) (w':=.bool true) (by subst_vars; kernel_rfl) (by rw [show exBin .gtr (.int .i64 (List.length u0_0 : Int)) (.int .i64 (1 : Int)) = some (.bool (decide ((List.length u0_0 : Int) > (1 : Int)))) from by kernel_rfl,← e_b8])) (by kernel_rfl) (by subst_vars; kernel_rfl),⟨QF_at (i:=7) (d:=24) (x:=.lf (.ep (.slice Au0_0 (List.length u0_0) cu0_0) 11 ((x9).toNat) 0)) (show OpAt _ _ _ 7 24 _ from by exact At_idxR (d:=24) (z:=x9) (by subst_vars; kernel_rfl) g10 hu0_0) (by kernel_rfl) (by subst_vars; kernel_rfl),⟨QF_at (i:=9) (d:=26) (x:=.lf (.v (.int .i64 x11))) (show OpAt _ _ _ 9 26 _ from by rw [e_x11]; exact At_ldR1 (d:=26) (q:=(x9).toNat) (j:=0) (by subst_vars; kernel_rfl) rfl (toNat_lt g10) hu0_0) (by kernel_rfl) (by subst_vars; kernel_rfl),⟨QF_at (i:=12) (d:=29) (x:=.lf (.ep (.slice Au0_0 (List.length u0_0) cu0_0) 11 0 0)) (show OpAt _ _ _ 12 29 _ from by exact At_idxR (d:=29) (z:=(0 : Int)) (by subst_vars; kernel_rfl) g12 hu0_0) (by kernel_rfl) (by subst_vars; kernel_rfl),⟨QF_at (i:=14) (d:=31) (x:=.lf (.v (.int .i64 x13))) (show OpAt _ _ _ 14 31 _ from by rw [e_x13]; exact At_ldR1 (d:=31) (q:=0) (j:=0) (by subst_vars; kernel_rfl) rfl (toNat_lt g12) hu0_0) (by kernel_rfl) (by subst_vars; kernel_rfl),⟨QF_at (i:=15) (d:=32) (x:=.lf (.v (.bool true))) (show OpAt _ _ _ 15 32 _ from by exact At_bin (d:=32) (b:=.gtr) (u:=.int .i64 x11) (v:=.int .i64 x13) (w':=.bool true) (by subst_vars; kernel_rfl) (by rw [show exBin .gtr (.int .i64 x11) (.int .i64 x13) = some (.bool (decide (x11 > x13))) from by kernel_rfl,← e_b14])) (by kernel_rfl) (by subst_vars; kernel_rfl),⟨QF_at (i:=22) (d:=39) (x:=.lf (.ep (.slice Au0_0 (List.length u0_0) cu0_0) 11 ((x15).toNat) 0)) (show OpAt _ _ _ 22 39 _ from by exact At_idxR (d:=39) (z:=x15) (by subst_vars; kernel_rfl) g16 hu0_0) (by kernel_rfl) (by subst_vars; kernel_rfl),⟨QF_at (i:=24) (d:=41) (x:=.lf (.v (.int .i64 x17))) (show OpAt _ _ _ 24 41 _ from by rw [e_x17]; exact At_ldR1 (d:=41) (q:=(x15).toNat) (j:=0) (by subst_vars; kernel_rfl) rfl (toNat_lt g16) hu0_0) (by kernel_rfl) (by subst_vars; kernel_rfl),⟨QF_at (i:=27) (d:=44) (x:=.lf (.ep (.slice Au0_0 (List.length u0_0) cu0_0) 11 0 0)) (show OpAt _ _ _ 27 44 _ from by exact At_idxR (d:=44) (z:=(0 : Int)) (by subst_vars; kernel_rfl) g18 hu0_0) (by kernel_rfl) (by subst_vars; kernel_rfl),⟨QF_at (i:=29) (d:=46) (x:=.lf (.v (.int .i64 x19))) (show OpAt _ _ _ 29 46 _ from by rw [e_x19]; exact At_ldR1 (d:=46) (q:=0) (j:=0) (by subst_vars; kernel_rfl) rfl (toNat_lt g18) hu0_0) (by kernel_rfl) (by subst_vars; kernel_rfl),⟨QF_at (i:=31) (d:=48) (x:=.lf (.v (.bool true))) (show OpAt _ _ _ 31 48 _ from by exact At_bin (d:=48) (b:=.gtr) (u:=.int .i64 x20) (v:=.int .i64 (120 : Int)) (w':=.bool true) (by subst_vars; kernel_rfl) (by rw [show exBin .gtr (.int .i64 x20) (.int .i64 (120 : Int)) = some (.bool (decide (x20 > (120 : Int)))) from by kernel_rfl,← e_b21])) (by kernel_rfl) (by subst_vars; kernel_rfl),⟨QF_at (i:=38) (d:=55) (x:=.lf (.ep (.slice Au0_0 (List.length u0_0) cu0_0) 11 ((x22).toNat) 0)) (show OpAt _ _ _ 38 55 _ from by exact At_idxR (d:=55) (z:=x22) (by subst_vars; kernel_rfl) g23 hu0_0) (by kernel_rfl) (by subst_vars; kernel_rfl),⟨QF_at (i:=40) (d:=57) (x:=.lf (.v (.int .i64 x24))) (show OpAt _ _ _ 40 57 _ from by rw [e_x24]; exact At_ldR1 (d:=57) (q:=(x22).toNat) (j:=0) (by subst_vars; kernel_rfl) rfl (toNat_lt g23) hu0_0) (by kernel_rfl) (by subst_vars; kernel_rfl),⟨QF_at (i:=43) (d:=60) (x:=.lf (.ep (.slice Au0_0 (List.length u0_0) cu0_0) 11 0 0)) (show OpAt _ _ _ 43 60 _ from by exact At_idxR (d:=60) (z:=(0 : Int)) (by subst_vars; kernel_rfl) g25 hu0_0) (by kernel_rfl) (by subst_vars; kernel_rfl),⟨QF_at (i:=45) (d:=62) (x:=.lf (.v (.int .i64 x26))) (show OpAt _ _ _ 45 62 _ from by rw [e_x26]; exact At_ldR1 (d:=62) (q:=0) (j:=0) (by subst_vars; kernel_rfl) rfl (toNat_lt g25) hu0_0) (by kernel_rfl) (by subst_vars; kernel_rfl),trivial⟩⟩⟩⟩⟩⟩⟩⟩⟩⟩⟩⟩⟩⟩⟩) ?_
       refine thenQ_n ?_
       exact ⟨b28,keep_sub (ts:=[2]) (hs:=[]) (vs:=[]) (by subst_vars;kernel_rfl),h⟩
      | false =>
       replace h := sp_f h
       refine T_draw' (id:=4) [] [0,0,0,0,0,0,0,0,0,0,0,0,0,0,0,0,0,0,0,0,0,0,0,0,0,0,0,0,0,0,0,0,0,0,0,0,0,0,0,0,0,0,0,0,0,0,0,0,0,0] (by kernel_rfl) (by kernel_rfl) (by kernel_rfl) (by kernel_rfl) ((17,.lf (.v (.int .i64 (List.length u0_0 : Int))))::(18,.lf (.v (.bool true)))::(19,.lf (.v (.bool true)))::(20,.lf (.own 1 0))::(21,.lf (.v (.slice Au0_0 (List.length u0_0) cu0_0)))::(22,.lf (.v (.int .i64 (List.length u0_0 : Int))))::(23,.lf (.v (.int .i64 x9)))::(24,.lf (.ep (.slice Au0_0 (List.length u0_0) cu0_0) 11 ((x9).toNat) 0))::(25,.lf (.ep (.slice Au0_0 (List.length u0_0) cu0_0) 11 ((x9).toNat) 0))::(26,.lf (.v (.int .i64 x11)))::(27,.lf (.own 1 0))::(28,.lf (.v (.slice Au0_0 (List.length u0_0) cu0_0)))::(29,.lf (.ep (.slice Au0_0 (List.length u0_0) cu0_0) 11 0 0))::(30,.lf (.ep (.slice Au0_0 (List.length u0_0) cu0_0) 11 0 0))::(31,.lf (.v (.int .i64 x13)))::(32,.lf (.v (.bool true)))::(33,.lf (.v (.bool true)))::(34,.lf (.v (.bool true)))::(35,.lf (.own 1 0))::(36,.lf (.v (.slice Au0_0 (List.length u0_0) cu0_0)))::(37,.lf (.v (.int .i64 (List.length u0_0 : Int))))::(38,.lf (.v (.int .i64 x15)))::(39,.lf (.ep (.slice Au0_0 (List.length u0_0) cu0_0) 11 ((x15).toNat) 0))::(40,.lf (.ep (.slice Au0_0 (List.length u0_0) cu0_0) 11 ((x15).toNat) 0))::(41,.lf (.v (.int .i64 x17)))::(42,.lf (.own 1 0))::(43,.lf (.v (.slice Au0_0 (List.length u0_0) cu0_0)))::(44,.lf (.ep (.slice Au0_0 (List.length u0_0) cu0_0) 11 0 0))::(45,.lf (.ep (.slice Au0_0 (List.length u0_0) cu0_0) 11 0 0))::(46,.lf (.v (.int .i64 x19)))::(47,.lf (.v (.int .i64 x20)))::(48,.lf (.v (.bool false)))::(49,.lf (.v (.bool false)))::(50,.lf (.v (.bool false)))::(51,.tup [])::(52,.tup [])::(53,.tup [])::(54,.tup [])::(55,.tup [])::(56,.tup [])::(57,.tup [])::(58,.tup [])::(59,.tup [])::(60,.tup [])::(61,.tup [])::(62,.tup [])::(63,.tup [])::(64,.tup [])::(65,.lf (.v (.bool false)))::(2,.lf (.v (.bool false)))::[]) (by kernel_rfl) ⟨trivial,⟨trivial,⟨trivial,⟨trivial,⟨trivial,⟨trivial,⟨trivial,⟨trivial,⟨trivial,⟨trivial,⟨trivial,⟨trivial,⟨trivial,⟨trivial,⟨trivial,⟨trivial,⟨trivial,⟨trivial,⟨trivial,⟨trivial,⟨trivial,⟨trivial,⟨trivial,⟨trivial,⟨trivial,⟨trivial,⟨trivial,⟨trivial,⟨trivial,⟨trivial,⟨trivial,⟨trivial,⟨trivial,⟨trivial,⟨(by intro y hy;cases hy),⟨(by intro y hy;cases hy),⟨(by intro y hy;cases hy),⟨(by intro y hy;cases hy),⟨(by intro y hy;cases hy),⟨(by intro y hy;cases hy),⟨(by intro y hy;cases hy),⟨(by intro y hy;cases hy),⟨(by intro y hy;cases hy),⟨(by intro y hy;cases hy),⟨(by intro y hy;cases hy),⟨(by intro y hy;cases hy),⟨(by intro y hy;cases hy),⟨(by intro y hy;cases hy),⟨trivial,⟨trivial,trivial⟩⟩⟩⟩⟩⟩⟩⟩⟩⟩⟩⟩⟩⟩⟩⟩⟩⟩⟩⟩⟩⟩⟩⟩⟩⟩⟩⟩⟩⟩⟩⟩⟩⟩⟩⟩⟩⟩⟩⟩⟩⟩⟩⟩⟩⟩⟩⟩⟩⟩ ?_
       refine Stage_nil (stage_all' [0,2,3,4,5,6,8,10,11,13,16,17,18,19,20,21,23,25,26,28,30,32,33,34,35,36,37,38,39,40,41,42,43,44,45,46,47,48,49] [1,7,9,12,14,15,22,24,27,29,31] (by kernel_rfl) (by subst_vars; kernel_rfl) (by kernel_rfl) ⟨QF_at (i:=1) (d:=18) (x:=.lf (.v (.bool true))) (show OpAt _ _ _ 1 18 _ from by exact At_bin (d:=18) (b:=.gtr) (u:=.int .i64 (List.length u0_0 : Int)) (v:=.int .i64 (1 : Int)) (w':=.bool true) (by subst_vars; kernel_rfl) (by rw [show exBin .gtr (.int .i64 (List.length u0_0 : Int)) (.int .i64 (1 : Int)) = some (.bool (decide ((List.length u0_0 : Int) > (1 : Int)))) from by kernel_rfl,← e_b8])) (by kernel_rfl) (by subst_vars; kernel_rfl),⟨QF_at (i:=7) (d:=24) (x:=.lf (.ep (.slice Au0_0 (List.length u0_0) cu0_0) 11 ((x9).toNat) 0)) (show OpAt _ _ _ 7 24 _ from by exact At_idxR (d:=24) (z:=x9) (by subst_vars; kernel_rfl) g10 hu0_0) (by kernel_rfl) (by subst_vars; kernel_rfl),⟨QF_at (i:=9) (d:=26) (x:=.lf (.v (.int .i64 x11))) (show OpAt _ _ _ 9 26 _ from by rw [e_x11]; exact At_ldR1 (d:=26) (q:=(x9).toNat) (j:=0) (by subst_vars; kernel_rfl) rfl (toNat_lt g10) hu0_0) (by kernel_rfl) (by subst_vars; kernel_rfl),⟨QF_at (i:=12) (d:=29) (x:=.lf (.ep (.slice Au0_0 (List.length u0_0) cu0_0) 11 0 0)) (show OpAt _ _ _ 12 29 _ from by exact At_idxR (d:=29) (z:=(0 : Int)) (by subst_vars; kernel_rfl) g12 hu0_0) (by kernel_rfl) (by subst_vars; kernel_rfl),⟨QF_at (i:=14) (d:=31) (x:=.lf (.v (.int .i64 x13))) (show OpAt _ _ _ 14 31 _ from by rw [e_x13]; exact At_ldR1 (d:=31) (q:=0) (j:=0) (by subst_vars; kernel_rfl) rfl (toNat_lt g12) hu0_0) (by kernel_rfl) (by subst_vars; kernel_rfl),⟨QF_at (i:=15) (d:=32) (x:=.lf (.v (.bool true))) (show OpAt _ _ _ 15 32 _ from by exact At_bin (d:=32) (b:=.gtr) (u:=.int .i64 x11) (v:=.int .i64 x13) (w':=.bool true) (by subst_vars; kernel_rfl) (by rw [show exBin .gtr (.int .i64 x11) (.int .i64 x13) = some (.bool (decide (x11 > x13))) from by kernel_rfl,← e_b14])) (by kernel_rfl) (by subst_vars; kernel_rfl),⟨QF_at (i:=22) (d:=39) (x:=.lf (.ep (.slice Au0_0 (List.length u0_0) cu0_0) 11 ((x15).toNat) 0)) (show OpAt _ _ _ 22 39 _ from by exact At_idxR (d:=39) (z:=x15) (by subst_vars; kernel_rfl) g16 hu0_0) (by kernel_rfl) (by subst_vars; kernel_rfl),⟨QF_at (i:=24) (d:=41) (x:=.lf (.v (.int .i64 x17))) (show OpAt _ _ _ 24 41 _ from by rw [e_x17]; exact At_ldR1 (d:=41) (q:=(x15).toNat) (j:=0) (by subst_vars; kernel_rfl) rfl (toNat_lt g16) hu0_0) (by kernel_rfl) (by subst_vars; kernel_rfl),⟨QF_at (i:=27) (d:=44) (x:=.lf (.ep (.slice Au0_0 (List.length u0_0) cu0_0) 11 0 0)) (show OpAt _ _ _ 27 44 _ from by exact At_idxR (d:=44) (z:=(0 : Int)) (by subst_vars; kernel_rfl) g18 hu0_0) (by kernel_rfl) (by subst_vars; kernel_rfl),⟨QF_at (i:=29) (d:=46) (x:=.lf (.v (.int .i64 x19))) (show OpAt _ _ _ 29 46 _ from by rw [e_x19]; exact At_ldR1 (d:=46) (q:=0) (j:=0) (by subst_vars; kernel_rfl) rfl (toNat_lt g18) hu0_0) (by kernel_rfl) (by subst_vars; kernel_rfl),⟨QF_at (i:=31) (d:=48) (x:=.lf (.v (.bool false))) (show OpAt _ _ _ 31 48 _ from by exact At_bin (d:=48) (b:=.gtr) (u:=.int .i64 x20) (v:=.int .i64 (120 : Int)) (w':=.bool false) (by subst_vars; kernel_rfl) (by rw [show exBin .gtr (.int .i64 x20) (.int .i64 (120 : Int)) = some (.bool (decide (x20 > (120 : Int)))) from by kernel_rfl,← e_b21])) (by kernel_rfl) (by subst_vars; kernel_rfl),trivial⟩⟩⟩⟩⟩⟩⟩⟩⟩⟩⟩) ?_
       refine thenQ_n ?_
       exact ⟨false,keep_sub (ts:=[2]) (hs:=[]) (vs:=[]) (by subst_vars;kernel_rfl),h⟩
     | false =>
      replace h := sp_f h
      refine T_draw' (id:=4) [] [0,0,0,0,0,0,0,0,0,0,0,0,0,0,0,0,0,0,0,0,0,0,0,0,0,0,0,0,0,0,0,0,0,0,0,0,0,0,0,0,0,0,0,0,0,0,0,0,0,0] (by kernel_rfl) (by kernel_rfl) (by kernel_rfl) (by kernel_rfl) ((17,.lf (.v (.int .i64 (List.length u0_0 : Int))))::(18,.lf (.v (.bool true)))::(19,.lf (.v (.bool true)))::(20,.lf (.own 1 0))::(21,.lf (.v (.slice Au0_0 (List.length u0_0) cu0_0)))::(22,.lf (.v (.int .i64 (List.length u0_0 : Int))))::(23,.lf (.v (.int .i64 x9)))::(24,.lf (.ep (.slice Au0_0 (List.length u0_0) cu0_0) 11 ((x9).toNat) 0))::(25,.lf (.ep (.slice Au0_0 (List.length u0_0) cu0_0) 11 ((x9).toNat) 0))::(26,.lf (.v (.int .i64 x11)))::(27,.lf (.own 1 0))::(28,.lf (.v (.slice Au0_0 (List.length u0_0) cu0_0)))::(29,.lf (.ep (.slice Au0_0 (List.length u0_0) cu0_0) 11 0 0))::(30,.lf (.ep (.slice Au0_0 (List.length u0_0) cu0_0) 11 0 0))::(31,.lf (.v (.int .i64 x13)))::(32,.lf (.v (.bool false)))::(33,.lf (.v (.bool false)))::(34,.lf (.v (.bool false)))::(35,.tup [])::(36,.tup [])::(37,.tup [])::(38,.tup [])::(39,.tup [])::(40,.tup [])::(41,.tup [])::(42,.tup [])::(43,.tup [])::(44,.tup [])::(45,.tup [])::(46,.tup [])::(47,.tup [])::(48,.tup [])::(49,.lf (.v (.bool false)))::(50,.lf (.v (.bool false)))::(51,.tup [])::(52,.tup [])::(53,.tup [])::(54,.tup [])::(55,.tup [])::(56,.tup [])::(57,.tup [])::(58,.tup [])::(59,.tup [])::(60,.tup [])::(61,.tup [])::(62,.tup [])::(63,.tup [])::(64,.tup [])::(65,.lf (.v (.bool false)))::(2,.lf (.v (.bool false)))::[]) (by kernel_rfl) ⟨trivial,⟨trivial,⟨trivial,⟨trivial,⟨trivial,⟨trivial,⟨trivial,⟨trivial,⟨trivial,⟨trivial,⟨trivial,⟨trivial,⟨trivial,⟨trivial,⟨trivial,⟨trivial,⟨trivial,⟨trivial,⟨(by intro y hy;cases hy),⟨(by intro y hy;cases hy),⟨(by intro y hy;cases hy),⟨(by intro y hy;cases hy),⟨(by intro y hy;cases hy),⟨(by intro y hy;cases hy),⟨(by intro y hy;cases hy),⟨(by intro y hy;cases hy),⟨(by intro y hy;cases hy),⟨(by intro y hy;cases hy),⟨(by intro y hy;cases hy),⟨(by intro y hy;cases hy),⟨(by intro y hy;cases hy),⟨(by intro y hy;cases hy),⟨trivial,⟨trivial,⟨(by intro y hy;cases hy),⟨(by intro y hy;cases hy),⟨(by intro y hy;cases hy),⟨(by intro y hy;cases hy),⟨(by intro y hy;cases hy),⟨(by intro y hy;cases hy),⟨(by intro y hy;cases hy),⟨(by intro y hy;cases hy),⟨(by intro y hy;cases hy),⟨(by intro y hy;cases hy),⟨(by intro y hy;cases hy),⟨(by intro y hy;cases hy),⟨(by intro y hy;cases hy),⟨(by intro y hy;cases hy),⟨trivial,⟨trivial,trivial⟩⟩⟩⟩⟩⟩⟩⟩⟩⟩⟩⟩⟩⟩⟩⟩⟩⟩⟩⟩⟩⟩⟩⟩⟩⟩⟩⟩⟩⟩⟩⟩⟩⟩⟩⟩⟩⟩⟩⟩⟩⟩⟩⟩⟩⟩⟩⟩⟩⟩ ?_
      refine Stage_nil (stage_all' [0,2,3,4,5,6,8,10,11,13,16,17,18,19,20,21,22,23,24,25,26,27,28,29,30,31,32,33,34,35,36,37,38,39,40,41,42,43,44,45,46,47,48,49] [1,7,9,12,14,15] (by kernel_rfl) (by subst_vars; kernel_rfl) (by kernel_rfl) ⟨QF_at (i:=1) (d:=18) (x:=.lf (.v (.bool true))) (show OpAt _ _ _ 1 18 _ from by exact At_bin (d:=18) (b:=.gtr) (u:=.int .i64 (List.length u0_0 : Int)) (v:=.int .i64 (1 : Int)) (w':=.bool true) (by subst_vars; kernel_rfl) (by rw [show exBin .gtr (.int .i64 (List.length u0_0 : Int)) (.int .i64 (1 : Int)) = some (.bool (decide ((List.length u0_0 : Int) > (1 : Int)))) from by kernel_rfl,← e_b8])) (by kernel_rfl) (by subst_vars; kernel_rfl),⟨QF_at (i:=7) (d:=24) (x:=.lf (.ep (.slice Au0_0 (List.length u0_0) cu0_0) 11 ((x9).toNat) 0)) (show OpAt _ _ _ 7 24 _ from by exact At_idxR (d:=24) (z:=x9) (by subst_vars; kernel_rfl) g10 hu0_0) (by kernel_rfl) (by subst_vars; kernel_rfl),⟨QF_at (i:=9) (d:=26) (x:=.lf (.v (.int .i64 x11))) (show OpAt _ _ _ 9 26 _ from by rw [e_x11]; exact At_ldR1 (d:=26) (q:=(x9).toNat) (j:=0) (by subst_vars; kernel_rfl) rfl (toNat_lt g10) hu0_0) (by kernel_rfl) (by subst_vars; kernel_rfl),⟨QF_at (i:=12) (d:=29) (x:=.lf (.ep (.slice Au0_0 (List.length u0_0) cu0_0) 11 0 0)) (show OpAt _ _ _ 12 29 _ from by exact At_idxR (d:=29) (z:=(0 : Int)) (by subst_vars; kernel_rfl) g12 hu0_0) (by kernel_rfl) (by subst_vars; kernel_rfl),⟨QF_at (i:=14) (d:=31) (x:=.lf (.v (.int .i64 x13))) (show OpAt _ _ _ 14 31 _ from by rw [e_x13]; exact At_ldR1 (d:=31) (q:=0) (j:=0) (by subst_vars; kernel_rfl) rfl (toNat_lt g12) hu0_0) (by kernel_rfl) (by subst_vars; kernel_rfl),⟨QF_at (i:=15) (d:=32) (x:=.lf (.v (.bool false))) (show OpAt _ _ _ 15 32 _ from by exact At_bin (d:=32) (b:=.gtr) (u:=.int .i64 x11) (v:=.int .i64 x13) (w':=.bool false) (by subst_vars; kernel_rfl) (by rw [show exBin .gtr (.int .i64 x11) (.int .i64 x13) = some (.bool (decide (x11 > x13))) from by kernel_rfl,← e_b14])) (by kernel_rfl) (by subst_vars; kernel_rfl),trivial⟩⟩⟩⟩⟩⟩) ?_
      refine thenQ_n ?_
      exact ⟨false,keep_sub (ts:=[2]) (hs:=[]) (vs:=[]) (by subst_vars;kernel_rfl),h⟩
    | false =>
     replace h := sp_f h
     refine T_draw' (id:=4) [] [0,0,0,0,0,0,0,0,0,0,0,0,0,0,0,0,0,0,0,0,0,0,0,0,0,0,0,0,0,0,0,0,0,0,0,0,0,0,0,0,0,0,0,0,0,0,0,0,0,0] (by kernel_rfl) (by kernel_rfl) (by kernel_rfl) (by kernel_rfl) ((17,.lf (.v (.int .i64 (List.length u0_0 : Int))))::(18,.lf (.v (.bool false)))::(19,.lf (.v (.bool false)))::(20,.tup [])::(21,.tup [])::(22,.tup [])::(23,.tup [])::(24,.tup [])::(25,.tup [])::(26,.tup [])::(27,.tup [])::(28,.tup [])::(29,.tup [])::(30,.tup [])::(31,.tup [])::(32,.tup [])::(33,.lf (.v (.bool false)))::(34,.lf (.v (.bool false)))::(35,.tup [])::(36,.tup [])::(37,.tup [])::(38,.tup [])::(39,.tup [])::(40,.tup [])::(41,.tup [])::(42,.tup [])::(43,.tup [])::(44,.tup [])::(45,.tup [])::(46,.tup [])::(47,.tup [])::(48,.tup [])::(49,.lf (.v (.bool false)))::(50,.lf (.v (.bool false)))::(51,.tup [])::(52,.tup [])::(53,.tup [])::(54,.tup [])::(55,.tup [])::(56,.tup [])::(57,.tup [])::(58,.tup [])::(59,.tup [])::(60,.tup [])::(61,.tup [])::(62,.tup [])::(63,.tup [])::(64,.tup [])::(65,.lf (.v (.bool false)))::(2,.lf (.v (.bool false)))::[]) (by kernel_rfl) ⟨trivial,⟨trivial,⟨trivial,⟨(by intro y hy;cases hy),⟨(by intro y hy;cases hy),⟨(by intro y hy;cases hy),⟨(by intro y hy;cases hy),⟨(by intro y hy;cases hy),⟨(by intro y hy;cases hy),⟨(by intro y hy;cases hy),⟨(by intro y hy;cases hy),⟨(by intro y hy;cases hy),⟨(by intro y hy;cases hy),⟨(by intro y hy;cases hy),⟨(by intro y hy;cases hy),⟨(by intro y hy;cases hy),⟨trivial,⟨trivial,⟨(by intro y hy;cases hy),⟨(by intro y hy;cases hy),⟨(by intro y hy;cases hy),⟨(by intro y hy;cases hy),⟨(by intro y hy;cases hy),⟨(by intro y hy;cases hy),⟨(by intro y hy;cases hy),⟨(by intro y hy;cases hy),⟨(by intro y hy;cases hy),⟨(by intro y hy;cases hy),⟨(by intro y hy;cases hy),⟨(by intro y hy;cases hy),⟨(by intro y hy;cases hy),⟨(by intro y hy;cases hy),⟨trivial,⟨trivial,⟨(by intro y hy;cases hy),⟨(by intro y hy;cases hy),⟨(by intro y hy;cases hy),⟨(by intro y hy;cases hy),⟨(by intro y hy;cases hy),⟨(by intro y hy;cases hy),⟨(by intro y hy;cases hy),⟨(by intro y hy;cases hy),⟨(by intro y hy;cases hy),⟨(by intro y hy;cases hy),⟨(by intro y hy;cases hy),⟨(by intro y hy;cases hy),⟨(by intro y hy;cases hy),⟨(by intro y hy;cases hy),⟨trivial,⟨trivial,trivial⟩⟩⟩⟩⟩⟩⟩⟩⟩⟩⟩⟩⟩⟩⟩⟩⟩⟩⟩⟩⟩⟩⟩⟩⟩⟩⟩⟩⟩⟩⟩⟩⟩⟩⟩⟩⟩⟩⟩⟩⟩⟩⟩⟩⟩⟩⟩⟩⟩⟩ ?_
     refine Stage_nil (stage_all' [0,2,3,4,5,6,7,8,9,10,11,12,13,14,15,16,17,18,19,20,21,22,23,24,25,26,27,28,29,30,31,32,33,34,35,36,37,38,39,40,41,42,43,44,45,46,47,48,49] [1] (by kernel_rfl) (by kernel_rfl) (by kernel_rfl) ⟨QF_at (i:=1) (d:=18) (x:=.lf (.v (.bool false))) (show OpAt _ _ _ 1 18 _ from by exact At_bin (d:=18) (b:=.gtr) (u:=.int .i64 (List.length u0_0 : Int)) (v:=.int .i64 (1 : Int)) (w':=.bool false) (by kernel_rfl) (by rw [show exBin .gtr (.int .i64 (List.length u0_0 : Int)) (.int .i64 (1 : Int)) = some (.bool (decide ((List.length u0_0 : Int) > (1 : Int)))) from by kernel_rfl,← e_b8])) (by kernel_rfl) (by kernel_rfl),trivial⟩) ?_
     refine thenQ_n ?_
     exact ⟨false,keep_sub (ts:=[2]) (hs:=[]) (vs:=[]) (by kernel_rfl),h⟩
   ·rintro s' ⟨b6,hsub,h⟩
    subst e_j7
    refine T_sub hsub ?_
    refine T_ret (by kernel_rfl) ?_
    have h := Option.some.inj h
    subst h
    refine fin_ret (.lf (.v (.bool b6))) (by kernel_rfl) (by kernel_rfl) rfl ?_
    rfl
def p60_l1 (k : Nat) (u0_0 : List (List Int)) (u0_1 : List Int) (u1 : List Int) (u2 : List Int) (j1 : Option Int) : Nat → Int → Option Int
 | 0,_ => none
 | n3 + 1,x2 => lt' (decide (x2 ≤ (List.length u2 : Int))) fun b4 => sp b4 (jn (fun (b5 : Bool) => sp b5 (lt' (wr .i64 (x2 + (1 : Int))) fun x69 => p60_l1 k u0_0 u0_1 u1 u2 j1 n3 x69) (some x2)) fun j6 => lt' (decide (x2 > (0 : Int))) fun b7 => sp b7 (lt' (wr .i64 (x2 - (1 : Int))) fun x8 => gd ((0 : Int) ≤ x8 ∧ x8 < (List.length u2 : Int)) <| lt' (List.getD u2 ((x8).toNat) 0) fun x10 => lt' (wr .i64 (x10 + (1 : Int))) fun x11 => cl (p16 k u0_0 u0_1 x11) fun v12 => gd ((v12).length = 2) <| lt' (List.getD v12 0 0) fun x14 => lt' (List.getD u1 0 0) fun x15 => lt' (decide (x14 ≥ x15)) fun b16 => sp b16 (j6 true) (lt' (decide (x2 < (List.length u2 : Int))) fun b17 => sp b17 (gd ((0 : Int) ≤ x2 ∧ x2 < (List.length u2 : Int)) <| lt' (List.getD u2 ((x2).toNat) 0) fun x19 => cl (p16 k u0_0 u0_1 x19) fun v20 => gd ((v20).length = 2) <| lt' (List.getD v20 1 0) fun x22 => lt' (List.getD u1 1 0) fun x23 => lt' (decide (x22 ≤ x23)) fun b24 => sp b24 (j6 true) (lt' (decide (x2 > (0 : Int))) fun b25 => sp b25 (lt' (decide (x2 < (List.length u2 : Int))) fun b26 => sp b26 (gd ((0 : Int) ≤ x2 ∧ x2 < (List.length u2 : Int)) <| lt' (List.getD u2 ((x2).toNat) 0) fun x28 => lt' (wr .i64 (x2 - (1 : Int))) fun x29 => gd ((0 : Int) ≤ x29 ∧ x29 < (List.length u2 : Int)) <| lt' (List.getD u2 ((x29).toNat) 0) fun x31 => lt' (wr .i64 (x31 + (1 : Int))) fun x32 => lt' (x28 == x32) fun b33 => j6 b33) (j6 false)) (j6 false))) (lt' (decide (x2 > (0 : Int))) fun b34 => sp b34 (lt' (decide (x2 < (List.length u2 : Int))) fun b35 => sp b35 (gd ((0 : Int) ≤ x2 ∧ x2 < (List.length u2 : Int)) <| lt' (List.getD u2 ((x2).toNat) 0) fun x37 => lt' (wr .i64 (x2 - (1 : Int))) fun x38 => gd ((0 : Int) ≤ x38 ∧ x38 < (List.length u2 : Int)) <| lt' (List.getD u2 ((x38).toNat) 0) fun x40 => lt' (wr .i64 (x40 + (1 : Int))) fun x41 => lt' (x37 == x41) fun b42 => j6 b42) (j6 false)) (j6 false)))) (lt' (decide (x2 < (List.length u2 : Int))) fun b43 => sp b43 (gd ((0 : Int) ≤ x2 ∧ x2 < (List.length u2 : Int)) <| lt' (List.getD u2 ((x2).toNat) 0) fun x45 => cl (p16 k u0_0 u0_1 x45) fun v46 => gd ((v46).length = 2) <| lt' (List.getD v46 1 0) fun x48 => lt' (List.getD u1 1 0) fun x49 => lt' (decide (x48 ≤ x49)) fun b50 => sp b50 (j6 true) (lt' (decide (x2 > (0 : Int))) fun b51 => sp b51 (lt' (decide (x2 < (List.length u2 : Int))) fun b52 => sp b52 (gd ((0 : Int) ≤ x2 ∧ x2 < (List.length u2 : Int)) <| lt' (List.getD u2 ((x2).toNat) 0) fun x54 => lt' (wr .i64 (x2 - (1 : Int))) fun x55 => gd ((0 : Int) ≤ x55 ∧ x55 < (List.length u2 : Int)) <| lt' (List.getD u2 ((x55).toNat) 0) fun x57 => lt' (wr .i64 (x57 + (1 : Int))) fun x58 => lt' (x54 == x58) fun b59 => j6 b59) (j6 false)) (j6 false))) (lt' (decide (x2 > (0 : Int))) fun b60 => sp b60 (lt' (decide (x2 < (List.length u2 : Int))) fun b61 => sp b61 (gd ((0 : Int) ≤ x2 ∧ x2 < (List.length u2 : Int)) <| lt' (List.getD u2 ((x2).toNat) 0) fun x63 => lt' (wr .i64 (x2 - (1 : Int))) fun x64 => gd ((0 : Int) ≤ x64 ∧ x64 < (List.length u2 : Int)) <| lt' (List.getD u2 ((x64).toNat) 0) fun x66 => lt' (wr .i64 (x66 + (1 : Int))) fun x67 => lt' (x63 == x67) fun b68 => j6 b68) (j6 false)) (j6 false)))) (j1)
def p60 (k : Nat) (u0_0 : List (List Int)) (u0_1 : List Int) (u1 : List Int) (u2 : List Int) : Option Int :=
 jn (some (-1 : Int)) fun j1 => p60_l1 k u0_0 u0_1 u1 u2 j1 k (0 : Int)
theorem hf60 : Try.prog.funcs[60]? = some Try.f60 := by kernel_rfl
theorem w60 (k : Nat) {M : Mem} {Au0_0 : Option Addr} {cu0_0 : Nat} {Au2 : Option Addr} {cu2 : Nat} {u0_0 : List (List Int)} {u0_1 : List Int} {u1 : List Int} {u2 : List Int} (hu0_0 : SlR M Au0_0 cu0_0 .i64 11 u0_0) (hu0_1 : u0_1.length = 4) (hu1 : u1.length = 7) (hu2 : SlI M Au2 cu2 .i64 u2) {r} (h : p60 k u0_0 u0_1 u1 u2 = some r) :
  Fn Try.prog 60 [rval (.agg [.one (.v (.slice Au0_0 (List.length u0_0) cu0_0)),.arr .i64 4 u0_1]),rval (.agg [.arr .i64 7 u1]),rval (.lf (.v (.slice Au2 (List.length u2) cu2)))] M (fun x _ => x = .lf (.v (.int .i64 r))) := by
 unfold p60 at h
 refine Fn_of (P:=Try.prog) (fn:=Try.f60) (c:=bodyOf Try.f60) [.agg [.one (.v (.slice Au0_0 (List.length u0_0) cu0_0)),.arr .i64 4 u0_1],.agg [.arr .i64 7 u1],.lf (.v (.slice Au2 (List.length u2) cu2))] hf60 (by kernel_rfl) (Nat.le_of_ble_eq_true (by kernel_rfl)) (args_ok (by kernel_rfl) ⟨⟨rfl,⟨hu0_1,trivial⟩⟩,⟨⟨hu1,trivial⟩,⟨trivial,trivial⟩⟩⟩) fun w => ?_
 change T _ _ _ (endQ _ _ _)
 refine T_seq (c1:=(sub [0] (bodyOf Try.f60))) (c2:=(sub [1] (bodyOf Try.f60))) (by kernel_rfl) ?_
 refine T_region (id:=0) (by kernel_rfl) ?_
 refine TI_segK (i:=0) (j:=3) (s':={ σ := [(2,.lf (.v (.slice Au2 (List.length u2) cu2))),(3,.lf (.own 3 0)),(4,.lf (.own 4 0))],H := [(3,[.one (.v (.slice Au0_0 (List.length u0_0) cu0_0)),.arr .i64 4 u0_1]),(4,[.arr .i64 7 u1])],V := [],M := M,ds := [] }) [2,3,4] [3,4] [] (by kernel_rfl) (by kernel_rfl) ?_
 refine TI_end (by kernel_rfl) ?_
 refine thenQ_n ?_
 refine T_seq (c1:=(sub [1,0] (bodyOf Try.f60))) (c2:=(sub [1,1] (bodyOf Try.f60))) (by kernel_rfl) ?_
 refine T_region (id:=1) (by kernel_rfl) ?_
 refine TI_segK (i:=0) (j:=3) (s':={ σ := [(2,.lf (.v (.slice Au2 (List.length u2) cu2))),(3,.lf (.own 3 0)),(4,.lf (.own 4 0)),(7,.lf (.v (.int .i64 (List.length u2 : Int))))],H := [(3,[.one (.v (.slice Au0_0 (List.length u0_0) cu0_0)),.arr .i64 4 u0_1]),(4,[.arr .i64 7 u1])],V := [],M := M,ds := [] }) [2,3,4,7] [3,4] [] (by kernel_rfl) (by kernel_rfl) ?_
 refine TI_end (by kernel_rfl) ?_
 refine thenQ_n ?_
 refine T_seq (c1:=(sub [1,1,0] (bodyOf Try.f60))) (c2:=(sub [1,1,1] (bodyOf Try.f60))) (by kernel_rfl) ?_
 refine T_seq (c1:=(sub [1,1,0,0] (bodyOf Try.f60))) (c2:=(sub [1,1,0,1] (bodyOf Try.f60))) (by kernel_rfl) ?_
 refine T_region (id:=2) (by kernel_rfl) ?_
 refine TI_segK (i:=0) (j:=1) (s':={ σ := [(2,.lf (.v (.slice Au2 (List.length u2) cu2))),(3,.lf (.own 3 0)),(4,.lf (.own 4 0)),(7,.lf (.v (.int .i64 (List.length u2 : Int)))),(8,.lf (.v (.int .i64 (0 : Int))))],H := [(3,[.one (.v (.slice Au0_0 (List.length u0_0) cu0_0)),.arr .i64 4 u0_1]),(4,[.arr .i64 7 u1])],V := [],M := M,ds := [] }) [2,3,4,7,8] [3,4] [] (by kernel_rfl) (by kernel_rfl) ?_
 refine TI_end (by kernel_rfl) ?_
 refine thenQ_n ?_
 obtain ⟨j1,e_j1,h⟩ := jn_some h
 refine T_bcut (id:=0) (c1:=(sub [1,1,0,1,0] (bodyOf Try.f60))) (fun s' => Sub { σ := [],H := [],V := [],M := M,ds := [] } s' ∧ j1 = some r) (by kernel_rfl) ?_ ?_
 ·refine T_loop (c1:=(sub [1,1,0,1,0,0] (bodyOf Try.f60))) (by kernel_rfl) (fun n3 s' => ∃ (x2 : Int),Sub { σ := [(2,.lf (.v (.slice Au2 (List.length u2) cu2))),(3,.lf (.own 3 0)),(4,.lf (.own 4 0)),(7,.lf (.v (.int .i64 (List.length u2 : Int)))),(8,.lf (.v (.int .i64 x2)))],H := [(3,[.one (.v (.slice Au0_0 (List.length u0_0) cu0_0)),.arr .i64 4 u0_1]),(4,[.arr .i64 7 u1])],V := [],M := M,ds := [] } s' ∧ p60_l1 k u0_0 u0_1 u1 u2 j1 n3 x2 = some r) (k:=k) ⟨(0 : Int),keep_sub (ts:=[2,3,4,7,8]) (hs:=[3,4]) (vs:=[]) (by kernel_rfl),h⟩ ?_
  rintro n3 s' ⟨x2,hsub,h⟩
  cases n3 with
  | zero => rw [p60_l1] at h;cases h
  | succ n3 =>
   rw [p60_l1] at h
   refine T_sub hsub ?_
   refine T_seq (c1:=(sub [1,1,0,1,0,0,0] (bodyOf Try.f60))) (c2:=(sub [1,1,0,1,0,0,1] (bodyOf Try.f60))) (by kernel_rfl) ?_
   refine T_seq (c1:=(sub [1,1,0,1,0,0,0,0] (bodyOf Try.f60))) (c2:=(sub [1,1,0,1,0,0,0,1] (bodyOf Try.f60))) (by kernel_rfl) ?_
   refine T_region (id:=3) (by kernel_rfl) ?_
   obtain ⟨b4,e_b4,h⟩ := lt_some h
   refine TI_segK (i:=0) (j:=3) (s':={ σ := [(2,.lf (.v (.slice Au2 (List.length u2) cu2))),(3,.lf (.own 3 0)),(4,.lf (.own 4 0)),(7,.lf (.v (.int .i64 (List.length u2 : Int)))),(8,.lf (.v (.int .i64 x2))),(14,.lf (.v (.bool b4)))],H := [(3,[.one (.v (.slice Au0_0 (List.length u0_0) cu0_0)),.arr .i64 4 u0_1]),(4,[.arr .i64 7 u1])],V := [],M := M,ds := [] }) [2,3,4,7,8,14] [3,4] [] (by subst e_b4;kernel_rfl) (by kernel_rfl) ?_
   refine TI_end (by kernel_rfl) ?_
   refine thenQ_n ?_
   cases b4 with
   | true =>
    replace h := sp_t h
    refine T_condT (x:=(.tmp 14)) (c1:=(sub [1,1,0,1,0,0,0,1,0] (bodyOf Try.f60))) (c2:=(sub [1,1,0,1,0,0,0,1,1] (bodyOf Try.f60))) (by kernel_rfl) (by kernel_rfl) ?_
    refine T_keep (s':={ σ := [(2,.lf (.v (.slice Au2 (List.length u2) cu2))),(3,.lf (.own 3 0)),(4,.lf (.own 4 0)),(7,.lf (.v (.int .i64 (List.length u2 : Int)))),(8,.lf (.v (.int .i64 x2)))],H := [(3,[.one (.v (.slice Au0_0 (List.length u0_0) cu0_0)),.arr .i64 4 u0_1]),(4,[.arr .i64 7 u1])],V := [],M := M,ds := [] }) [2,3,4,7,8] [3,4] [] (by kernel_rfl) ?_
    refine T_skip (by kernel_rfl) ?_
    refine thenQ_n ?_
    refine T_seq (c1:=(sub [1,1,0,1,0,0,1,0] (bodyOf Try.f60))) (c2:=(sub [1,1,0,1,0,0,1,1] (bodyOf Try.f60))) (by kernel_rfl) ?_
    refine T_block (id:=1) (c1:=(sub [1,1,0,1,0,0,1,0,0] (bodyOf Try.f60))) (by kernel_rfl) ?_
    obtain ⟨j6,e_j6,h⟩ := jn_some h
    refine T_cut (c1:=(sub [1,1,0,1,0,0,1,0,0,0] (bodyOf Try.f60))) (c2:=(sub [1,1,0,1,0,0,1,0,0,1] (bodyOf Try.f60))) (fun s' => ∃ (b5 : Bool),Sub { σ := [(2,.lf (.v (.slice Au2 (List.length u2) cu2))),(3,.lf (.own 3 0)),(4,.lf (.own 4 0)),(7,.lf (.v (.int .i64 (List.length u2 : Int)))),(8,.lf (.v (.int .i64 x2))),(9,.lf (.v (.bool b5)))],H := [(3,[.one (.v (.slice Au0_0 (List.length u0_0) cu0_0)),.arr .i64 4 u0_1]),(4,[.arr .i64 7 u1])],V := [],M := M,ds := [] } s' ∧ j6 b5 = some r) (by kernel_rfl) ?_ ?_
    ·obtain ⟨b7,e_b7,h⟩ := lt_some h
     cases b7 with
     | true =>
      replace h := sp_t h
      obtain ⟨x8,e_x8,h⟩ := lt_some h
      obtain ⟨g9,h⟩ := gd_some h
      obtain ⟨x10,e_x10,h⟩ := lt_some h
      obtain ⟨x11,e_x11,h⟩ := lt_some h
      obtain ⟨v12,c_v12,h⟩ := cl_some h
      obtain ⟨g13,h⟩ := gd_some h
      obtain ⟨x14,e_x14,h⟩ := lt_some h
      obtain ⟨x15,e_x15,h⟩ := lt_some h
      obtain ⟨b16,e_b16,h⟩ := lt_some h
      cases b16 with
      | true =>
       replace h := sp_t h
       refine T_draw' (id:=5) [] [0,0,0,0,0,0,0,0,0,0,0,0,0,0,0,0,0,0,0,0,0,0,0,0,0,0,0,0,0,0,0,0,0,0,0,0,0,0,0,0,0,0,0,0,0,0,0,0,0,0,0,0,0,0,0,0] (by kernel_rfl) (by kernel_rfl) (by kernel_rfl) (by kernel_rfl) ((17,.lf (.v (.int .i64 x2)))::(18,.lf (.v (.bool true)))::(19,.lf (.v (.bool true)))::(20,.agg [.one (.v (.slice Au0_0 (List.length u0_0) cu0_0)),.arr .i64 4 u0_1])::(21,.lf (.v (.slice Au2 (List.length u2) cu2)))::(22,.lf (.v (.int .i64 x2)))::(23,.lf (.v (.int .i64 x8)))::(24,.lf (.ep (.slice Au2 (List.length u2) cu2) 1 ((x8).toNat) 0))::(25,.lf (.v (.int .i64 x10)))::(26,.lf (.v (.int .i64 x11)))::(27,.agg [.arr .i64 2 v12])::(28,.lf (.v (.int .i64 x14)))::(29,.lf (.own 4 0))::(30,.lf (.v (.int .i64 x15)))::(31,.lf (.v (.bool true)))::(32,.lf (.v (.bool true)))::(33,.lf (.v (.bool true)))::(34,.tup [])::(35,.tup [])::(36,.tup [])::(37,.tup [])::(38,.tup [])::(39,.tup [])::(40,.tup [])::(41,.tup [])::(42,.tup [])::(43,.tup [])::(44,.tup [])::(45,.tup [])::(46,.tup [])::(47,.tup [])::(48,.tup [])::(49,.lf (.v (.bool true)))::(50,.lf (.v (.bool true)))::(51,.tup [])::(52,.tup [])::(53,.tup [])::(54,.tup [])::(55,.tup [])::(56,.tup [])::(57,.tup [])::(58,.tup [])::(59,.tup [])::(60,.tup [])::(61,.tup [])::(62,.tup [])::(63,.tup [])::(64,.tup [])::(65,.tup [])::(66,.tup [])::(67,.tup [])::(68,.tup [])::(69,.tup [])::(70,.tup [])::(71,.lf (.v (.bool true)))::(9,.lf (.v (.bool true)))::[]) (by kernel_rfl) ⟨trivial,⟨trivial,⟨trivial,⟨⟨rfl,⟨hu0_1,trivial⟩⟩,⟨trivial,⟨trivial,⟨trivial,⟨trivial,⟨trivial,⟨trivial,⟨⟨g13,trivial⟩,⟨trivial,⟨trivial,⟨trivial,⟨trivial,⟨trivial,⟨trivial,⟨(by intro y hy;cases hy),⟨(by intro y hy;cases hy),⟨(by intro y hy;cases hy),⟨(by intro y hy;cases hy),⟨(by intro y hy;cases hy),⟨(by intro y hy;cases hy),⟨(by intro y hy;cases hy),⟨(by intro y hy;cases hy),⟨(by intro y hy;cases hy),⟨(by intro y hy;cases hy),⟨(by intro y hy;cases hy),⟨(by intro y hy;cases hy),⟨(by intro y hy;cases hy),⟨(by intro y hy;cases hy),⟨(by intro y hy;cases hy),⟨trivial,⟨trivial,⟨(by intro y hy;cases hy),⟨(by intro y hy;cases hy),⟨(by intro y hy;cases hy),⟨(by intro y hy;cases hy),⟨(by intro y hy;cases hy),⟨(by intro y hy;cases hy),⟨(by intro y hy;cases hy),⟨(by intro y hy;cases hy),⟨(by intro y hy;cases hy),⟨(by intro y hy;cases hy),⟨(by intro y hy;cases hy),⟨(by intro y hy;cases hy),⟨(by intro y hy;cases hy),⟨(by intro y hy;cases hy),⟨(by intro y hy;cases hy),⟨(by intro y hy;cases hy),⟨(by intro y hy;cases hy),⟨(by intro y hy;cases hy),⟨(by intro y hy;cases hy),⟨(by intro y hy;cases hy),⟨trivial,⟨trivial,trivial⟩⟩⟩⟩⟩⟩⟩⟩⟩⟩⟩⟩⟩⟩⟩⟩⟩⟩⟩⟩⟩⟩⟩⟩⟩⟩⟩⟩⟩⟩⟩⟩⟩⟩⟩⟩⟩⟩⟩⟩⟩⟩⟩⟩⟩⟩⟩⟩⟩⟩⟩⟩⟩⟩⟩⟩ ?_
       refine Stage_nil (stage_all' [0,2,3,4,5,6,9,11,12,13,15,16,17,18,19,20,21,22,23,24,25,26,27,28,29,30,31,32,33,34,35,36,37,38,39,40,41,42,43,44,45,46,47,48,49,50,51,52,53,54,55] [1,7,8,10,14] (by kernel_rfl) (by subst_vars; kernel_rfl) (by kernel_rfl) ⟨QF_at (i:=1) (d:=18) (x:=.lf (.v (.bool true))) (show OpAt _ _ _ 1 18 _ from by exact At_bin (d:=18) (b:=.gtr) (u:=.int .i64 x2) (v:=.int .i64 (0 : Int)) (w':=.bool true) (by subst_vars; kernel_rfl) (by rw [show exBin .gtr (.int .i64 x2) (.int .i64 (0 : Int)) = some (.bool (decide (x2 > (0 : Int)))) from by kernel_rfl,← e_b7])) (by kernel_rfl) (by subst_vars; kernel_rfl),⟨QF_at (i:=7) (d:=24) (x:=.lf (.ep (.slice Au2 (List.length u2) cu2) 1 ((x8).toNat) 0)) (show OpAt _ _ _ 7 24 _ from by exact At_idxI (d:=24) (z:=x8) (by subst_vars; kernel_rfl) g9 hu2) (by kernel_rfl) (by subst_vars; kernel_rfl),⟨QF_at (i:=8) (d:=25) (x:=.lf (.v (.int .i64 x10))) (show OpAt _ _ _ 8 25 _ from by rw [e_x10]; exact At_ldI (d:=25) (q:=(x8).toNat) (by subst_vars; kernel_rfl) (toNat_lt g9) hu2) (by kernel_rfl) (by subst_vars; kernel_rfl),⟨QF_at (i:=10) (d:=27) (x:=.agg [.arr .i64 2 v12]) (show OpAt _ _ _ 10 27 _ from by exact At_call (d:=27) (f:=16) (args:=[rval (.agg [.one (.v (.slice Au0_0 (List.length u0_0) cu0_0)),.arr .i64 4 u0_1]),rval (.lf (.v (.int .i64 x11)))]) (x:=.agg [.arr .i64 2 v12]) (by subst_vars; kernel_rfl) (w16 k hu0_0 hu0_1 c_v12)) (by kernel_rfl) (by subst_vars; kernel_rfl),⟨QF_at (i:=14) (d:=31) (x:=.lf (.v (.bool true))) (show OpAt _ _ _ 14 31 _ from by exact At_bin (d:=31) (b:=.geq) (u:=.int .i64 x14) (v:=.int .i64 x15) (w':=.bool true) (by subst_vars; kernel_rfl) (by rw [show exBin .geq (.int .i64 x14) (.int .i64 x15) = some (.bool (decide (x14 ≥ x15))) from by kernel_rfl,← e_b16])) (by kernel_rfl) (by subst_vars; kernel_rfl),trivial⟩⟩⟩⟩⟩) ?_
       refine thenQ_n ?_
       exact ⟨true,keep_sub (ts:=[2,3,4,7,8,9]) (hs:=[3,4]) (vs:=[]) (by subst_vars;kernel_rfl),h⟩
      | false =>
       replace h := sp_f h
       obtain ⟨b17,e_b17,h⟩ := lt_some h
       cases b17 with
       | true =>
        replace h := sp_t h
        obtain ⟨g18,h⟩ := gd_some h
        obtain ⟨x19,e_x19,h⟩ := lt_some h
        obtain ⟨v20,c_v20,h⟩ := cl_some h
        obtain ⟨g21,h⟩ := gd_some h
        obtain ⟨x22,e_x22,h⟩ := lt_some h
        obtain ⟨x23,e_x23,h⟩ := lt_some h
        obtain ⟨b24,e_b24,h⟩ := lt_some h
        cases b24 with
        | true =>
         replace h := sp_t h
         refine T_draw' (id:=5) [] [0,0,0,0,0,0,0,0,0,0,0,0,0,0,0,0,0,0,0,0,0,0,0,0,0,0,0,0,0,0,0,0,0,0,0,0,0,0,0,0,0,0,0,0,0,0,0,0,0,0,0,0,0,0,0,0] (by kernel_rfl) (by kernel_rfl) (by kernel_rfl) (by kernel_rfl) ((17,.lf (.v (.int .i64 x2)))::(18,.lf (.v (.bool true)))::(19,.lf (.v (.bool true)))::(20,.agg [.one (.v (.slice Au0_0 (List.length u0_0) cu0_0)),.arr .i64 4 u0_1])::(21,.lf (.v (.slice Au2 (List.length u2) cu2)))::(22,.lf (.v (.int .i64 x2)))::(23,.lf (.v (.int .i64 x8)))::(24,.lf (.ep (.slice Au2 (List.length u2) cu2) 1 ((x8).toNat) 0))::(25,.lf (.v (.int .i64 x10)))::(26,.lf (.v (.int .i64 x11)))::(27,.agg [.arr .i64 2 v12])::(28,.lf (.v (.int .i64 x14)))::(29,.lf (.own 4 0))::(30,.lf (.v (.int .i64 x15)))::(31,.lf (.v (.bool false)))::(32,.lf (.v (.bool false)))::(33,.lf (.v (.bool false)))::(34,.lf (.v (.int .i64 x2)))::(35,.lf (.v (.int .i64 (List.length u2 : Int))))::(36,.lf (.v (.bool true)))::(37,.lf (.v (.bool true)))::(38,.agg [.one (.v (.slice Au0_0 (List.length u0_0) cu0_0)),.arr .i64 4 u0_1])::(39,.lf (.v (.slice Au2 (List.length u2) cu2)))::(40,.lf (.v (.int .i64 x2)))::(41,.lf (.ep (.slice Au2 (List.length u2) cu2) 1 ((x2).toNat) 0))::(42,.lf (.v (.int .i64 x19)))::(43,.agg [.arr .i64 2 v20])::(44,.lf (.v (.int .i64 x22)))::(45,.lf (.own 4 1))::(46,.lf (.v (.int .i64 x23)))::(47,.lf (.v (.bool true)))::(48,.lf (.v (.bool true)))::(49,.lf (.v (.bool true)))::(50,.lf (.v (.bool true)))::(51,.tup [])::(52,.tup [])::(53,.tup [])::(54,.tup [])::(55,.tup [])::(56,.tup [])::(57,.tup [])::(58,.tup [])::(59,.tup [])::(60,.tup [])::(61,.tup [])::(62,.tup [])::(63,.tup [])::(64,.tup [])::(65,.tup [])::(66,.tup [])::(67,.tup [])::(68,.tup [])::(69,.tup [])::(70,.tup [])::(71,.lf (.v (.bool true)))::(9,.lf (.v (.bool true)))::[]) (by kernel_rfl) ⟨trivial,⟨trivial,⟨trivial,⟨⟨rfl,⟨hu0_1,trivial⟩⟩,⟨trivial,⟨trivial,⟨trivial,⟨trivial,⟨trivial,⟨trivial,⟨⟨g13,trivial⟩,⟨trivial,⟨trivial,⟨trivial,⟨trivial,⟨trivial,⟨trivial,⟨trivial,⟨trivial,⟨trivial,⟨trivial,⟨⟨rfl,⟨hu0_1,trivial⟩⟩,⟨trivial,⟨trivial,⟨trivial,⟨trivial,⟨⟨g21,trivial⟩,⟨trivial,⟨trivial,⟨trivial,⟨trivial,⟨trivial,⟨trivial,⟨trivial,⟨(by intro y hy;cases hy),⟨(by intro y hy;cases hy),⟨(by intro y hy;cases hy),⟨(by intro y hy;cases hy),⟨(by intro y hy;cases hy),⟨(by intro y hy;cases hy),⟨(by intro y hy;cases hy),⟨(by intro y hy;cases hy),⟨(by intro y hy;cases hy),⟨(by intro y hy;cases hy),⟨(by intro y hy;cases hy),⟨(by intro y hy;cases hy),⟨(by intro y hy;cases hy),⟨(by intro y hy;cases hy),⟨(by intro y hy;cases hy),⟨(by intro y hy;cases hy),⟨(by intro y hy;cases hy),⟨(by intro y hy;cases hy),⟨(by intro y hy;cases hy),⟨(by intro y hy;cases hy),⟨trivial,⟨trivial,trivial⟩⟩⟩⟩⟩⟩⟩⟩⟩⟩⟩⟩⟩⟩⟩⟩⟩⟩⟩⟩⟩⟩⟩⟩⟩⟩⟩⟩⟩⟩⟩⟩⟩⟩⟩⟩⟩⟩⟩⟩⟩⟩⟩⟩⟩⟩⟩⟩⟩⟩⟩⟩⟩⟩⟩⟩ ?_
         refine Stage_nil (stage_all' [0,2,3,4,5,6,9,11,12,13,15,16,17,18,20,21,22,23,27,28,29,31,32,33,34,35,36,37,38,39,40,41,42,43,44,45,46,47,48,49,50,51,52,53,54,55] [1,7,8,10,14,19,24,25,26,30] (by kernel_rfl) (by subst_vars; kernel_rfl) (by kernel_rfl) ⟨QF_at (i:=1) (d:=18) (x:=.lf (.v (.bool true))) (show OpAt _ _ _ 1 18 _ from by exact At_bin (d:=18) (b:=.gtr) (u:=.int .i64 x2) (v:=.int .i64 (0 : Int)) (w':=.bool true) (by subst_vars; kernel_rfl) (by rw [show exBin .gtr (.int .i64 x2) (.int .i64 (0 : Int)) = some (.bool (decide (x2 > (0 : Int)))) from by kernel_rfl,← e_b7])) (by kernel_rfl) (by subst_vars; kernel_rfl),⟨QF_at (i:=7) (d:=24) (x:=.lf (.ep (.slice Au2 (List.length u2) cu2) 1 ((x8).toNat) 0)) (show OpAt _ _ _ 7 24 _ from by exact At_idxI (d:=24) (z:=x8) (by subst_vars; kernel_rfl) g9 hu2) (by kernel_rfl) (by subst_vars; kernel_rfl),⟨QF_at (i:=8) (d:=25) (x:=.lf (.v (.int .i64 x10))) (show OpAt _ _ _ 8 25 _ from by rw [e_x10]; exact At_ldI (d:=25) (q:=(x8).toNat) (by subst_vars; kernel_rfl) (toNat_lt g9) hu2) (by kernel_rfl) (by subst_vars; kernel_rfl),⟨QF_at (i:=10) (d:=27) (x:=.agg [.arr .i64 2 v12]) (show OpAt _ _ _ 10 27 _ from by exact At_call (d:=27) (f:=16) (args:=[rval (.agg [.one (.v (.slice Au0_0 (List.length u0_0) cu0_0)),.arr .i64 4 u0_1]),rval (.lf (.v (.int .i64 x11)))]) (x:=.agg [.arr .i64 2 v12]) (by subst_vars; kernel_rfl) (w16 k hu0_0 hu0_1 c_v12)) (by kernel_rfl) (by subst_vars; kernel_rfl),⟨QF_at (i:=14) (d:=31) (x:=.lf (.v (.bool false))) (show OpAt _ _ _ 14 31 _ from by exact At_bin (d:=31) (b:=.geq) (u:=.int .i64 x14) (v:=.int .i64 x15) (w':=.bool false) (by subst_vars; kernel_rfl) (by rw [show exBin .geq (.int .i64 x14) (.int .i64 x15) = some (.bool (decide (x14 ≥ x15))) from by kernel_rfl,← e_b16])) (by kernel_rfl) (by subst_vars; kernel_rfl),⟨QF_at (i:=19) (d:=36) (x:=.lf (.v (.bool true))) (show OpAt _ _ _ 19 36 _ from by exact At_bin (d:=36) (b:=.lss) (u:=.int .i64 x2) (v:=.int .i64 (List.length u2 : Int)) (w':=.bool true) (by subst_vars; kernel_rfl) (by rw [show exBin .lss (.int .i64 x2) (.int .i64 (List.length u2 : Int)) = some (.bool (decide (x2 < (List.length u2 : Int)))) from by kernel_rfl,← e_b17])) (by kernel_rfl) (by subst_vars; kernel_rfl),⟨QF_at (i:=24) (d:=41) (x:=.lf (.ep (.slice Au2 (List.length u2) cu2) 1 ((x2).toNat) 0)) (show OpAt _ _ _ 24 41 _ from by exact At_idxI (d:=41) (z:=x2) (by subst_vars; kernel_rfl) g18 hu2) (by kernel_rfl) (by subst_vars; kernel_rfl),⟨QF_at (i:=25) (d:=42) (x:=.lf (.v (.int .i64 x19))) (show OpAt _ _ _ 25 42 _ from by rw [e_x19]; exact At_ldI (d:=42) (q:=(x2).toNat) (by subst_vars; kernel_rfl) (toNat_lt g18) hu2) (by kernel_rfl) (by subst_vars; kernel_rfl),⟨QF_at (i:=26) (d:=43) (x:=.agg [.arr .i64 2 v20]) (show OpAt _ _ _ 26 43 _ from by exact At_call (d:=43) (f:=16) (args:=[rval (.agg [.one (.v (.slice Au0_0 (List.length u0_0) cu0_0)),.arr .i64 4 u0_1]),rval (.lf (.v (.int .i64 x19)))]) (x:=.agg [.arr .i64 2 v20]) (by subst_vars; kernel_rfl) (w16 k hu0_0 hu0_1 c_v20)) (by kernel_rfl) (by subst_vars; kernel_rfl),⟨QF_at (i:=30) (d:=47) (x:=.lf (.v (.bool true))) (show OpAt _ _ _ 30 47 _ from by exact At_bin (d:=47) (b:=.leq) (u:=.int .i64 x22) (v:=.int .i64 x23) (w':=.bool true) (by subst_vars; kernel_rfl) (by rw [show exBin .leq (.int .i64 x22) (.int .i64 x23) = some (.bool (decide (x22 ≤ x23))) from by kernel_rfl,← e_b24])) (by kernel_rfl) (by subst_vars; kernel_rfl),trivial⟩⟩⟩⟩⟩⟩⟩⟩⟩⟩) ?_
         refine thenQ_n ?_
         exact ⟨true,keep_sub (ts:=[2,3,4,7,8,9]) (hs:=[3,4]) (vs:=[]) (by subst_vars;kernel_rfl),h⟩
        | false =>
         replace h := sp_f h
         obtain ⟨b25,e_b25,h⟩ := lt_some h
         cases b25 with
         | true =>
          replace h := sp_t h
          obtain ⟨b26,e_b26,h⟩ := lt_some h
          cases b26 with
          | true =>
           replace h := sp_t h
           obtain ⟨g27,h⟩ := gd_some h
           obtain ⟨x28,e_x28,h⟩ := lt_some h
           obtain ⟨x29,e_x29,h⟩ := lt_some h
           obtain ⟨g30,h⟩ := gd_some h
           obtain ⟨x31,e_x31,h⟩ := lt_some h
           obtain ⟨x32,e_x32,h⟩ := lt_some h
           obtain ⟨b33,e_b33,h⟩ := lt_some h
           refine T_draw' (id:=5) [] [0,0,0,0,0,0,0,0,0,0,0,0,0,0,0,0,0,0,0,0,0,0,0,0,0,0,0,0,0,0,0,0,0,0,0,0,0,0,0,0,0,0,0,0,0,0,0,0,0,0,0,0,0,0,0,0] (by kernel_rfl) (by kernel_rfl) (by kernel_rfl) (by kernel_rfl) ((17,.lf (.v (.int .i64 x2)))::(18,.lf (.v (.bool true)))::(19,.lf (.v (.bool true)))::(20,.agg [.one (.v (.slice Au0_0 (List.length u0_0) cu0_0)),.arr .i64 4 u0_1])::(21,.lf (.v (.slice Au2 (List.length u2) cu2)))::(22,.lf (.v (.int .i64 x2)))::(23,.lf (.v (.int .i64 x8)))::(24,.lf (.ep (.slice Au2 (List.length u2) cu2) 1 ((x8).toNat) 0))::(25,.lf (.v (.int .i64 x10)))::(26,.lf (.v (.int .i64 x11)))::(27,.agg [.arr .i64 2 v12])::(28,.lf (.v (.int .i64 x14)))::(29,.lf (.own 4 0))::(30,.lf (.v (.int .i64 x15)))::(31,.lf (.v (.bool false)))::(32,.lf (.v (.bool false)))::(33,.lf (.v (.bool false)))::(34,.lf (.v (.int .i64 x2)))::(35,.lf (.v (.int .i64 (List.length u2 : Int))))::(36,.lf (.v (.bool true)))::(37,.lf (.v (.bool true)))::(38,.agg [.one (.v (.slice Au0_0 (List.length u0_0) cu0_0)),.arr .i64 4 u0_1])::(39,.lf (.v (.slice Au2 (List.length u2) cu2)))::(40,.lf (.v (.int .i64 x2)))::(41,.lf (.ep (.slice Au2 (List.length u2) cu2) 1 ((x2).toNat) 0))::(42,.lf (.v (.int .i64 x19)))::(43,.agg [.arr .i64 2 v20])::(44,.lf (.v (.int .i64 x22)))::(45,.lf (.own 4 1))::(46,.lf (.v (.int .i64 x23)))::(47,.lf (.v (.bool false)))::(48,.lf (.v (.bool false)))::(49,.lf (.v (.bool false)))::(50,.lf (.v (.bool false)))::(51,.lf (.v (.int .i64 x2)))::(52,.lf (.v (.bool true)))::(53,.lf (.v (.bool true)))::(54,.lf (.v (.int .i64 x2)))::(55,.lf (.v (.int .i64 (List.length u2 : Int))))::(56,.lf (.v (.bool true)))::(57,.lf (.v (.bool true)))::(58,.lf (.v (.bool true)))::(59,.lf (.v (.slice Au2 (List.length u2) cu2)))::(60,.lf (.v (.int .i64 x2)))::(61,.lf (.ep (.slice Au2 (List.length u2) cu2) 1 ((x2).toNat) 0))::(62,.lf (.v (.int .i64 x28)))::(63,.lf (.v (.slice Au2 (List.length u2) cu2)))::(64,.lf (.v (.int .i64 x2)))::(65,.lf (.v (.int .i64 x29)))::(66,.lf (.ep (.slice Au2 (List.length u2) cu2) 1 ((x29).toNat) 0))::(67,.lf (.v (.int .i64 x31)))::(68,.lf (.v (.int .i64 x32)))::(69,.lf (.v (.bool b33)))::(70,.lf (.v (.bool b33)))::(71,.lf (.v (.bool b33)))::(9,.lf (.v (.bool b33)))::[]) (by kernel_rfl) ⟨trivial,⟨trivial,⟨trivial,⟨⟨rfl,⟨hu0_1,trivial⟩⟩,⟨trivial,⟨trivial,⟨trivial,⟨trivial,⟨trivial,⟨trivial,⟨⟨g13,trivial⟩,⟨trivial,⟨trivial,⟨trivial,⟨trivial,⟨trivial,⟨trivial,⟨trivial,⟨trivial,⟨trivial,⟨trivial,⟨⟨rfl,⟨hu0_1,trivial⟩⟩,⟨trivial,⟨trivial,⟨trivial,⟨trivial,⟨⟨g21,trivial⟩,⟨trivial,⟨trivial,⟨trivial,⟨trivial,⟨trivial,⟨trivial,⟨trivial,⟨trivial,⟨trivial,⟨trivial,⟨trivial,⟨trivial,⟨trivial,⟨trivial,⟨trivial,⟨trivial,⟨trivial,⟨trivial,⟨trivial,⟨trivial,⟨trivial,⟨trivial,⟨trivial,⟨trivial,⟨trivial,⟨trivial,⟨trivial,⟨trivial,⟨trivial,trivial⟩⟩⟩⟩⟩⟩⟩⟩⟩⟩⟩⟩⟩⟩⟩⟩⟩⟩⟩⟩⟩⟩⟩⟩⟩⟩⟩⟩⟩⟩⟩⟩⟩⟩⟩⟩⟩⟩⟩⟩⟩⟩⟩⟩⟩⟩⟩⟩⟩⟩⟩⟩⟩⟩⟩⟩ ?_
           refine Stage_nil (stage_all' [0,2,3,4,5,6,9,11,12,13,15,16,17,18,20,21,22,23,27,28,29,31,32,33,34,36,37,38,40,41,42,43,46,47,48,51,52,53,54,55] [1,7,8,10,14,19,24,25,26,30,35,39,44,45,49,50] (by kernel_rfl) (by subst_vars; kernel_rfl) (by kernel_rfl) ⟨QF_at (i:=1) (d:=18) (x:=.lf (.v (.bool true))) (show OpAt _ _ _ 1 18 _ from by exact At_bin (d:=18) (b:=.gtr) (u:=.int .i64 x2) (v:=.int .i64 (0 : Int)) (w':=.bool true) (by subst_vars; kernel_rfl) (by rw [show exBin .gtr (.int .i64 x2) (.int .i64 (0 : Int)) = some (.bool (decide (x2 > (0 : Int)))) from by kernel_rfl,← e_b7])) (by kernel_rfl) (by subst_vars; kernel_rfl),⟨QF_at (i:=7) (d:=24) (x:=.lf (.ep (.slice Au2 (List.length u2) cu2) 1 ((x8).toNat) 0)) (show OpAt _ _ _ 7 24 _ from by exact At_idxI (d:=24) (z:=x8) (by subst_vars; kernel_rfl) g9 hu2) (by kernel_rfl) (by subst_vars; kernel_rfl),⟨QF_at (i:=8) (d:=25) (x:=.lf (.v (.int .i64 x10))) (show OpAt _ _ _ 8 25 _ from by rw [e_x10]; exact At_ldI (d:=25) (q:=(x8).toNat) (by subst_vars; kernel_rfl) (toNat_lt g9) hu2) (by kernel_rfl) (by subst_vars; kernel_rfl),⟨QF_at (i:=10) (d:=27) (x:=.agg [.arr .i64 2 v12]) (show OpAt _ _ _ 10 27 _ from by exact At_call (d:=27) (f:=16) (args:=[rval (.agg [.one (.v (.slice Au0_0 (List.length u0_0) cu0_0)),.arr .i64 4 u0_1]),rval (.lf (.v (.int .i64 x11)))]) (x:=.agg [.arr .i64 2 v12]) (by subst_vars; kernel_rfl) (w16 k hu0_0 hu0_1 c_v12)) (by kernel_rfl) (by subst_vars; kernel_rfl),⟨QF_at (i:=14) (d:=31) (x:=.lf (.v (.bool false))) (show OpAt _ _ _ 14 31 _ from by exact At_bin (d:=31) (b:=.geq) (u:=.int .i64 x14) (v:=.int .i64 x15) (w':=.bool false) (by subst_vars; kernel_rfl) (by rw [show exBin .geq (.int .i64 x14) (.int .i64 x15) = some (.bool (decide (x14 ≥ x15))) from by kernel_rfl,← e_b16])) (by kernel_rfl) (by subst_vars; kernel_rfl),⟨QF_at (i:=19) (d:=36) (x:=.lf (.v (.bool true))) (show OpAt _ _ _ 19 36 _ from by exact At_bin (d:=36) (b:=.lss) (u:=.int .i64 x2) (v:=.int .i64 (List.length u2 : Int)) (w':=.bool true) (by subst_vars; kernel_rfl) (by rw [show exBin .lss (.int .i64 x2) (.int .i64 (List.length u2 : Int)) = some (.bool (decide (x2 < (List.length u2 : Int)))) from by kernel_rfl,← e_b17])) (by kernel_rfl) (by subst_vars; kernel_rfl),⟨QF_at (i:=24) (d:=41) (x:=.lf (.ep (.slice Au2 (List.length u2) cu2) 1 ((x2).toNat) 0)) (show OpAt _ _ _ 24 41 _ from by exact At_idxI (d:=41) (z:=x2) (by subst_vars; kernel_rfl) g18 hu2) (by kernel_rfl) (by subst_vars; kernel_rfl),⟨QF_at (i:=25) (d:=42) (x:=.lf (.v (.int .i64 x19))) (show OpAt _ _ _ 25 42 _ from by rw [e_x19]; exact At_ldI (d:=42) (q:=(x2).toNat) (by subst_vars; kernel_rfl) (toNat_lt g18) hu2) (by kernel_rfl) (by subst_vars; kernel_rfl),⟨QF_at (i:=26) (d:=43) (x:=.agg [.arr .i64 2 v20]) (show OpAt _ _ _ 26 43 _ from by exact At_call (d:=43) (f:=16) (args:=[rval (.agg [.one (.v (.slice Au0_0 (List.length u0_0) cu0_0)),.arr .i64 4 u0_1]),rval (.lf (.v (.int .i64 x19)))]) (x:=.agg [.arr .i64 2 v20]) (by subst_vars; kernel_rfl) (w16 k hu0_0 hu0_1 c_v20)) (by kernel_rfl) (by subst_vars; kernel_rfl),⟨QF_at (i:=30) (d:=47) (x:=.lf (.v (.bool false))) (show OpAt _ _ _ 30 47 _ from by exact At_bin (d:=47) (b:=.leq) (u:=.int .i64 x22) (v:=.int .i64 x23) (w':=.bool false) (by subst_vars; kernel_rfl) (by rw [show exBin .leq (.int .i64 x22) (.int .i64 x23) = some (.bool (decide (x22 ≤ x23))) from by kernel_rfl,← e_b24])) (by kernel_rfl) (by subst_vars; kernel_rfl),⟨QF_at (i:=35) (d:=52) (x:=.lf (.v (.bool true))) (show OpAt _ _ _ 35 52 _ from by exact At_bin (d:=52) (b:=.gtr) (u:=.int .i64 x2) (v:=.int .i64 (0 : Int)) (w':=.bool true) (by subst_vars; kernel_rfl) (by rw [show exBin .gtr (.int .i64 x2) (.int .i64 (0 : Int)) = some (.bool (decide (x2 > (0 : Int)))) from by kernel_rfl,← e_b25])) (by kernel_rfl) (by subst_vars; kernel_rfl),⟨QF_at (i:=39) (d:=56) (x:=.lf (.v (.bool true))) (show OpAt _ _ _ 39 56 _ from by exact At_bin (d:=56) (b:=.lss) (u:=.int .i64 x2) (v:=.int .i64 (List.length u2 : Int)) (w':=.bool true) (by subst_vars; kernel_rfl) (by rw [show exBin .lss (.int .i64 x2) (.int .i64 (List.length u2 : Int)) = some (.bool (decide (x2 < (List.length u2 : Int)))) from by kernel_rfl,← e_b26])) (by kernel_rfl) (by subst_vars; kernel_rfl),⟨QF_at (i:=44) (d:=61) (x:=.lf (.ep (.slice Au2 (List.length u2) cu2) 1 ((x2).toNat) 0)) (show OpAt _ _ _ 44 61 _ from by exact At_idxI (d:=61) (z:=x2) (by subst_vars; kernel_rfl) g27 hu2) (by kernel_rfl) (by subst_vars; kernel_rfl),⟨QF_at (i:=45) (d:=62) (x:=.lf (.v (.int .i64 x28))) (show OpAt _ _ _ 45 62 _ from by rw [e_x28]; exact At_ldI (d:=62) (q:=(x2).toNat) (by subst_vars; kernel_rfl) (toNat_lt g27) hu2) (by kernel_rfl) (by subst_vars; kernel_rfl),⟨QF_at (i:=49) (d:=66) (x:=.lf (.ep (.slice Au2 (List.length u2) cu2) 1 ((x29).toNat) 0)) (show OpAt _ _ _ 49 66 _ from by exact At_idxI (d:=66) (z:=x29) (by subst_vars; kernel_rfl) g30 hu2) (by kernel_rfl) (by subst_vars; kernel_rfl),⟨QF_at (i:=50) (d:=67) (x:=.lf (.v (.int .i64 x31))) (show OpAt _ _ _ 50 67 _ from by rw [e_x31]; exact At_ldI (d:=67) (q:=(x29).toNat) (by subst_vars; kernel_rfl) (toNat_lt g30) hu2) (by kernel_rfl) (by subst_vars; kernel_rfl),trivial⟩⟩⟩⟩⟩⟩⟩⟩⟩⟩⟩⟩⟩⟩⟩⟩) ?_
           refine thenQ_n ?_
           exact ⟨b33,keep_sub (ts:=[2,3,4,7,8,9]) (hs:=[3,4]) (vs:=[]) (by subst_vars;kernel_rfl),h⟩
          | false =>
           replace h := sp_f h
           refine T_draw' (id:=5) [] [0,0,0,0,0,0,0,0,0,0,0,0,0,0,0,0,0,0,0,0,0,0,0,0,0,0,0,0,0,0,0,0,0,0,0,0,0,0,0,0,0,0,0,0,0,0,0,0,0,0,0,0,0,0,0,0] (by kernel_rfl) (by kernel_rfl) (by kernel_rfl) (by kernel_rfl) ((17,.lf (.v (.int .i64 x2)))::(18,.lf (.v (.bool true)))::(19,.lf (.v (.bool true)))::(20,.agg [.one (.v (.slice Au0_0 (List.length u0_0) cu0_0)),.arr .i64 4 u0_1])::(21,.lf (.v (.slice Au2 (List.length u2) cu2)))::(22,.lf (.v (.int .i64 x2)))::(23,.lf (.v (.int .i64 x8)))::(24,.lf (.ep (.slice Au2 (List.length u2) cu2) 1 ((x8).toNat) 0))::(25,.lf (.v (.int .i64 x10)))::(26,.lf (.v (.int .i64 x11)))::(27,.agg [.arr .i64 2 v12])::(28,.lf (.v (.int .i64 x14)))::(29,.lf (.own 4 0))::(30,.lf (.v (.int .i64 x15)))::(31,.lf (.v (.bool false)))::(32,.lf (.v (.bool false)))::(33,.lf (.v (.bool false)))::(34,.lf (.v (.int .i64 x2)))::(35,.lf (.v (.int .i64 (List.length u2 : Int))))::(36,.lf (.v (.bool true)))::(37,.lf (.v (.bool true)))::(38,.agg [.one (.v (.slice Au0_0 (List.length u0_0) cu0_0)),.arr .i64 4 u0_1])::(39,.lf (.v (.slice Au2 (List.length u2) cu2)))::(40,.lf (.v (.int .i64 x2)))::(41,.lf (.ep (.slice Au2 (List.length u2) cu2) 1 ((x2).toNat) 0))::(42,.lf (.v (.int .i64 x19)))::(43,.agg [.arr .i64 2 v20])::(44,.lf (.v (.int .i64 x22)))::(45,.lf (.own 4 1))::(46,.lf (.v (.int .i64 x23)))::(47,.lf (.v (.bool false)))::(48,.lf (.v (.bool false)))::(49,.lf (.v (.bool false)))::(50,.lf (.v (.bool false)))::(51,.lf (.v (.int .i64 x2)))::(52,.lf (.v (.bool true)))::(53,.lf (.v (.bool true)))::(54,.lf (.v (.int .i64 x2)))::(55,.lf (.v (.int .i64 (List.length u2 : Int))))::(56,.lf (.v (.bool false)))::(57,.lf (.v (.bool false)))::(58,.lf (.v (.bool false)))::(59,.tup [])::(60,.tup [])::(61,.tup [])::(62,.tup [])::(63,.tup [])::(64,.tup [])::(65,.tup [])::(66,.tup [])::(67,.tup [])::(68,.tup [])::(69,.tup [])::(70,.lf (.v (.bool false)))::(71,.lf (.v (.bool false)))::(9,.lf (.v (.bool false)))::[]) (by kernel_rfl) ⟨trivial,⟨trivial,⟨trivial,⟨⟨rfl,⟨hu0_1,trivial⟩⟩,⟨trivial,⟨trivial,⟨trivial,⟨trivial,⟨trivial,⟨trivial,⟨⟨g13,trivial⟩,⟨trivial,⟨trivial,⟨trivial,⟨trivial,⟨trivial,⟨trivial,⟨trivial,⟨trivial,⟨trivial,⟨trivial,⟨⟨rfl,⟨hu0_1,trivial⟩⟩,⟨trivial,⟨trivial,⟨trivial,⟨trivial,⟨⟨g21,trivial⟩,⟨trivial,⟨trivial,⟨trivial,⟨trivial,⟨trivial,⟨trivial,⟨trivial,⟨trivial,⟨trivial,⟨trivial,⟨trivial,⟨trivial,⟨trivial,⟨trivial,⟨trivial,⟨(by intro y hy;cases hy),⟨(by intro y hy;cases hy),⟨(by intro y hy;cases hy),⟨(by intro y hy;cases hy),⟨(by intro y hy;cases hy),⟨(by intro y hy;cases hy),⟨(by intro y hy;cases hy),⟨(by intro y hy;cases hy),⟨(by intro y hy;cases hy),⟨(by intro y hy;cases hy),⟨(by intro y hy;cases hy),⟨trivial,⟨trivial,⟨trivial,trivial⟩⟩⟩⟩⟩⟩⟩⟩⟩⟩⟩⟩⟩⟩⟩⟩⟩⟩⟩⟩⟩⟩⟩⟩⟩⟩⟩⟩⟩⟩⟩⟩⟩⟩⟩⟩⟩⟩⟩⟩⟩⟩⟩⟩⟩⟩⟩⟩⟩⟩⟩⟩⟩⟩⟩⟩ ?_
           refine Stage_nil (stage_all' [0,2,3,4,5,6,9,11,12,13,15,16,17,18,20,21,22,23,27,28,29,31,32,33,34,36,37,38,40,41,42,43,44,45,46,47,48,49,50,51,52,53,54,55] [1,7,8,10,14,19,24,25,26,30,35,39] (by kernel_rfl) (by subst_vars; kernel_rfl) (by kernel_rfl) ⟨QF_at (i:=1) (d:=18) (x:=.lf (.v (.bool true))) (show OpAt _ _ _ 1 18 _ from by exact At_bin (d:=18) (b:=.gtr) (u:=.int .i64 x2) (v:=.int .i64 (0 : Int)) (w':=.bool true) (by subst_vars; kernel_rfl) (by rw [show exBin .gtr (.int .i64 x2) (.int .i64 (0 : Int)) = some (.bool (decide (x2 > (0 : Int)))) from by kernel_rfl,← e_b7])) (by kernel_rfl) (by subst_vars; kernel_rfl),⟨QF_at (i:=7) (d:=24) (x:=.lf (.ep (.slice Au2 (List.length u2) cu2) 1 ((x8).toNat) 0)) (show OpAt _ _ _ 7 24 _ from by exact At_idxI (d:=24) (z:=x8) (by subst_vars; kernel_rfl) g9 hu2) (by kernel_rfl) (by subst_vars; kernel_rfl),⟨QF_at (i:=8) (d:=25) (x:=.lf (.v (.int .i64 x10))) (show OpAt _ _ _ 8 25 _ from by rw [e_x10]; exact At_ldI (d:=25) (q:=(x8).toNat) (by subst_vars; kernel_rfl) (toNat_lt g9) hu2) (by kernel_rfl) (by subst_vars; kernel_rfl),⟨QF_at (i:=10) (d:=27) (x:=.agg [.arr .i64 2 v12]) (show OpAt _ _ _ 10 27 _ from by exact At_call (d:=27) (f:=16) (args:=[rval (.agg [.one (.v (.slice Au0_0 (List.length u0_0) cu0_0)),.arr .i64 4 u0_1]),rval (.lf (.v (.int .i64 x11)))]) (x:=.agg [.arr .i64 2 v12]) (by subst_vars; kernel_rfl) (w16 k hu0_0 hu0_1 c_v12)) (by kernel_rfl) (by subst_vars; kernel_rfl),⟨QF_at (i:=14) (d:=31) (x:=.lf (.v (.bool false))) (show OpAt _ _ _ 14 31 _ from by exact At_bin (d:=31) (b:=.geq) (u:=.int .i64 x14) (v:=.int .i64 x15) (w':=.bool false) (by subst_vars; kernel_rfl) (by rw [show exBin .geq (.int .i64 x14) (.int .i64 x15) = some (.bool (decide (x14 ≥ x15))) from by kernel_rfl,← e_b16])) (by kernel_rfl) (by subst_vars; kernel_rfl),⟨QF_at (i:=19) (d:=36) (x:=.lf (.v (.bool true))) (show OpAt _ _ _ 19 36 _ from by exact At_bin (d:=36) (b:=.lss) (u:=.int .i64 x2) (v:=.int .i64 (List.length u2 : Int)) (w':=.bool true) (by subst_vars; kernel_rfl) (by rw [show exBin .lss (.int .i64 x2) (.int .i64 (List.length u2 : Int)) = some (.bool (decide (x2 < (List.length u2 : Int)))) from by kernel_rfl,← e_b17])) (by kernel_rfl) (by subst_vars; kernel_rfl),⟨QF_at (i:=24) (d:=41) (x:=.lf (.ep (.slice Au2 (List.length u2) cu2) 1 ((x2).toNat) 0)) (show OpAt _ _ _ 24 41 _ from by exact At_idxI (d:=41) (z:=x2) (by subst_vars; kernel_rfl) g18 hu2) (by kernel_rfl) (by subst_vars; kernel_rfl),⟨QF_at (i:=25) (d:=42) (x:=.lf (.v (.int .i64 x19))) (show OpAt _ _ _ 25 42 _ from by rw [e_x19]; exact At_ldI (d:=42) (q:=(x2).toNat) (by subst_vars; kernel_rfl) (toNat_lt g18) hu2) (by kernel_rfl) (by subst_vars; kernel_rfl),⟨QF_at (i:=26) (d:=43) (x:=.agg [.arr .i64 2 v20]) (show OpAt _ _ _ 26 43 _ from by exact At_call (d:=43) (f:=16) (args:=[rval (.agg [.one (.v (.slice Au0_0 (List.length u0_0) cu0_0)),.arr .i64 4 u0_1]),rval (.lf (.v (.int .i64 x19)))]) (x:=.agg [.arr .i64 2 v20]) (by subst_vars; kernel_rfl) (w16 k hu0_0 hu0_1 c_v20)) (by kernel_rfl) (by subst_vars; kernel_rfl),⟨QF_at (i:=30) (d:=47) (x:=.lf (.v (.bool false))) (show OpAt _ _ _ 30 47 _ from by exact At_bin (d:=47) (b:=.leq) (u:=.int .i64 x22) (v:=.int .i64 x23) (w':=.bool false) (by subst_vars; kernel_rfl) (by rw [show exBin .leq (.int .i64 x22) (.int .i64 x23) = some (.bool (decide (x22 ≤ x23))) from by kernel_rfl,← e_b24])) (by kernel_rfl) (by subst_vars; kernel_rfl),⟨QF_at (i:=35) (d:=52) (x:=.lf (.v (.bool true))) (show OpAt _ _ _ 35 52 _ from by exact At_bin (d:=52) (b:=.gtr) (u:=.int .i64 x2) (v:=.int .i64 (0 : Int)) (w':=.bool true) (by subst_vars; kernel_rfl) (by rw [show exBin .gtr (.int .i64 x2) (.int .i64 (0 : Int)) = some (.bool (decide (x2 > (0 : Int)))) from by kernel_rfl,← e_b25])) (by kernel_rfl) (by subst_vars; kernel_rfl),⟨QF_at (i:=39) (d:=56) (x:=.lf (.v (.bool false))) (show OpAt _ _ _ 39 56 _ from by exact At_bin (d:=56) (b:=.lss) (u:=.int .i64 x2) (v:=.int .i64 (List.length u2 : Int)) (w':=.bool false) (by subst_vars; kernel_rfl) (by rw [show exBin .lss (.int .i64 x2) (.int .i64 (List.length u2 : Int)) = some (.bool (decide (x2 < (List.length u2 : Int)))) from by kernel_rfl,← e_b26])) (by kernel_rfl) (by subst_vars; kernel_rfl),trivial⟩⟩⟩⟩⟩⟩⟩⟩⟩⟩⟩⟩) ?_
           refine thenQ_n ?_
           exact ⟨false,keep_sub (ts:=[2,3,4,7,8,9]) (hs:=[3,4]) (vs:=[]) (by subst_vars;kernel_rfl),h⟩
         | false =>
          replace h := sp_f h
          refine T_draw' (id:=5) [] [0,0,0,0,0,0,0,0,0,0,0,0,0,0,0,0,0,0,0,0,0,0,0,0,0,0,0,0,0,0,0,0,0,0,0,0,0,0,0,0,0,0,0,0,0,0,0,0,0,0,0,0,0,0,0,0] (by kernel_rfl) (by kernel_rfl) (by kernel_rfl) (by kernel_rfl) ((17,.lf (.v (.int .i64 x2)))::(18,.lf (.v (.bool true)))::(19,.lf (.v (.bool true)))::(20,.agg [.one (.v (.slice Au0_0 (List.length u0_0) cu0_0)),.arr .i64 4 u0_1])::(21,.lf (.v (.slice Au2 (List.length u2) cu2)))::(22,.lf (.v (.int .i64 x2)))::(23,.lf (.v (.int .i64 x8)))::(24,.lf (.ep (.slice Au2 (List.length u2) cu2) 1 ((x8).toNat) 0))::(25,.lf (.v (.int .i64 x10)))::(26,.lf (.v (.int .i64 x11)))::(27,.agg [.arr .i64 2 v12])::(28,.lf (.v (.int .i64 x14)))::(29,.lf (.own 4 0))::(30,.lf (.v (.int .i64 x15)))::(31,.lf (.v (.bool false)))::(32,.lf (.v (.bool false)))::(33,.lf (.v (.bool false)))::(34,.lf (.v (.int .i64 x2)))::(35,.lf (.v (.int .i64 (List.length u2 : Int))))::(36,.lf (.v (.bool true)))::(37,.lf (.v (.bool true)))::(38,.agg [.one (.v (.slice Au0_0 (List.length u0_0) cu0_0)),.arr .i64 4 u0_1])::(39,.lf (.v (.slice Au2 (List.length u2) cu2)))::(40,.lf (.v (.int .i64 x2)))::(41,.lf (.ep (.slice Au2 (List.length u2) cu2) 1 ((x2).toNat) 0))::(42,.lf (.v (.int .i64 x19)))::(43,.agg [.arr .i64 2 v20])::(44,.lf (.v (.int .i64 x22)))::(45,.lf (.own 4 1))::(46,.lf (.v (.int .i64 x23)))::(47,.lf (.v (.bool false)))::(48,.lf (.v (.bool false)))::(49,.lf (.v (.bool false)))::(50,.lf (.v (.bool false)))::(51,.lf (.v (.int .i64 x2)))::(52,.lf (.v (.bool false)))::(53,.lf (.v (.bool false)))::(54,.tup [])::(55,.tup [])::(56,.tup [])::(57,.lf (.v (.bool false)))::(58,.lf (.v (.bool false)))::(59,.tup [])::(60,.tup [])::(61,.tup [])::(62,.tup [])::(63,.tup [])::(64,.tup [])::(65,.tup [])::(66,.tup [])::(67,.tup [])::(68,.tup [])::(69,.tup [])::(70,.lf (.v (.bool false)))::(71,.lf (.v (.bool false)))::(9,.lf (.v (.bool false)))::[]) (by kernel_rfl) ⟨trivial,⟨trivial,⟨trivial,⟨⟨rfl,⟨hu0_1,trivial⟩⟩,⟨trivial,⟨trivial,⟨trivial,⟨trivial,⟨trivial,⟨trivial,⟨⟨g13,trivial⟩,⟨trivial,⟨trivial,⟨trivial,⟨trivial,⟨trivial,⟨trivial,⟨trivial,⟨trivial,⟨trivial,⟨trivial,⟨⟨rfl,⟨hu0_1,trivial⟩⟩,⟨trivial,⟨trivial,⟨trivial,⟨trivial,⟨⟨g21,trivial⟩,⟨trivial,⟨trivial,⟨trivial,⟨trivial,⟨trivial,⟨trivial,⟨trivial,⟨trivial,⟨trivial,⟨trivial,⟨(by intro y hy;cases hy),⟨(by intro y hy;cases hy),⟨(by intro y hy;cases hy),⟨trivial,⟨trivial,⟨(by intro y hy;cases hy),⟨(by intro y hy;cases hy),⟨(by intro y hy;cases hy),⟨(by intro y hy;cases hy),⟨(by intro y hy;cases hy),⟨(by intro y hy;cases hy),⟨(by intro y hy;cases hy),⟨(by intro y hy;cases hy),⟨(by intro y hy;cases hy),⟨(by intro y hy;cases hy),⟨(by intro y hy;cases hy),⟨trivial,⟨trivial,⟨trivial,trivial⟩⟩⟩⟩⟩⟩⟩⟩⟩⟩⟩⟩⟩⟩⟩⟩⟩⟩⟩⟩⟩⟩⟩⟩⟩⟩⟩⟩⟩⟩⟩⟩⟩⟩⟩⟩⟩⟩⟩⟩⟩⟩⟩⟩⟩⟩⟩⟩⟩⟩⟩⟩⟩⟩⟩⟩ ?_
          refine Stage_nil (stage_all' [0,2,3,4,5,6,9,11,12,13,15,16,17,18,20,21,22,23,27,28,29,31,32,33,34,36,37,38,39,40,41,42,43,44,45,46,47,48,49,50,51,52,53,54,55] [1,7,8,10,14,19,24,25,26,30,35] (by kernel_rfl) (by subst_vars; kernel_rfl) (by kernel_rfl) ⟨QF_at (i:=1) (d:=18) (x:=.lf (.v (.bool true))) (show OpAt _ _ _ 1 18 _ from by exact At_bin (d:=18) (b:=.gtr) (u:=.int .i64 x2) (v:=.int .i64 (0 : Int)) (w':=.bool true) (by subst_vars; kernel_rfl) (by rw [show exBin .gtr (.int .i64 x2) (.int .i64 (0 : Int)) = some (.bool (decide (x2 > (0 : Int)))) from by kernel_rfl,← e_b7])) (by kernel_rfl) (by subst_vars; kernel_rfl),⟨QF_at (i:=7) (d:=24) (x:=.lf (.ep (.slice Au2 (List.length u2) cu2) 1 ((x8).toNat) 0)) (show OpAt _ _ _ 7 24 _ from by exact At_idxI (d:=24) (z:=x8) (by subst_vars; kernel_rfl) g9 hu2) (by kernel_rfl) (by subst_vars; kernel_rfl),⟨QF_at (i:=8) (d:=25) (x:=.lf (.v (.int .i64 x10))) (show OpAt _ _ _ 8 25 _ from by rw [e_x10]; exact At_ldI (d:=25) (q:=(x8).toNat) (by subst_vars; kernel_rfl) (toNat_lt g9) hu2) (by kernel_rfl) (by subst_vars; kernel_rfl),⟨QF_at (i:=10) (d:=27) (x:=.agg [.arr .i64 2 v12]) (show OpAt _ _ _ 10 27 _ from by exact At_call (d:=27) (f:=16) (args:=[rval (.agg [.one (.v (.slice Au0_0 (List.length u0_0) cu0_0)),.arr .i64 4 u0_1]),rval (.lf (.v (.int .i64 x11)))]) (x:=.agg [.arr .i64 2 v12]) (by subst_vars; kernel_rfl) (w16 k hu0_0 hu0_1 c_v12)) (by kernel_rfl) (by subst_vars; kernel_rfl),⟨QF_at (i:=14) (d:=31) (x:=.lf (.v (.bool false))) (show OpAt _ _ _ 14 31 _ from by exact At_bin (d:=31) (b:=.geq) (u:=.int .i64 x14) (v:=.int .i64 x15) (w':=.bool false) (by subst_vars; kernel_rfl) (by rw [show exBin .geq (.int .i64 x14) (.int .i64 x15) = some (.bool (decide (x14 ≥ x15))) from by kernel_rfl,← e_b16])) (by kernel_rfl) (by subst_vars; kernel_rfl),⟨QF_at (i:=19) (d:=36) (x:=.lf (.v (.bool true))) (show OpAt _ _ _ 19 36 _ from by exact At_bin (d:=36) (b:=.lss) (u:=.int .i64 x2) (v:=.int .i64 (List.length u2 : Int)) (w':=.bool true) (by subst_vars; kernel_rfl) (by rw [show exBin .lss (.int .i64 x2) (.int .i64 (List.length u2 : Int)) = some (.bool (decide (x2 < (List.length u2 : Int)))) from by kernel_rfl,← e_b17])) (by kernel_rfl) (by subst_vars; kernel_rfl),⟨QF_at (i:=24) (d:=41) (x:=.lf (.ep (.slice Au2 (List.length u2) cu2) 1 ((x2).toNat) 0)) (show OpAt _ _ _ 24 41 _ from by exact At_idxI (d:=41) (z:=x2) (by subst_vars; kernel_rfl) g18 hu2) (by kernel_rfl) (by subst_vars; kernel_rfl),⟨QF_at (i:=25) (d:=42) (x:=.lf (.v (.int .i64 x19))) (show OpAt _ _ _ 25 42 _ from by rw [e_x19]; exact At_ldI (d:=42) (q:=(x2).toNat) (by subst_vars; kernel_rfl) (toNat_lt g18) hu2) (by kernel_rfl) (by subst_vars; kernel_rfl),⟨QF_at (i:=26) (d:=43) (x:=.agg [.arr .i64 2 v20]) (show OpAt _ _ _ 26 43 _ from by exact At_call (d:=43) (f:=16) (args:=[rval (.agg [.one (.v (.slice Au0_0 (List.length u0_0) cu0_0)),.arr .i64 4 u0_1]),rval (.lf (.v (.int .i64 x19)))]) (x:=.agg [.arr .i64 2 v20]) (by subst_vars; kernel_rfl) (w16 k hu0_0 hu0_1 c_v20)) (by kernel_rfl) (by subst_vars; kernel_rfl),⟨QF_at (i:=30) (d:=47) (x:=.lf (.v (.bool false))) (show OpAt _ _ _ 30 47 _ from by exact At_bin (d:=47) (b:=.leq) (u:=.int .i64 x22) (v:=.int .i64 x23) (w':=.bool false) (by subst_vars; kernel_rfl) (by rw [show exBin .leq (.int .i64 x22) (.int .i64 x23) = some (.bool (decide (x22 ≤ x23))) from by kernel_rfl,← e_b24])) (by kernel_rfl) (by subst_vars; kernel_rfl),⟨QF_at (i:=35) (d:=52) (x:=.lf (.v (.bool false))) (show OpAt _ _ _ 35 52 _ from by exact At_bin (d:=52) (b:=.gtr) (u:=.int .i64 x2) (v:=.int .i64 (0 : Int)) (w':=.bool false) (by subst_vars; kernel_rfl) (by rw [show exBin .gtr (.int .i64 x2) (.int .i64 (0 : Int)) = some (.bool (decide (x2 > (0 : Int)))) from by kernel_rfl,← e_b25])) (by kernel_rfl) (by subst_vars; kernel_rfl),trivial⟩⟩⟩⟩⟩⟩⟩⟩⟩⟩⟩) ?_
          refine thenQ_n ?_
          exact ⟨false,keep_sub (ts:=[2,3,4,7,8,9]) (hs:=[3,4]) (vs:=[]) (by subst_vars;kernel_rfl),h⟩
       | false =>
        replace h := sp_f h
        obtain ⟨b34,e_b34,h⟩ := lt_some h
        cases b34 with
        | true =>
         replace h := sp_t h
         obtain ⟨b35,e_b35,h⟩ := lt_some h
         cases b35 with
         | true =>
          replace h := sp_t h
          obtain ⟨g36,h⟩ := gd_some h
          obtain ⟨x37,e_x37,h⟩ := lt_some h
          obtain ⟨x38,e_x38,h⟩ := lt_some h
          obtain ⟨g39,h⟩ := gd_some h
          obtain ⟨x40,e_x40,h⟩ := lt_some h
          obtain ⟨x41,e_x41,h⟩ := lt_some h
          obtain ⟨b42,e_b42,h⟩ := lt_some h
          refine T_draw' (id:=5) [] [0,0,0,0,0,0,0,0,0,0,0,0,0,0,0,0,0,0,0,0,0,0,0,0,0,0,0,0,0,0,0,0,0,0,0,0,0,0,0,0,0,0,0,0,0,0,0,0,0,0,0,0,0,0,0,0] (by kernel_rfl) (by kernel_rfl) (by kernel_rfl) (by kernel_rfl) ((17,.lf (.v (.int .i64 x2)))::(18,.lf (.v (.bool true)))::(19,.lf (.v (.bool true)))::(20,.agg [.one (.v (.slice Au0_0 (List.length u0_0) cu0_0)),.arr .i64 4 u0_1])::(21,.lf (.v (.slice Au2 (List.length u2) cu2)))::(22,.lf (.v (.int .i64 x2)))::(23,.lf (.v (.int .i64 x8)))::(24,.lf (.ep (.slice Au2 (List.length u2) cu2) 1 ((x8).toNat) 0))::(25,.lf (.v (.int .i64 x10)))::(26,.lf (.v (.int .i64 x11)))::(27,.agg [.arr .i64 2 v12])::(28,.lf (.v (.int .i64 x14)))::(29,.lf (.own 4 0))::(30,.lf (.v (.int .i64 x15)))::(31,.lf (.v (.bool false)))::(32,.lf (.v (.bool false)))::(33,.lf (.v (.bool false)))::(34,.lf (.v (.int .i64 x2)))::(35,.lf (.v (.int .i64 (List.length u2 : Int))))::(36,.lf (.v (.bool false)))::(37,.lf (.v (.bool false)))::(38,.tup [])::(39,.tup [])::(40,.tup [])::(41,.tup [])::(42,.tup [])::(43,.tup [])::(44,.tup [])::(45,.tup [])::(46,.tup [])::(47,.tup [])::(48,.lf (.v (.bool false)))::(49,.lf (.v (.bool false)))::(50,.lf (.v (.bool false)))::(51,.lf (.v (.int .i64 x2)))::(52,.lf (.v (.bool true)))::(53,.lf (.v (.bool true)))::(54,.lf (.v (.int .i64 x2)))::(55,.lf (.v (.int .i64 (List.length u2 : Int))))::(56,.lf (.v (.bool true)))::(57,.lf (.v (.bool true)))::(58,.lf (.v (.bool true)))::(59,.lf (.v (.slice Au2 (List.length u2) cu2)))::(60,.lf (.v (.int .i64 x2)))::(61,.lf (.ep (.slice Au2 (List.length u2) cu2) 1 ((x2).toNat) 0))::(62,.lf (.v (.int .i64 x37)))::(63,.lf (.v (.slice Au2 (List.length u2) cu2)))::(64,.lf (.v (.int .i64 x2)))::(65,.lf (.v (.int .i64 x38)))::(66,.lf (.ep (.slice Au2 (List.length u2) cu2) 1 ((x38).toNat) 0))::(67,.lf (.v (.int .i64 x40)))::(68,.lf (.v (.int .i64 x41)))::(69,.lf (.v (.bool b42)))::(70,.lf (.v (.bool b42)))::(71,.lf (.v (.bool b42)))::(9,.lf (.v (.bool b42)))::[]) (by kernel_rfl) ⟨trivial,⟨trivial,⟨trivial,⟨⟨rfl,⟨hu0_1,trivial⟩⟩,⟨trivial,⟨trivial,⟨trivial,⟨trivial,⟨trivial,⟨trivial,⟨⟨g13,trivial⟩,⟨trivial,⟨trivial,⟨trivial,⟨trivial,⟨trivial,⟨trivial,⟨trivial,⟨trivial,⟨trivial,⟨trivial,⟨(by intro y hy;cases hy),⟨(by intro y hy;cases hy),⟨(by intro y hy;cases hy),⟨(by intro y hy;cases hy),⟨(by intro y hy;cases hy),⟨(by intro y hy;cases hy),⟨(by intro y hy;cases hy),⟨(by intro y hy;cases hy),⟨(by intro y hy;cases hy),⟨(by intro y hy;cases hy),⟨trivial,⟨trivial,⟨trivial,⟨trivial,⟨trivial,⟨trivial,⟨trivial,⟨trivial,⟨trivial,⟨trivial,⟨trivial,⟨trivial,⟨trivial,⟨trivial,⟨trivial,⟨trivial,⟨trivial,⟨trivial,⟨trivial,⟨trivial,⟨trivial,⟨trivial,⟨trivial,⟨trivial,⟨trivial,trivial⟩⟩⟩⟩⟩⟩⟩⟩⟩⟩⟩⟩⟩⟩⟩⟩⟩⟩⟩⟩⟩⟩⟩⟩⟩⟩⟩⟩⟩⟩⟩⟩⟩⟩⟩⟩⟩⟩⟩⟩⟩⟩⟩⟩⟩⟩⟩⟩⟩⟩⟩⟩⟩⟩⟩⟩ ?_
          refine Stage_nil (stage_all' [0,2,3,4,5,6,9,11,12,13,15,16,17,18,20,21,22,23,24,25,26,27,28,29,30,31,32,33,34,36,37,38,40,41,42,43,46,47,48,51,52,53,54,55] [1,7,8,10,14,19,35,39,44,45,49,50] (by kernel_rfl) (by subst_vars; kernel_rfl) (by kernel_rfl) ⟨QF_at (i:=1) (d:=18) (x:=.lf (.v (.bool true))) (show OpAt _ _ _ 1 18 _ from by exact At_bin (d:=18) (b:=.gtr) (u:=.int .i64 x2) (v:=.int .i64 (0 : Int)) (w':=.bool true) (by subst_vars; kernel_rfl) (by rw [show exBin .gtr (.int .i64 x2) (.int .i64 (0 : Int)) = some (.bool (decide (x2 > (0 : Int)))) from by kernel_rfl,← e_b7])) (by kernel_rfl) (by subst_vars; kernel_rfl),⟨QF_at (i:=7) (d:=24) (x:=.lf (.ep (.slice Au2 (List.length u2) cu2) 1 ((x8).toNat) 0)) (show OpAt _ _ _ 7 24 _ from by exact At_idxI (d:=24) (z:=x8) (by subst_vars; kernel_rfl) g9 hu2) (by kernel_rfl) (by subst_vars; kernel_rfl),⟨QF_at (i:=8) (d:=25) (x:=.lf (.v (.int .i64 x10))) (show OpAt _ _ _ 8 25 _ from by rw [e_x10]; exact At_ldI (d:=25) (q:=(x8).toNat) (by subst_vars; kernel_rfl) (toNat_lt g9) hu2) (by kernel_rfl) (by subst_vars; kernel_rfl),⟨QF_at (i:=10) (d:=27) (x:=.agg [.arr .i64 2 v12]) (show OpAt _ _ _ 10 27 _ from by exact At_call (d:=27) (f:=16) (args:=[rval (.agg [.one (.v (.slice Au0_0 (List.length u0_0) cu0_0)),.arr .i64 4 u0_1]),rval (.lf (.v (.int .i64 x11)))]) (x:=.agg [.arr .i64 2 v12]) (by subst_vars; kernel_rfl) (w16 k hu0_0 hu0_1 c_v12)) (by kernel_rfl) (by subst_vars; kernel_rfl),⟨QF_at (i:=14) (d:=31) (x:=.lf (.v (.bool false))) (show OpAt _ _ _ 14 31 _ from by exact At_bin (d:=31) (b:=.geq) (u:=.int .i64 x14) (v:=.int .i64 x15) (w':=.bool false) (by subst_vars; kernel_rfl) (by rw [show exBin .geq (.int .i64 x14) (.int .i64 x15) = some (.bool (decide (x14 ≥ x15))) from by kernel_rfl,← e_b16])) (by kernel_rfl) (by subst_vars; kernel_rfl),⟨QF_at (i:=19) (d:=36) (x:=.lf (.v (.bool false))) (show OpAt _ _ _ 19 36 _ from by exact At_bin (d:=36) (b:=.lss) (u:=.int .i64 x2) (v:=.int .i64 (List.length u2 : Int)) (w':=.bool false) (by subst_vars; kernel_rfl) (by rw [show exBin .lss (.int .i64 x2) (.int .i64 (List.length u2 : Int)) = some (.bool (decide (x2 < (List.length u2 : Int)))) from by kernel_rfl,← e_b17])) (by kernel_rfl) (by subst_vars; kernel_rfl),⟨QF_at (i:=35) (d:=52) (x:=.lf (.v (.bool true))) (show OpAt _ _ _ 35 52 _ from by exact At_bin (d:=52) (b:=.gtr) (u:=.int .i64 x2) (v:=.int .i64 (0 : Int)) (w':=.bool true) (by subst_vars; kernel_rfl) (by rw [show exBin .gtr (.int .i64 x2) (.int .i64 (0 : Int)) = some (.bool (decide (x2 > (0 : Int)))) from by kernel_rfl,← e_b34])) (by kernel_rfl) (by subst_vars; kernel_rfl),⟨QF_at (i:=39) (d:=56) (x:=.lf (.v (.bool true))) (show OpAt _ _ _ 39 56 _ from by exact At_bin (d:=56) (b:=.lss) (u:=.int .i64 x2) (v:=.int .i64 (List.length u2 : Int)) (w':=.bool true) (by subst_vars; kernel_rfl) (by rw [show exBin .lss (.int .i64 x2) (.int .i64 (List.length u2 : Int)) = some (.bool (decide (x2 < (List.length u2 : Int)))) from by kernel_rfl,← e_b35])) (by kernel_rfl) (by subst_vars; kernel_rfl),⟨QF_at (i:=44) (d:=61) (x:=.lf (.ep (.slice Au2 (List.length u2) cu2) 1 ((x2).toNat) 0)) (show OpAt _ _ _ 44 61 _ from by exact At_idxI (d:=61) (z:=x2) (by subst_vars; kernel_rfl) g36 hu2) (by kernel_rfl) (by subst_vars; kernel_rfl),⟨QF_at (i:=45) (d:=62) (x:=.lf (.v (.int .i64 x37))) (show OpAt _ _ _ 45 62 _ from by rw [e_x37]; exact At_ldI (d:=62) (q:=(x2).toNat) (by subst_vars; kernel_rfl) (toNat_lt g36) hu2) (by kernel_rfl) (by subst_vars; kernel_rfl),⟨QF_at (i:=49) (d:=66) (x:=.lf (.ep (.slice Au2 (List.length u2) cu2) 1 ((x38).toNat) 0)) (show OpAt _ _ _ 49 66 _ from by exact At_idxI (d:=66) (z:=x38) (by subst_vars; kernel_rfl) g39 hu2) (by kernel_rfl) (by subst_vars; kernel_rfl),⟨QF_at (i:=50) (d:=67) (x:=.lf (.v (.int .i64 x40))) (show OpAt _ _ _ 50 67 _ from by rw [e_x40]; exact At_ldI (d:=67) (q:=(x38).toNat) (by subst_vars; kernel_rfl) (toNat_lt g39) hu2) (by kernel_rfl) (by subst_vars; kernel_rfl),trivial⟩⟩⟩⟩⟩⟩⟩⟩⟩⟩⟩⟩) ?_
          refine thenQ_n ?_
          exact ⟨b42,keep_sub (ts:=[2,3,4,7,8,9]) (hs:=[3,4]) (vs:=[]) (by subst_vars;kernel_rfl),h⟩
         | false =>
          replace h := sp_f h
          refine T_draw' (id:=5) [] [0,0,0,0,0,0,0,0,0,0,0,0,0,0,0,0,0,0,0,0,0,0,0,0,0,0,0,0,0,0,0,0,0,0,0,0,0,0,0,0,0,0,0,0,0,0,0,0,0,0,0,0,0,0,0,0] (by kernel_rfl) (by kernel_rfl) (by kernel_rfl) (by kernel_rfl) ((17,.lf (.v (.int .i64 x2)))::(18,.lf (.v (.bool true)))::(19,.lf (.v (.bool true)))::(20,.agg [.one (.v (.slice Au0_0 (List.length u0_0) cu0_0)),.arr .i64 4 u0_1])::(21,.lf (.v (.slice Au2 (List.length u2) cu2)))::(22,.lf (.v (.int .i64 x2)))::(23,.lf (.v (.int .i64 x8)))::(24,.lf (.ep (.slice Au2 (List.length u2) cu2) 1 ((x8).toNat) 0))::(25,.lf (.v (.int .i64 x10)))::(26,.lf (.v (.int .i64 x11)))::(27,.agg [.arr .i64 2 v12])::(28,.lf (.v (.int .i64 x14)))::(29,.lf (.own 4 0))::(30,.lf (.v (.int .i64 x15)))::(31,.lf (.v (.bool false)))::(32,.lf (.v (.bool false)))::(33,.lf (.v (.bool false)))::(34,.lf (.v (.int .i64 x2)))::(35,.lf (.v (.int .i64 (List.length u2 : Int))))::(36,.lf (.v (.bool false)))::(37,.lf (.v (.bool false)))::(38,.tup [])::(39,.tup [])::(40,.tup [])::(41,.tup [])::(42,.tup [])::(43,.tup [])::(44,.tup [])::(45,.tup [])::(46,.tup [])::(47,.tup [])::(48,.lf (.v (.bool false)))::(49,.lf (.v (.bool false)))::(50,.lf (.v (.bool false)))::(51,.lf (.v (.int .i64 x2)))::(52,.lf (.v (.bool true)))::(53,.lf (.v (.bool true)))::(54,.lf (.v (.int .i64 x2)))::(55,.lf (.v (.int .i64 (List.length u2 : Int))))::(56,.lf (.v (.bool false)))::(57,.lf (.v (.bool false)))::(58,.lf (.v (.bool false)))::(59,.tup [])::(60,.tup [])::(61,.tup [])::(62,.tup [])::(63,.tup [])::(64,.tup [])::(65,.tup [])::(66,.tup [])::(67,.tup [])::(68,.tup [])::(69,.tup [])::(70,.lf (.v (.bool false)))::(71,.lf (.v (.bool false)))::(9,.lf (.v (.bool false)))::[]) (by kernel_rfl) ⟨trivial,⟨trivial,⟨trivial,⟨⟨rfl,⟨hu0_1,trivial⟩⟩,⟨trivial,⟨trivial,⟨trivial,⟨trivial,⟨trivial,⟨trivial,⟨⟨g13,trivial⟩,⟨trivial,⟨trivial,⟨trivial,⟨trivial,⟨trivial,⟨trivial,⟨trivial,⟨trivial,⟨trivial,⟨trivial,⟨(by intro y hy;cases hy),⟨(by intro y hy;cases hy),⟨(by intro y hy;cases hy),⟨(by intro y hy;cases hy),⟨(by intro y hy;cases hy),⟨(by intro y hy;cases hy),⟨(by intro y hy;cases hy),⟨(by intro y hy;cases hy),⟨(by intro y hy;cases hy),⟨(by intro y hy;cases hy),⟨trivial,⟨trivial,⟨trivial,⟨trivial,⟨trivial,⟨trivial,⟨trivial,⟨trivial,⟨trivial,⟨trivial,⟨trivial,⟨(by intro y hy;cases hy),⟨(by intro y hy;cases hy),⟨(by intro y hy;cases hy),⟨(by intro y hy;cases hy),⟨(by intro y hy;cases hy),⟨(by intro y hy;cases hy),⟨(by intro y hy;cases hy),⟨(by intro y hy;cases hy),⟨(by intro y hy;cases hy),⟨(by intro y hy;cases hy),⟨(by intro y hy;cases hy),⟨trivial,⟨trivial,⟨trivial,trivial⟩⟩⟩⟩⟩⟩⟩⟩⟩⟩⟩⟩⟩⟩⟩⟩⟩⟩⟩⟩⟩⟩⟩⟩⟩⟩⟩⟩⟩⟩⟩⟩⟩⟩⟩⟩⟩⟩⟩⟩⟩⟩⟩⟩⟩⟩⟩⟩⟩⟩⟩⟩⟩⟩⟩⟩ ?_
          refine Stage_nil (stage_all' [0,2,3,4,5,6,9,11,12,13,15,16,17,18,20,21,22,23,24,25,26,27,28,29,30,31,32,33,34,36,37,38,40,41,42,43,44,45,46,47,48,49,50,51,52,53,54,55] [1,7,8,10,14,19,35,39] (by kernel_rfl) (by subst_vars; kernel_rfl) (by kernel_rfl) ⟨QF_at (i:=1) (d:=18) (x:=.lf (.v (.bool true))) (show OpAt _ _ _ 1 18 _ from by exact At_bin (d:=18) (b:=.gtr) (u:=.int .i64 x2) (v:=.int .i64 (0 : Int)) (w':=.bool true) (by subst_vars; kernel_rfl) (by rw [show exBin .gtr (.int .i64 x2) (.int .i64 (0 : Int)) = some (.bool (decide (x2 > (0 : Int)))) from by kernel_rfl,← e_b7])) (by kernel_rfl) (by subst_vars; kernel_rfl),⟨QF_at (i:=7) (d:=24) (x:=.lf (.ep (.slice Au2 (List.length u2) cu2) 1 ((x8).toNat) 0)) (show OpAt _ _ _ 7 24 _ from by exact At_idxI (d:=24) (z:=x8) (by subst_vars; kernel_rfl) g9 hu2) (by kernel_rfl) (by subst_vars; kernel_rfl),⟨QF_at (i:=8) (d:=25) (x:=.lf (.v (.int .i64 x10))) (show OpAt _ _ _ 8 25 _ from by rw [e_x10]; exact At_ldI (d:=25) (q:=(x8).toNat) (by subst_vars; kernel_rfl) (toNat_lt g9) hu2) (by kernel_rfl) (by subst_vars; kernel_rfl),⟨QF_at (i:=10) (d:=27) (x:=.agg [.arr .i64 2 v12]) (show OpAt _ _ _ 10 27 _ from by exact At_call (d:=27) (f:=16) (args:=[rval (.agg [.one (.v (.slice Au0_0 (List.length u0_0) cu0_0)),.arr .i64 4 u0_1]),rval (.lf (.v (.int .i64 x11)))]) (x:=.agg [.arr .i64 2 v12]) (by subst_vars; kernel_rfl) (w16 k hu0_0 hu0_1 c_v12)) (by kernel_rfl) (by subst_vars; kernel_rfl),⟨QF_at (i:=14) (d:=31) (x:=.lf (.v (.bool false))) (show OpAt _ _ _ 14 31 _ from by exact At_bin (d:=31) (b:=.geq) (u:=.int .i64 x14) (v:=.int .i64 x15) (w':=.bool false) (by subst_vars; kernel_rfl) (by rw [show exBin .geq (.int .i64 x14) (.int .i64 x15) = some (.bool (decide (x14 ≥ x15))) from by kernel_rfl,← e_b16])) (by kernel_rfl) (by subst_vars; kernel_rfl),⟨QF_at (i:=19) (d:=36) (x:=.lf (.v (.bool false))) (show OpAt _ _ _ 19 36 _ from by exact At_bin (d:=36) (b:=.lss) (u:=.int .i64 x2) (v:=.int .i64 (List.length u2 : Int)) (w':=.bool false) (by subst_vars; kernel_rfl) (by rw [show exBin .lss (.int .i64 x2) (.int .i64 (List.length u2 : Int)) = some (.bool (decide (x2 < (List.length u2 : Int)))) from by kernel_rfl,← e_b17])) (by kernel_rfl) (by subst_vars; kernel_rfl),⟨QF_at (i:=35) (d:=52) (x:=.lf (.v (.bool true))) (show OpAt _ _ _ 35 52 _ from by exact At_bin (d:=52) (b:=.gtr) (u:=.int .i64 x2) (v:=.int .i64 (0 : Int)) (w':=.bool true) (by subst_vars; kernel_rfl) (by rw [show exBin .gtr (.int .i64 x2) (.int .i64 (0 : Int)) = some (.bool (decide (x2 > (0 : Int)))) from by kernel_rfl,← e_b34])) (by kernel_rfl) (by subst_vars; kernel_rfl),⟨QF_at (i:=39) (d:=56) (x:=.lf (.v (.bool false))) (show OpAt _ _ _ 39 56 _ from by exact At_bin (d:=56) (b:=.lss) (u:=.int .i64 x2) (v:=.int .i64 (List.length u2 : Int)) (w':=.bool false) (by subst_vars; kernel_rfl) (by rw [show exBin .lss (.int .i64 x2) (.int .i64 (List.length u2 : Int)) = some (.bool (decide (x2 < (List.length u2 : Int)))) from by kernel_rfl,← e_b35])) (by kernel_rfl) (by subst_vars; kernel_rfl),trivial⟩⟩⟩⟩⟩⟩⟩⟩) ?_
          refine thenQ_n ?_
          exact ⟨false,keep_sub (ts:=[2,3,4,7,8,9]) (hs:=[3,4]) (vs:=[]) (by subst_vars;kernel_rfl),h⟩
        | false =>
         replace h := sp_f h
         refine T_draw' (id:=5) [] [0,0,0,0,0,0,0,0,0,0,0,0,0,0,0,0,0,0,0,0,0,0,0,0,0,0,0,0,0,0,0,0,0,0,0,0,0,0,0,0,0,0,0,0,0,0,0,0,0,0,0,0,0,0,0,0] (by kernel_rfl) (by kernel_rfl) (by kernel_rfl) (by kernel_rfl) ((17,.lf (.v (.int .i64 x2)))::(18,.lf (.v (.bool true)))::(19,.lf (.v (.bool true)))::(20,.agg [.one (.v (.slice Au0_0 (List.length u0_0) cu0_0)),.arr .i64 4 u0_1])::(21,.lf (.v (.slice Au2 (List.length u2) cu2)))::(22,.lf (.v (.int .i64 x2)))::(23,.lf (.v (.int .i64 x8)))::(24,.lf (.ep (.slice Au2 (List.length u2) cu2) 1 ((x8).toNat) 0))::(25,.lf (.v (.int .i64 x10)))::(26,.lf (.v (.int .i64 x11)))::(27,.agg [.arr .i64 2 v12])::(28,.lf (.v (.int .i64 x14)))::(29,.lf (.own 4 0))::(30,.lf (.v (.int .i64 x15)))::(31,.lf (.v (.bool false)))::(32,.lf (.v (.bool false)))::(33,.lf (.v (.bool false)))::(34,.lf (.v (.int .i64 x2)))::(35,.lf (.v (.int .i64 (List.length u2 : Int))))::(36,.lf (.v (.bool false)))::(37,.lf (.v (.bool false)))::(38,.tup [])::(39,.tup [])::(40,.tup [])::(41,.tup [])::(42,.tup [])::(43,.tup [])::(44,.tup [])::(45,.tup [])::(46,.tup [])::(47,.tup [])::(48,.lf (.v (.bool false)))::(49,.lf (.v (.bool false)))::(50,.lf (.v (.bool false)))::(51,.lf (.v (.int .i64 x2)))::(52,.lf (.v (.bool false)))::(53,.lf (.v (.bool false)))::(54,.tup [])::(55,.tup [])::(56,.tup [])::(57,.lf (.v (.bool false)))::(58,.lf (.v (.bool false)))::(59,.tup [])::(60,.tup [])::(61,.tup [])::(62,.tup [])::(63,.tup [])::(64,.tup [])::(65,.tup [])::(66,.tup [])::(67,.tup [])::(68,.tup [])::(69,.tup [])::(70,.lf (.v (.bool false)))::(71,.lf (.v (.bool false)))::(9,.lf (.v (.bool false)))::[]) (by kernel_rfl) ⟨trivial,⟨trivial,⟨trivial,⟨⟨rfl,⟨hu0_1,trivial⟩⟩,⟨trivial,⟨trivial,⟨trivial,⟨trivial,⟨trivial,⟨trivial,⟨⟨g13,trivial⟩,⟨trivial,⟨trivial,⟨trivial,⟨trivial,⟨trivial,⟨trivial,⟨trivial,⟨trivial,⟨trivial,⟨trivial,⟨(by intro y hy;cases hy),⟨(by intro y hy;cases hy),⟨(by intro y hy;cases hy),⟨(by intro y hy;cases hy),⟨(by intro y hy;cases hy),⟨(by intro y hy;cases hy),⟨(by intro y hy;cases hy),⟨(by intro y hy;cases hy),⟨(by intro y hy;cases hy),⟨(by intro y hy;cases hy),⟨trivial,⟨trivial,⟨trivial,⟨trivial,⟨trivial,⟨trivial,⟨(by intro y hy;cases hy),⟨(by intro y hy;cases hy),⟨(by intro y hy;cases hy),⟨trivial,⟨trivial,⟨(by intro y hy;cases hy),⟨(by intro y hy;cases hy),⟨(by intro y hy;cases hy),⟨(by intro y hy;cases hy),⟨(by intro y hy;cases hy),⟨(by intro y hy;cases hy),⟨(by intro y hy;cases hy),⟨(by intro y hy;cases hy),⟨(by intro y hy;cases hy),⟨(by intro y hy;cases hy),⟨(by intro y hy;cases hy),⟨trivial,⟨trivial,⟨trivial,trivial⟩⟩⟩⟩⟩⟩⟩⟩⟩⟩⟩⟩⟩⟩⟩⟩⟩⟩⟩⟩⟩⟩⟩⟩⟩⟩⟩⟩⟩⟩⟩⟩⟩⟩⟩⟩⟩⟩⟩⟩⟩⟩⟩⟩⟩⟩⟩⟩⟩⟩⟩⟩⟩⟩⟩⟩ ?_
         refine Stage_nil (stage_all' [0,2,3,4,5,6,9,11,12,13,15,16,17,18,20,21,22,23,24,25,26,27,28,29,30,31,32,33,34,36,37,38,39,40,41,42,43,44,45,46,47,48,49,50,51,52,53,54,55] [1,7,8,10,14,19,35] (by kernel_rfl) (by subst_vars; kernel_rfl) (by kernel_rfl) ⟨QF_at (i:=1) (d:=18) (x:=.lf (.v (.bool true))) (show OpAt _ _ _ 1 18 _ from by exact At_bin (d:=18) (b:=.gtr) (u:=.int .i64 x2) (v:=.int .i64 (0 : Int)) (w':=.bool true) (by subst_vars; kernel_rfl) (by rw [show exBin .gtr (.int .i64 x2) (.int .i64 (0 : Int)) = some (.bool (decide (x2 > (0 : Int)))) from by kernel_rfl,← e_b7])) (by kernel_rfl) (by subst_vars; kernel_rfl),⟨QF_at (i:=7) (d:=24) (x:=.lf (.ep (.slice Au2 (List.length u2) cu2) 1 ((x8).toNat) 0)) (show OpAt _ _ _ 7 24 _ from by exact At_idxI (d:=24) (z:=x8) (by subst_vars; kernel_rfl) g9 hu2) (by kernel_rfl) (by subst_vars; kernel_rfl),⟨QF_at (i:=8) (d:=25) (x:=.lf (.v (.int .i64 x10))) (show OpAt _ _ _ 8 25 _ from by rw [e_x10]; exact At_ldI (d:=25) (q:=(x8).toNat) (by subst_vars; kernel_rfl) (toNat_lt g9) hu2) (by kernel_rfl) (by subst_vars; kernel_rfl),⟨QF_at (i:=10) (d:=27) (x:=.agg [.arr .i64 2 v12]) (show OpAt _ _ _ 10 27 _ from by exact At_call (d:=27) (f:=16) (args:=[rval (.agg [.one (.v (.slice Au0_0 (List.length u0_0) cu0_0)),.arr .i64 4 u0_1]),rval (.lf (.v (.int .i64 x11)))]) (x:=.agg [.arr .i64 2 v12]) (by subst_vars; kernel_rfl) (w16 k hu0_0 hu0_1 c_v12)) (by kernel_rfl) (by subst_vars; kernel_rfl),⟨QF_at (i:=14) (d:=31) (x:=.lf (.v (.bool false))) (show OpAt _ _ _ 14 31 _ from by exact At_bin (d:=31) (b:=.geq) (u:=.int .i64 x14) (v:=.int .i64 x15) (w':=.bool false) (by subst_vars; kernel_rfl) (by rw [show exBin .geq (.int .i64 x14) (.int .i64 x15) = some (.bool (decide (x14 ≥ x15))) from by kernel_rfl,← e_b16])) (by kernel_rfl) (by subst_vars; kernel_rfl),⟨QF_at (i:=19) (d:=36) (x:=.lf (.v (.bool false))) (show OpAt _ _ _ 19 36 _ from by exact At_bin (d:=36) (b:=.lss) (u:=.int .i64 x2) (v:=.int .i64 (List.length u2 : Int)) (w':=.bool false) (by subst_vars; kernel_rfl) (by rw [show exBin .lss (.int .i64 x2) (.int .i64 (List.length u2 : Int)) = some (.bool (decide (x2 < (List.length u2 : Int)))) from by kernel_rfl,← e_b17])) (by kernel_rfl) (by subst_vars; kernel_rfl),⟨QF_at (i:=35) (d:=52) (x:=.lf (.v (.bool false))) (show OpAt _ _ _ 35 52 _ from by exact At_bin (d:=52) (b:=.gtr) (u:=.int .i64 x2) (v:=.int .i64 (0 : Int)) (w':=.bool false) (by subst_vars; kernel_rfl) (by rw [show exBin .gtr (.int .i64 x2) (.int .i64 (0 : Int)) = some (.bool (decide (x2 > (0 : Int)))) from by kernel_rfl,← e_b34])) (by kernel_rfl) (by subst_vars; kernel_rfl),trivial⟩⟩⟩⟩⟩⟩⟩) ?_
         refine thenQ_n ?_
         exact ⟨false,keep_sub (ts:=[2,3,4,7,8,9]) (hs:=[3,4]) (vs:=[]) (by subst_vars;kernel_rfl),h⟩
     | false =>
      replace h := sp_f h
      obtain ⟨b43,e_b43,h⟩ := lt_some h
      cases b43 with
      | true =>
       replace h := sp_t h
       obtain ⟨g44,h⟩ := gd_some h
       obtain ⟨x45,e_x45,h⟩ := lt_some h
       obtain ⟨v46,c_v46,h⟩ := cl_some h
       obtain ⟨g47,h⟩ := gd_some h
       obtain ⟨x48,e_x48,h⟩ := lt_some h
       obtain ⟨x49,e_x49,h⟩ := lt_some h
       obtain ⟨b50,e_b50,h⟩ := lt_some h
       cases b50 with
       | true =>
        replace h := sp_t h
        refine T_draw' (id:=5) [] [0,0,0,0,0,0,0,0,0,0,0,0,0,0,0,0,0,0,0,0,0,0,0,0,0,0,0,0,0,0,0,0,0,0,0,0,0,0,0,0,0,0,0,0,0,0,0,0,0,0,0,0,0,0,0,0] (by kernel_rfl) (by kernel_rfl) (by kernel_rfl) (by kernel_rfl) ((17,.lf (.v (.int .i64 x2)))::(18,.lf (.v (.bool false)))::(19,.lf (.v (.bool false)))::(20,.tup [])::(21,.tup [])::(22,.tup [])::(23,.tup [])::(24,.tup [])::(25,.tup [])::(26,.tup [])::(27,.tup [])::(28,.tup [])::(29,.tup [])::(30,.tup [])::(31,.tup [])::(32,.lf (.v (.bool false)))::(33,.lf (.v (.bool false)))::(34,.lf (.v (.int .i64 x2)))::(35,.lf (.v (.int .i64 (List.length u2 : Int))))::(36,.lf (.v (.bool true)))::(37,.lf (.v (.bool true)))::(38,.agg [.one (.v (.slice Au0_0 (List.length u0_0) cu0_0)),.arr .i64 4 u0_1])::(39,.lf (.v (.slice Au2 (List.length u2) cu2)))::(40,.lf (.v (.int .i64 x2)))::(41,.lf (.ep (.slice Au2 (List.length u2) cu2) 1 ((x2).toNat) 0))::(42,.lf (.v (.int .i64 x45)))::(43,.agg [.arr .i64 2 v46])::(44,.lf (.v (.int .i64 x48)))::(45,.lf (.own 4 1))::(46,.lf (.v (.int .i64 x49)))::(47,.lf (.v (.bool true)))::(48,.lf (.v (.bool true)))::(49,.lf (.v (.bool true)))::(50,.lf (.v (.bool true)))::(51,.tup [])::(52,.tup [])::(53,.tup [])::(54,.tup [])::(55,.tup [])::(56,.tup [])::(57,.tup [])::(58,.tup [])::(59,.tup [])::(60,.tup [])::(61,.tup [])::(62,.tup [])::(63,.tup [])::(64,.tup [])::(65,.tup [])::(66,.tup [])::(67,.tup [])::(68,.tup [])::(69,.tup [])::(70,.tup [])::(71,.lf (.v (.bool true)))::(9,.lf (.v (.bool true)))::[]) (by kernel_rfl) ⟨trivial,⟨trivial,⟨trivial,⟨(by intro y hy;cases hy),⟨(by intro y hy;cases hy),⟨(by intro y hy;cases hy),⟨(by intro y hy;cases hy),⟨(by intro y hy;cases hy),⟨(by intro y hy;cases hy),⟨(by intro y hy;cases hy),⟨(by intro y hy;cases hy),⟨(by intro y hy;cases hy),⟨(by intro y hy;cases hy),⟨(by intro y hy;cases hy),⟨(by intro y hy;cases hy),⟨trivial,⟨trivial,⟨trivial,⟨trivial,⟨trivial,⟨trivial,⟨⟨rfl,⟨hu0_1,trivial⟩⟩,⟨trivial,⟨trivial,⟨trivial,⟨trivial,⟨⟨g47,trivial⟩,⟨trivial,⟨trivial,⟨trivial,⟨trivial,⟨trivial,⟨trivial,⟨trivial,⟨(by intro y hy;cases hy),⟨(by intro y hy;cases hy),⟨(by intro y hy;cases hy),⟨(by intro y hy;cases hy),⟨(by intro y hy;cases hy),⟨(by intro y hy;cases hy),⟨(by intro y hy;cases hy),⟨(by intro y hy;cases hy),⟨(by intro y hy;cases hy),⟨(by intro y hy;cases hy),⟨(by intro y hy;cases hy),⟨(by intro y hy;cases hy),⟨(by intro y hy;cases hy),⟨(by intro y hy;cases hy),⟨(by intro y hy;cases hy),⟨(by intro y hy;cases hy),⟨(by intro y hy;cases hy),⟨(by intro y hy;cases hy),⟨(by intro y hy;cases hy),⟨(by intro y hy;cases hy),⟨trivial,⟨trivial,trivial⟩⟩⟩⟩⟩⟩⟩⟩⟩⟩⟩⟩⟩⟩⟩⟩⟩⟩⟩⟩⟩⟩⟩⟩⟩⟩⟩⟩⟩⟩⟩⟩⟩⟩⟩⟩⟩⟩⟩⟩⟩⟩⟩⟩⟩⟩⟩⟩⟩⟩⟩⟩⟩⟩⟩⟩ ?_
        refine Stage_nil (stage_all' [0,2,3,4,5,6,7,8,9,10,11,12,13,14,15,16,17,18,20,21,22,23,27,28,29,31,32,33,34,35,36,37,38,39,40,41,42,43,44,45,46,47,48,49,50,51,52,53,54,55] [1,19,24,25,26,30] (by kernel_rfl) (by subst_vars; kernel_rfl) (by kernel_rfl) ⟨QF_at (i:=1) (d:=18) (x:=.lf (.v (.bool false))) (show OpAt _ _ _ 1 18 _ from by exact At_bin (d:=18) (b:=.gtr) (u:=.int .i64 x2) (v:=.int .i64 (0 : Int)) (w':=.bool false) (by subst_vars; kernel_rfl) (by rw [show exBin .gtr (.int .i64 x2) (.int .i64 (0 : Int)) = some (.bool (decide (x2 > (0 : Int)))) from by kernel_rfl,← e_b7])) (by kernel_rfl) (by subst_vars; kernel_rfl),⟨QF_at (i:=19) (d:=36) (x:=.lf (.v (.bool true))) (show OpAt _ _ _ 19 36 _ from by exact At_bin (d:=36) (b:=.lss) (u:=.int .i64 x2) (v:=.int .i64 (List.length u2 : Int)) (w':=.bool true) (by subst_vars; kernel_rfl) (by rw [show exBin .lss (.int .i64 x2) (.int .i64 (List.length u2 : Int)) = some (.bool (decide (x2 < (List.length u2 : Int)))) from by kernel_rfl,← e_b43])) (by kernel_rfl) (by subst_vars; kernel_rfl),⟨QF_at (i:=24) (d:=41) (x:=.lf (.ep (.slice Au2 (List.length u2) cu2) 1 ((x2).toNat) 0)) (show OpAt _ _ _ 24 41 _ from by exact At_idxI (d:=41) (z:=x2) (by subst_vars; kernel_rfl) g44 hu2) (by kernel_rfl) (by subst_vars; kernel_rfl),⟨QF_at (i:=25) (d:=42) (x:=.lf (.v (.int .i64 x45))) (show OpAt _ _ _ 25 42 _ from by rw [e_x45]; exact At_ldI (d:=42) (q:=(x2).toNat) (by subst_vars; kernel_rfl) (toNat_lt g44) hu2) (by kernel_rfl) (by subst_vars; kernel_rfl),⟨QF_at (i:=26) (d:=43) (x:=.agg [.arr .i64 2 v46]) (show OpAt _ _ _ 26 43 _ from by exact At_call (d:=43) (f:=16) (args:=[rval (.agg [.one (.v (.slice Au0_0 (List.length u0_0) cu0_0)),.arr .i64 4 u0_1]),rval (.lf (.v (.int .i64 x45)))]) (x:=.agg [.arr .i64 2 v46]) (by subst_vars; kernel_rfl) (w16 k hu0_0 hu0_1 c_v46)) (by kernel_rfl) (by subst_vars; kernel_rfl),⟨QF_at (i:=30) (d:=47) (x:=.lf (.v (.bool true))) (show OpAt _ _ _ 30 47 _ from by exact At_bin (d:=47) (b:=.leq) (u:=.int .i64 x48) (v:=.int .i64 x49) (w':=.bool true) (by subst_vars; kernel_rfl) (by rw [show exBin .leq (.int .i64 x48) (.int .i64 x49) = some (.bool (decide (x48 ≤ x49))) from by kernel_rfl,← e_b50])) (by kernel_rfl) (by subst_vars; kernel_rfl),trivial⟩⟩⟩⟩⟩⟩) ?_
        refine thenQ_n ?_
        exact ⟨true,keep_sub (ts:=[2,3,4,7,8,9]) (hs:=[3,4]) (vs:=[]) (by subst_vars;kernel_rfl),h⟩
       | false =>
        replace h := sp_f h
        obtain ⟨b51,e_b51,h⟩ := lt_some h
        cases b51 with
        | true =>
         replace h := sp_t h
         obtain ⟨b52,e_b52,h⟩ := lt_some h
         cases b52 with
         | true =>
          replace h := sp_t h
          obtain ⟨g53,h⟩ := gd_some h
          obtain ⟨x54,e_x54,h⟩ := lt_some h
          obtain ⟨x55,e_x55,h⟩ := lt_some h
          obtain ⟨g56,h⟩ := gd_some h
          obtain ⟨x57,e_x57,h⟩ := lt_some h
          obtain ⟨x58,e_x58,h⟩ := lt_some h
          obtain ⟨b59,e_b59,h⟩ := lt_some h
          refine T_draw' (id:=5) [] [0,0,0,0,0,0,0,0,0,0,0,0,0,0,0,0,0,0,0,0,0,0,0,0,0,0,0,0,0,0,0,0,0,0,0,0,0,0,0,0,0,0,0,0,0,0,0,0,0,0,0,0,0,0,0,0] (by kernel_rfl) (by kernel_rfl) (by kernel_rfl) (by kernel_rfl) ((17,.lf (.v (.int .i64 x2)))::(18,.lf (.v (.bool false)))::(19,.lf (.v (.bool false)))::(20,.tup [])::(21,.tup [])::(22,.tup [])::(23,.tup [])::(24,.tup [])::(25,.tup [])::(26,.tup [])::(27,.tup [])::(28,.tup [])::(29,.tup [])::(30,.tup [])::(31,.tup [])::(32,.lf (.v (.bool false)))::(33,.lf (.v (.bool false)))::(34,.lf (.v (.int .i64 x2)))::(35,.lf (.v (.int .i64 (List.length u2 : Int))))::(36,.lf (.v (.bool true)))::(37,.lf (.v (.bool true)))::(38,.agg [.one (.v (.slice Au0_0 (List.length u0_0) cu0_0)),.arr .i64 4 u0_1])::(39,.lf (.v (.slice Au2 (List.length u2) cu2)))::(40,.lf (.v (.int .i64 x2)))::(41,.lf (.ep (.slice Au2 (List.length u2) cu2) 1 ((x2).toNat) 0))::(42,.lf (.v (.int .i64 x45)))::(43,.agg [.arr .i64 2 v46])::(44,.lf (.v (.int .i64 x48)))::(45,.lf (.own 4 1))::(46,.lf (.v (.int .i64 x49)))::(47,.lf (.v (.bool false)))::(48,.lf (.v (.bool false)))::(49,.lf (.v (.bool false)))::(50,.lf (.v (.bool false)))::(51,.lf (.v (.int .i64 x2)))::(52,.lf (.v (.bool true)))::(53,.lf (.v (.bool true)))::(54,.lf (.v (.int .i64 x2)))::(55,.lf (.v (.int .i64 (List.length u2 : Int))))::(56,.lf (.v (.bool true)))::(57,.lf (.v (.bool true)))::(58,.lf (.v (.bool true)))::(59,.lf (.v (.slice Au2 (List.length u2) cu2)))::(60,.lf (.v (.int .i64 x2)))::(61,.lf (.ep (.slice Au2 (List.length u2) cu2) 1 ((x2).toNat) 0))::(62,.lf (.v (.int .i64 x54)))::(63,.lf (.v (.slice Au2 (List.length u2) cu2)))::(64,.lf (.v (.int .i64 x2)))::(65,.lf (.v (.int .i64 x55)))::(66,.lf (.ep (.slice Au2 (List.length u2) cu2) 1 ((x55).toNat) 0))::(67,.lf (.v (.int .i64 x57)))::(68,.lf (.v (.int .i64 x58)))::(69,.lf (.v (.bool b59)))::(70,.lf (.v (.bool b59)))::(71,.lf (.v (.bool b59)))::(9,.lf (.v (.bool b59)))::[]) (by kernel_rfl) ⟨trivial,⟨trivial,⟨trivial,⟨(by intro y hy;cases hy),⟨(by intro y hy;cases hy),⟨(by intro y hy;cases hy),⟨(by intro y hy;cases hy),⟨(by intro y hy;cases hy),⟨(by intro y hy;cases hy),⟨(by intro y hy;cases hy),⟨(by intro y hy;cases hy),⟨(by intro y hy;cases hy),⟨(by intro y hy;cases hy),⟨(by intro y hy;cases hy),⟨(by intro y hy;cases hy),⟨trivial,⟨trivial,⟨trivial,⟨trivial,⟨trivial,⟨trivial,⟨⟨rfl,⟨hu0_1,trivial⟩⟩,⟨trivial,⟨trivial,⟨trivial,⟨trivial,⟨⟨g47,trivial⟩,⟨trivial,⟨trivial,⟨trivial,⟨trivial,⟨trivial,⟨trivial,⟨trivial,⟨trivial,⟨trivial,⟨trivial,⟨trivial,⟨trivial,⟨trivial,⟨trivial,⟨trivial,⟨trivial,⟨trivial,⟨trivial,⟨trivial,⟨trivial,⟨trivial,⟨trivial,⟨trivial,⟨trivial,⟨trivial,⟨trivial,⟨trivial,⟨trivial,⟨trivial,trivial⟩⟩⟩⟩⟩⟩⟩⟩⟩⟩⟩⟩⟩⟩⟩⟩⟩⟩⟩⟩⟩⟩⟩⟩⟩⟩⟩⟩⟩⟩⟩⟩⟩⟩⟩⟩⟩⟩⟩⟩⟩⟩⟩⟩⟩⟩⟩⟩⟩⟩⟩⟩⟩⟩⟩⟩ ?_
          refine Stage_nil (stage_all' [0,2,3,4,5,6,7,8,9,10,11,12,13,14,15,16,17,18,20,21,22,23,27,28,29,31,32,33,34,36,37,38,40,41,42,43,46,47,48,51,52,53,54,55] [1,19,24,25,26,30,35,39,44,45,49,50] (by kernel_rfl) (by subst_vars; kernel_rfl) (by kernel_rfl) ⟨QF_at (i:=1) (d:=18) (x:=.lf (.v (.bool false))) (show OpAt _ _ _ 1 18 _ from by exact At_bin (d:=18) (b:=.gtr) (u:=.int .i64 x2) (v:=.int .i64 (0 : Int)) (w':=.bool false) (by subst_vars; kernel_rfl) (by rw [show exBin .gtr (.int .i64 x2) (.int .i64 (0 : Int)) = some (.bool (decide (x2 > (0 : Int)))) from by kernel_rfl,← e_b7])) (by kernel_rfl) (by subst_vars; kernel_rfl),⟨QF_at (i:=19) (d:=36) (x:=.lf (.v (.bool true))) (show OpAt _ _ _ 19 36 _ from by exact At_bin (d:=36) (b:=.lss) (u:=.int .i64 x2) (v:=.int .i64 (List.length u2 : Int)) (w':=.bool true) (by subst_vars; kernel_rfl) (by rw [show exBin .lss (.int .i64 x2) (.int .i64 (List.length u2 : Int)) = some (.bool (decide (x2 < (List.length u2 : Int)))) from by kernel_rfl,← e_b43])) (by kernel_rfl) (by subst_vars; kernel_rfl),⟨QF_at (i:=24) (d:=41) (x:=.lf (.ep (.slice Au2 (List.length u2) cu2) 1 ((x2).toNat) 0)) (show OpAt _ _ _ 24 41 _ from by exact At_idxI (d:=41) (z:=x2) (by subst_vars; kernel_rfl) g44 hu2) (by kernel_rfl) (by subst_vars; kernel_rfl),⟨QF_at (i:=25) (d:=42) (x:=.lf (.v (.int .i64 x45))) (show OpAt _ _ _ 25 42 _ from by rw [e_x45]; exact At_ldI (d:=42) (q:=(x2).toNat) (by subst_vars; kernel_rfl) (toNat_lt g44) hu2) (by kernel_rfl) (by subst_vars; kernel_rfl),⟨QF_at (i:=26) (d:=43) (x:=.agg [.arr .i64 2 v46]) (show OpAt _ _ _ 26 43 _ from by exact At_call (d:=43) (f:=16) (args:=[rval (.agg [.one (.v (.slice Au0_0 (List.length u0_0) cu0_0)),.arr .i64 4 u0_1]),rval (.lf (.v (.int .i64 x45)))]) (x:=.agg [.arr .i64 2 v46]) (by subst_vars; kernel_rfl) (w16 k hu0_0 hu0_1 c_v46)) (by kernel_rfl) (by subst_vars; kernel_rfl),⟨QF_at (i:=30) (d:=47) (x:=.lf (.v (.bool false))) (show OpAt _ _ _ 30 47 _ from by exact At_bin (d:=47) (b:=.leq) (u:=.int .i64 x48) (v:=.int .i64 x49) (w':=.bool false) (by subst_vars; kernel_rfl) (by rw [show exBin .leq (.int .i64 x48) (.int .i64 x49) = some (.bool (decide (x48 ≤ x49))) from by kernel_rfl,← e_b50])) (by kernel_rfl) (by subst_vars; kernel_rfl),⟨QF_at (i:=35) (d:=52) (x:=.lf (.v (.bool true))) (show OpAt _ _ _ 35 52 _ from by exact At_bin (d:=52) (b:=.gtr) (u:=.int .i64 x2) (v:=.int .i64 (0 : Int)) (w':=.bool true) (by subst_vars; kernel_rfl) (by rw [show exBin .gtr (.int .i64 x2) (.int .i64 (0 : Int)) = some (.bool (decide (x2 > (0 : Int)))) from by kernel_rfl,← e_b51])) (by kernel_rfl) (by subst_vars; kernel_rfl),⟨QF_at (i:=39) (d:=56) (x:=.lf (.v (.bool true))) (show OpAt _ _ _ 39 56 _ from by exact At_bin (d:=56) (b:=.lss) (u:=.int .i64 x2) (v:=.int .i64 (List.length u2 : Int)) (w':=.bool true) (by subst_vars; kernel_rfl) (by rw [show exBin .lss (.int .i64 x2) (.int .i64 (List.length u2 : Int)) = some (.bool (decide (x2 < (List.length u2 : Int)))) from by kernel_rfl,← e_b52])) (by kernel_rfl) (by subst_vars; kernel_rfl),⟨QF_at (i:=44) (d:=61) (x:=.lf (.ep (.slice Au2 (List.length u2) cu2) 1 ((x2).toNat) 0)) (show OpAt _ _ _ 44 61 _ from by exact At_idxI (d:=61) (z:=x2) (by subst_vars; kernel_rfl) g53 hu2) (by kernel_rfl) (by subst_vars; kernel_rfl),⟨QF_at (i:=45) (d:=62) (x:=.lf (.v (.int .i64 x54))) (show OpAt _ _ _ 45 62 _ from by rw [e_x54]; exact At_ldI (d:=62) (q:=(x2).toNat) (by subst_vars; kernel_rfl) (toNat_lt g53) hu2) (by kernel_rfl) (by subst_vars; kernel_rfl),⟨QF_at (i:=49) (d:=66) (x:=.lf (.ep (.slice Au2 (List.length u2) cu2) 1 ((x55).toNat) 0)) (show OpAt _ _ _ 49 66 _ from by exact At_idxI (d:=66) (z:=x55) (by subst_vars; kernel_rfl) g56 hu2) (by kernel_rfl) (by subst_vars; kernel_rfl),⟨QF_at (i:=50) (d:=67) (x:=.lf (.v (.int .i64 x57))) (show OpAt _ _ _ 50 67 _ from by rw [e_x57]; exact At_ldI (d:=67) (q:=(x55).toNat) (by subst_vars; kernel_rfl) (toNat_lt g56) hu2) (by kernel_rfl) (by subst_vars; kernel_rfl),trivial⟩⟩⟩⟩⟩⟩⟩⟩⟩⟩⟩⟩) ?_
          refine thenQ_n ?_
          exact ⟨b59,keep_sub (ts:=[2,3,4,7,8,9]) (hs:=[3,4]) (vs:=[]) (by subst_vars;kernel_rfl),h⟩
         | false =>
          replace h := sp_f h
          refine T_draw' (id:=5) [] [0,0,0,0,0,0,0,0,0,0,0,0,0,0,0,0,0,0,0,0,0,0,0,0,0,0,0,0,0,0,0,0,0,0,0,0,0,0,0,0,0,0,0,0,0,0,0,0,0,0,0,0,0,0,0,0] (by kernel_rfl) (by kernel_rfl) (by kernel_rfl) (by kernel_rfl) ((17,.lf (.v (.int .i64 x2)))::(18,.lf (.v (.bool false)))::(19,.lf (.v (.bool false)))::(20,.tup [])::(21,.tup [])::(22,.tup [])::(23,.tup [])::(24,.tup [])::(25,.tup [])::(26,.tup [])::(27,.tup [])::(28,.tup [])::(29,.tup [])::(30,.tup [])::(31,.tup [])::(32,.lf (.v (.bool false)))::(33,.lf (.v (.bool false)))::(34,.lf (.v (.int .i64 x2)))::(35,.lf (.v (.int .i64 (List.length u2 : Int))))::(36,.lf (.v (.bool true)))::(37,.lf (.v (.bool true)))::(38,.agg [.one (.v (.slice Au0_0 (List.length u0_0) cu0_0)),.arr .i64 4 u0_1])::(39,.lf (.v (.slice Au2 (List.length u2) cu2)))::(40,.lf (.v (.int .i64 x2)))::(41,.lf (.ep (.slice Au2 (List.length u2) cu2) 1 ((x2).toNat) 0))::(42,.lf (.v (.int .i64 x45)))::(43,.agg [.arr .i64 2 v46])::(44,.lf (.v (.int .i64 x48)))::(45,.lf (.own 4 1))::(46,.lf (.v (.int .i64 x49)))::(47,.lf (.v (.bool false)))::(48,.lf (.v (.bool false)))::(49,.lf (.v (.bool false)))::(50,.lf (.v (.bool false)))::(51,.lf (.v (.int .i64 x2)))::(52,.lf (.v (.bool true)))::(53,.lf (.v (.bool true)))::(54,.lf (.v (.int .i64 x2)))::(55,.lf (.v (.int .i64 (List.length u2 : Int))))::(56,.lf (.v (.bool false)))::(57,.lf (.v (.bool false)))::(58,.lf (.v (.bool false)))::(59,.tup [])::(60,.tup [])::(61,.tup [])::(62,.tup [])::(63,.tup [])::(64,.tup [])::(65,.tup [])::(66,.tup [])::(67,.tup [])::(68,.tup [])::(69,.tup [])::(70,.lf (.v (.bool false)))::(71,.lf (.v (.bool false)))::(9,.lf (.v (.bool false)))::[]) (by kernel_rfl) ⟨trivial,⟨trivial,⟨trivial,⟨(by intro y hy;cases hy),⟨(by intro y hy;cases hy),⟨(by intro y hy;cases hy),⟨(by intro y hy;cases hy),⟨(by intro y hy;cases hy),⟨(by intro y hy;cases hy),⟨(by intro y hy;cases hy),⟨(by intro y hy;cases hy),⟨(by intro y hy;cases hy),⟨(by intro y hy;cases hy),⟨(by intro y hy;cases hy),⟨(by intro y hy;cases hy),⟨trivial,⟨trivial,⟨trivial,⟨trivial,⟨trivial,⟨trivial,⟨⟨rfl,⟨hu0_1,trivial⟩⟩,⟨trivial,⟨trivial,⟨trivial,⟨trivial,⟨⟨g47,trivial⟩,⟨trivial,⟨trivial,⟨trivial,⟨trivial,⟨trivial,⟨trivial,⟨trivial,⟨trivial,⟨trivial,⟨trivial,⟨trivial,⟨trivial,⟨trivial,⟨trivial,⟨trivial,⟨(by intro y hy;cases hy),⟨(by intro y hy;cases hy),⟨(by intro y hy;cases hy),⟨(by intro y hy;cases hy),⟨(by intro y hy;cases hy),⟨(by intro y hy;cases hy),⟨(by intro y hy;cases hy),⟨(by intro y hy;cases hy),⟨(by intro y hy;cases hy),⟨(by intro y hy;cases hy),⟨(by intro y hy;cases hy),⟨trivial,⟨trivial,⟨trivial,trivial⟩⟩⟩⟩⟩⟩⟩⟩⟩⟩⟩⟩⟩⟩⟩⟩⟩⟩⟩⟩⟩⟩⟩⟩⟩⟩⟩⟩⟩⟩⟩⟩⟩⟩⟩⟩⟩⟩⟩⟩⟩⟩⟩⟩⟩⟩⟩⟩⟩⟩⟩⟩⟩⟩⟩⟩ ?_
          refine Stage_nil (stage_all' [0,2,3,4,5,6,7,8,9,10,11,12,13,14,15,16,17,18,20,21,22,23,27,28,29,31,32,33,34,36,37,38,40,41,42,43,44,45,46,47,48,49,50,51,52,53,54,55] [1,19,24,25,26,30,35,39] (by kernel_rfl) (by subst_vars; kernel_rfl) (by kernel_rfl) ⟨QF_at (i:=1) (d:=18) (x:=.lf (.v (.bool false))) (show OpAt _ _ _ 1 18 _ from by exact At_bin (d:=18) (b:=.gtr) (u:=.int .i64 x2) (v:=.int .i64 (0 : Int)) (w':=.bool false) (by subst_vars; kernel_rfl) (by rw [show exBin .gtr (.int .i64 x2) (.int .i64 (0 : Int)) = some (.bool (decide (x2 > (0 : Int)))) from by kernel_rfl,← e_b7])) (by kernel_rfl) (by subst_vars; kernel_rfl),⟨QF_at (i:=19) (d:=36) (x:=.lf (.v (.bool true))) (show OpAt _ _ _ 19 36 _ from by exact At_bin (d:=36) (b:=.lss) (u:=.int .i64 x2) (v:=.int .i64 (List.length u2 : Int)) (w':=.bool true) (by subst_vars; kernel_rfl) (by rw [show exBin .lss (.int .i64 x2) (.int .i64 (List.length u2 : Int)) = some (.bool (decide (x2 < (List.length u2 : Int)))) from by kernel_rfl,← e_b43])) (by kernel_rfl) (by subst_vars; kernel_rfl),⟨QF_at (i:=24) (d:=41) (x:=.lf (.ep (.slice Au2 (List.length u2) cu2) 1 ((x2).toNat) 0)) (show OpAt _ _ _ 24 41 _ from by exact At_idxI (d:=41) (z:=x2) (by subst_vars; kernel_rfl) g44 hu2) (by kernel_rfl) (by subst_vars; kernel_rfl),⟨QF_at (i:=25) (d:=42) (x:=.lf (.v (.int .i64 x45))) (show OpAt _ _ _ 25 42 _ from by rw [e_x45]; exact At_ldI (d:=42) (q:=(x2).toNat) (by subst_vars; kernel_rfl) (toNat_lt g44) hu2) (by kernel_rfl) (by subst_vars; kernel_rfl),⟨QF_at (i:=26) (d:=43) (x:=.agg [.arr .i64 2 v46]) (show OpAt _ _ _ 26 43 _ from by exact At_call (d:=43) (f:=16) (args:=[rval (.agg [.one (.v (.slice Au0_0 (List.length u0_0) cu0_0)),.arr .i64 4 u0_1]),rval (.lf (.v (.int .i64 x45)))]) (x:=.agg [.arr .i64 2 v46]) (by subst_vars; kernel_rfl) (w16 k hu0_0 hu0_1 c_v46)) (by kernel_rfl) (by subst_vars; kernel_rfl),⟨QF_at (i:=30) (d:=47) (x:=.lf (.v (.bool false))) (show OpAt _ _ _ 30 47 _ from by exact At_bin (d:=47) (b:=.leq) (u:=.int .i64 x48) (v:=.int .i64 x49) (w':=.bool false) (by subst_vars; kernel_rfl) (by rw [show exBin .leq (.int .i64 x48) (.int .i64 x49) = some (.bool (decide (x48 ≤ x49))) from by kernel_rfl,← e_b50])) (by kernel_rfl) (by subst_vars; kernel_rfl),⟨QF_at (i:=35) (d:=52) (x:=.lf (.v (.bool true))) (show OpAt _ _ _ 35 52 _ from by exact At_bin (d:=52) (b:=.gtr) (u:=.int .i64 x2) (v:=.int .i64 (0 : Int)) (w':=.bool true) (by subst_vars; kernel_rfl) (by rw [show exBin .gtr (.int .i64 x2) (.int .i64 (0 : Int)) = some (.bool (decide (x2 > (0 : Int)))) from by kernel_rfl,← e_b51])) (by kernel_rfl) (by subst_vars; kernel_rfl),⟨QF_at (i:=39) (d:=56) (x:=.lf (.v (.bool false))) (show OpAt _ _ _ 39 56 _ from by exact At_bin (d:=56) (b:=.lss) (u:=.int .i64 x2) (v:=.int .i64 (List.length u2 : Int)) (w':=.bool false) (by subst_vars; kernel_rfl) (by rw [show exBin .lss (.int .i64 x2) (.int .i64 (List.length u2 : Int)) = some (.bool (decide (x2 < (List.length u2 : Int)))) from by kernel_rfl,← e_b52])) (by kernel_rfl) (by subst_vars; kernel_rfl),trivial⟩⟩⟩⟩⟩⟩⟩⟩) ?_
          refine thenQ_n ?_
          exact ⟨false,keep_sub (ts:=[2,3,4,7,8,9]) (hs:=[3,4]) (vs:=[]) (by subst_vars;kernel_rfl),h⟩
        | false =>
         replace h := sp_f h
         refine T_draw' (id:=5) [] [0,0,0,0,0,0,0,0,0,0,0,0,0,0,0,0,0,0,0,0,0,0,0,0,0,0,0,0,0,0,0,0,0,0,0,0,0,0,0,0,0,0,0,0,0,0,0,0,0,0,0,0,0,0,0,0] (by kernel_rfl) (by kernel_rfl) (by kernel_rfl) (by kernel_rfl) ((17,.lf (.v (.int .i64 x2)))::(18,.lf (.v (.bool false)))::(19,.lf (.v (.bool false)))::(20,.tup [])::(21,.tup [])::(22,.tup [])::(23,.tup [])::(24,.tup [])::(25,.tup [])::(26,.tup [])::(27,.tup [])::(28,.tup [])::(29,.tup [])::(30,.tup [])::(31,.tup [])::(32,.lf (.v (.bool false)))::(33,.lf (.v (.bool false)))::(34,.lf (.v (.int .i64 x2)))::(35,.lf (.v (.int .i64 (List.length u2 : Int))))::(36,.lf (.v (.bool true)))::(37,.lf (.v (.bool true)))::(38,.agg [.one (.v (.slice Au0_0 (List.length u0_0) cu0_0)),.arr .i64 4 u0_1])::(39,.lf (.v (.slice Au2 (List.length u2) cu2)))::(40,.lf (.v (.int .i64 x2)))::(41,.lf (.ep (.slice Au2 (List.length u2) cu2) 1 ((x2).toNat) 0))::(42,.lf (.v (.int .i64 x45)))::(43,.agg [.arr .i64 2 v46])::(44,.lf (.v (.int .i64 x48)))::(45,.lf (.own 4 1))::(46,.lf (.v (.int .i64 x49)))::(47,.lf (.v (.bool false)))::(48,.lf (.v (.bool false)))::(49,.lf (.v (.bool false)))::(50,.lf (.v (.bool false)))::(51,.lf (.v (.int .i64 x2)))::(52,.lf (.v (.bool false)))::(53,.lf (.v (.bool false)))::(54,.tup [])::(55,.tup [])::(56,.tup [])::(57,.lf (.v (.bool false)))::(58,.lf (.v (.bool false)))::(59,.tup [])::(60,.tup [])::(61,.tup [])::(62,.tup [])::(63,.tup [])::(64,.tup [])::(65,.tup [])::(66,.tup [])::(67,.tup [])::(68,.tup [])::(69,.tup [])::(70,.lf (.v (.bool false)))::(71,.lf (.v (.bool false)))::(9,.lf (.v (.bool false)))::[]) (by kernel_rfl) ⟨trivial,⟨trivial,⟨trivial,⟨(by intro y hy;cases hy),⟨(by intro y hy;cases hy),⟨(by intro y hy;cases hy),⟨(by intro y hy;cases hy),⟨(by intro y hy;cases hy),⟨(by intro y hy;cases hy),⟨(by intro y hy;cases hy),⟨(by intro y hy;cases hy),⟨(by intro y hy;cases hy),⟨(by intro y hy;cases hy),⟨(by intro y hy;cases hy),⟨(by intro y hy;cases hy),⟨trivial,⟨trivial,⟨trivial,⟨trivial,⟨trivial,⟨trivial,⟨⟨rfl,⟨hu0_1,trivial⟩⟩,⟨trivial,⟨trivial,⟨trivial,⟨trivial,⟨⟨g47,trivial⟩,⟨trivial,⟨trivial,⟨trivial,⟨trivial,⟨trivial,⟨trivial,⟨trivial,⟨trivial,⟨trivial,⟨trivial,⟨(by intro y hy;cases hy),⟨(by intro y hy;cases hy),⟨(by intro y hy;cases hy),⟨trivial,⟨trivial,⟨(by intro y hy;cases hy),⟨(by intro y hy;cases hy),⟨(by intro y hy;cases hy),⟨(by intro y hy;cases hy),⟨(by intro y hy;cases hy),⟨(by intro y hy;cases hy),⟨(by intro y hy;cases hy),⟨(by intro y hy;cases hy),⟨(by intro y hy;cases hy),⟨(by intro y hy;cases hy),⟨(by intro y hy;cases hy),⟨trivial,⟨trivial,⟨trivial,trivial⟩⟩⟩⟩⟩⟩⟩⟩⟩⟩⟩⟩⟩⟩⟩⟩⟩⟩⟩⟩⟩⟩⟩⟩⟩⟩⟩⟩⟩⟩⟩⟩⟩⟩⟩⟩⟩⟩⟩⟩⟩⟩⟩⟩⟩⟩⟩⟩⟩⟩⟩⟩⟩⟩⟩⟩ ?_
         refine Stage_nil (stage_all' [0,2,3,4,5,6,7,8,9,10,11,12,13,14,15,16,17,18,20,21,22,23,27,28,29,31,32,33,34,36,37,38,39,40,41,42,43,44,45,46,47,48,49,50,51,52,53,54,55] [1,19,24,25,26,30,35] (by kernel_rfl) (by subst_vars; kernel_rfl) (by kernel_rfl) ⟨QF_at (i:=1) (d:=18) (x:=.lf (.v (.bool false))) (show OpAt _ _ _ 1 18 _ from by exact At_bin (d:=18) (b:=.gtr) (u:=.int .i64 x2) (v:=.int .i64 (0 : Int)) (w':=.bool false) (by subst_vars; kernel_rfl) (by rw [show exBin .gtr (.int .i64 x2) (.int .i64 (0 : Int)) = some (.bool (decide (x2 > (0 : Int)))) from by kernel_rfl,← e_b7])) (by kernel_rfl) (by subst_vars; kernel_rfl),⟨QF_at (i:=19) (d:=36) (x:=.lf (.v (.bool true))) (show OpAt _ _ _ 19 36 _ from by exact At_bin (d:=36) (b:=.lss) (u:=.int .i64 x2) (v:=.int .i64 (List.length u2 : Int)) (w':=.bool true) (by subst_vars; kernel_rfl) (by rw [show exBin .lss (.int .i64 x2) (.int .i64 (List.length u2 : Int)) = some (.bool (decide (x2 < (List.length u2 : Int)))) from by kernel_rfl,← e_b43])) (by kernel_rfl) (by subst_vars; kernel_rfl),⟨QF_at (i:=24) (d:=41) (x:=.lf (.ep (.slice Au2 (List.length u2) cu2) 1 ((x2).toNat) 0)) (show OpAt _ _ _ 24 41 _ from by exact At_idxI (d:=41) (z:=x2) (by subst_vars; kernel_rfl) g44 hu2) (by kernel_rfl) (by subst_vars; kernel_rfl),⟨QF_at (i:=25) (d:=42) (x:=.lf (.v (.int .i64 x45))) (show OpAt _ _ _ 25 42 _ from by rw [e_x45]; exact At_ldI (d:=42) (q:=(x2).toNat) (by subst_vars; kernel_rfl) (toNat_lt g44) hu2) (by kernel_rfl) (by subst_vars; kernel_rfl),⟨QF_at (i:=26) (d:=43) (x:=.agg [.arr .i64 2 v46]) (show OpAt _ _ _ 26 43 _ from by exact At_call (d:=43) (f:=16) (args:=[rval (.agg [.one (.v (.slice Au0_0 (List.length u0_0) cu0_0)),.arr .i64 4 u0_1]),rval (.lf (.v (.int .i64 x45)))]) (x:=.agg [.arr .i64 2 v46]) (by subst_vars; kernel_rfl) (w16 k hu0_0 hu0_1 c_v46)) (by kernel_rfl) (by subst_vars; kernel_rfl),⟨QF_at (i:=30) (d:=47) (x:=.lf (.v (.bool false))) (show OpAt _ _ _ 30 47 _ from by exact At_bin (d:=47) (b:=.leq) (u:=.int .i64 x48) (v:=.int .i64 x49) (w':=.bool false) (by subst_vars; kernel_rfl) (by rw [show exBin .leq (.int .i64 x48) (.int .i64 x49) = some (.bool (decide (x48 ≤ x49))) from by kernel_rfl,← e_b50])) (by kernel_rfl) (by subst_vars; kernel_rfl),⟨QF_at (i:=35) (d:=52) (x:=.lf (.v (.bool false))) (show OpAt _ _ _ 35 52 _ from by exact At_bin (d:=52) (b:=.gtr) (u:=.int .i64 x2) (v:=.int .i64 (0 : Int)) (w':=.bool false) (by subst_vars; kernel_rfl) (by rw [show exBin .gtr (.int .i64 x2) (.int .i64 (0 : Int)) = some (.bool (decide (x2 > (0 : Int)))) from by kernel_rfl,← e_b51])) (by kernel_rfl) (by subst_vars; kernel_rfl),trivial⟩⟩⟩⟩⟩⟩⟩) ?_
         refine thenQ_n ?_
         exact ⟨false,keep_sub (ts:=[2,3,4,7,8,9]) (hs:=[3,4]) (vs:=[]) (by subst_vars;kernel_rfl),h⟩
      | false =>
       replace h := sp_f h
       obtain ⟨b60,e_b60,h⟩ := lt_some h
       cases b60 with
       | true =>
        replace h := sp_t h
        obtain ⟨b61,e_b61,h⟩ := lt_some h
        cases b61 with
        | true =>
         replace h := sp_t h
         obtain ⟨g62,h⟩ := gd_some h
         obtain ⟨x63,e_x63,h⟩ := lt_some h
         obtain ⟨x64,e_x64,h⟩ := lt_some h
         obtain ⟨g65,h⟩ := gd_some h
         obtain ⟨x66,e_x66,h⟩ := lt_some h
         obtain ⟨x67,e_x67,h⟩ := lt_some h
         obtain ⟨b68,e_b68,h⟩ := lt_some h
         refine T_draw' (id:=5) [] [0,0,0,0,0,0,0,0,0,0,0,0,0,0,0,0,0,0,0,0,0,0,0,0,0,0,0,0,0,0,0,0,0,0,0,0,0,0,0,0,0,0,0,0,0,0,0,0,0,0,0,0,0,0,0,0] (by kernel_rfl) (by kernel_rfl) (by kernel_rfl) (by kernel_rfl) ((17,.lf (.v (.int .i64 x2)))::(18,.lf (.v (.bool false)))::(19,.lf (.v (.bool false)))::(20,.tup [])::(21,.tup [])::(22,.tup [])::(23,.tup [])::(24,.tup [])::(25,.tup [])::(26,.tup [])::(27,.tup [])::(28,.tup [])::(29,.tup [])::(30,.tup [])::(31,.tup [])::(32,.lf (.v (.bool false)))::(33,.lf (.v (.bool false)))::(34,.lf (.v (.int .i64 x2)))::(35,.lf (.v (.int .i64 (List.length u2 : Int))))::(36,.lf (.v (.bool false)))::(37,.lf (.v (.bool false)))::(38,.tup [])::(39,.tup [])::(40,.tup [])::(41,.tup [])::(42,.tup [])::(43,.tup [])::(44,.tup [])::(45,.tup [])::(46,.tup [])::(47,.tup [])::(48,.lf (.v (.bool false)))::(49,.lf (.v (.bool false)))::(50,.lf (.v (.bool false)))::(51,.lf (.v (.int .i64 x2)))::(52,.lf (.v (.bool true)))::(53,.lf (.v (.bool true)))::(54,.lf (.v (.int .i64 x2)))::(55,.lf (.v (.int .i64 (List.length u2 : Int))))::(56,.lf (.v (.bool true)))::(57,.lf (.v (.bool true)))::(58,.lf (.v (.bool true)))::(59,.lf (.v (.slice Au2 (List.length u2) cu2)))::(60,.lf (.v (.int .i64 x2)))::(61,.lf (.ep (.slice Au2 (List.length u2) cu2) 1 ((x2).toNat) 0))::(62,.lf (.v (.int .i64 x63)))::(63,.lf (.v (.slice Au2 (List.length u2) cu2)))::(64,.lf (.v (.int .i64 x2)))::(65,.lf (.v (.int .i64 x64)))::(66,.lf (.ep (.slice Au2 (List.length u2) cu2) 1 ((x64).toNat) 0))::(67,.lf (.v (.int .i64 x66)))::(68,.lf (.v (.int .i64 x67)))::(69,.lf (.v (.bool b68)))::(70,.lf (.v (.bool b68)))::(71,.lf (.v (.bool b68)))::(9,.lf (.v (.bool b68)))::[]) (by kernel_rfl) ⟨trivial,⟨trivial,⟨trivial,⟨(by intro y hy;cases hy),⟨(by intro y hy;cases hy),⟨(by intro y hy;cases hy),⟨(by intro y hy;cases hy),⟨(by intro y hy;cases hy),⟨(by intro y hy;cases hy),⟨(by intro y hy;cases hy),⟨(by intro y hy;cases hy),⟨(by intro y hy;cases hy),⟨(by intro y hy;cases hy),⟨(by intro y hy;cases hy),⟨(by intro y hy;cases hy),⟨trivial,⟨trivial,⟨trivial,⟨trivial,⟨trivial,⟨trivial,⟨(by intro y hy;cases hy),⟨(by intro y hy;cases hy),⟨(by intro y hy;cases hy),⟨(by intro y hy;cases hy),⟨(by intro y hy;cases hy),⟨(by intro y hy;cases hy),⟨(by intro y hy;cases hy),⟨(by intro y hy;cases hy),⟨(by intro y hy;cases hy),⟨(by intro y hy;cases hy),⟨trivial,⟨trivial,⟨trivial,⟨trivial,⟨trivial,⟨trivial,⟨trivial,⟨trivial,⟨trivial,⟨trivial,⟨trivial,⟨trivial,⟨trivial,⟨trivial,⟨trivial,⟨trivial,⟨trivial,⟨trivial,⟨trivial,⟨trivial,⟨trivial,⟨trivial,⟨trivial,⟨trivial,⟨trivial,trivial⟩⟩⟩⟩⟩⟩⟩⟩⟩⟩⟩⟩⟩⟩⟩⟩⟩⟩⟩⟩⟩⟩⟩⟩⟩⟩⟩⟩⟩⟩⟩⟩⟩⟩⟩⟩⟩⟩⟩⟩⟩⟩⟩⟩⟩⟩⟩⟩⟩⟩⟩⟩⟩⟩⟩⟩ ?_
         refine Stage_nil (stage_all' [0,2,3,4,5,6,7,8,9,10,11,12,13,14,15,16,17,18,20,21,22,23,24,25,26,27,28,29,30,31,32,33,34,36,37,38,40,41,42,43,46,47,48,51,52,53,54,55] [1,19,35,39,44,45,49,50] (by kernel_rfl) (by subst_vars; kernel_rfl) (by kernel_rfl) ⟨QF_at (i:=1) (d:=18) (x:=.lf (.v (.bool false))) (show OpAt _ _ _ 1 18 _ from by exact At_bin (d:=18) (b:=.gtr) (u:=.int .i64 x2) (v:=.int .i64 (0 : Int)) (w':=.bool false) (by subst_vars; kernel_rfl) (by rw [show exBin .gtr (.int .i64 x2) (.int .i64 (0 : Int)) = some (.bool (decide (x2 > (0 : Int)))) from by kernel_rfl,← e_b7])) (by kernel_rfl) (by subst_vars; kernel_rfl),⟨QF_at (i:=19) (d:=36) (x:=.lf (.v (.bool false))) (show OpAt _ _ _ 19 36 _ from by exact At_bin (d:=36) (b:=.lss) (u:=.int .i64 x2) (v:=.int .i64 (List.length u2 : Int)) (w':=.bool false) (by subst_vars; kernel_rfl) (by rw [show exBin .lss (.int .i64 x2) (.int .i64 (List.length u2 : Int)) = some (.bool (decide (x2 < (List.length u2 : Int)))) from by kernel_rfl,← e_b43])) (by kernel_rfl) (by subst_vars; kernel_rfl),⟨QF_at (i:=35) (d:=52) (x:=.lf (.v (.bool true))) (show OpAt _ _ _ 35 52 _ from by exact At_bin (d:=52) (b:=.gtr) (u:=.int .i64 x2) (v:=.int .i64 (0 : Int)) (w':=.bool true) (by subst_vars; kernel_rfl) (by rw [show exBin .gtr (.int .i64 x2) (.int .i64 (0 : Int)) = some (.bool (decide (x2 > (0 : Int)))) from by kernel_rfl,← e_b60])) (by kernel_rfl) (by subst_vars; kernel_rfl),⟨QF_at (i:=39) (d:=56) (x:=.lf (.v (.bool true))) (show OpAt _ _ _ 39 56 _ from by exact At_bin (d:=56) (b:=.lss) (u:=.int .i64 x2) (v:=.int .i64 (List.length u2 : Int)) (w':=.bool true) (by subst_vars; kernel_rfl) (by rw [show exBin .lss (.int .i64 x2) (.int .i64 (List.length u2 : Int)) = some (.bool (decide (x2 < (List.length u2 : Int)))) from by kernel_rfl,← e_b61])) (by kernel_rfl) (by subst_vars; kernel_rfl),⟨QF_at (i:=44) (d:=61) (x:=.lf (.ep (.slice Au2 (List.length u2) cu2) 1 ((x2).toNat) 0)) (show OpAt _ _ _ 44 61 _ from by exact At_idxI (d:=61) (z:=x2) (by subst_vars; kernel_rfl) g62 hu2) (by kernel_rfl) (by subst_vars; kernel_rfl),⟨QF_at (i:=45) (d:=62) (x:=.lf (.v (.int .i64 x63))) (show OpAt _ _ _ 45 62 _ from by rw [e_x63]; exact At_ldI (d:=62) (q:=(x2).toNat) (by subst_vars; kernel_rfl) (toNat_lt g62) hu2) (by kernel_rfl) (by subst_vars; kernel_rfl),⟨QF_at (i:=49) (d:=66) (x:=.lf (.ep (.slice Au2 (List.length u2) cu2) 1 ((x64).toNat) 0)) (show OpAt _ _ _ 49 66 _ from by exact At_idxI (d:=66) (z:=x64) (by subst_vars; kernel_rfl) g65 hu2) (by kernel_rfl) (by subst_vars; kernel_rfl),⟨QF_at (i:=50) (d:=67) (x:=.lf (.v (.int .i64 x66))) (show OpAt _ _ _ 50 67 _ from by rw [e_x66]; exact At_ldI (d:=67) (q:=(x64).toNat) (by subst_vars; kernel_rfl) (toNat_lt g65) hu2) (by kernel_rfl) (by subst_vars; kernel_rfl),trivial⟩⟩⟩⟩⟩⟩⟩⟩) ?_
         refine thenQ_n ?_
         exact ⟨b68,keep_sub (ts:=[2,3,4,7,8,9]) (hs:=[3,4]) (vs:=[]) (by subst_vars;kernel_rfl),h⟩
        | false =>
         replace h := sp_f h
         refine T_draw' (id:=5) [] [0,0,0,0,0,0,0,0,0,0,0,0,0,0,0,0,0,0,0,0,0,0,0,0,0,0,0,0,0,0,0,0,0,0,0,0,0,0,0,0,0,0,0,0,0,0,0,0,0,0,0,0,0,0,0,0] (by kernel_rfl) (by kernel_rfl) (by kernel_rfl) (by kernel_rfl) ((17,.lf (.v (.int .i64 x2)))::(18,.lf (.v (.bool false)))::(19,.lf (.v (.bool false)))::(20,.tup [])::(21,.tup [])::(22,.tup [])::(23,.tup [])::(24,.tup [])::(25,.tup [])::(26,.tup [])::(27,.tup [])::(28,.tup [])::(29,.tup [])::(30,.tup [])::(31,.tup [])::(32,.lf (.v (.bool false)))::(33,.lf (.v (.bool false)))::(34,.lf (.v (.int .i64 x2)))::(35,.lf (.v (.int .i64 (List.length u2 : Int))))::(36,.lf (.v (.bool false)))::(37,.lf (.v (.bool false)))::(38,.tup [])::(39,.tup [])::(40,.tup [])::(41,.tup [])::(42,.tup [])::(43,.tup [])::(44,.tup [])::(45,.tup [])::(46,.tup [])::(47,.tup [])::(48,.lf (.v (.bool false)))::(49,.lf (.v (.bool false)))::(50,.lf (.v (.bool false)))::(51,.lf (.v (.int .i64 x2)))::(52,.lf (.v (.bool true)))::(53,.lf (.v (.bool true)))::(54,.lf (.v (.int .i64 x2)))::(55,.lf (.v (.int .i64 (List.length u2 : Int))))::(56,.lf (.v (.bool false)))::(57,.lf (.v (.bool false)))::(58,.lf (.v (.bool false)))::(59,.tup [])::(60,.tup [])::(61,.tup [])::(62,.tup [])::(63,.tup [])::(64,.tup [])::(65,.tup [])::(66,.tup [])::(67,.tup [])::(68,.tup [])::(69,.tup [])::(70,.lf (.v (.bool false)))::(71,.lf (.v (.bool false)))::(9,.lf (.v (.bool false)))::[]) (by kernel_rfl) ⟨trivial,⟨trivial,⟨trivial,⟨(by intro y hy;cases hy),⟨(by intro y hy;cases hy),⟨(by intro y hy;cases hy),⟨(by intro y hy;cases hy),⟨(by intro y hy;cases hy),⟨(by intro y hy;cases hy),⟨(by intro y hy;cases hy),⟨(by intro y hy;cases hy),⟨(by intro y hy;cases hy),⟨(by intro y hy;cases hy),⟨(by intro y hy;cases hy),⟨(by intro y hy;cases hy),⟨trivial,⟨trivial,⟨trivial,⟨trivial,⟨trivial,⟨trivial,⟨(by intro y hy;cases hy),⟨(by intro y hy;cases hy),⟨(by intro y hy;cases hy),⟨(by intro y hy;cases hy),⟨(by intro y hy;cases hy),⟨(by intro y hy;cases hy),⟨(by intro y hy;cases hy),⟨(by intro y hy;cases hy),⟨(by intro y hy;cases hy),⟨(by intro y hy;cases hy),⟨trivial,⟨trivial,⟨trivial,⟨trivial,⟨trivial,⟨trivial,⟨trivial,⟨trivial,⟨trivial,⟨trivial,⟨trivial,⟨(by intro y hy;cases hy),⟨(by intro y hy;cases hy),⟨(by intro y hy;cases hy),⟨(by intro y hy;cases hy),⟨(by intro y hy;cases hy),⟨(by intro y hy;cases hy),⟨(by intro y hy;cases hy),⟨(by intro y hy;cases hy),⟨(by intro y hy;cases hy),⟨(by intro y hy;cases hy),⟨(by intro y hy;cases hy),⟨trivial,⟨trivial,⟨trivial,trivial⟩⟩⟩⟩⟩⟩⟩⟩⟩⟩⟩⟩⟩⟩⟩⟩⟩⟩⟩⟩⟩⟩⟩⟩⟩⟩⟩⟩⟩⟩⟩⟩⟩⟩⟩⟩⟩⟩⟩⟩⟩⟩⟩⟩⟩⟩⟩⟩⟩⟩⟩⟩⟩⟩⟩⟩ ?_
         refine Stage_nil (stage_all' [0,2,3,4,5,6,7,8,9,10,11,12,13,14,15,16,17,18,20,21,22,23,24,25,26,27,28,29,30,31,32,33,34,36,37,38,40,41,42,43,44,45,46,47,48,49,50,51,52,53,54,55] [1,19,35,39] (by kernel_rfl) (by kernel_rfl) (by kernel_rfl) ⟨QF_at (i:=1) (d:=18) (x:=.lf (.v (.bool false))) (show OpAt _ _ _ 1 18 _ from by exact At_bin (d:=18) (b:=.gtr) (u:=.int .i64 x2) (v:=.int .i64 (0 : Int)) (w':=.bool false) (by kernel_rfl) (by rw [show exBin .gtr (.int .i64 x2) (.int .i64 (0 : Int)) = some (.bool (decide (x2 > (0 : Int)))) from by kernel_rfl,← e_b7])) (by kernel_rfl) (by kernel_rfl),⟨QF_at (i:=19) (d:=36) (x:=.lf (.v (.bool false))) (show OpAt _ _ _ 19 36 _ from by exact At_bin (d:=36) (b:=.lss) (u:=.int .i64 x2) (v:=.int .i64 (List.length u2 : Int)) (w':=.bool false) (by kernel_rfl) (by rw [show exBin .lss (.int .i64 x2) (.int .i64 (List.length u2 : Int)) = some (.bool (decide (x2 < (List.length u2 : Int)))) from by kernel_rfl,← e_b43])) (by kernel_rfl) (by kernel_rfl),⟨QF_at (i:=35) (d:=52) (x:=.lf (.v (.bool true))) (show OpAt _ _ _ 35 52 _ from by exact At_bin (d:=52) (b:=.gtr) (u:=.int .i64 x2) (v:=.int .i64 (0 : Int)) (w':=.bool true) (by kernel_rfl) (by rw [show exBin .gtr (.int .i64 x2) (.int .i64 (0 : Int)) = some (.bool (decide (x2 > (0 : Int)))) from by kernel_rfl,← e_b60])) (by kernel_rfl) (by kernel_rfl),⟨QF_at (i:=39) (d:=56) (x:=.lf (.v (.bool false))) (show OpAt _ _ _ 39 56 _ from by exact At_bin (d:=56) (b:=.lss) (u:=.int .i64 x2) (v:=.int .i64 (List.length u2 : Int)) (w':=.bool false) (by kernel_rfl) (by rw [show exBin .lss (.int .i64 x2) (.int .i64 (List.length u2 : Int)) = some (.bool (decide (x2 < (List.length u2 : Int)))) from by kernel_rfl,← e_b61])) (by kernel_rfl) (by kernel_rfl),trivial⟩⟩⟩⟩) ?_
         refine thenQ_n ?_
         exact ⟨false,keep_sub (ts:=[2,3,4,7,8,9]) (hs:=[3,4]) (vs:=[]) (by kernel_rfl),h⟩
       | false =>
        replace h := sp_f h
        refine T_draw' (id:=5) [] [0,0,0,0,0,0,0,0,0,0,0,0,0,0,0,0,0,0,0,0,0,0,0,0,0,0,0,0,0,0,0,0,0,0,0,0,0,0,0,0,0,0,0,0,0,0,0,0,0,0,0,0,0,0,0,0] (by kernel_rfl) (by kernel_rfl) (by kernel_rfl) (by kernel_rfl) ((17,.lf (.v (.int .i64 x2)))::(18,.lf (.v (.bool false)))::(19,.lf (.v (.bool false)))::(20,.tup [])::(21,.tup [])::(22,.tup [])::(23,.tup [])::(24,.tup [])::(25,.tup [])::(26,.tup [])::(27,.tup [])::(28,.tup [])::(29,.tup [])::(30,.tup [])::(31,.tup [])::(32,.lf (.v (.bool false)))::(33,.lf (.v (.bool false)))::(34,.lf (.v (.int .i64 x2)))::(35,.lf (.v (.int .i64 (List.length u2 : Int))))::(36,.lf (.v (.bool false)))::(37,.lf (.v (.bool false)))::(38,.tup [])::(39,.tup [])::(40,.tup [])::(41,.tup [])::(42,.tup [])::(43,.tup [])::(44,.tup [])::(45,.tup [])::(46,.tup [])::(47,.tup [])::(48,.lf (.v (.bool false)))::(49,.lf (.v (.bool false)))::(50,.lf (.v (.bool false)))::(51,.lf (.v (.int .i64 x2)))::(52,.lf (.v (.bool false)))::(53,.lf (.v (.bool false)))::(54,.tup [])::(55,.tup [])::(56,.tup [])::(57,.lf (.v (.bool false)))::(58,.lf (.v (.bool false)))::(59,.tup [])::(60,.tup [])::(61,.tup [])::(62,.tup [])::(63,.tup [])::(64,.tup [])::(65,.tup [])::(66,.tup [])::(67,.tup [])::(68,.tup [])::(69,.tup [])::(70,.lf (.v (.bool false)))::(71,.lf (.v (.bool false)))::(9,.lf (.v (.bool false)))::[]) (by kernel_rfl) ⟨trivial,⟨trivial,⟨trivial,⟨(by intro y hy;cases hy),⟨(by intro y hy;cases hy),⟨(by intro y hy;cases hy),⟨(by intro y hy;cases hy),⟨(by intro y hy;cases hy),⟨(by intro y hy;cases hy),⟨(by intro y hy;cases hy),⟨(by intro y hy;cases hy),⟨(by intro y hy;cases hy),⟨(by intro y hy;cases hy),⟨(by intro y hy;cases hy),⟨(by intro y hy;cases hy),⟨trivial,⟨trivial,⟨trivial,⟨trivial,⟨trivial,⟨trivial,⟨(by intro y hy;cases hy),⟨(by intro y hy;cases hy),⟨(by intro y hy;cases hy),⟨(by intro y hy;cases hy),⟨(by intro y hy;cases hy),⟨(by intro y hy;cases hy),⟨(by intro y hy;cases hy),⟨(by intro y hy;cases hy),⟨(by intro y hy;cases hy),⟨(by intro y hy;cases hy),⟨trivial,⟨trivial,⟨trivial,⟨trivial,⟨trivial,⟨trivial,⟨(by intro y hy;cases hy),⟨(by intro y hy;cases hy),⟨(by intro y hy;cases hy),⟨trivial,⟨trivial,⟨(by intro y hy;cases hy),⟨(by intro y hy;cases hy),⟨(by intro y hy;cases hy),⟨(by intro y hy;cases hy),⟨(by intro y hy;cases hy),⟨(by intro y hy;cases hy),⟨(by intro y hy;cases hy),⟨(by intro y hy;cases hy),⟨(by intro y hy;cases hy),⟨(by intro y hy;cases hy),⟨(by intro y hy;cases hy),⟨trivial,⟨trivial,⟨trivial,trivial⟩⟩⟩⟩⟩⟩⟩⟩⟩⟩⟩⟩⟩⟩⟩⟩⟩⟩⟩⟩⟩⟩⟩⟩⟩⟩⟩⟩⟩⟩⟩⟩⟩⟩⟩⟩⟩⟩⟩⟩⟩⟩⟩⟩⟩⟩⟩⟩⟩⟩⟩⟩⟩⟩⟩⟩ ?_
        refine Stage_nil (stage_all' [0,2,3,4,5,6,7,8,9,10,11,12,13,14,15,16,17,18,20,21,22,23,24,25,26,27,28,29,30,31,32,33,34,36,37,38,39,40,41,42,43,44,45,46,47,48,49,50,51,52,53,54,55] [1,19,35] (by kernel_rfl) (by kernel_rfl) (by kernel_rfl) ⟨QF_at (i:=1) (d:=18) (x:=.lf (.v (.bool false))) (show OpAt _ _ _ 1 18 _ from by exact At_bin (d:=18) (b:=.gtr) (u:=.int .i64 x2) (v:=.int .i64 (0 : Int)) (w':=.bool false) (by kernel_rfl) (by rw [show exBin .gtr (.int .i64 x2) (.int .i64 (0 : Int)) = some (.bool (decide (x2 > (0 : Int)))) from by kernel_rfl,← e_b7])) (by kernel_rfl) (by kernel_rfl),⟨QF_at (i:=19) (d:=36) (x:=.lf (.v (.bool false))) (show OpAt _ _ _ 19 36 _ from by exact At_bin (d:=36) (b:=.lss) (u:=.int .i64 x2) (v:=.int .i64 (List.length u2 : Int)) (w':=.bool false) (by kernel_rfl) (by rw [show exBin .lss (.int .i64 x2) (.int .i64 (List.length u2 : Int)) = some (.bool (decide (x2 < (List.length u2 : Int)))) from by kernel_rfl,← e_b43])) (by kernel_rfl) (by kernel_rfl),⟨QF_at (i:=35) (d:=52) (x:=.lf (.v (.bool false))) (show OpAt _ _ _ 35 52 _ from by exact At_bin (d:=52) (b:=.gtr) (u:=.int .i64 x2) (v:=.int .i64 (0 : Int)) (w':=.bool false) (by kernel_rfl) (by rw [show exBin .gtr (.int .i64 x2) (.int .i64 (0 : Int)) = some (.bool (decide (x2 > (0 : Int)))) from by kernel_rfl,← e_b60])) (by kernel_rfl) (by kernel_rfl),trivial⟩⟩⟩) ?_
        refine thenQ_n ?_
        exact ⟨false,keep_sub (ts:=[2,3,4,7,8,9]) (hs:=[3,4]) (vs:=[]) (by kernel_rfl),h⟩
    ·rintro s' ⟨b5,hsub,h⟩
     subst e_j6
     refine T_sub hsub ?_
     refine T_seq (c1:=(sub [1,1,0,1,0,0,1,0,0,1,0] (bodyOf Try.f60))) (c2:=(sub [1,1,0,1,0,0,1,0,0,1,1] (bodyOf Try.f60))) (by kernel_rfl) ?_
     refine T_region (id:=6) (by kernel_rfl) ?_
     refine TI_segK (i:=0) (j:=2) (s':={ σ := [(2,.lf (.v (.slice Au2 (List.length u2) cu2))),(3,.lf (.own 3 0)),(4,.lf (.own 4 0)),(7,.lf (.v (.int .i64 (List.length u2 : Int)))),(8,.lf (.v (.int .i64 x2))),(73,.lf (.v (.bool (!b5))))],H := [(3,[.one (.v (.slice Au0_0 (List.length u0_0) cu0_0)),.arr .i64 4 u0_1]),(4,[.arr .i64 7 u1])],V := [],M := M,ds := [] }) [2,3,4,7,8,73] [3,4] [] (by kernel_rfl) (by kernel_rfl) ?_
     refine TI_end (by kernel_rfl) ?_
     refine thenQ_n ?_
     cases b5 with
     | true =>
      replace h := sp_t h
      refine T_condF (x:=(.tmp 73)) (c1:=(sub [1,1,0,1,0,0,1,0,0,1,1,0] (bodyOf Try.f60))) (c2:=(sub [1,1,0,1,0,0,1,0,0,1,1,1] (bodyOf Try.f60))) (by kernel_rfl) (by kernel_rfl) ?_
      refine T_keep (s':={ σ := [(2,.lf (.v (.slice Au2 (List.length u2) cu2))),(3,.lf (.own 3 0)),(4,.lf (.own 4 0)),(7,.lf (.v (.int .i64 (List.length u2 : Int)))),(8,.lf (.v (.int .i64 x2)))],H := [(3,[.one (.v (.slice Au0_0 (List.length u0_0) cu0_0)),.arr .i64 4 u0_1]),(4,[.arr .i64 7 u1])],V := [],M := M,ds := [] }) [2,3,4,7,8] [3,4] [] (by kernel_rfl) ?_
      refine T_skip (by kernel_rfl) ?_
      refine blockQ_n ?_
      refine thenQ_n ?_
      refine T_region (id:=4) (by kernel_rfl) ?_
      obtain ⟨x69,e_x69,h⟩ := lt_some h
      refine TI_segK (i:=0) (j:=3) (s':={ σ := [(2,.lf (.v (.slice Au2 (List.length u2) cu2))),(3,.lf (.own 3 0)),(4,.lf (.own 4 0)),(7,.lf (.v (.int .i64 (List.length u2 : Int)))),(8,.lf (.v (.int .i64 x69)))],H := [(3,[.one (.v (.slice Au0_0 (List.length u0_0) cu0_0)),.arr .i64 4 u0_1]),(4,[.arr .i64 7 u1])],V := [],M := M,ds := [] }) [2,3,4,7,8] [3,4] [] (by subst e_x69;kernel_rfl) (by kernel_rfl) ?_
      refine TI_end (by kernel_rfl) ?_
      refine thenQ_n ?_
      exact ⟨n3,Nat.lt_succ_self _,x69,keep_sub (ts:=[2,3,4,7,8]) (hs:=[3,4]) (vs:=[]) (by kernel_rfl),h⟩
     | false =>
      replace h := sp_f h
      refine T_condT (x:=(.tmp 73)) (c1:=(sub [1,1,0,1,0,0,1,0,0,1,1,0] (bodyOf Try.f60))) (c2:=(sub [1,1,0,1,0,0,1,0,0,1,1,1] (bodyOf Try.f60))) (by kernel_rfl) (by kernel_rfl) ?_
      refine T_keep (s':={ σ := [(8,.lf (.v (.int .i64 x2)))],H := [],V := [],M := M,ds := [] }) [8] [] [] (by kernel_rfl) ?_
      refine T_seq (c1:=(sub [1,1,0,1,0,0,1,0,0,1,1,0,0] (bodyOf Try.f60))) (c2:=(sub [1,1,0,1,0,0,1,0,0,1,1,0,1] (bodyOf Try.f60))) (by kernel_rfl) ?_
      refine T_region (id:=7) (by kernel_rfl) ?_
      refine TI_segK (i:=0) (j:=2) (s':={ σ := [(6,.lf (.v (.int .i64 x2)))],H := [],V := [],M := M,ds := [] }) [6] [] [] (by kernel_rfl) (by kernel_rfl) ?_
      refine TI_end (by kernel_rfl) ?_
      refine thenQ_n ?_
      refine T_ret (by kernel_rfl) ?_
      refine blockQ_r ?_
      refine thenQ_r ?_
      refine thenQ_r ?_
      refine blockQ_r ?_
      refine thenQ_r ?_
      refine thenQ_r ?_
      have h := Option.some.inj h
      subst h
      refine fin_ret (.lf (.v (.int .i64 x2))) (by kernel_rfl) (by kernel_rfl) rfl ?_
      rfl
   | false =>
    replace h := sp_f h
    refine T_condF (x:=(.tmp 14)) (c1:=(sub [1,1,0,1,0,0,0,1,0] (bodyOf Try.f60))) (c2:=(sub [1,1,0,1,0,0,0,1,1] (bodyOf Try.f60))) (by kernel_rfl) (by kernel_rfl) ?_
    refine T_keep (s':={ σ := [],H := [],V := [],M := M,ds := [] }) [] [] [] (by kernel_rfl) ?_
    refine T_exit (id:=0) (by kernel_rfl) ?_
    refine thenQ_x ?_
    refine thenQ_x ?_
    refine blockQ_x ?_
    refine thenQ_n ?_
    exact ⟨keep_sub (ts:=[]) (hs:=[]) (vs:=[]) (by kernel_rfl),h⟩
 ·rintro s' ⟨hsub,h⟩
  subst e_j1
  refine thenQ_n ?_
  refine T_sub hsub ?_
  refine T_seq (c1:=(sub [1,1,1,0] (bodyOf Try.f60))) (c2:=(sub [1,1,1,1] (bodyOf Try.f60))) (by kernel_rfl) ?_
  refine T_region (id:=8) (by kernel_rfl) ?_
  refine TI_segK (i:=0) (j:=1) (s':={ σ := [(6,.lf (.v (.int .i64 (-1 : Int))))],H := [],V := [],M := M,ds := [] }) [6] [] [] (by kernel_rfl) (by kernel_rfl) ?_
  refine TI_end (by kernel_rfl) ?_
  refine thenQ_n ?_
  refine T_ret (by kernel_rfl) ?_
  have h := Option.some.inj h
  subst h
  refine fin_ret (.lf (.v (.int .i64 (-1 : Int)))) (by kernel_rfl) (by kernel_rfl) rfl ?_
  rfl
def p69 (k : Nat) (u0 : Int) : Option Bool :=
 cl (p49 k u0 (0 : Int) (1048576 : Int)) fun v1 => some (!v1)
theorem hf69 : Try.prog.funcs[69]? = some Try.f69 := by kernel_rfl
theorem w69 (k : Nat) {M : Mem} {u0 : Int} {r} (h : p69 k u0 = some r) :
  Fn Try.prog 69 [rval (.lf (.v (.int .i64 u0)))] M (fun x _ => x = .lf (.v (.bool r))) := by
 unfold p69 at h
 refine Fn_of (P:=Try.prog) (fn:=Try.f69) (c:=bodyOf Try.f69) [.lf (.v (.int .i64 u0))] hf69 (by kernel_rfl) (Nat.le_of_ble_eq_true (by kernel_rfl)) (args_ok (by kernel_rfl) ⟨trivial,trivial⟩) fun w => ?_
 change T _ _ _ (endQ _ _ _)
 refine T_seq (c1:=(sub [0] (bodyOf Try.f69))) (c2:=(sub [1] (bodyOf Try.f69))) (by kernel_rfl) ?_
 refine T_region (id:=0) (by kernel_rfl) ?_
 refine TI_segK (i:=0) (j:=1) (s':={ σ := [(0,.lf (.v (.int .i64 u0)))],H := [],V := [],M := M,ds := [] }) [0] [] [] (by kernel_rfl) (by kernel_rfl) ?_
 refine TI_end (by kernel_rfl) ?_
 refine thenQ_n ?_
 refine T_seq (c1:=(sub [1,0] (bodyOf Try.f69))) (c2:=(sub [1,1] (bodyOf Try.f69))) (by kernel_rfl) ?_
 refine T_region (id:=1) (by kernel_rfl) ?_
 refine TI_segK (i:=0) (j:=1) (s':={ σ := [(3,.lf (.v (.int .i64 u0)))],H := [],V := [],M := M,ds := [] }) [3] [] [] (by kernel_rfl) (by kernel_rfl) ?_
 obtain ⟨v1,c_v1,h⟩ := cl_some h
 refine TI_at (i:=1) (d:=4) (x:=.lf (.v (.bool v1))) (At_call (d:=4) (f:=49) (args:=[rval (.lf (.v (.int .i64 u0))),rval (.lf (.v (.int .i64 (0 : Int)))),rval (.lf (.v (.int .i64 (1048576 : Int))))]) (x:=.lf (.v (.bool v1))) (by kernel_rfl) (w49 k  c_v1)) (by kernel_rfl) trivial ?_
 refine TI_segK (i:=2) (j:=4) (s':={ σ := [(2,.lf (.v (.bool (!v1))))],H := [],V := [],M := M,ds := [] }) [2] [] [] (by kernel_rfl) (by kernel_rfl) ?_
 refine TI_end (by kernel_rfl) ?_
 refine thenQ_n ?_
 refine T_ret (by kernel_rfl) ?_
 have h := Option.some.inj h
 subst h
 refine fin_ret (.lf (.v (.bool (!v1)))) (by kernel_rfl) (by kernel_rfl) rfl ?_
 rfl
def p71 (k : Nat) (u0 : List Int) : Option Bool :=
 cl (p61 k u0) fun v1 => some (!v1)
theorem hf71 : Try.prog.funcs[71]? = some Try.f71 := by kernel_rfl
theorem w71 (k : Nat) {M : Mem} {u0 : List Int} (hu0 : u0.length = 2) {r} (h : p71 k u0 = some r) :
  Fn Try.prog 71 [rval (.agg [.arr .i64 2 u0])] M (fun x _ => x = .lf (.v (.bool r))) := by
 unfold p71 at h
 refine Fn_of (P:=Try.prog) (fn:=Try.f71) (c:=bodyOf Try.f71) [.agg [.arr .i64 2 u0]] hf71 (by kernel_rfl) (Nat.le_of_ble_eq_true (by kernel_rfl)) (args_ok (by kernel_rfl) ⟨⟨hu0,trivial⟩,trivial⟩) fun w => ?_
 change T _ _ _ (endQ _ _ _)
 refine T_seq (c1:=(sub [0] (bodyOf Try.f71))) (c2:=(sub [1] (bodyOf Try.f71))) (by kernel_rfl) ?_
 refine T_region (id:=0) (by kernel_rfl) ?_
 refine TI_segK (i:=0) (j:=2) (s':={ σ := [(1,.lf (.own 1 0))],H := [(1,[.arr .i64 2 u0])],V := [],M := M,ds := [] }) [1] [1] [] (by kernel_rfl) (by kernel_rfl) ?_
 refine TI_end (by kernel_rfl) ?_
 refine thenQ_n ?_
 refine T_seq (c1:=(sub [1,0] (bodyOf Try.f71))) (c2:=(sub [1,1] (bodyOf Try.f71))) (by kernel_rfl) ?_
 refine T_region (id:=1) (by kernel_rfl) ?_
 refine TI_segK (i:=0) (j:=1) (s':={ σ := [(3,.agg [.arr .i64 2 u0])],H := [],V := [],M := M,ds := [] }) [3] [] [] (by kernel_rfl) (by kernel_rfl) ?_
 obtain ⟨v1,c_v1,h⟩ := cl_some h
 refine TI_at (i:=1) (d:=4) (x:=.lf (.v (.bool v1))) (At_call (d:=4) (f:=61) (args:=[rval (.agg [.arr .i64 2 u0])]) (x:=.lf (.v (.bool v1))) (by kernel_rfl) (w61 k hu0 c_v1)) (by kernel_rfl) trivial ?_
 refine TI_segK (i:=2) (j:=4) (s':={ σ := [(2,.lf (.v (.bool (!v1))))],H := [],V := [],M := M,ds := [] }) [2] [] [] (by kernel_rfl) (by kernel_rfl) ?_
 refine TI_end (by kernel_rfl) ?_
 refine thenQ_n ?_
 refine T_ret (by kernel_rfl) ?_
 have h := Option.some.inj h
 subst h
 refine fin_ret (.lf (.v (.bool (!v1)))) (by kernel_rfl) (by kernel_rfl) rfl ?_
 rfl
def p48 (k : Nat) (u0 : List Int) : Option Bool :=
 cl (p32 k u0) fun v1 => lt' (v1 != (0 : Int)) fun b2 => some b2
theorem hf48 : Try.prog.funcs[48]? = some Try.f48 := by kernel_rfl
theorem w48 (k : Nat) {M : Mem} {u0 : List Int} (hu0 : u0.length = 7) {r} (h : p48 k u0 = some r) :
  Fn Try.prog 48 [rval (.agg [.arr .i64 7 u0])] M (fun x _ => x = .lf (.v (.bool r))) := by
 unfold p48 at h
 refine Fn_of (P:=Try.prog) (fn:=Try.f48) (c:=bodyOf Try.f48) [.agg [.arr .i64 7 u0]] hf48 (by kernel_rfl) (Nat.le_of_ble_eq_true (by kernel_rfl)) (args_ok (by kernel_rfl) ⟨⟨hu0,trivial⟩,trivial⟩) fun w => ?_
 change T _ _ _ (endQ _ _ _)
 refine T_seq (c1:=(sub [0] (bodyOf Try.f48))) (c2:=(sub [1] (bodyOf Try.f48))) (by kernel_rfl) ?_
 refine T_region (id:=0) (by kernel_rfl) ?_
 refine TI_segK (i:=0) (j:=2) (s':={ σ := [(1,.lf (.own 1 0))],H := [(1,[.arr .i64 7 u0])],V := [],M := M,ds := [] }) [1] [1] [] (by kernel_rfl) (by kernel_rfl) ?_
 refine TI_end (by kernel_rfl) ?_
 refine thenQ_n ?_
 refine T_seq (c1:=(sub [1,0] (bodyOf Try.f48))) (c2:=(sub [1,1] (bodyOf Try.f48))) (by kernel_rfl) ?_
 refine T_region (id:=1) (by kernel_rfl) ?_
 refine TI_segK (i:=0) (j:=1) (s':={ σ := [(3,.agg [.arr .i64 7 u0])],H := [],V := [],M := M,ds := [] }) [3] [] [] (by kernel_rfl) (by kernel_rfl) ?_
 obtain ⟨v1,c_v1,h⟩ := cl_some h
 refine TI_at (i:=1) (d:=4) (x:=.lf (.v (.int .i64 v1))) (At_call (d:=4) (f:=32) (args:=[rval (.agg [.arr .i64 7 u0])]) (x:=.lf (.v (.int .i64 v1))) (by kernel_rfl) (w32 k hu0 c_v1)) (by kernel_rfl) trivial ?_
 obtain ⟨b2,e_b2,h⟩ := lt_some h
 refine TI_segK (i:=2) (j:=4) (s':={ σ := [(2,.lf (.v (.bool b2)))],H := [],V := [],M := M,ds := [] }) [2] [] [] (by subst e_b2;kernel_rfl) (by kernel_rfl) ?_
 refine TI_end (by kernel_rfl) ?_
 refine thenQ_n ?_
 refine T_ret (by kernel_rfl) ?_
 have h := Option.some.inj h
 subst h
 refine fin_ret (.lf (.v (.bool b2))) (by kernel_rfl) (by kernel_rfl) rfl ?_
 rfl
end Go.Proofs.Ythjkejbgknemgaa
