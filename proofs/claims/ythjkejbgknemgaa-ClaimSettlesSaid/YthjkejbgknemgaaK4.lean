/- Lemmas and walks for the law ClaimSettles (part 4). No condition: every theorem names its own hypotheses. -/
import Derived.Test.YthjkejbgknemgaaK3
import Derived.Test.YthjkejbgknemgaaProg
set_option linter.unusedVariables false
set_option linter.unusedSimpArgs false
set_option maxHeartbeats 4000000
namespace Go.Proofs.Ythjkejbgknemgaa
open Go.RowKit
def p83_l1 (k : Nat) (j6 : List Int → Option (List Int)) (P4 : List (List Int)) : Nat → Int → List Int → Option (List Int)
 | 0,_,_ => none
 | n9 + 1,x7,L8 => lt' (decide (x7 < (List.length P4 : Int))) fun b10 => sp b10 (gd ((0 : Int) ≤ x7 ∧ x7 < (List.length P4 : Int)) <| lt' (List.getD P4 ((x7).toNat) []) fun L12 => lt' (List.getD L8 0 0) fun x13 => lt' (List.getD L12 0 0) fun x14 => lt' (mx x13 x14) fun x15 => lt' (List.getD L8 1 0) fun x16 => lt' (List.getD L12 1 0) fun x17 => lt' (mn x16 x17) fun x18 => lt' (List.set L8 0 x15) fun L19 => lt' (List.set L19 1 x18) fun L20 => lt' (wr .i64 (x7 + (1 : Int))) fun x21 => p83_l1 k j6 P4 n9 x21 L20) (j6 L8)
def p83 (k : Nat) (u0 : List (List Int)) : Option (List Int) :=
 gd ((0 : Int) ≤ (0 : Int) ∧ (0 : Int) < (List.length u0 : Int)) <| lt' (List.getD u0 0 []) fun L2 => gd ((0 : Int) ≤ (1 : Int) ∧ (0 : Int) ≤ (0 : Int) ∧ ((1 : Int)).toNat ≤ List.length u0 ∧ List.length u0 ≤ List.length u0) <| lt' (part u0 (((1 : Int)).toNat) (List.length u0)) fun P4 => jn (fun (L5 : List Int) => some L5) fun j6 => p83_l1 k j6 P4 k (0 : Int) L2
theorem hf83 : Try.prog.funcs[83]? = some Try.f83 := by kernel_rfl
theorem w83 (k : Nat) {M : Mem} {Au0 : Option Addr} {cu0 : Nat} {u0 : List (List Int)} (hu0 : SlR M Au0 cu0 .i64 2 u0) {r} (h : p83 k u0 = some r) :
  Fn Try.prog 83 [rval (.lf (.v (.slice Au0 (List.length u0) cu0)))] M (fun x _ => x = .agg [.arr .i64 2 r]) := by
 unfold p83 at h
 refine Fn_of (P:=Try.prog) (fn:=Try.f83) (c:=bodyOf Try.f83) [.lf (.v (.slice Au0 (List.length u0) cu0))] hf83 (by kernel_rfl) (Nat.le_of_ble_eq_true (by kernel_rfl)) (args_ok (by kernel_rfl) ⟨trivial,trivial⟩) fun w => ?_
 change T _ _ _ (endQ _ _ _)
 refine T_seq (c1:=(sub [0] (bodyOf Try.f83))) (c2:=(sub [1] (bodyOf Try.f83))) (by kernel_rfl) ?_
 refine T_region (id:=0) (by kernel_rfl) ?_
 refine TI_segK (i:=0) (j:=1) (s':={ σ := [(0,.lf (.v (.slice Au0 (List.length u0) cu0))),(2,.lf (.own 2 0))],H := [(2,[.arr .i64 2 [(0 : Int),(0 : Int)]])],V := [],M := M,ds := [] }) [0,2] [2] [] (by kernel_rfl) (by kernel_rfl) ?_
 refine TI_end (by kernel_rfl) ?_
 refine thenQ_n ?_
 refine T_seq (c1:=(sub [1,0] (bodyOf Try.f83))) (c2:=(sub [1,1] (bodyOf Try.f83))) (by kernel_rfl) ?_
 refine T_region (id:=1) (by kernel_rfl) ?_
 refine TI_segK (i:=0) (j:=1) (s':={ σ := [(0,.lf (.v (.slice Au0 (List.length u0) cu0))),(2,.lf (.own 2 0)),(6,.lf (.v (.slice Au0 (List.length u0) cu0)))],H := [(2,[.arr .i64 2 [(0 : Int),(0 : Int)]])],V := [],M := M,ds := [] }) [0,2,6] [2] [] (by kernel_rfl) (by kernel_rfl) ?_
 obtain ⟨g1,h⟩ := gd_some h
 refine TI_at (i:=1) (d:=7) (x:=.lf (.ep (.slice Au0 (List.length u0) cu0) 2 0 0)) (by exact At_idxR (d:=7) (z:=(0 : Int)) (by kernel_rfl) g1 hu0) (by kernel_rfl) trivial ?_
 obtain ⟨L2,e_L2,h⟩ := lt_some h
 have l_L2 : (L2).length = 2 := by rw [e_L2]; exact SlR_row hu0 (toNat_lt g1)
 refine TI_at (i:=2) (d:=8) (x:=.agg [.arr .i64 2 L2]) (by rw [e_L2]; exact At_ldRow (d:=8) (q:=0) (by subst e_L2; kernel_rfl) (toNat_lt g1) hu0) (by kernel_rfl) ⟨l_L2,trivial⟩ ?_
 refine TI_segK (i:=3) (j:=5) (s':={ σ := [(0,.lf (.v (.slice Au0 (List.length u0) cu0))),(2,.lf (.own 2 0)),(3,.lf (.own 3 0))],H := [(2,[.arr .i64 2 [(0 : Int),(0 : Int)]]),(3,[.arr .i64 2 L2])],V := [],M := M,ds := [] }) [0,2,3] [2,3] [] (by kernel_rfl) (by kernel_rfl) ?_
 refine TI_end (by kernel_rfl) ?_
 refine thenQ_n ?_
 refine T_seq (c1:=(sub [1,1,0] (bodyOf Try.f83))) (c2:=(sub [1,1,1] (bodyOf Try.f83))) (by kernel_rfl) ?_
 refine T_seq (c1:=(sub [1,1,0,0] (bodyOf Try.f83))) (c2:=(sub [1,1,0,1] (bodyOf Try.f83))) (by kernel_rfl) ?_
 refine T_region (id:=2) (by kernel_rfl) ?_
 refine TI_segK (i:=0) (j:=1) (s':={ σ := [(2,.lf (.own 2 0)),(3,.lf (.own 3 0)),(9,.lf (.v (.slice Au0 (List.length u0) cu0)))],H := [(2,[.arr .i64 2 [(0 : Int),(0 : Int)]]),(3,[.arr .i64 2 L2])],V := [],M := M,ds := [] }) [2,3,9] [2,3] [] (by kernel_rfl) (by kernel_rfl) ?_
 obtain ⟨g3,h⟩ := gd_some h
 obtain ⟨P4,e_P4,h⟩ := lt_some h
 refine TI_at (i:=1) (d:=10) (x:=.lf (.v (.slice (cutA Au0 cu0 (((1 : Int)).toNat) 2) (List.length P4) (cu0 - ((1 : Int)).toNat)))) (by exact At_slR (d:=10) (a:=(some (1 : Int))) (b:=none) (P:=P4) (by subst e_P4;kernel_rfl) hu0 (some_nn g3.1) none_nn g3.2.2.1 g3.2.2.2 e_P4) (by kernel_rfl) trivial ?_
 refine TI_segK (i:=2) (j:=4) (s':={ σ := [(2,.lf (.own 2 0)),(3,.lf (.own 3 0)),(10,.lf (.v (.slice (cutA Au0 cu0 (((1 : Int)).toNat) 2) (List.length P4) (cu0 - ((1 : Int)).toNat)))),(11,.lf (.v (.int .i64 (List.length P4 : Int)))),(12,.lf (.v (.int .i64 (0 : Int))))],H := [(2,[.arr .i64 2 [(0 : Int),(0 : Int)]]),(3,[.arr .i64 2 L2])],V := [],M := M,ds := [] }) [2,3,10,11,12] [2,3] [] (by kernel_rfl) (by kernel_rfl) ?_
 refine TI_end (by kernel_rfl) ?_
 refine thenQ_n ?_
 obtain ⟨j6,e_j6,h⟩ := jn_some h
 refine T_bcut (id:=0) (c1:=(sub [1,1,0,1,0] (bodyOf Try.f83))) (fun s' => ∃ (L5 : List Int),Sub { σ := [(2,.lf (.own 2 0)),(3,.lf (.own 3 0))],H := [(2,[.arr .i64 2 [(0 : Int),(0 : Int)]]),(3,[.arr .i64 2 L5])],V := [],M := M,ds := [] } s' ∧ (L5).length = 2 ∧ j6 L5 = some r) (by kernel_rfl) ?_ ?_
 ·refine T_loop (c1:=(sub [1,1,0,1,0,0] (bodyOf Try.f83))) (by kernel_rfl) (fun n9 s' => ∃ (x7 : Int) (L8 : List Int),Sub { σ := [(2,.lf (.own 2 0)),(3,.lf (.own 3 0)),(10,.lf (.v (.slice (cutA Au0 cu0 (((1 : Int)).toNat) 2) (List.length P4) (cu0 - ((1 : Int)).toNat)))),(11,.lf (.v (.int .i64 (List.length P4 : Int)))),(12,.lf (.v (.int .i64 x7)))],H := [(2,[.arr .i64 2 [(0 : Int),(0 : Int)]]),(3,[.arr .i64 2 L8])],V := [],M := M,ds := [] } s' ∧ (L8).length = 2 ∧ p83_l1 k j6 P4 n9 x7 L8 = some r) (k:=k) ⟨(0 : Int),L2,keep_sub (ts:=[2,3,10,11,12]) (hs:=[2,3]) (vs:=[]) (by kernel_rfl),l_L2,h⟩ ?_
  rintro n9 s' ⟨x7,L8,hsub,l_L8,h⟩
  cases n9 with
  | zero => rw [p83_l1] at h;cases h
  | succ n9 =>
   rw [p83_l1] at h
   refine T_sub hsub ?_
   refine T_seq (c1:=(sub [1,1,0,1,0,0,0] (bodyOf Try.f83))) (c2:=(sub [1,1,0,1,0,0,1] (bodyOf Try.f83))) (by kernel_rfl) ?_
   refine T_region (id:=3) (by kernel_rfl) ?_
   obtain ⟨b10,e_b10,h⟩ := lt_some h
   refine TI_segK (i:=0) (j:=1) (s':={ σ := [(2,.lf (.own 2 0)),(3,.lf (.own 3 0)),(10,.lf (.v (.slice (cutA Au0 cu0 (((1 : Int)).toNat) 2) (List.length P4) (cu0 - ((1 : Int)).toNat)))),(11,.lf (.v (.int .i64 (List.length P4 : Int)))),(12,.lf (.v (.int .i64 x7))),(13,.lf (.v (.bool b10)))],H := [(2,[.arr .i64 2 [(0 : Int),(0 : Int)]]),(3,[.arr .i64 2 L8])],V := [],M := M,ds := [] }) [2,3,10,11,12,13] [2,3] [] (by subst e_b10;kernel_rfl) (by kernel_rfl) ?_
   refine TI_end (by kernel_rfl) ?_
   refine thenQ_n ?_
   refine T_seq (c1:=(sub [1,1,0,1,0,0,1,0] (bodyOf Try.f83))) (c2:=(sub [1,1,0,1,0,0,1,1] (bodyOf Try.f83))) (by kernel_rfl) ?_
   cases b10 with
   | true =>
    replace h := sp_t h
    refine T_condT (x:=(.tmp 13)) (c1:=(sub [1,1,0,1,0,0,1,0,0] (bodyOf Try.f83))) (c2:=(sub [1,1,0,1,0,0,1,0,1] (bodyOf Try.f83))) (by kernel_rfl) (by kernel_rfl) ?_
    refine T_keep (s':={ σ := [(2,.lf (.own 2 0)),(3,.lf (.own 3 0)),(10,.lf (.v (.slice (cutA Au0 cu0 (((1 : Int)).toNat) 2) (List.length P4) (cu0 - ((1 : Int)).toNat)))),(11,.lf (.v (.int .i64 (List.length P4 : Int)))),(12,.lf (.v (.int .i64 x7)))],H := [(2,[.arr .i64 2 [(0 : Int),(0 : Int)]]),(3,[.arr .i64 2 L8])],V := [],M := M,ds := [] }) [2,3,10,11,12] [2,3] [] (by kernel_rfl) ?_
    refine T_skip (by kernel_rfl) ?_
    refine thenQ_n ?_
    refine T_seq (c1:=(sub [1,1,0,1,0,0,1,1,0] (bodyOf Try.f83))) (c2:=(sub [1,1,0,1,0,0,1,1,1] (bodyOf Try.f83))) (by kernel_rfl) ?_
    refine T_block (id:=1) (c1:=(sub [1,1,0,1,0,0,1,1,0,0] (bodyOf Try.f83))) (by kernel_rfl) ?_
    refine T_seq (c1:=(sub [1,1,0,1,0,0,1,1,0,0,0] (bodyOf Try.f83))) (c2:=(sub [1,1,0,1,0,0,1,1,0,0,1] (bodyOf Try.f83))) (by kernel_rfl) ?_
    refine T_region (id:=4) (by kernel_rfl) ?_
    obtain ⟨g11,h⟩ := gd_some h
    refine TI_at (i:=0) (d:=14) (x:=.lf (.ep (.slice (cutA Au0 cu0 (((1 : Int)).toNat) 2) (List.length P4) (cu0 - ((1 : Int)).toNat)) 2 ((x7).toNat) 0)) (by exact At_idxR (d:=14) (z:=x7) (by kernel_rfl) g11 (SlR.part hu0 e_P4 g3.2.2.1 g3.2.2.2)) (by kernel_rfl) trivial ?_
    obtain ⟨L12,e_L12,h⟩ := lt_some h
    have l_L12 : (L12).length = 2 := by rw [e_L12]; exact SlR_row (SlR.part hu0 e_P4 g3.2.2.1 g3.2.2.2) (toNat_lt g11)
    refine TI_at (i:=1) (d:=15) (x:=.agg [.arr .i64 2 L12]) (by rw [e_L12]; exact At_ldRow (d:=15) (q:=(x7).toNat) (by subst e_L12; kernel_rfl) (toNat_lt g11) (SlR.part hu0 e_P4 g3.2.2.1 g3.2.2.2)) (by kernel_rfl) ⟨l_L12,trivial⟩ ?_
    refine TI_segK (i:=2) (j:=4) (s':={ σ := [(2,.lf (.own 2 0)),(3,.lf (.own 3 0)),(5,.lf (.own 5 0)),(10,.lf (.v (.slice (cutA Au0 cu0 (((1 : Int)).toNat) 2) (List.length P4) (cu0 - ((1 : Int)).toNat)))),(11,.lf (.v (.int .i64 (List.length P4 : Int)))),(12,.lf (.v (.int .i64 x7)))],H := [(2,[.arr .i64 2 [(0 : Int),(0 : Int)]]),(3,[.arr .i64 2 L8]),(5,[.arr .i64 2 L12])],V := [],M := M,ds := [] }) [2,3,5,10,11,12] [2,3,5] [] (by kernel_rfl) (by kernel_rfl) ?_
    refine TI_end (by kernel_rfl) ?_
    refine thenQ_n ?_
    obtain ⟨x13,e_x13,h⟩ := lt_some h
    obtain ⟨x14,e_x14,h⟩ := lt_some h
    obtain ⟨x15,e_x15,h⟩ := lt_some h
    obtain ⟨x16,e_x16,h⟩ := lt_some h
    obtain ⟨x17,e_x17,h⟩ := lt_some h
    obtain ⟨x18,e_x18,h⟩ := lt_some h
    obtain ⟨L19,e_L19,h⟩ := lt_some h
    have l_L19 : (L19).length = 2 := by rw [e_L19]; exact (by rw [List.length_set]; exact l_L8)
    obtain ⟨L20,e_L20,h⟩ := lt_some h
    have l_L20 : (L20).length = 2 := by rw [e_L20]; exact (by rw [List.length_set]; exact l_L19)
    refine T_draw' (id:=5) [11,13] [0,0,0,0,0,0,0,0,0,0,0,0,1,0] (by kernel_rfl) (by kernel_rfl) (by kernel_rfl) (by kernel_rfl) [(16,.lf (.own 3 0)),(17,.lf (.v (.int .i64 x13))),(18,.lf (.own 5 0)),(19,.lf (.v (.int .i64 x14))),(20,.lf (.v (.int .i64 x15))),(21,.lf (.own 3 1)),(22,.lf (.v (.int .i64 x16))),(23,.lf (.own 5 1)),(24,.lf (.v (.int .i64 x17))),(25,.lf (.v (.int .i64 x18))),(26,.lf (.own 3 0))] (by kernel_rfl) (wfs_lf _ (by kernel_rfl)) ?_
    refine Stage_ex (stage_all' [0,1,2,3,4,5,6,7,8,9,10] [] (by kernel_rfl) (by subst_vars;kernel_rfl) (by kernel_rfl) trivial) ({ σ := [(16,.lf (.own 3 0)),(17,.lf (.v (.int .i64 x13))),(18,.lf (.own 5 0)),(19,.lf (.v (.int .i64 x14))),(20,.lf (.v (.int .i64 x15))),(21,.lf (.own 3 1)),(22,.lf (.v (.int .i64 x16))),(23,.lf (.own 5 1)),(24,.lf (.v (.int .i64 x17))),(25,.lf (.v (.int .i64 x18))),(26,.lf (.own 3 0)),(2,.lf (.own 2 0)),(3,.lf (.own 3 0)),(5,.lf (.own 5 0)),(10,.lf (.v (.slice (cutA Au0 cu0 (((1 : Int)).toNat) 2) (List.length P4) (cu0 - ((1 : Int)).toNat)))),(11,.lf (.v (.int .i64 (List.length P4 : Int)))),(12,.lf (.v (.int .i64 x7)))],H := [(3,[.arr .i64 2 L19]),(2,[.arr .i64 2 [(0 : Int),(0 : Int)]]),(3,[.arr .i64 2 L8]),(5,[.arr .i64 2 L12])],V := [],M := M,ds := [] }) (by subst_vars;kernel_rfl) [(27,.lf (.own 3 1))] (by kernel_rfl) ⟨trivial,trivial⟩ ?_
    refine Stage_ex (stage_all' [7,8,9,12] [] (by kernel_rfl) (by subst_vars;kernel_rfl) (by kernel_rfl) trivial) ({ σ := [(27,.lf (.own 3 1)),(16,.lf (.own 3 0)),(17,.lf (.v (.int .i64 x13))),(18,.lf (.own 5 0)),(19,.lf (.v (.int .i64 x14))),(20,.lf (.v (.int .i64 x15))),(21,.lf (.own 3 1)),(22,.lf (.v (.int .i64 x16))),(23,.lf (.own 5 1)),(24,.lf (.v (.int .i64 x17))),(25,.lf (.v (.int .i64 x18))),(26,.lf (.own 3 0)),(2,.lf (.own 2 0)),(3,.lf (.own 3 0)),(5,.lf (.own 5 0)),(10,.lf (.v (.slice (cutA Au0 cu0 (((1 : Int)).toNat) 2) (List.length P4) (cu0 - ((1 : Int)).toNat)))),(11,.lf (.v (.int .i64 (List.length P4 : Int)))),(12,.lf (.v (.int .i64 x7)))],H := [(3,[.arr .i64 2 L20]),(3,[.arr .i64 2 L19]),(2,[.arr .i64 2 [(0 : Int),(0 : Int)]]),(3,[.arr .i64 2 L8]),(5,[.arr .i64 2 L12])],V := [],M := M,ds := [] }) (by subst_vars;kernel_rfl) [] (by kernel_rfl) trivial ?_
    refine Stage_nil (stage_all' [] [] (by kernel_rfl) (by subst_vars;kernel_rfl) (by kernel_rfl) trivial) ?_
    refine blockQ_n ?_
    refine thenQ_n ?_
    refine T_keep (s':={ σ := [(2,.lf (.own 2 0)),(3,.lf (.own 3 0)),(10,.lf (.v (.slice (cutA Au0 cu0 (((1 : Int)).toNat) 2) (List.length P4) (cu0 - ((1 : Int)).toNat)))),(11,.lf (.v (.int .i64 (List.length P4 : Int)))),(12,.lf (.v (.int .i64 x7)))],H := [(2,[.arr .i64 2 [(0 : Int),(0 : Int)]]),(3,[.arr .i64 2 L20])],V := [],M := M,ds := [] }) [2,3,10,11,12] [2,3] [] (by subst_vars;kernel_rfl) ?_
    refine T_region (id:=6) (by kernel_rfl) ?_
    obtain ⟨x21,e_x21,h⟩ := lt_some h
    refine TI_segK (i:=0) (j:=2) (s':={ σ := [(2,.lf (.own 2 0)),(3,.lf (.own 3 0)),(10,.lf (.v (.slice (cutA Au0 cu0 (((1 : Int)).toNat) 2) (List.length P4) (cu0 - ((1 : Int)).toNat)))),(11,.lf (.v (.int .i64 (List.length P4 : Int)))),(12,.lf (.v (.int .i64 x21)))],H := [(2,[.arr .i64 2 [(0 : Int),(0 : Int)]]),(3,[.arr .i64 2 L20])],V := [],M := M,ds := [] }) [2,3,10,11,12] [2,3] [] (by subst e_x21;kernel_rfl) (by kernel_rfl) ?_
    refine TI_end (by kernel_rfl) ?_
    refine thenQ_n ?_
    exact ⟨n9,Nat.lt_succ_self _,x21,L20,keep_sub (ts:=[2,3,10,11,12]) (hs:=[2,3]) (vs:=[]) (by kernel_rfl),l_L20,h⟩
   | false =>
    replace h := sp_f h
    refine T_condF (x:=(.tmp 13)) (c1:=(sub [1,1,0,1,0,0,1,0,0] (bodyOf Try.f83))) (c2:=(sub [1,1,0,1,0,0,1,0,1] (bodyOf Try.f83))) (by kernel_rfl) (by kernel_rfl) ?_
    refine T_keep (s':={ σ := [(2,.lf (.own 2 0)),(3,.lf (.own 3 0))],H := [(2,[.arr .i64 2 [(0 : Int),(0 : Int)]]),(3,[.arr .i64 2 L8])],V := [],M := M,ds := [] }) [2,3] [2,3] [] (by kernel_rfl) ?_
    refine T_exit (id:=0) (by kernel_rfl) ?_
    refine thenQ_x ?_
    refine thenQ_x ?_
    refine blockQ_x ?_
    refine thenQ_n ?_
    exact ⟨L8,keep_sub (ts:=[2,3]) (hs:=[2,3]) (vs:=[]) (by kernel_rfl),l_L8,h⟩
 ·rintro s' ⟨L5,hsub,l_L5,h⟩
  subst e_j6
  refine thenQ_n ?_
  refine T_sub hsub ?_
  refine T_seq (c1:=(sub [1,1,1,0] (bodyOf Try.f83))) (c2:=(sub [1,1,1,1] (bodyOf Try.f83))) (by kernel_rfl) ?_
  refine T_region (id:=7) (by kernel_rfl) ?_
  refine TI_segK (i:=0) (j:=2) (s':={ σ := [(2,.lf (.own 2 0))],H := [(2,[.arr .i64 2 L5])],V := [],M := M,ds := [] }) [2] [2] [] (by kernel_rfl) (by kernel_rfl) ?_
  refine TI_end (by kernel_rfl) ?_
  refine thenQ_n ?_
  refine T_ret (by kernel_rfl) ?_
  have h := Option.some.inj h
  subst h
  refine fin_ret (.agg [.arr .i64 2 L5]) (by kernel_rfl) (by kernel_rfl) rfl ?_
  rfl
def p59_l1 (k : Nat) (u0_0 : List (List Int)) (u0_1 : List Int) (u1 : List Int) (j5 : List Int → Option (List Int)) : Nat → Int → List Int → Option (List Int)
 | 0,_,_ => none
 | n8 + 1,x6,L7 => cl (p53 k u0_0 u0_1) fun v9 => lt' (decide (x6 < v9)) fun b10 => sp b10 (jn (fun (L11 : List Int) => lt' (wr .i64 (x6 + (1 : Int))) fun x30 => p59_l1 k u0_0 u0_1 u1 j5 n8 x30 L11) fun j12 => lt' (List.getD u1 2 0) fun x13 => cl (p17 k u0_0 u0_1 x6 x13) fun v14 => gd ((v14).length = 2) <| lt' (List.getD v14 0 0) fun x16 => lt' (wr .i64 (x6 + (1 : Int))) fun x17 => lt' (List.getD u1 2 0) fun x18 => cl (p17 k u0_0 u0_1 x17 x18) fun v19 => gd ((v19).length = 2) <| lt' (List.getD v19 0 0) fun x21 => lt' (mx x16 x21) fun x22 => jn (fun (b23 : Bool) => sp b23 (gd ((List.length L7 + List.length ([x6])) * 8 ≤ 140737488355328) <| lt' (L7 ++ ([x6])) fun W29 => j12 W29) (j12 L7)) fun j24 => cl (p80 k u0_0 u0_1 u1 x6) fun v25 => sp v25 (lt' (List.getD u1 3 0) fun x26 => lt' (decide (x22 > x26)) fun b27 => j24 b27) (j24 false)) (j5 L7)
def p59 (k : Nat) (u0_0 : List (List Int)) (u0_1 : List Int) (u1 : List Int) : Option (List Int) :=
 jn (fun (L4 : List Int) => some L4) fun j5 => p59_l1 k u0_0 u0_1 u1 j5 k (0 : Int) ([] : List Int)
theorem hf59 : Try.prog.funcs[59]? = some Try.f59 := by kernel_rfl
theorem w59 (k : Nat) {M : Mem} {Au0_0 : Option Addr} {cu0_0 : Nat} {u0_0 : List (List Int)} {u0_1 : List Int} {u1 : List Int} (hu0_0 : SlR M Au0_0 cu0_0 .i64 11 u0_0) (hu0_1 : u0_1.length = 4) (hu1 : u1.length = 7) {r} (h : p59 k u0_0 u0_1 u1 = some r) :
  Fn Try.prog 59 [rval (.agg [.one (.v (.slice Au0_0 (List.length u0_0) cu0_0)),.arr .i64 4 u0_1]),rval (.agg [.arr .i64 7 u1])] M (fun x M' => ∃ (A1 : Option Addr) (c2 : Nat),x = .lf (.v (.slice A1 (List.length r) c2)) ∧ SlI M' A1 c2 .i64 r) := by
 unfold p59 at h
 refine Fn_of (P:=Try.prog) (fn:=Try.f59) (c:=bodyOf Try.f59) [.agg [.one (.v (.slice Au0_0 (List.length u0_0) cu0_0)),.arr .i64 4 u0_1],.agg [.arr .i64 7 u1]] hf59 (by kernel_rfl) (Nat.le_of_ble_eq_true (by kernel_rfl)) (args_ok (by kernel_rfl) ⟨⟨rfl,⟨hu0_1,trivial⟩⟩,⟨⟨hu1,trivial⟩,trivial⟩⟩) fun w => ?_
 change T _ _ _ (endQ _ _ _)
 refine T_seq (c1:=(sub [0] (bodyOf Try.f59))) (c2:=(sub [1] (bodyOf Try.f59))) (by kernel_rfl) ?_
 refine T_region (id:=0) (by kernel_rfl) ?_
 refine TI_segK (i:=0) (j:=3) (s':={ σ := [(2,.lf (.own 2 0)),(3,.lf (.own 3 0))],H := [(2,[.one (.v (.slice Au0_0 (List.length u0_0) cu0_0)),.arr .i64 4 u0_1]),(3,[.arr .i64 7 u1])],V := [],M := M,ds := [] }) [2,3] [2,3] [] (by kernel_rfl) (by kernel_rfl) ?_
 refine TI_end (by kernel_rfl) ?_
 refine thenQ_n ?_
 refine T_seq (c1:=(sub [1,0] (bodyOf Try.f59))) (c2:=(sub [1,1] (bodyOf Try.f59))) (by kernel_rfl) ?_
 refine T_region (id:=1) (by kernel_rfl) ?_
 refine TI_segK (i:=0) (j:=1) (s':={ σ := [(2,.lf (.own 2 0)),(3,.lf (.own 3 0)),(5,.lf (.v (.slice none (List.length ([] : List Int)) 0)))],H := [(2,[.one (.v (.slice Au0_0 (List.length u0_0) cu0_0)),.arr .i64 4 u0_1]),(3,[.arr .i64 7 u1])],V := [],M := M,ds := [] }) [2,3,5] [2,3] [] (by kernel_rfl) (by kernel_rfl) ?_
 refine TI_end (by kernel_rfl) ?_
 refine thenQ_n ?_
 refine T_turn (turn_nil 5003 3 1 [(2,.lf (.own 2 0)),(3,.lf (.own 3 0)),(5,.lf (.vec 5003))] [(2,[.one (.v (.slice Au0_0 (List.length u0_0) cu0_0)),.arr .i64 4 u0_1]),(3,[.arr .i64 7 u1])] (by kernel_rfl) (by kernel_rfl) (by kernel_rfl)) ?_
 rintro _ rfl
 refine T_keep (s':={ σ := [(2,.lf (.own 2 0)),(3,.lf (.own 3 0)),(5,.lf (.vec 5003))],H := [(2,[.one (.v (.slice Au0_0 (List.length u0_0) cu0_0)),.arr .i64 4 u0_1]),(3,[.arr .i64 7 u1])],V := [(5003,⟨3,1,List.length ([] : List Int),ints .i64 ([] : List Int)⟩)],M := M,ds := [] }) [2,3,5] [2,3] [5003] (by kernel_rfl) ?_
 refine T_seq (c1:=(sub [1,1,0] (bodyOf Try.f59))) (c2:=(sub [1,1,1] (bodyOf Try.f59))) (by kernel_rfl) ?_
 refine T_seq (c1:=(sub [1,1,0,0] (bodyOf Try.f59))) (c2:=(sub [1,1,0,1] (bodyOf Try.f59))) (by kernel_rfl) ?_
 refine T_region (id:=2) (by kernel_rfl) ?_
 refine TI_segK (i:=0) (j:=1) (s':={ σ := [(2,.lf (.own 2 0)),(3,.lf (.own 3 0)),(5,.lf (.vec 5003)),(6,.lf (.v (.int .i64 (0 : Int))))],H := [(2,[.one (.v (.slice Au0_0 (List.length u0_0) cu0_0)),.arr .i64 4 u0_1]),(3,[.arr .i64 7 u1])],V := [(5003,⟨3,1,List.length ([] : List Int),ints .i64 ([] : List Int)⟩)],M := M,ds := [] }) [2,3,5,6] [2,3] [5003] (by kernel_rfl) (by kernel_rfl) ?_
 refine TI_end (by kernel_rfl) ?_
 refine thenQ_n ?_
 obtain ⟨j5,e_j5,h⟩ := jn_some h
 refine T_bcut (id:=0) (c1:=(sub [1,1,0,1,0] (bodyOf Try.f59))) (fun s' => ∃ (L4 : List Int),Sub { σ := [(5,.lf (.vec 5003))],H := [],V := [(5003,⟨3,1,List.length L4,ints .i64 L4⟩)],M := M,ds := [] } s' ∧ j5 L4 = some r) (by kernel_rfl) ?_ ?_
 ·refine T_loop (c1:=(sub [1,1,0,1,0,0] (bodyOf Try.f59))) (by kernel_rfl) (fun n8 s' => ∃ (x6 : Int) (L7 : List Int),Sub { σ := [(2,.lf (.own 2 0)),(3,.lf (.own 3 0)),(5,.lf (.vec 5003)),(6,.lf (.v (.int .i64 x6)))],H := [(2,[.one (.v (.slice Au0_0 (List.length u0_0) cu0_0)),.arr .i64 4 u0_1]),(3,[.arr .i64 7 u1])],V := [(5003,⟨3,1,List.length L7,ints .i64 L7⟩)],M := M,ds := [] } s' ∧ p59_l1 k u0_0 u0_1 u1 j5 n8 x6 L7 = some r) (k:=k) ⟨(0 : Int),([] : List Int),keep_sub (ts:=[2,3,5,6]) (hs:=[2,3]) (vs:=[5003]) (by kernel_rfl),h⟩ ?_
  rintro n8 s' ⟨x6,L7,hsub,h⟩
  cases n8 with
  | zero => rw [p59_l1] at h;cases h
  | succ n8 =>
   rw [p59_l1] at h
   refine T_sub hsub ?_
   refine T_seq (c1:=(sub [1,1,0,1,0,0,0] (bodyOf Try.f59))) (c2:=(sub [1,1,0,1,0,0,1] (bodyOf Try.f59))) (by kernel_rfl) ?_
   refine T_seq (c1:=(sub [1,1,0,1,0,0,0,0] (bodyOf Try.f59))) (c2:=(sub [1,1,0,1,0,0,0,1] (bodyOf Try.f59))) (by kernel_rfl) ?_
   refine T_region (id:=3) (by kernel_rfl) ?_
   refine TI_segK (i:=0) (j:=2) (s':={ σ := [(2,.lf (.own 2 0)),(3,.lf (.own 3 0)),(5,.lf (.vec 5003)),(6,.lf (.v (.int .i64 x6))),(8,.lf (.v (.int .i64 x6))),(9,.agg [.one (.v (.slice Au0_0 (List.length u0_0) cu0_0)),.arr .i64 4 u0_1])],H := [(2,[.one (.v (.slice Au0_0 (List.length u0_0) cu0_0)),.arr .i64 4 u0_1]),(3,[.arr .i64 7 u1])],V := [(5003,⟨3,1,List.length L7,ints .i64 L7⟩)],M := M,ds := [] }) [2,3,5,6,8,9] [2,3] [5003] (by kernel_rfl) (by kernel_rfl) ?_
   obtain ⟨v9,c_v9,h⟩ := cl_some h
   refine TI_at (i:=2) (d:=10) (x:=.lf (.v (.int .i64 v9))) (At_call (d:=10) (f:=53) (args:=[rval (.agg [.one (.v (.slice Au0_0 (List.length u0_0) cu0_0)),.arr .i64 4 u0_1])]) (x:=.lf (.v (.int .i64 v9))) (by kernel_rfl) (w53 k hu0_0 hu0_1 c_v9)) (by kernel_rfl) trivial ?_
   obtain ⟨b10,e_b10,h⟩ := lt_some h
   refine TI_segK (i:=3) (j:=4) (s':={ σ := [(2,.lf (.own 2 0)),(3,.lf (.own 3 0)),(5,.lf (.vec 5003)),(6,.lf (.v (.int .i64 x6))),(11,.lf (.v (.bool b10)))],H := [(2,[.one (.v (.slice Au0_0 (List.length u0_0) cu0_0)),.arr .i64 4 u0_1]),(3,[.arr .i64 7 u1])],V := [(5003,⟨3,1,List.length L7,ints .i64 L7⟩)],M := M,ds := [] }) [2,3,5,6,11] [2,3] [5003] (by subst e_b10;kernel_rfl) (by kernel_rfl) ?_
   refine TI_end (by kernel_rfl) ?_
   refine thenQ_n ?_
   cases b10 with
   | true =>
    replace h := sp_t h
    refine T_condT (x:=(.tmp 11)) (c1:=(sub [1,1,0,1,0,0,0,1,0] (bodyOf Try.f59))) (c2:=(sub [1,1,0,1,0,0,0,1,1] (bodyOf Try.f59))) (by kernel_rfl) (by kernel_rfl) ?_
    refine T_keep (s':={ σ := [(2,.lf (.own 2 0)),(3,.lf (.own 3 0)),(5,.lf (.vec 5003)),(6,.lf (.v (.int .i64 x6)))],H := [(2,[.one (.v (.slice Au0_0 (List.length u0_0) cu0_0)),.arr .i64 4 u0_1]),(3,[.arr .i64 7 u1])],V := [(5003,⟨3,1,List.length L7,ints .i64 L7⟩)],M := M,ds := [] }) [2,3,5,6] [2,3] [5003] (by kernel_rfl) ?_
    refine T_skip (by kernel_rfl) ?_
    refine thenQ_n ?_
    obtain ⟨j12,e_j12,h⟩ := jn_some h
    refine T_cut (c1:=(sub [1,1,0,1,0,0,1,0] (bodyOf Try.f59))) (c2:=(sub [1,1,0,1,0,0,1,1] (bodyOf Try.f59))) (fun s' => ∃ (L11 : List Int),Sub { σ := [(2,.lf (.own 2 0)),(3,.lf (.own 3 0)),(5,.lf (.vec 41)),(6,.lf (.v (.int .i64 x6)))],H := [(2,[.one (.v (.slice Au0_0 (List.length u0_0) cu0_0)),.arr .i64 4 u0_1]),(3,[.arr .i64 7 u1])],V := [(41,⟨3,1,List.length L11,ints .i64 L11⟩)],M := M,ds := [] } s' ∧ j12 L11 = some r) (by kernel_rfl) ?_ ?_
    ·refine T_block (id:=1) (c1:=(sub [1,1,0,1,0,0,1,0,0] (bodyOf Try.f59))) (by kernel_rfl) ?_
     refine T_seq (c1:=(sub [1,1,0,1,0,0,1,0,0,0] (bodyOf Try.f59))) (c2:=(sub [1,1,0,1,0,0,1,0,0,1] (bodyOf Try.f59))) (by kernel_rfl) ?_
     obtain ⟨x13,e_x13,h⟩ := lt_some h
     obtain ⟨v14,c_v14,h⟩ := cl_some h
     obtain ⟨g15,h⟩ := gd_some h
     obtain ⟨x16,e_x16,h⟩ := lt_some h
     obtain ⟨x17,e_x17,h⟩ := lt_some h
     obtain ⟨x18,e_x18,h⟩ := lt_some h
     obtain ⟨v19,c_v19,h⟩ := cl_some h
     obtain ⟨g20,h⟩ := gd_some h
     obtain ⟨x21,e_x21,h⟩ := lt_some h
     obtain ⟨x22,e_x22,h⟩ := lt_some h
     refine T_draw' (id:=5) [] [0,0,0,0,0,0,0,0,0,0,0,0,0,0,0] (by kernel_rfl) (by kernel_rfl) (by kernel_rfl) (by kernel_rfl) [(14,.agg [.one (.v (.slice Au0_0 (List.length u0_0) cu0_0)),.arr .i64 4 u0_1]),(15,.lf (.v (.int .i64 x6))),(16,.lf (.own 3 2)),(17,.lf (.v (.int .i64 x13))),(18,.agg [.arr .i64 2 v14]),(19,.lf (.v (.int .i64 x16))),(20,.agg [.one (.v (.slice Au0_0 (List.length u0_0) cu0_0)),.arr .i64 4 u0_1]),(21,.lf (.v (.int .i64 x6))),(22,.lf (.v (.int .i64 x17))),(23,.lf (.own 3 2)),(24,.lf (.v (.int .i64 x18))),(25,.agg [.arr .i64 2 v19]),(26,.lf (.v (.int .i64 x21))),(27,.lf (.v (.int .i64 x22))),(7,.lf (.v (.int .i64 x22)))] (by kernel_rfl) ⟨⟨rfl,⟨hu0_1,trivial⟩⟩,⟨trivial,⟨trivial,⟨trivial,⟨⟨g15,trivial⟩,⟨trivial,⟨⟨rfl,⟨hu0_1,trivial⟩⟩,⟨trivial,⟨trivial,⟨trivial,⟨trivial,⟨⟨g20,trivial⟩,⟨trivial,⟨trivial,⟨trivial,trivial⟩⟩⟩⟩⟩⟩⟩⟩⟩⟩⟩⟩⟩⟩⟩ ?_
     refine Stage_nil (stage_all' [0,1,2,3,5,6,7,8,9,10,12,13,14] [4,11] (by kernel_rfl) (by subst_vars;kernel_rfl) (by kernel_rfl) ⟨QF_at (i:=4) (d:=18) (x:=.agg [.arr .i64 2 v14]) (show OpAt _ _ _ 4 18 _ from by exact At_call (d:=18) (f:=17) (args:=[rval (.agg [.one (.v (.slice Au0_0 (List.length u0_0) cu0_0)),.arr .i64 4 u0_1]),rval (.lf (.v (.int .i64 x6))),rval (.lf (.v (.int .i64 x13)))]) (x:=.agg [.arr .i64 2 v14]) (by subst_vars;kernel_rfl) (w17 k hu0_0 hu0_1 c_v14)) (by kernel_rfl) (by subst_vars;kernel_rfl),⟨QF_at (i:=11) (d:=25) (x:=.agg [.arr .i64 2 v19]) (show OpAt _ _ _ 11 25 _ from by exact At_call (d:=25) (f:=17) (args:=[rval (.agg [.one (.v (.slice Au0_0 (List.length u0_0) cu0_0)),.arr .i64 4 u0_1]),rval (.lf (.v (.int .i64 x17))),rval (.lf (.v (.int .i64 x18)))]) (x:=.agg [.arr .i64 2 v19]) (by subst_vars;kernel_rfl) (w17 k hu0_0 hu0_1 c_v19)) (by kernel_rfl) (by subst_vars;kernel_rfl),trivial⟩⟩) ?_
     refine thenQ_n ?_
     refine T_keep (s':={ σ := [(2,.lf (.own 2 0)),(3,.lf (.own 3 0)),(5,.lf (.vec 5003)),(6,.lf (.v (.int .i64 x6))),(7,.lf (.v (.int .i64 x22)))],H := [(2,[.one (.v (.slice Au0_0 (List.length u0_0) cu0_0)),.arr .i64 4 u0_1]),(3,[.arr .i64 7 u1])],V := [(5003,⟨3,1,List.length L7,ints .i64 L7⟩)],M := M,ds := [] }) [2,3,5,6,7] [2,3] [5003] (by subst_vars;kernel_rfl) ?_
     obtain ⟨j24,e_j24,h⟩ := jn_some h
     refine T_cut (c1:=(sub [1,1,0,1,0,0,1,0,0,1,0] (bodyOf Try.f59))) (c2:=(sub [1,1,0,1,0,0,1,0,0,1,1] (bodyOf Try.f59))) (fun s' => ∃ (b23 : Bool),Sub { σ := [(2,.lf (.own 2 0)),(3,.lf (.own 3 0)),(5,.lf (.vec 5003)),(6,.lf (.v (.int .i64 x6))),(37,.lf (.v (.bool b23)))],H := [(2,[.one (.v (.slice Au0_0 (List.length u0_0) cu0_0)),.arr .i64 4 u0_1]),(3,[.arr .i64 7 u1])],V := [(5003,⟨3,1,List.length L7,ints .i64 L7⟩)],M := M,ds := [] } s' ∧ j24 b23 = some r) (by kernel_rfl) ?_ ?_
     ·refine T_region (id:=6) (by kernel_rfl) ?_
      refine TI_segK (i:=0) (j:=3) (s':={ σ := [(2,.lf (.own 2 0)),(3,.lf (.own 3 0)),(5,.lf (.vec 5003)),(6,.lf (.v (.int .i64 x6))),(7,.lf (.v (.int .i64 x22))),(28,.agg [.one (.v (.slice Au0_0 (List.length u0_0) cu0_0)),.arr .i64 4 u0_1]),(29,.agg [.arr .i64 7 u1]),(30,.lf (.v (.int .i64 x6)))],H := [(2,[.one (.v (.slice Au0_0 (List.length u0_0) cu0_0)),.arr .i64 4 u0_1]),(3,[.arr .i64 7 u1])],V := [(5003,⟨3,1,List.length L7,ints .i64 L7⟩)],M := M,ds := [] }) [2,3,5,6,7,28,29,30] [2,3] [5003] (by kernel_rfl) (by kernel_rfl) ?_
      obtain ⟨v25,c_v25,h⟩ := cl_some h
      refine TI_at (i:=3) (d:=31) (x:=.lf (.v (.bool v25))) (At_call (d:=31) (f:=80) (args:=[rval (.agg [.one (.v (.slice Au0_0 (List.length u0_0) cu0_0)),.arr .i64 4 u0_1]),rval (.agg [.arr .i64 7 u1]),rval (.lf (.v (.int .i64 x6)))]) (x:=.lf (.v (.bool v25))) (by kernel_rfl) (w80 k hu0_0 hu0_1 hu1 c_v25)) (by kernel_rfl) trivial ?_
      refine TI_segK (i:=4) (j:=5) (s':={ σ := [(2,.lf (.own 2 0)),(3,.lf (.own 3 0)),(5,.lf (.vec 5003)),(6,.lf (.v (.int .i64 x6))),(7,.lf (.v (.int .i64 x22))),(32,.lf (.v (.bool v25)))],H := [(2,[.one (.v (.slice Au0_0 (List.length u0_0) cu0_0)),.arr .i64 4 u0_1]),(3,[.arr .i64 7 u1])],V := [(5003,⟨3,1,List.length L7,ints .i64 L7⟩)],M := M,ds := [] }) [2,3,5,6,7,32] [2,3] [5003] (by kernel_rfl) (by kernel_rfl) ?_
      cases v25 with
      | true =>
       replace h := sp_t h
       obtain ⟨x26,e_x26,h⟩ := lt_some h
       obtain ⟨b27,e_b27,h⟩ := lt_some h
       refine TI_segK (i:=5) (j:=10) (s':={ σ := [(2,.lf (.own 2 0)),(3,.lf (.own 3 0)),(5,.lf (.vec 5003)),(6,.lf (.v (.int .i64 x6))),(37,.lf (.v (.bool b27)))],H := [(2,[.one (.v (.slice Au0_0 (List.length u0_0) cu0_0)),.arr .i64 4 u0_1]),(3,[.arr .i64 7 u1])],V := [(5003,⟨3,1,List.length L7,ints .i64 L7⟩)],M := M,ds := [] }) [2,3,5,6,37] [2,3] [5003] (by subst e_b27 e_x26;kernel_rfl) (by kernel_rfl) ?_
       refine TI_end (by kernel_rfl) ?_
       refine thenQ_n ?_
       exact ⟨b27,keep_sub (ts:=[2,3,5,6,37]) (hs:=[2,3]) (vs:=[5003]) (by kernel_rfl),h⟩
      | false =>
       replace h := sp_f h
       refine TI_segK (i:=5) (j:=10) (s':={ σ := [(2,.lf (.own 2 0)),(3,.lf (.own 3 0)),(5,.lf (.vec 5003)),(6,.lf (.v (.int .i64 x6))),(37,.lf (.v (.bool false)))],H := [(2,[.one (.v (.slice Au0_0 (List.length u0_0) cu0_0)),.arr .i64 4 u0_1]),(3,[.arr .i64 7 u1])],V := [(5003,⟨3,1,List.length L7,ints .i64 L7⟩)],M := M,ds := [] }) [2,3,5,6,37] [2,3] [5003] (by kernel_rfl) (by kernel_rfl) ?_
       refine TI_end (by kernel_rfl) ?_
       refine thenQ_n ?_
       exact ⟨false,keep_sub (ts:=[2,3,5,6,37]) (hs:=[2,3]) (vs:=[5003]) (by kernel_rfl),h⟩
     ·rintro s' ⟨b23,hsub,h⟩
      subst e_j24
      refine T_sub hsub ?_
      cases b23 with
      | true =>
       replace h := sp_t h
       refine T_condT (x:=(.tmp 37)) (c1:=(sub [1,1,0,1,0,0,1,0,0,1,1,0] (bodyOf Try.f59))) (c2:=(sub [1,1,0,1,0,0,1,0,0,1,1,1] (bodyOf Try.f59))) (by kernel_rfl) (by kernel_rfl) ?_
       refine T_keep (s':={ σ := [(2,.lf (.own 2 0)),(3,.lf (.own 3 0)),(5,.lf (.vec 5003)),(6,.lf (.v (.int .i64 x6)))],H := [(2,[.one (.v (.slice Au0_0 (List.length u0_0) cu0_0)),.arr .i64 4 u0_1]),(3,[.arr .i64 7 u1])],V := [(5003,⟨3,1,List.length L7,ints .i64 L7⟩)],M := M,ds := [] }) [2,3,5,6] [2,3] [5003] (by kernel_rfl) ?_
       refine T_region (id:=7) (by kernel_rfl) ?_
       refine TI_segK (i:=0) (j:=2) (s':={ σ := [(2,.lf (.own 2 0)),(3,.lf (.own 3 0)),(6,.lf (.v (.int .i64 x6))),(38,.lf (.vec 5003)),(39,.lf (.v (.int .i64 x6)))],H := [(2,[.one (.v (.slice Au0_0 (List.length u0_0) cu0_0)),.arr .i64 4 u0_1]),(3,[.arr .i64 7 u1])],V := [(5003,⟨3,1,List.length L7,ints .i64 L7⟩)],M := M,ds := [] }) [2,3,6,38,39] [2,3] [5003] (by kernel_rfl) (by kernel_rfl) ?_
       refine TI_of (i:=2) (by kernel_rfl) (TE_litC (d:=40) (e:=3) (sz:=1) (len:=1) (cs:=ints .i64 ([x6])) (by kernel_rfl) (by kernel_rfl) (by kernel_rfl) ?_)
       obtain ⟨g28,h⟩ := gd_some h
       obtain ⟨W29,e_W29,h⟩ := lt_some h
       refine TI_of (i:=3) (by kernel_rfl) (TE_appC (d:=41) (e:=3) (sz:=1) (bytes:=8) (n:=5003) (x:=(.tmp 40)) (len:=List.length L7) (cs0:=ints .i64 L7) (cs2:=ints .i64 W29) (by subst e_W29;kernel_rfl) (by kernel_rfl) (by subst e_W29;kernel_rfl) (vecI_src (n:=40) (e:=3) (k:=.i64) (L:=[x6]) (by subst e_W29;kernel_rfl) (by subst e_W29;kernel_rfl)) g28 rfl (len_app_eq e_W29) (ints_app_eq e_W29) ?_)
       refine TI_segK (i:=4) (j:=5) (s':={ σ := [(2,.lf (.own 2 0)),(3,.lf (.own 3 0)),(5,.lf (.vec 41)),(6,.lf (.v (.int .i64 x6)))],H := [(2,[.one (.v (.slice Au0_0 (List.length u0_0) cu0_0)),.arr .i64 4 u0_1]),(3,[.arr .i64 7 u1])],V := [(41,⟨3,1,List.length W29,ints .i64 W29⟩)],M := M,ds := [] }) [2,3,5,6] [2,3] [41] (by kernel_rfl) (by kernel_rfl) ?_
       refine TI_end (by kernel_rfl) ?_
       refine blockQ_n ?_
       refine thenQ_n ?_
       exact ⟨W29,keep_sub (ts:=[2,3,5,6]) (hs:=[2,3]) (vs:=[41]) (by kernel_rfl),h⟩
      | false =>
       replace h := sp_f h
       refine T_condF (x:=(.tmp 37)) (c1:=(sub [1,1,0,1,0,0,1,0,0,1,1,0] (bodyOf Try.f59))) (c2:=(sub [1,1,0,1,0,0,1,0,0,1,1,1] (bodyOf Try.f59))) (by kernel_rfl) (by kernel_rfl) ?_
       refine T_keep (s':={ σ := [(2,.lf (.own 2 0)),(3,.lf (.own 3 0)),(5,.lf (.vec 5003)),(6,.lf (.v (.int .i64 x6)))],H := [(2,[.one (.v (.slice Au0_0 (List.length u0_0) cu0_0)),.arr .i64 4 u0_1]),(3,[.arr .i64 7 u1])],V := [(5003,⟨3,1,List.length L7,ints .i64 L7⟩)],M := M,ds := [] }) [2,3,5,6] [2,3] [5003] (by kernel_rfl) ?_
       refine T_skip (by kernel_rfl) ?_
       refine blockQ_n ?_
       refine thenQ_n ?_
       exact ⟨L7,Sub.trans (keep_sub (ts:=[2,3,5,6]) (hs:=[2,3]) (vs:=[41]) (by kernel_rfl)) (Sub.trans (ren_sub 5003 41 (s':={ σ := [(2,.lf (.own 2 0)),(3,.lf (.own 3 0)),(5,.lf (.vec 41)),(6,.lf (.v (.int .i64 x6)))],H := [(2,[.one (.v (.slice Au0_0 (List.length u0_0) cu0_0)),.arr .i64 4 u0_1]),(3,[.arr .i64 7 u1])],V := [(41,⟨3,1,List.length L7,ints .i64 L7⟩)],M := M,ds := [] }) (by kernel_rfl) (by kernel_rfl)) (keep_sub (s':={ σ := [(2,.lf (.own 2 0)),(3,.lf (.own 3 0)),(5,.lf (.vec 5003)),(6,.lf (.v (.int .i64 x6)))],H := [(2,[.one (.v (.slice Au0_0 (List.length u0_0) cu0_0)),.arr .i64 4 u0_1]),(3,[.arr .i64 7 u1])],V := [(5003,⟨3,1,List.length L7,ints .i64 L7⟩)],M := M,ds := [] }) (ts:=[2,3,5,6]) (hs:=[2,3]) (vs:=[5003]) (by kernel_rfl))),h⟩
    ·rintro s' ⟨L11,hsub,h⟩
     subst e_j12
     refine T_sub hsub ?_
     refine T_region (id:=4) (by kernel_rfl) ?_
     obtain ⟨x30,e_x30,h⟩ := lt_some h
     refine TI_segK (i:=0) (j:=3) (s':={ σ := [(2,.lf (.own 2 0)),(3,.lf (.own 3 0)),(5,.lf (.vec 41)),(6,.lf (.v (.int .i64 x30)))],H := [(2,[.one (.v (.slice Au0_0 (List.length u0_0) cu0_0)),.arr .i64 4 u0_1]),(3,[.arr .i64 7 u1])],V := [(41,⟨3,1,List.length L11,ints .i64 L11⟩)],M := M,ds := [] }) [2,3,5,6] [2,3] [41] (by subst e_x30;kernel_rfl) (by kernel_rfl) ?_
     refine TI_end (by kernel_rfl) ?_
     refine thenQ_n ?_
     exact ⟨n8,Nat.lt_succ_self _,x30,L11,Sub.trans (keep_sub (ts:=[2,3,5,6]) (hs:=[2,3]) (vs:=[5003]) (by kernel_rfl)) (Sub.trans (ren_sub 41 5003 (s':={ σ := [(2,.lf (.own 2 0)),(3,.lf (.own 3 0)),(5,.lf (.vec 5003)),(6,.lf (.v (.int .i64 x30)))],H := [(2,[.one (.v (.slice Au0_0 (List.length u0_0) cu0_0)),.arr .i64 4 u0_1]),(3,[.arr .i64 7 u1])],V := [(5003,⟨3,1,List.length L11,ints .i64 L11⟩)],M := M,ds := [] }) (by kernel_rfl) (by kernel_rfl)) (keep_sub (s':={ σ := [(2,.lf (.own 2 0)),(3,.lf (.own 3 0)),(5,.lf (.vec 41)),(6,.lf (.v (.int .i64 x30)))],H := [(2,[.one (.v (.slice Au0_0 (List.length u0_0) cu0_0)),.arr .i64 4 u0_1]),(3,[.arr .i64 7 u1])],V := [(41,⟨3,1,List.length L11,ints .i64 L11⟩)],M := M,ds := [] }) (ts:=[2,3,5,6]) (hs:=[2,3]) (vs:=[41]) (by kernel_rfl))),h⟩
   | false =>
    replace h := sp_f h
    refine T_condF (x:=(.tmp 11)) (c1:=(sub [1,1,0,1,0,0,0,1,0] (bodyOf Try.f59))) (c2:=(sub [1,1,0,1,0,0,0,1,1] (bodyOf Try.f59))) (by kernel_rfl) (by kernel_rfl) ?_
    refine T_keep (s':={ σ := [(5,.lf (.vec 5003))],H := [],V := [(5003,⟨3,1,List.length L7,ints .i64 L7⟩)],M := M,ds := [] }) [5] [] [5003] (by kernel_rfl) ?_
    refine T_exit (id:=0) (by kernel_rfl) ?_
    refine thenQ_x ?_
    refine thenQ_x ?_
    refine blockQ_x ?_
    refine thenQ_n ?_
    exact ⟨L7,keep_sub (ts:=[5]) (hs:=[]) (vs:=[5003]) (by kernel_rfl),h⟩
 ·rintro s' ⟨L4,hsub,h⟩
  subst e_j5
  refine thenQ_n ?_
  refine T_sub hsub ?_
  refine T_seq (c1:=(sub [1,1,1,0] (bodyOf Try.f59))) (c2:=(sub [1,1,1,1] (bodyOf Try.f59))) (by kernel_rfl) ?_
  refine T_region (id:=8) (by kernel_rfl) ?_
  refine TI_segK (i:=0) (j:=2) (s':={ σ := [(4,.lf (.vec 5003))],H := [],V := [(5003,⟨3,1,List.length L4,ints .i64 L4⟩)],M := M,ds := [] }) [4] [] [5003] (by kernel_rfl) (by kernel_rfl) ?_
  refine TI_end (by kernel_rfl) ?_
  refine thenQ_n ?_
  refine T_turn (turn_pubV 5003 (v:=⟨3,1,List.length L4,ints .i64 L4⟩) (by kernel_rfl)) ?_
  rintro _ ⟨A31,c32,M33,rfl,hSA31,hcA31,-,hNA31,hM33⟩
  have fA31 : SlI M33 A31 c32 .i64 L4 := ⟨hSA31,hcA31⟩
  refine T_keep (s':={ σ := [(4,.lf (.v (.slice A31 (List.length L4) c32)))],H := [],V := [],M := M33,ds := [] }) [4] [] [] (by kernel_rfl) ?_
  refine T_ret (by kernel_rfl) ?_
  have h := Option.some.inj h
  subst h
  refine fin_ret (.lf (.v (.slice A31 (List.length L4) c32))) (by kernel_rfl) (by kernel_rfl) rfl ?_
  exact ⟨A31,c32,rfl,fA31⟩
def p51 (k : Nat) (u0_0 : List (List Int)) (u0_1 : List Int) (u1 : List Int) : Option Int :=
 cl (p59 k u0_0 u0_1 u1) fun v1 => cl (p60 k u0_0 u0_1 u1 v1) fun v5 => lt' (decide (v5 < (0 : Int))) fun b6 => sp b6 (some (1 : Int)) (cl (p76 k u0_0 u0_1 u1) fun v7 => lt' (decide (v7 < (0 : Int))) fun b8 => sp b8 (some (2 : Int)) (some (0 : Int)))
theorem hf51 : Try.prog.funcs[51]? = some Try.f51 := by kernel_rfl
theorem w51 (k : Nat) {M : Mem} {Au0_0 : Option Addr} {cu0_0 : Nat} {u0_0 : List (List Int)} {u0_1 : List Int} {u1 : List Int} (hu0_0 : SlR M Au0_0 cu0_0 .i64 11 u0_0) (hu0_1 : u0_1.length = 4) (hu1 : u1.length = 7) {r} (h : p51 k u0_0 u0_1 u1 = some r) :
  Fn Try.prog 51 [rval (.agg [.one (.v (.slice Au0_0 (List.length u0_0) cu0_0)),.arr .i64 4 u0_1]),rval (.agg [.arr .i64 7 u1])] M (fun x _ => x = .lf (.v (.int .i64 r))) := by
 unfold p51 at h
 refine Fn_of (P:=Try.prog) (fn:=Try.f51) (c:=bodyOf Try.f51) [.agg [.one (.v (.slice Au0_0 (List.length u0_0) cu0_0)),.arr .i64 4 u0_1],.agg [.arr .i64 7 u1]] hf51 (by kernel_rfl) (Nat.le_of_ble_eq_true (by kernel_rfl)) (args_ok (by kernel_rfl) ⟨⟨rfl,⟨hu0_1,trivial⟩⟩,⟨⟨hu1,trivial⟩,trivial⟩⟩) fun w => ?_
 change T _ _ _ (endQ _ _ _)
 refine T_seq (c1:=(sub [0] (bodyOf Try.f51))) (c2:=(sub [1] (bodyOf Try.f51))) (by kernel_rfl) ?_
 refine T_region (id:=0) (by kernel_rfl) ?_
 refine TI_segK (i:=0) (j:=3) (s':={ σ := [(2,.lf (.own 2 0)),(3,.lf (.own 3 0))],H := [(2,[.one (.v (.slice Au0_0 (List.length u0_0) cu0_0)),.arr .i64 4 u0_1]),(3,[.arr .i64 7 u1])],V := [],M := M,ds := [] }) [2,3] [2,3] [] (by kernel_rfl) (by kernel_rfl) ?_
 refine TI_end (by kernel_rfl) ?_
 refine thenQ_n ?_
 refine T_seq (c1:=(sub [1,0] (bodyOf Try.f51))) (c2:=(sub [1,1] (bodyOf Try.f51))) (by kernel_rfl) ?_
 refine T_seq (c1:=(sub [1,0,0] (bodyOf Try.f51))) (c2:=(sub [1,0,1] (bodyOf Try.f51))) (by kernel_rfl) ?_
 obtain ⟨v1,c_v1,h⟩ := cl_some h
 obtain ⟨v5,c_v5,h⟩ := cl_some h
 obtain ⟨b6,e_b6,h⟩ := lt_some h
 refine T_draw' (id:=1) [4] [0,0,0,0,0,1,1] (by kernel_rfl) (by kernel_rfl) (by kernel_rfl) (by kernel_rfl) [(5,.agg [.one (.v (.slice Au0_0 (List.length u0_0) cu0_0)),.arr .i64 4 u0_1]),(6,.agg [.arr .i64 7 u1]),(7,.agg [.one (.v (.slice Au0_0 (List.length u0_0) cu0_0)),.arr .i64 4 u0_1]),(8,.agg [.arr .i64 7 u1])] (by kernel_rfl) ⟨⟨rfl,⟨hu0_1,trivial⟩⟩,⟨⟨hu1,trivial⟩,⟨⟨rfl,⟨hu0_1,trivial⟩⟩,⟨⟨hu1,trivial⟩,trivial⟩⟩⟩⟩ ?_
 refine Stage_te (stage_all' [0,1,2,3] [] (by kernel_rfl) (by subst e_b6;kernel_rfl) (by kernel_rfl) trivial) (TE_callR (d:=9) (f:=59) (args:=[rval (.agg [.one (.v (.slice Au0_0 (List.length u0_0) cu0_0)),.arr .i64 4 u0_1]),rval (.agg [.arr .i64 7 u1])]) (by subst e_b6;kernel_rfl) (by subst e_b6;kernel_rfl) (w59 k hu0_0 hu0_1 hu1 c_v1) ?_) 
 rintro _ M4 _ hM4 _ ⟨A2,c3,rfl,fA2⟩
 refine TL_nil (stageQ_of [(10,.lf (.v (.int .i64 v5))),(11,.lf (.v (.bool b6)))] (by kernel_rfl) ⟨trivial,⟨trivial,trivial⟩⟩ ?_)
 refine Stage_nil (stage_all' [0,1,6] [5] (by kernel_rfl) (by subst e_b6;kernel_rfl) (by kernel_rfl) ⟨QF_at (i:=5) (d:=10) (x:=.lf (.v (.int .i64 v5))) (show OpAt _ _ _ 5 10 _ from by exact At_call (d:=10) (f:=60) (args:=[rval (.agg [.one (.v (.slice Au0_0 (List.length u0_0) cu0_0)),.arr .i64 4 u0_1]),rval (.agg [.arr .i64 7 u1]),rval (.lf (.v (.slice A2 (List.length v1) c3)))]) (x:=.lf (.v (.int .i64 v5))) (by subst e_b6;kernel_rfl) (w60 k (hu0_0.le hM4) hu0_1 hu1 fA2 c_v5)) (by kernel_rfl) (by subst e_b6;kernel_rfl),trivial⟩) ?_
 refine thenQ_n ?_
 refine T_keep (s':={ σ := [(2,.lf (.own 2 0)),(3,.lf (.own 3 0)),(11,.lf (.v (.bool b6)))],H := [(2,[.one (.v (.slice Au0_0 (List.length u0_0) cu0_0)),.arr .i64 4 u0_1]),(3,[.arr .i64 7 u1])],V := [],M := M4,ds := [] }) [2,3,11] [2,3] [] (by subst e_b6;kernel_rfl) ?_
 cases b6 with
 | true =>
  replace h := sp_t h
  refine T_condT (x:=(.tmp 11)) (c1:=(sub [1,0,1,0] (bodyOf Try.f51))) (c2:=(sub [1,0,1,1] (bodyOf Try.f51))) (by kernel_rfl) (by kernel_rfl) ?_
  refine T_keep (s':={ σ := [],H := [],V := [],M := M4,ds := [] }) [] [] [] (by kernel_rfl) ?_
  refine T_seq (c1:=(sub [1,0,1,0,0] (bodyOf Try.f51))) (c2:=(sub [1,0,1,0,1] (bodyOf Try.f51))) (by kernel_rfl) ?_
  refine T_region (id:=2) (by kernel_rfl) ?_
  refine TI_segK (i:=0) (j:=1) (s':={ σ := [(4,.lf (.v (.int .i64 (1 : Int))))],H := [],V := [],M := M4,ds := [] }) [4] [] [] (by kernel_rfl) (by kernel_rfl) ?_
  refine TI_end (by kernel_rfl) ?_
  refine thenQ_n ?_
  refine T_ret (by kernel_rfl) ?_
  refine thenQ_r ?_
  have h := Option.some.inj h
  subst h
  refine fin_ret (.lf (.v (.int .i64 (1 : Int)))) (by kernel_rfl) (by kernel_rfl) rfl ?_
  rfl
 | false =>
  replace h := sp_f h
  refine T_condF (x:=(.tmp 11)) (c1:=(sub [1,0,1,0] (bodyOf Try.f51))) (c2:=(sub [1,0,1,1] (bodyOf Try.f51))) (by kernel_rfl) (by kernel_rfl) ?_
  refine T_keep (s':={ σ := [(2,.lf (.own 2 0)),(3,.lf (.own 3 0))],H := [(2,[.one (.v (.slice Au0_0 (List.length u0_0) cu0_0)),.arr .i64 4 u0_1]),(3,[.arr .i64 7 u1])],V := [],M := M4,ds := [] }) [2,3] [2,3] [] (by kernel_rfl) ?_
  refine T_skip (by kernel_rfl) ?_
  refine thenQ_n ?_
  refine T_seq (c1:=(sub [1,1,0] (bodyOf Try.f51))) (c2:=(sub [1,1,1] (bodyOf Try.f51))) (by kernel_rfl) ?_
  refine T_seq (c1:=(sub [1,1,0,0] (bodyOf Try.f51))) (c2:=(sub [1,1,0,1] (bodyOf Try.f51))) (by kernel_rfl) ?_
  refine T_region (id:=3) (by kernel_rfl) ?_
  refine TI_segK (i:=0) (j:=2) (s':={ σ := [(12,.agg [.one (.v (.slice Au0_0 (List.length u0_0) cu0_0)),.arr .i64 4 u0_1]),(13,.agg [.arr .i64 7 u1])],H := [],V := [],M := M4,ds := [] }) [12,13] [] [] (by kernel_rfl) (by kernel_rfl) ?_
  obtain ⟨v7,c_v7,h⟩ := cl_some h
  refine TI_at (i:=2) (d:=14) (x:=.lf (.v (.int .i64 v7))) (At_call (d:=14) (f:=76) (args:=[rval (.agg [.one (.v (.slice Au0_0 (List.length u0_0) cu0_0)),.arr .i64 4 u0_1]),rval (.agg [.arr .i64 7 u1])]) (x:=.lf (.v (.int .i64 v7))) (by kernel_rfl) (w76 k (hu0_0.le hM4) hu0_1 hu1 c_v7)) (by kernel_rfl) trivial ?_
  obtain ⟨b8,e_b8,h⟩ := lt_some h
  refine TI_segK (i:=3) (j:=4) (s':={ σ := [(15,.lf (.v (.bool b8)))],H := [],V := [],M := M4,ds := [] }) [15] [] [] (by subst e_b8;kernel_rfl) (by kernel_rfl) ?_
  refine TI_end (by kernel_rfl) ?_
  refine thenQ_n ?_
  cases b8 with
  | true =>
   replace h := sp_t h
   refine T_condT (x:=(.tmp 15)) (c1:=(sub [1,1,0,1,0] (bodyOf Try.f51))) (c2:=(sub [1,1,0,1,1] (bodyOf Try.f51))) (by kernel_rfl) (by kernel_rfl) ?_
   refine T_keep (s':={ σ := [],H := [],V := [],M := M4,ds := [] }) [] [] [] (by kernel_rfl) ?_
   refine T_seq (c1:=(sub [1,1,0,1,0,0] (bodyOf Try.f51))) (c2:=(sub [1,1,0,1,0,1] (bodyOf Try.f51))) (by kernel_rfl) ?_
   refine T_region (id:=4) (by kernel_rfl) ?_
   refine TI_segK (i:=0) (j:=1) (s':={ σ := [(4,.lf (.v (.int .i64 (2 : Int))))],H := [],V := [],M := M4,ds := [] }) [4] [] [] (by kernel_rfl) (by kernel_rfl) ?_
   refine TI_end (by kernel_rfl) ?_
   refine thenQ_n ?_
   refine T_ret (by kernel_rfl) ?_
   refine thenQ_r ?_
   have h := Option.some.inj h
   subst h
   refine fin_ret (.lf (.v (.int .i64 (2 : Int)))) (by kernel_rfl) (by kernel_rfl) rfl ?_
   rfl
  | false =>
   replace h := sp_f h
   refine T_condF (x:=(.tmp 15)) (c1:=(sub [1,1,0,1,0] (bodyOf Try.f51))) (c2:=(sub [1,1,0,1,1] (bodyOf Try.f51))) (by kernel_rfl) (by kernel_rfl) ?_
   refine T_keep (s':={ σ := [],H := [],V := [],M := M4,ds := [] }) [] [] [] (by kernel_rfl) ?_
   refine T_skip (by kernel_rfl) ?_
   refine thenQ_n ?_
   refine T_seq (c1:=(sub [1,1,1,0] (bodyOf Try.f51))) (c2:=(sub [1,1,1,1] (bodyOf Try.f51))) (by kernel_rfl) ?_
   refine T_region (id:=5) (by kernel_rfl) ?_
   refine TI_segK (i:=0) (j:=1) (s':={ σ := [(4,.lf (.v (.int .i64 (0 : Int))))],H := [],V := [],M := M4,ds := [] }) [4] [] [] (by kernel_rfl) (by kernel_rfl) ?_
   refine TI_end (by kernel_rfl) ?_
   refine thenQ_n ?_
   refine T_ret (by kernel_rfl) ?_
   have h := Option.some.inj h
   subst h
   refine fin_ret (.lf (.v (.int .i64 (0 : Int)))) (by kernel_rfl) (by kernel_rfl) rfl ?_
   rfl
def p40 (k : Nat) : Option (List (List Int) × List Int) :=
 some ([[(100 : Int),(0 : Int),(10 : Int),(5 : Int),(5 : Int),(0 : Int),(0 : Int),(0 : Int),(0 : Int),(0 : Int),(0 : Int)],[(104 : Int),(90 : Int),(100 : Int),(9 : Int),(9 : Int),(0 : Int),(0 : Int),(0 : Int),(0 : Int),(0 : Int),(0 : Int)]],[(2 : Int),(0 : Int),(0 : Int),(0 : Int)])
theorem hf40 : Try.prog.funcs[40]? = some Try.f40 := by kernel_rfl
theorem w40 (k : Nat) {M : Mem} {r} (h : p40 k = some r) :
  Fn Try.prog 40 [] M (fun x M' => ∃ (A1 : Option Addr) (c2 : Nat),x = .agg [.one (.v (.slice A1 (List.length r.1) c2)),.arr .i64 4 r.2] ∧ SlR M' A1 c2 .i64 11 r.1) := by
 unfold p40 at h
 refine Fn_of (P:=Try.prog) (fn:=Try.f40) (c:=bodyOf Try.f40) [] hf40 (by kernel_rfl) (Nat.le_of_ble_eq_true (by kernel_rfl)) (args_ok (by kernel_rfl) trivial) fun w => ?_
 change T _ _ _ (endQ _ _ _)
 refine T_seq (c1:=(sub [0] (bodyOf Try.f40))) (c2:=(sub [1] (bodyOf Try.f40))) (by kernel_rfl) ?_
 refine T_region (id:=0) (by kernel_rfl) ?_
 refine TI_segK (i:=0) (j:=1) (s':={ σ := [(0,.lf (.own 0 0))],H := [(0,[.one (.v (.slice none (List.length ([] : List (List Int))) 0)),.arr .i64 4 [(0 : Int),(0 : Int),(0 : Int),(0 : Int)]])],V := [],M := M,ds := [] }) [0] [0] [] (by kernel_rfl) (by kernel_rfl) ?_
 refine TI_end (by kernel_rfl) ?_
 refine thenQ_n ?_
 refine T_seq (c1:=(sub [1,0] (bodyOf Try.f40))) (c2:=(sub [1,1] (bodyOf Try.f40))) (by kernel_rfl) ?_
 refine T_region (id:=1) (by kernel_rfl) ?_
 refine TI_segK (i:=0) (j:=9) (s':={ σ := [(0,.lf (.own 0 0)),(1,.agg [.arr .i64 4 [(2 : Int),(0 : Int),(0 : Int),(0 : Int)]]),(5,.agg [.arr .i64 11 [(100 : Int),(0 : Int),(10 : Int),(5 : Int),(5 : Int),(0 : Int),(0 : Int),(0 : Int),(0 : Int),(0 : Int),(0 : Int)]]),(9,.agg [.arr .i64 11 [(104 : Int),(90 : Int),(100 : Int),(9 : Int),(9 : Int),(0 : Int),(0 : Int),(0 : Int),(0 : Int),(0 : Int),(0 : Int)]])],H := [(0,[.one (.v (.slice none (List.length ([] : List (List Int))) 0)),.arr .i64 4 [(0 : Int),(0 : Int),(0 : Int),(0 : Int)]])],V := [],M := M,ds := [] }) [0,1,5,9] [0] [] (by kernel_rfl) (by kernel_rfl) ?_
 refine TI_of (i:=9) (by kernel_rfl) (TE_litC (d:=10) (e:=43) (sz:=11) (len:=2) (cs:=rowsC .i64 ([[(100 : Int),(0 : Int),(10 : Int),(5 : Int),(5 : Int),(0 : Int),(0 : Int),(0 : Int),(0 : Int),(0 : Int),(0 : Int)],[(104 : Int),(90 : Int),(100 : Int),(9 : Int),(9 : Int),(0 : Int),(0 : Int),(0 : Int),(0 : Int),(0 : Int),(0 : Int)]])) (by kernel_rfl) (by kernel_rfl) (by kernel_rfl) ?_)
 refine TI_segK (i:=10) (j:=12) (s':={ σ := [(0,.lf (.own 0 0))],H := [(0,[.one (.vec 10),.arr .i64 4 [(2 : Int),(0 : Int),(0 : Int),(0 : Int)]])],V := [(10,⟨43,11,List.length ([[(100 : Int),(0 : Int),(10 : Int),(5 : Int),(5 : Int),(0 : Int),(0 : Int),(0 : Int),(0 : Int),(0 : Int),(0 : Int)],[(104 : Int),(90 : Int),(100 : Int),(9 : Int),(9 : Int),(0 : Int),(0 : Int),(0 : Int),(0 : Int),(0 : Int),(0 : Int)]]),rowsC .i64 ([[(100 : Int),(0 : Int),(10 : Int),(5 : Int),(5 : Int),(0 : Int),(0 : Int),(0 : Int),(0 : Int),(0 : Int),(0 : Int)],[(104 : Int),(90 : Int),(100 : Int),(9 : Int),(9 : Int),(0 : Int),(0 : Int),(0 : Int),(0 : Int),(0 : Int),(0 : Int)]])⟩)],M := M,ds := [] }) [0] [0] [10] (by kernel_rfl) (by kernel_rfl) ?_
 refine TI_end (by kernel_rfl) ?_
 refine thenQ_n ?_
 refine T_turn (turn_pubV 10 (v:=⟨43,11,List.length ([[(100 : Int),(0 : Int),(10 : Int),(5 : Int),(5 : Int),(0 : Int),(0 : Int),(0 : Int),(0 : Int),(0 : Int),(0 : Int)],[(104 : Int),(90 : Int),(100 : Int),(9 : Int),(9 : Int),(0 : Int),(0 : Int),(0 : Int),(0 : Int),(0 : Int),(0 : Int)]]),rowsC .i64 ([[(100 : Int),(0 : Int),(10 : Int),(5 : Int),(5 : Int),(0 : Int),(0 : Int),(0 : Int),(0 : Int),(0 : Int),(0 : Int)],[(104 : Int),(90 : Int),(100 : Int),(9 : Int),(9 : Int),(0 : Int),(0 : Int),(0 : Int),(0 : Int),(0 : Int),(0 : Int)]])⟩) (by kernel_rfl)) ?_
 rintro _ ⟨A3,c4,M5,rfl,hSA3,hcA3,-,hNA3,hM5⟩
 have fA3 : SlR M5 A3 c4 .i64 11 ([[(100 : Int),(0 : Int),(10 : Int),(5 : Int),(5 : Int),(0 : Int),(0 : Int),(0 : Int),(0 : Int),(0 : Int),(0 : Int)],[(104 : Int),(90 : Int),(100 : Int),(9 : Int),(9 : Int),(0 : Int),(0 : Int),(0 : Int),(0 : Int),(0 : Int),(0 : Int)]]) := ⟨(rows_cons rfl (rows_cons rfl rows_nil)),hSA3,hcA3⟩
 refine T_keep (s':={ σ := [(0,.lf (.own 0 0))],H := [(0,[.one (.v (.slice A3 (List.length ([[(100 : Int),(0 : Int),(10 : Int),(5 : Int),(5 : Int),(0 : Int),(0 : Int),(0 : Int),(0 : Int),(0 : Int),(0 : Int)],[(104 : Int),(90 : Int),(100 : Int),(9 : Int),(9 : Int),(0 : Int),(0 : Int),(0 : Int),(0 : Int),(0 : Int),(0 : Int)]])) c4)),.arr .i64 4 [(2 : Int),(0 : Int),(0 : Int),(0 : Int)]])],V := [],M := M5,ds := [] }) [0] [0] [] (by kernel_rfl) ?_
 refine T_ret (by kernel_rfl) ?_
 have h := Option.some.inj h
 subst h
 refine fin_ret (.agg [.one (.v (.slice A3 (List.length ([[(100 : Int),(0 : Int),(10 : Int),(5 : Int),(5 : Int),(0 : Int),(0 : Int),(0 : Int),(0 : Int),(0 : Int),(0 : Int)],[(104 : Int),(90 : Int),(100 : Int),(9 : Int),(9 : Int),(0 : Int),(0 : Int),(0 : Int),(0 : Int),(0 : Int),(0 : Int)]])) c4)),.arr .i64 4 [(2 : Int),(0 : Int),(0 : Int),(0 : Int)]]) (by kernel_rfl) (by kernel_rfl) rfl ?_
 exact ⟨A3,c4,rfl,fA3⟩
end Go.Proofs.Ythjkejbgknemgaa
namespace Go.Proofs.Ythjkejbgknemgaa
open Go.RowKit
def p20_l1 (k : Nat) (u1 : List (List Int)) (j14 : Option (List Int × Int)) : Nat → Int → Option (List Int × Int)
 | 0,_ => none
 | n16 + 1,x15 => lt' (decide (x15 < (List.length u1 : Int))) fun b17 => sp b17 (gd ((0 : Int) ≤ x15 ∧ x15 < (List.length u1 : Int)) <| lt' (List.getD u1 ((x15).toNat) []) fun L19 => cl (p33 k L19) fun v20 => lt' (v20 != (0 : Int)) fun b21 => sp b21 (some (([] : List Int),(2 : Int))) (lt' (wr .i64 (x15 + (1 : Int))) fun x26 => p20_l1 k u1 j14 n16 x26)) (j14)
def p20_l2 (k : Nat) (u0_0 : List (List Int)) (u0_1 : List Int) (u1 : List (List Int)) (u2 : Int) (j38 : Int → List Int → Option (List Int × Int)) : Nat → Int → Int → List Int → Option (List Int × Int)
 | 0,_,_,_ => none
 | n42 + 1,x39,x40,L41 => lt' (decide (x40 < (List.length u1 : Int))) fun b43 => sp b43 (jn (fun (x44 : Int) => gd ((List.length L41 + List.length ([x44])) * 8 ≤ 140737488355328) <| lt' (L41 ++ ([x44])) fun W58 => lt' (wr .i64 (x39 + x44)) fun x59 => lt' (wr .i64 (x40 + (1 : Int))) fun x60 => p20_l2 k u0_0 u0_1 u1 u2 j38 n42 x59 x60 W58) fun j45 => gd ((0 : Int) ≤ x40 ∧ x40 < (List.length u1 : Int)) <| lt' (List.getD u1 ((x40).toNat) []) fun L47 => cl (p51 k u0_0 u0_1 L47) fun v48 => lt' (v48 == (1 : Int)) fun b49 => sp b49 (gd ((0 : Int) ≤ x40 ∧ x40 < (List.length u1 : Int)) <| lt' (List.getD (List.getD u1 ((x40).toNat) []) 6 0) fun x51 => j45 x51) (lt' (v48 == (0 : Int)) fun b52 => sp b52 (gd ((0 : Int) ≤ x40 ∧ x40 < (List.length u1 : Int)) <| lt' (List.getD (List.getD u1 ((x40).toNat) []) 6 0) fun x54 => lt' (wr .i64 (x54 * u2)) fun x55 => lt' (wr .i64 (Int.tdiv x55 (1000 : Int))) fun x56 => j45 x56) (j45 (0 : Int)))) (j38 x39 L41)
def p20_l3 (k : Nat) (u3 : Int) (x36 : Int) (L37 : List Int) (j68 : Int → List Int → Option (List Int × Int)) : Nat → Int → Int → List Int → Option (List Int × Int)
 | 0,_,_,_ => none
 | n72 + 1,x69,x70,L71 => lt' (decide (x70 < (List.length L37 : Int))) fun b73 => sp b73 (gd ((0 : Int) ≤ x70 ∧ x70 < (List.length L37 : Int)) <| lt' (List.getD L37 ((x70).toNat) 0) fun x75 => lt' (wr .i64 (x75 * u3)) fun x76 => gd (x36 ≠ 0) <| lt' (wr .i64 (Int.tdiv x76 x36)) fun x78 => gd ((List.length L71 + List.length ([x78])) * 8 ≤ 140737488355328) <| lt' (L71 ++ ([x78])) fun W80 => lt' (wr .i64 (x69 - x78)) fun x81 => lt' (wr .i64 (x70 + (1 : Int))) fun x82 => p20_l3 k u3 x36 L37 j68 n72 x81 x82 W80) (j68 x69 L71)
def p20_l4 (k : Nat) (L37 : List Int) (j84 : List Int → Option (List Int × Int)) : Nat → Int → Int → List Int → Option (List Int × Int)
 | 0,_,_,_ => none
 | n88 + 1,x85,x86,L87 => jn (fun (b89 : Bool) => sp b89 (jn (fun (x93 : Int) (L94 : List Int) => lt' (wr .i64 (x86 + (1 : Int))) fun x107 => p20_l4 k L37 j84 n88 x93 x107 L94) fun j95 => gd ((0 : Int) ≤ x86 ∧ x86 < (List.length L37 : Int)) <| lt' (List.getD L37 ((x86).toNat) 0) fun x97 => gd ((0 : Int) ≤ x86 ∧ x86 < (List.length L87 : Int)) <| lt' (List.getD L87 ((x86).toNat) 0) fun x99 => lt' (decide (x97 > x99)) fun b100 => sp b100 (gd ((0 : Int) ≤ x86 ∧ x86 < (List.length L87 : Int)) <| lt' (List.getD L87 ((x86).toNat) 0) fun x102 => lt' (wr .i64 (x102 + (1 : Int))) fun x103 => gd ((0 : Int) ≤ x86 ∧ x86 < (List.length L87 : Int)) <| lt' (List.set L87 ((x86).toNat) x103) fun L105 => lt' (wr .i64 (x85 - (1 : Int))) fun x106 => j95 x106 L105) (j95 x85 L87)) (j84 L87)) fun j90 => lt' (decide (x86 < (List.length L37 : Int))) fun b91 => sp b91 (lt' (decide (x85 > (0 : Int))) fun b92 => j90 b92) (j90 false)
def p20 (k : Nat) (u0_0 : List (List Int)) (u0_1 : List Int) (u1 : List (List Int)) (u2 : Int) (u3 : Int) : Option (List Int × Int) :=
 cl (p21 k u0_0 u0_1) fun v3 => lt' (v3 != (0 : Int)) fun b4 => sp b4 (some (([] : List Int),v3)) (lt' (decide ((List.length u1 : Int) > (32 : Int))) fun b9 => sp b9 (some (([] : List Int),(6 : Int))) (jn (jn (fun (b27 : Bool) => sp b27 (some (([] : List Int),(2 : Int))) (jn (fun (x36 : Int) (L37 : List Int) => lt' (decide (x36 ≤ u3)) fun b61 => sp b61 (some (L37,(0 : Int))) (jn (fun (x66 : Int) (L67 : List Int) => jn (fun (L83 : List Int) => some (L83,(0 : Int))) fun j84 => p20_l4 k L37 j84 k x66 (0 : Int) L67) fun j68 => p20_l3 k u3 x36 L37 j68 k u3 (0 : Int) ([] : List Int))) fun j38 => p20_l2 k u0_0 u0_1 u1 u2 j38 k (0 : Int) (0 : Int) ([] : List Int))) fun j28 => cl (p50 k u2 (0 : Int) (1000 : Int)) fun v29 => sp v29 (cl (p50 k u3 (0 : Int) (1099511627776 : Int)) fun v30 => j28 (!v30)) (j28 true)) fun j14 => p20_l1 k u1 j14 k (0 : Int)))
theorem hf20 : Try.prog.funcs[20]? = some Try.f20 := by kernel_rfl
theorem w20 (k : Nat) {M : Mem} {Au0_0 : Option Addr} {cu0_0 : Nat} {Au1 : Option Addr} {cu1 : Nat} {u0_0 : List (List Int)} {u0_1 : List Int} {u1 : List (List Int)} {u2 : Int} {u3 : Int} (hu0_0 : SlR M Au0_0 cu0_0 .i64 11 u0_0) (hu0_1 : u0_1.length = 4) (hu1 : SlR M Au1 cu1 .i64 7 u1) {r} (h : p20 k u0_0 u0_1 u1 u2 u3 = some r) :
  Fn Try.prog 20 [rval (.agg [.one (.v (.slice Au0_0 (List.length u0_0) cu0_0)),.arr .i64 4 u0_1]),rval (.lf (.v (.slice Au1 (List.length u1) cu1))),rval (.lf (.v (.int .i64 u2))),rval (.lf (.v (.int .i64 u3)))] M (fun x M' => ∃ (A1 : Option Addr) (c2 : Nat),x = .tup [(some (.v (.slice A1 (List.length r.1) c2)),[]),(some (.v (.int .i64 r.2)),[])] ∧ SlI M' A1 c2 .i64 r.1) := by
 unfold p20 at h
 refine Fn_of (P:=Try.prog) (fn:=Try.f20) (c:=bodyOf Try.f20) [.agg [.one (.v (.slice Au0_0 (List.length u0_0) cu0_0)),.arr .i64 4 u0_1],.lf (.v (.slice Au1 (List.length u1) cu1)),.lf (.v (.int .i64 u2)),.lf (.v (.int .i64 u3))] hf20 (by kernel_rfl) (Nat.le_of_ble_eq_true (by kernel_rfl)) (args_ok (by kernel_rfl) ⟨⟨rfl,⟨hu0_1,trivial⟩⟩,⟨trivial,⟨trivial,⟨trivial,trivial⟩⟩⟩⟩) fun w => ?_
 change T _ _ _ (endQ _ _ _)
 refine T_seq (c1:=(sub [0] (bodyOf Try.f20))) (c2:=(sub [1] (bodyOf Try.f20))) (by kernel_rfl) ?_
 refine T_region (id:=0) (by kernel_rfl) ?_
 refine TI_segK (i:=0) (j:=3) (s':={ σ := [(1,.lf (.v (.slice Au1 (List.length u1) cu1))),(2,.lf (.v (.int .i64 u2))),(3,.lf (.v (.int .i64 u3))),(4,.lf (.own 4 0))],H := [(4,[.one (.v (.slice Au0_0 (List.length u0_0) cu0_0)),.arr .i64 4 u0_1])],V := [],M := M,ds := [] }) [1,2,3,4] [4] [] (by kernel_rfl) (by kernel_rfl) ?_
 refine TI_end (by kernel_rfl) ?_
 refine thenQ_n ?_
 refine T_seq (c1:=(sub [1,0] (bodyOf Try.f20))) (c2:=(sub [1,1] (bodyOf Try.f20))) (by kernel_rfl) ?_
 refine T_region (id:=1) (by kernel_rfl) ?_
 refine TI_segK (i:=0) (j:=1) (s':={ σ := [(1,.lf (.v (.slice Au1 (List.length u1) cu1))),(2,.lf (.v (.int .i64 u2))),(3,.lf (.v (.int .i64 u3))),(4,.lf (.own 4 0)),(21,.agg [.one (.v (.slice Au0_0 (List.length u0_0) cu0_0)),.arr .i64 4 u0_1])],H := [(4,[.one (.v (.slice Au0_0 (List.length u0_0) cu0_0)),.arr .i64 4 u0_1])],V := [],M := M,ds := [] }) [1,2,3,4,21] [4] [] (by kernel_rfl) (by kernel_rfl) ?_
 obtain ⟨v3,c_v3,h⟩ := cl_some h
 refine TI_at (i:=1) (d:=22) (x:=.lf (.v (.int .i64 v3))) (At_call (d:=22) (f:=21) (args:=[rval (.agg [.one (.v (.slice Au0_0 (List.length u0_0) cu0_0)),.arr .i64 4 u0_1])]) (x:=.lf (.v (.int .i64 v3))) (by kernel_rfl) (w21 k hu0_0 hu0_1 c_v3)) (by kernel_rfl) trivial ?_
 refine TI_segK (i:=2) (j:=3) (s':={ σ := [(1,.lf (.v (.slice Au1 (List.length u1) cu1))),(2,.lf (.v (.int .i64 u2))),(3,.lf (.v (.int .i64 u3))),(4,.lf (.own 4 0)),(10,.lf (.v (.int .i64 v3)))],H := [(4,[.one (.v (.slice Au0_0 (List.length u0_0) cu0_0)),.arr .i64 4 u0_1])],V := [],M := M,ds := [] }) [1,2,3,4,10] [4] [] (by kernel_rfl) (by kernel_rfl) ?_
 refine TI_end (by kernel_rfl) ?_
 refine thenQ_n ?_
 refine T_seq (c1:=(sub [1,1,0] (bodyOf Try.f20))) (c2:=(sub [1,1,1] (bodyOf Try.f20))) (by kernel_rfl) ?_
 refine T_seq (c1:=(sub [1,1,0,0] (bodyOf Try.f20))) (c2:=(sub [1,1,0,1] (bodyOf Try.f20))) (by kernel_rfl) ?_
 refine T_region (id:=2) (by kernel_rfl) ?_
 obtain ⟨b4,e_b4,h⟩ := lt_some h
 refine TI_segK (i:=0) (j:=2) (s':={ σ := [(1,.lf (.v (.slice Au1 (List.length u1) cu1))),(2,.lf (.v (.int .i64 u2))),(3,.lf (.v (.int .i64 u3))),(4,.lf (.own 4 0)),(10,.lf (.v (.int .i64 v3))),(24,.lf (.v (.bool b4)))],H := [(4,[.one (.v (.slice Au0_0 (List.length u0_0) cu0_0)),.arr .i64 4 u0_1])],V := [],M := M,ds := [] }) [1,2,3,4,10,24] [4] [] (by subst e_b4;kernel_rfl) (by kernel_rfl) ?_
 refine TI_end (by kernel_rfl) ?_
 refine thenQ_n ?_
 cases b4 with
 | true =>
  replace h := sp_t h
  refine T_condT (x:=(.tmp 24)) (c1:=(sub [1,1,0,1,0] (bodyOf Try.f20))) (c2:=(sub [1,1,0,1,1] (bodyOf Try.f20))) (by kernel_rfl) (by kernel_rfl) ?_
  refine T_keep (s':={ σ := [(10,.lf (.v (.int .i64 v3)))],H := [],V := [],M := M,ds := [] }) [10] [] [] (by kernel_rfl) ?_
  refine T_seq (c1:=(sub [1,1,0,1,0,0] (bodyOf Try.f20))) (c2:=(sub [1,1,0,1,0,1] (bodyOf Try.f20))) (by kernel_rfl) ?_
  refine T_region (id:=3) (by kernel_rfl) ?_
  refine TI_segK (i:=0) (j:=3) (s':={ σ := [(8,.lf (.v (.slice none (List.length ([] : List Int)) 0))),(9,.lf (.v (.int .i64 v3)))],H := [],V := [],M := M,ds := [] }) [8,9] [] [] (by kernel_rfl) (by kernel_rfl) ?_
  refine TI_end (by kernel_rfl) ?_
  refine thenQ_n ?_
  refine T_turn (turn_nil 5005 2 1 [(8,.lf (.vec 5005)),(9,.lf (.v (.int .i64 v3)))] [] (by kernel_rfl) (by kernel_rfl) (by kernel_rfl)) ?_
  rintro _ rfl
  refine T_keep (s':={ σ := [(8,.lf (.vec 5005)),(9,.lf (.v (.int .i64 v3)))],H := [],V := [(5005,⟨2,1,List.length ([] : List Int),ints .i64 ([] : List Int)⟩)],M := M,ds := [] }) [8,9] [] [5005] (by kernel_rfl) ?_
  refine T_turn (turn_pubV 5005 (v:=⟨2,1,List.length ([] : List Int),ints .i64 ([] : List Int)⟩) (by kernel_rfl)) ?_
  rintro _ ⟨A6,c7,M8,rfl,hSA6,hcA6,-,hNA6,hM8⟩
  have fA6 : SlI M8 A6 c7 .i64 ([] : List Int) := ⟨hSA6,hcA6⟩
  refine T_keep (s':={ σ := [(8,.lf (.v (.slice A6 (List.length ([] : List Int)) c7))),(9,.lf (.v (.int .i64 v3)))],H := [],V := [],M := M8,ds := [] }) [8,9] [] [] (by kernel_rfl) ?_
  refine T_ret (by kernel_rfl) ?_
  refine thenQ_r ?_
  have h := Option.some.inj h
  subst h
  refine fin_ret (.tup [(some (.v (.slice A6 (List.length ([] : List Int)) c7)),[]),(some (.v (.int .i64 v3)),[])]) (by kernel_rfl) (by kernel_rfl) rfl ?_
  exact ⟨A6,c7,rfl,fA6⟩
 | false =>
  replace h := sp_f h
  refine T_condF (x:=(.tmp 24)) (c1:=(sub [1,1,0,1,0] (bodyOf Try.f20))) (c2:=(sub [1,1,0,1,1] (bodyOf Try.f20))) (by kernel_rfl) (by kernel_rfl) ?_
  refine T_keep (s':={ σ := [(1,.lf (.v (.slice Au1 (List.length u1) cu1))),(2,.lf (.v (.int .i64 u2))),(3,.lf (.v (.int .i64 u3))),(4,.lf (.own 4 0))],H := [(4,[.one (.v (.slice Au0_0 (List.length u0_0) cu0_0)),.arr .i64 4 u0_1])],V := [],M := M,ds := [] }) [1,2,3,4] [4] [] (by kernel_rfl) ?_
  refine T_skip (by kernel_rfl) ?_
  refine thenQ_n ?_
  refine T_seq (c1:=(sub [1,1,1,0] (bodyOf Try.f20))) (c2:=(sub [1,1,1,1] (bodyOf Try.f20))) (by kernel_rfl) ?_
  refine T_seq (c1:=(sub [1,1,1,0,0] (bodyOf Try.f20))) (c2:=(sub [1,1,1,0,1] (bodyOf Try.f20))) (by kernel_rfl) ?_
  refine T_region (id:=4) (by kernel_rfl) ?_
  obtain ⟨b9,e_b9,h⟩ := lt_some h
  refine TI_segK (i:=0) (j:=3) (s':={ σ := [(1,.lf (.v (.slice Au1 (List.length u1) cu1))),(2,.lf (.v (.int .i64 u2))),(3,.lf (.v (.int .i64 u3))),(4,.lf (.own 4 0)),(28,.lf (.v (.bool b9)))],H := [(4,[.one (.v (.slice Au0_0 (List.length u0_0) cu0_0)),.arr .i64 4 u0_1])],V := [],M := M,ds := [] }) [1,2,3,4,28] [4] [] (by subst e_b9;kernel_rfl) (by kernel_rfl) ?_
  refine TI_end (by kernel_rfl) ?_
  refine thenQ_n ?_
  cases b9 with
  | true =>
   replace h := sp_t h
   refine T_condT (x:=(.tmp 28)) (c1:=(sub [1,1,1,0,1,0] (bodyOf Try.f20))) (c2:=(sub [1,1,1,0,1,1] (bodyOf Try.f20))) (by kernel_rfl) (by kernel_rfl) ?_
   refine T_keep (s':={ σ := [],H := [],V := [],M := M,ds := [] }) [] [] [] (by kernel_rfl) ?_
   refine T_seq (c1:=(sub [1,1,1,0,1,0,0] (bodyOf Try.f20))) (c2:=(sub [1,1,1,0,1,0,1] (bodyOf Try.f20))) (by kernel_rfl) ?_
   refine T_region (id:=5) (by kernel_rfl) ?_
   refine TI_segK (i:=0) (j:=2) (s':={ σ := [(8,.lf (.v (.slice none (List.length ([] : List Int)) 0))),(9,.lf (.v (.int .i64 (6 : Int))))],H := [],V := [],M := M,ds := [] }) [8,9] [] [] (by kernel_rfl) (by kernel_rfl) ?_
   refine TI_end (by kernel_rfl) ?_
   refine thenQ_n ?_
   refine T_turn (turn_nil 5010 2 1 [(8,.lf (.vec 5010)),(9,.lf (.v (.int .i64 (6 : Int))))] [] (by kernel_rfl) (by kernel_rfl) (by kernel_rfl)) ?_
   rintro _ rfl
   refine T_keep (s':={ σ := [(8,.lf (.vec 5010)),(9,.lf (.v (.int .i64 (6 : Int))))],H := [],V := [(5010,⟨2,1,List.length ([] : List Int),ints .i64 ([] : List Int)⟩)],M := M,ds := [] }) [8,9] [] [5010] (by kernel_rfl) ?_
   refine T_turn (turn_pubV 5010 (v:=⟨2,1,List.length ([] : List Int),ints .i64 ([] : List Int)⟩) (by kernel_rfl)) ?_
   rintro _ ⟨A11,c12,M13,rfl,hSA11,hcA11,-,hNA11,hM13⟩
   have fA11 : SlI M13 A11 c12 .i64 ([] : List Int) := ⟨hSA11,hcA11⟩
   refine T_keep (s':={ σ := [(8,.lf (.v (.slice A11 (List.length ([] : List Int)) c12))),(9,.lf (.v (.int .i64 (6 : Int))))],H := [],V := [],M := M13,ds := [] }) [8,9] [] [] (by kernel_rfl) ?_
   refine T_ret (by kernel_rfl) ?_
   refine thenQ_r ?_
   have h := Option.some.inj h
   subst h
   refine fin_ret (.tup [(some (.v (.slice A11 (List.length ([] : List Int)) c12)),[]),(some (.v (.int .i64 (6 : Int))),[])]) (by kernel_rfl) (by kernel_rfl) rfl ?_
   exact ⟨A11,c12,rfl,fA11⟩
  | false =>
   replace h := sp_f h
   refine T_condF (x:=(.tmp 28)) (c1:=(sub [1,1,1,0,1,0] (bodyOf Try.f20))) (c2:=(sub [1,1,1,0,1,1] (bodyOf Try.f20))) (by kernel_rfl) (by kernel_rfl) ?_
   refine T_keep (s':={ σ := [(1,.lf (.v (.slice Au1 (List.length u1) cu1))),(2,.lf (.v (.int .i64 u2))),(3,.lf (.v (.int .i64 u3))),(4,.lf (.own 4 0))],H := [(4,[.one (.v (.slice Au0_0 (List.length u0_0) cu0_0)),.arr .i64 4 u0_1])],V := [],M := M,ds := [] }) [1,2,3,4] [4] [] (by kernel_rfl) ?_
   refine T_skip (by kernel_rfl) ?_
   refine thenQ_n ?_
   refine T_seq (c1:=(sub [1,1,1,1,0] (bodyOf Try.f20))) (c2:=(sub [1,1,1,1,1] (bodyOf Try.f20))) (by kernel_rfl) ?_
   refine T_seq (c1:=(sub [1,1,1,1,0,0] (bodyOf Try.f20))) (c2:=(sub [1,1,1,1,0,1] (bodyOf Try.f20))) (by kernel_rfl) ?_
   refine T_region (id:=6) (by kernel_rfl) ?_
   refine TI_segK (i:=0) (j:=1) (s':={ σ := [(1,.lf (.v (.slice Au1 (List.length u1) cu1))),(2,.lf (.v (.int .i64 u2))),(3,.lf (.v (.int .i64 u3))),(4,.lf (.own 4 0)),(11,.lf (.v (.int .i64 (0 : Int))))],H := [(4,[.one (.v (.slice Au0_0 (List.length u0_0) cu0_0)),.arr .i64 4 u0_1])],V := [],M := M,ds := [] }) [1,2,3,4,11] [4] [] (by kernel_rfl) (by kernel_rfl) ?_
   refine TI_end (by kernel_rfl) ?_
   refine thenQ_n ?_
   obtain ⟨j14,e_j14,h⟩ := jn_some h
   refine T_bcut (id:=0) (c1:=(sub [1,1,1,1,0,1,0] (bodyOf Try.f20))) (fun s' => Sub { σ := [(1,.lf (.v (.slice Au1 (List.length u1) cu1))),(2,.lf (.v (.int .i64 u2))),(3,.lf (.v (.int .i64 u3))),(4,.lf (.own 4 0))],H := [(4,[.one (.v (.slice Au0_0 (List.length u0_0) cu0_0)),.arr .i64 4 u0_1])],V := [],M := M,ds := [] } s' ∧ j14 = some r) (by kernel_rfl) ?_ ?_
   ·refine T_loop (c1:=(sub [1,1,1,1,0,1,0,0] (bodyOf Try.f20))) (by kernel_rfl) (fun n16 s' => ∃ (x15 : Int),Sub { σ := [(1,.lf (.v (.slice Au1 (List.length u1) cu1))),(2,.lf (.v (.int .i64 u2))),(3,.lf (.v (.int .i64 u3))),(4,.lf (.own 4 0)),(11,.lf (.v (.int .i64 x15)))],H := [(4,[.one (.v (.slice Au0_0 (List.length u0_0) cu0_0)),.arr .i64 4 u0_1])],V := [],M := M,ds := [] } s' ∧ p20_l1 k u1 j14 n16 x15 = some r) (k:=k) ⟨(0 : Int),keep_sub (ts:=[1,2,3,4,11]) (hs:=[4]) (vs:=[]) (by kernel_rfl),h⟩ ?_
    rintro n16 s' ⟨x15,hsub,h⟩
    cases n16 with
    | zero => rw [p20_l1] at h;cases h
    | succ n16 =>
     rw [p20_l1] at h
     refine T_sub hsub ?_
     refine T_seq (c1:=(sub [1,1,1,1,0,1,0,0,0] (bodyOf Try.f20))) (c2:=(sub [1,1,1,1,0,1,0,0,1] (bodyOf Try.f20))) (by kernel_rfl) ?_
     refine T_seq (c1:=(sub [1,1,1,1,0,1,0,0,0,0] (bodyOf Try.f20))) (c2:=(sub [1,1,1,1,0,1,0,0,0,1] (bodyOf Try.f20))) (by kernel_rfl) ?_
     refine T_region (id:=7) (by kernel_rfl) ?_
     obtain ⟨b17,e_b17,h⟩ := lt_some h
     refine TI_segK (i:=0) (j:=4) (s':={ σ := [(1,.lf (.v (.slice Au1 (List.length u1) cu1))),(2,.lf (.v (.int .i64 u2))),(3,.lf (.v (.int .i64 u3))),(4,.lf (.own 4 0)),(11,.lf (.v (.int .i64 x15))),(32,.lf (.v (.bool b17)))],H := [(4,[.one (.v (.slice Au0_0 (List.length u0_0) cu0_0)),.arr .i64 4 u0_1])],V := [],M := M,ds := [] }) [1,2,3,4,11,32] [4] [] (by subst e_b17;kernel_rfl) (by kernel_rfl) ?_
     refine TI_end (by kernel_rfl) ?_
     refine thenQ_n ?_
     cases b17 with
     | true =>
      replace h := sp_t h
      refine T_condT (x:=(.tmp 32)) (c1:=(sub [1,1,1,1,0,1,0,0,0,1,0] (bodyOf Try.f20))) (c2:=(sub [1,1,1,1,0,1,0,0,0,1,1] (bodyOf Try.f20))) (by kernel_rfl) (by kernel_rfl) ?_
      refine T_keep (s':={ σ := [(1,.lf (.v (.slice Au1 (List.length u1) cu1))),(2,.lf (.v (.int .i64 u2))),(3,.lf (.v (.int .i64 u3))),(4,.lf (.own 4 0)),(11,.lf (.v (.int .i64 x15)))],H := [(4,[.one (.v (.slice Au0_0 (List.length u0_0) cu0_0)),.arr .i64 4 u0_1])],V := [],M := M,ds := [] }) [1,2,3,4,11] [4] [] (by kernel_rfl) ?_
      refine T_skip (by kernel_rfl) ?_
      refine thenQ_n ?_
      refine T_seq (c1:=(sub [1,1,1,1,0,1,0,0,1,0] (bodyOf Try.f20))) (c2:=(sub [1,1,1,1,0,1,0,0,1,1] (bodyOf Try.f20))) (by kernel_rfl) ?_
      refine T_block (id:=1) (c1:=(sub [1,1,1,1,0,1,0,0,1,0,0] (bodyOf Try.f20))) (by kernel_rfl) ?_
      refine T_seq (c1:=(sub [1,1,1,1,0,1,0,0,1,0,0,0] (bodyOf Try.f20))) (c2:=(sub [1,1,1,1,0,1,0,0,1,0,0,1] (bodyOf Try.f20))) (by kernel_rfl) ?_
      refine T_region (id:=9) (by kernel_rfl) ?_
      refine TI_segK (i:=0) (j:=2) (s':={ σ := [(1,.lf (.v (.slice Au1 (List.length u1) cu1))),(2,.lf (.v (.int .i64 u2))),(3,.lf (.v (.int .i64 u3))),(4,.lf (.own 4 0)),(11,.lf (.v (.int .i64 x15))),(35,.lf (.v (.slice Au1 (List.length u1) cu1))),(36,.lf (.v (.int .i64 x15)))],H := [(4,[.one (.v (.slice Au0_0 (List.length u0_0) cu0_0)),.arr .i64 4 u0_1])],V := [],M := M,ds := [] }) [1,2,3,4,11,35,36] [4] [] (by kernel_rfl) (by kernel_rfl) ?_
      obtain ⟨g18,h⟩ := gd_some h
      refine TI_at (i:=2) (d:=37) (x:=.lf (.ep (.slice Au1 (List.length u1) cu1) 7 ((x15).toNat) 0)) (by exact At_idxR (d:=37) (z:=x15) (by kernel_rfl) g18 hu1) (by kernel_rfl) trivial ?_
      obtain ⟨L19,e_L19,h⟩ := lt_some h
      have l_L19 : (L19).length = 7 := by rw [e_L19]; exact SlR_row hu1 (toNat_lt g18)
      refine TI_at (i:=3) (d:=38) (x:=.agg [.arr .i64 7 L19]) (by rw [e_L19]; exact At_ldRow (d:=38) (q:=(x15).toNat) (by subst e_L19; kernel_rfl) (toNat_lt g18) hu1) (by kernel_rfl) ⟨l_L19,trivial⟩ ?_
      obtain ⟨v20,c_v20,h⟩ := cl_some h
      refine TI_at (i:=4) (d:=39) (x:=.lf (.v (.int .i64 v20))) (At_call (d:=39) (f:=33) (args:=[rval (.agg [.arr .i64 7 L19])]) (x:=.lf (.v (.int .i64 v20))) (by kernel_rfl) (w33 k l_L19 c_v20)) (by kernel_rfl) trivial ?_
      obtain ⟨b21,e_b21,h⟩ := lt_some h
      refine TI_segK (i:=5) (j:=6) (s':={ σ := [(1,.lf (.v (.slice Au1 (List.length u1) cu1))),(2,.lf (.v (.int .i64 u2))),(3,.lf (.v (.int .i64 u3))),(4,.lf (.own 4 0)),(11,.lf (.v (.int .i64 x15))),(40,.lf (.v (.bool b21)))],H := [(4,[.one (.v (.slice Au0_0 (List.length u0_0) cu0_0)),.arr .i64 4 u0_1])],V := [],M := M,ds := [] }) [1,2,3,4,11,40] [4] [] (by subst e_b21;kernel_rfl) (by kernel_rfl) ?_
      refine TI_end (by kernel_rfl) ?_
      refine thenQ_n ?_
      cases b21 with
      | true =>
       replace h := sp_t h
       refine T_condT (x:=(.tmp 40)) (c1:=(sub [1,1,1,1,0,1,0,0,1,0,0,1,0] (bodyOf Try.f20))) (c2:=(sub [1,1,1,1,0,1,0,0,1,0,0,1,1] (bodyOf Try.f20))) (by kernel_rfl) (by kernel_rfl) ?_
       refine T_keep (s':={ σ := [],H := [],V := [],M := M,ds := [] }) [] [] [] (by kernel_rfl) ?_
       refine T_seq (c1:=(sub [1,1,1,1,0,1,0,0,1,0,0,1,0,0] (bodyOf Try.f20))) (c2:=(sub [1,1,1,1,0,1,0,0,1,0,0,1,0,1] (bodyOf Try.f20))) (by kernel_rfl) ?_
       refine T_region (id:=10) (by kernel_rfl) ?_
       refine TI_segK (i:=0) (j:=2) (s':={ σ := [(8,.lf (.v (.slice none (List.length ([] : List Int)) 0))),(9,.lf (.v (.int .i64 (2 : Int))))],H := [],V := [],M := M,ds := [] }) [8,9] [] [] (by kernel_rfl) (by kernel_rfl) ?_
       refine TI_end (by kernel_rfl) ?_
       refine thenQ_n ?_
       refine T_turn (turn_nil 5022 2 1 [(8,.lf (.vec 5022)),(9,.lf (.v (.int .i64 (2 : Int))))] [] (by kernel_rfl) (by kernel_rfl) (by kernel_rfl)) ?_
       rintro _ rfl
       refine T_keep (s':={ σ := [(8,.lf (.vec 5022)),(9,.lf (.v (.int .i64 (2 : Int))))],H := [],V := [(5022,⟨2,1,List.length ([] : List Int),ints .i64 ([] : List Int)⟩)],M := M,ds := [] }) [8,9] [] [5022] (by kernel_rfl) ?_
       refine T_turn (turn_pubV 5022 (v:=⟨2,1,List.length ([] : List Int),ints .i64 ([] : List Int)⟩) (by kernel_rfl)) ?_
       rintro _ ⟨A23,c24,M25,rfl,hSA23,hcA23,-,hNA23,hM25⟩
       have fA23 : SlI M25 A23 c24 .i64 ([] : List Int) := ⟨hSA23,hcA23⟩
       refine T_keep (s':={ σ := [(8,.lf (.v (.slice A23 (List.length ([] : List Int)) c24))),(9,.lf (.v (.int .i64 (2 : Int))))],H := [],V := [],M := M25,ds := [] }) [8,9] [] [] (by kernel_rfl) ?_
       refine T_ret (by kernel_rfl) ?_
       refine blockQ_r ?_
       refine thenQ_r ?_
       refine thenQ_r ?_
       refine blockQ_r ?_
       refine thenQ_r ?_
       refine thenQ_r ?_
       have h := Option.some.inj h
       subst h
       refine fin_ret (.tup [(some (.v (.slice A23 (List.length ([] : List Int)) c24)),[]),(some (.v (.int .i64 (2 : Int))),[])]) (by kernel_rfl) (by kernel_rfl) rfl ?_
       exact ⟨A23,c24,rfl,fA23⟩
      | false =>
       replace h := sp_f h
       refine T_condF (x:=(.tmp 40)) (c1:=(sub [1,1,1,1,0,1,0,0,1,0,0,1,0] (bodyOf Try.f20))) (c2:=(sub [1,1,1,1,0,1,0,0,1,0,0,1,1] (bodyOf Try.f20))) (by kernel_rfl) (by kernel_rfl) ?_
       refine T_keep (s':={ σ := [(1,.lf (.v (.slice Au1 (List.length u1) cu1))),(2,.lf (.v (.int .i64 u2))),(3,.lf (.v (.int .i64 u3))),(4,.lf (.own 4 0)),(11,.lf (.v (.int .i64 x15)))],H := [(4,[.one (.v (.slice Au0_0 (List.length u0_0) cu0_0)),.arr .i64 4 u0_1])],V := [],M := M,ds := [] }) [1,2,3,4,11] [4] [] (by kernel_rfl) ?_
       refine T_skip (by kernel_rfl) ?_
       refine blockQ_n ?_
       refine thenQ_n ?_
       refine T_region (id:=8) (by kernel_rfl) ?_
       obtain ⟨x26,e_x26,h⟩ := lt_some h
       refine TI_segK (i:=0) (j:=3) (s':={ σ := [(1,.lf (.v (.slice Au1 (List.length u1) cu1))),(2,.lf (.v (.int .i64 u2))),(3,.lf (.v (.int .i64 u3))),(4,.lf (.own 4 0)),(11,.lf (.v (.int .i64 x26)))],H := [(4,[.one (.v (.slice Au0_0 (List.length u0_0) cu0_0)),.arr .i64 4 u0_1])],V := [],M := M,ds := [] }) [1,2,3,4,11] [4] [] (by subst e_x26;kernel_rfl) (by kernel_rfl) ?_
       refine TI_end (by kernel_rfl) ?_
       refine thenQ_n ?_
       exact ⟨n16,Nat.lt_succ_self _,x26,keep_sub (ts:=[1,2,3,4,11]) (hs:=[4]) (vs:=[]) (by kernel_rfl),h⟩
     | false =>
      replace h := sp_f h
      refine T_condF (x:=(.tmp 32)) (c1:=(sub [1,1,1,1,0,1,0,0,0,1,0] (bodyOf Try.f20))) (c2:=(sub [1,1,1,1,0,1,0,0,0,1,1] (bodyOf Try.f20))) (by kernel_rfl) (by kernel_rfl) ?_
      refine T_keep (s':={ σ := [(1,.lf (.v (.slice Au1 (List.length u1) cu1))),(2,.lf (.v (.int .i64 u2))),(3,.lf (.v (.int .i64 u3))),(4,.lf (.own 4 0))],H := [(4,[.one (.v (.slice Au0_0 (List.length u0_0) cu0_0)),.arr .i64 4 u0_1])],V := [],M := M,ds := [] }) [1,2,3,4] [4] [] (by kernel_rfl) ?_
      refine T_exit (id:=0) (by kernel_rfl) ?_
      refine thenQ_x ?_
      refine thenQ_x ?_
      refine blockQ_x ?_
      refine thenQ_n ?_
      exact ⟨keep_sub (ts:=[1,2,3,4]) (hs:=[4]) (vs:=[]) (by kernel_rfl),h⟩
   ·rintro s' ⟨hsub,h⟩
    subst e_j14
    refine thenQ_n ?_
    refine T_sub hsub ?_
    refine T_seq (c1:=(sub [1,1,1,1,1,0] (bodyOf Try.f20))) (c2:=(sub [1,1,1,1,1,1] (bodyOf Try.f20))) (by kernel_rfl) ?_
    obtain ⟨j28,e_j28,h⟩ := jn_some h
    refine T_cut (c1:=(sub [1,1,1,1,1,0,0] (bodyOf Try.f20))) (c2:=(sub [1,1,1,1,1,0,1] (bodyOf Try.f20))) (fun s' => ∃ (b27 : Bool),Sub { σ := [(1,.lf (.v (.slice Au1 (List.length u1) cu1))),(2,.lf (.v (.int .i64 u2))),(3,.lf (.v (.int .i64 u3))),(4,.lf (.own 4 0)),(48,.lf (.v (.bool b27)))],H := [(4,[.one (.v (.slice Au0_0 (List.length u0_0) cu0_0)),.arr .i64 4 u0_1])],V := [],M := M,ds := [] } s' ∧ j28 b27 = some r) (by kernel_rfl) ?_ ?_
    ·refine T_region (id:=11) (by kernel_rfl) ?_
     refine TI_segK (i:=0) (j:=1) (s':={ σ := [(1,.lf (.v (.slice Au1 (List.length u1) cu1))),(2,.lf (.v (.int .i64 u2))),(3,.lf (.v (.int .i64 u3))),(4,.lf (.own 4 0)),(41,.lf (.v (.int .i64 u2)))],H := [(4,[.one (.v (.slice Au0_0 (List.length u0_0) cu0_0)),.arr .i64 4 u0_1])],V := [],M := M,ds := [] }) [1,2,3,4,41] [4] [] (by kernel_rfl) (by kernel_rfl) ?_
     obtain ⟨v29,c_v29,h⟩ := cl_some h
     refine TI_at (i:=1) (d:=42) (x:=.lf (.v (.bool v29))) (At_call (d:=42) (f:=50) (args:=[rval (.lf (.v (.int .i64 u2))),rval (.lf (.v (.int .i64 (0 : Int)))),rval (.lf (.v (.int .i64 (1000 : Int))))]) (x:=.lf (.v (.bool v29))) (by kernel_rfl) (w50 k  c_v29)) (by kernel_rfl) trivial ?_
     refine TI_segK (i:=2) (j:=4) (s':={ σ := [(1,.lf (.v (.slice Au1 (List.length u1) cu1))),(2,.lf (.v (.int .i64 u2))),(3,.lf (.v (.int .i64 u3))),(4,.lf (.own 4 0)),(44,.lf (.v (.bool (!v29))))],H := [(4,[.one (.v (.slice Au0_0 (List.length u0_0) cu0_0)),.arr .i64 4 u0_1])],V := [],M := M,ds := [] }) [1,2,3,4,44] [4] [] (by kernel_rfl) (by kernel_rfl) ?_
     cases v29 with
     | true =>
      replace h := sp_t h
      refine TI_segK (i:=4) (j:=5) (s':={ σ := [(1,.lf (.v (.slice Au1 (List.length u1) cu1))),(2,.lf (.v (.int .i64 u2))),(3,.lf (.v (.int .i64 u3))),(4,.lf (.own 4 0)),(44,.lf (.v (.bool false))),(45,.lf (.v (.int .i64 u3)))],H := [(4,[.one (.v (.slice Au0_0 (List.length u0_0) cu0_0)),.arr .i64 4 u0_1])],V := [],M := M,ds := [] }) [1,2,3,4,44,45] [4] [] (by kernel_rfl) (by kernel_rfl) ?_
      obtain ⟨v30,c_v30,h⟩ := cl_some h
      refine TI_at (i:=5) (d:=46) (x:=.lf (.v (.bool v30))) (At_call (d:=46) (f:=50) (args:=[rval (.lf (.v (.int .i64 u3))),rval (.lf (.v (.int .i64 (0 : Int)))),rval (.lf (.v (.int .i64 (1099511627776 : Int))))]) (x:=.lf (.v (.bool v30))) (by kernel_rfl) (w50 k  c_v30)) (by kernel_rfl) trivial ?_
      refine TI_segK (i:=6) (j:=8) (s':={ σ := [(1,.lf (.v (.slice Au1 (List.length u1) cu1))),(2,.lf (.v (.int .i64 u2))),(3,.lf (.v (.int .i64 u3))),(4,.lf (.own 4 0)),(48,.lf (.v (.bool (!v30))))],H := [(4,[.one (.v (.slice Au0_0 (List.length u0_0) cu0_0)),.arr .i64 4 u0_1])],V := [],M := M,ds := [] }) [1,2,3,4,48] [4] [] (by kernel_rfl) (by kernel_rfl) ?_
      refine TI_end (by kernel_rfl) ?_
      refine thenQ_n ?_
      exact ⟨(!v30),keep_sub (ts:=[1,2,3,4,48]) (hs:=[4]) (vs:=[]) (by kernel_rfl),h⟩
     | false =>
      replace h := sp_f h
      refine TI_segK (i:=4) (j:=8) (s':={ σ := [(1,.lf (.v (.slice Au1 (List.length u1) cu1))),(2,.lf (.v (.int .i64 u2))),(3,.lf (.v (.int .i64 u3))),(4,.lf (.own 4 0)),(48,.lf (.v (.bool true)))],H := [(4,[.one (.v (.slice Au0_0 (List.length u0_0) cu0_0)),.arr .i64 4 u0_1])],V := [],M := M,ds := [] }) [1,2,3,4,48] [4] [] (by kernel_rfl) (by kernel_rfl) ?_
      refine TI_end (by kernel_rfl) ?_
      refine thenQ_n ?_
      exact ⟨true,keep_sub (ts:=[1,2,3,4,48]) (hs:=[4]) (vs:=[]) (by kernel_rfl),h⟩
    ·rintro s' ⟨b27,hsub,h⟩
     subst e_j28
     refine T_sub hsub ?_
     cases b27 with
     | true =>
      replace h := sp_t h
      refine T_condT (x:=(.tmp 48)) (c1:=(sub [1,1,1,1,1,0,1,0] (bodyOf Try.f20))) (c2:=(sub [1,1,1,1,1,0,1,1] (bodyOf Try.f20))) (by kernel_rfl) (by kernel_rfl) ?_
      refine T_keep (s':={ σ := [],H := [],V := [],M := M,ds := [] }) [] [] [] (by kernel_rfl) ?_
      refine T_seq (c1:=(sub [1,1,1,1,1,0,1,0,0] (bodyOf Try.f20))) (c2:=(sub [1,1,1,1,1,0,1,0,1] (bodyOf Try.f20))) (by kernel_rfl) ?_
      refine T_region (id:=12) (by kernel_rfl) ?_
      refine TI_segK (i:=0) (j:=2) (s':={ σ := [(8,.lf (.v (.slice none (List.length ([] : List Int)) 0))),(9,.lf (.v (.int .i64 (2 : Int))))],H := [],V := [],M := M,ds := [] }) [8,9] [] [] (by kernel_rfl) (by kernel_rfl) ?_
      refine TI_end (by kernel_rfl) ?_
      refine thenQ_n ?_
      refine T_turn (turn_nil 5031 2 1 [(8,.lf (.vec 5031)),(9,.lf (.v (.int .i64 (2 : Int))))] [] (by kernel_rfl) (by kernel_rfl) (by kernel_rfl)) ?_
      rintro _ rfl
      refine T_keep (s':={ σ := [(8,.lf (.vec 5031)),(9,.lf (.v (.int .i64 (2 : Int))))],H := [],V := [(5031,⟨2,1,List.length ([] : List Int),ints .i64 ([] : List Int)⟩)],M := M,ds := [] }) [8,9] [] [5031] (by kernel_rfl) ?_
      refine T_turn (turn_pubV 5031 (v:=⟨2,1,List.length ([] : List Int),ints .i64 ([] : List Int)⟩) (by kernel_rfl)) ?_
      rintro _ ⟨A32,c33,M34,rfl,hSA32,hcA32,-,hNA32,hM34⟩
      have fA32 : SlI M34 A32 c33 .i64 ([] : List Int) := ⟨hSA32,hcA32⟩
      refine T_keep (s':={ σ := [(8,.lf (.v (.slice A32 (List.length ([] : List Int)) c33))),(9,.lf (.v (.int .i64 (2 : Int))))],H := [],V := [],M := M34,ds := [] }) [8,9] [] [] (by kernel_rfl) ?_
      refine T_ret (by kernel_rfl) ?_
      refine thenQ_r ?_
      have h := Option.some.inj h
      subst h
      refine fin_ret (.tup [(some (.v (.slice A32 (List.length ([] : List Int)) c33)),[]),(some (.v (.int .i64 (2 : Int))),[])]) (by kernel_rfl) (by kernel_rfl) rfl ?_
      exact ⟨A32,c33,rfl,fA32⟩
     | false =>
      replace h := sp_f h
      refine T_condF (x:=(.tmp 48)) (c1:=(sub [1,1,1,1,1,0,1,0] (bodyOf Try.f20))) (c2:=(sub [1,1,1,1,1,0,1,1] (bodyOf Try.f20))) (by kernel_rfl) (by kernel_rfl) ?_
      refine T_keep (s':={ σ := [(1,.lf (.v (.slice Au1 (List.length u1) cu1))),(2,.lf (.v (.int .i64 u2))),(3,.lf (.v (.int .i64 u3))),(4,.lf (.own 4 0))],H := [(4,[.one (.v (.slice Au0_0 (List.length u0_0) cu0_0)),.arr .i64 4 u0_1])],V := [],M := M,ds := [] }) [1,2,3,4] [4] [] (by kernel_rfl) ?_
      refine T_skip (by kernel_rfl) ?_
      refine thenQ_n ?_
      refine T_seq (c1:=(sub [1,1,1,1,1,1,0] (bodyOf Try.f20))) (c2:=(sub [1,1,1,1,1,1,1] (bodyOf Try.f20))) (by kernel_rfl) ?_
      refine T_region (id:=13) (by kernel_rfl) ?_
      refine TI_segK (i:=0) (j:=1) (s':={ σ := [(1,.lf (.v (.slice Au1 (List.length u1) cu1))),(2,.lf (.v (.int .i64 u2))),(3,.lf (.v (.int .i64 u3))),(4,.lf (.own 4 0)),(12,.lf (.v (.slice none (List.length ([] : List Int)) 0)))],H := [(4,[.one (.v (.slice Au0_0 (List.length u0_0) cu0_0)),.arr .i64 4 u0_1])],V := [],M := M,ds := [] }) [1,2,3,4,12] [4] [] (by kernel_rfl) (by kernel_rfl) ?_
      refine TI_end (by kernel_rfl) ?_
      refine thenQ_n ?_
      refine T_turn (turn_nil 5035 2 1 [(1,.lf (.v (.slice Au1 (List.length u1) cu1))),(2,.lf (.v (.int .i64 u2))),(3,.lf (.v (.int .i64 u3))),(4,.lf (.own 4 0)),(12,.lf (.vec 5035))] [(4,[.one (.v (.slice Au0_0 (List.length u0_0) cu0_0)),.arr .i64 4 u0_1])] (by kernel_rfl) (by kernel_rfl) (by kernel_rfl)) ?_
      rintro _ rfl
      refine T_keep (s':={ σ := [(1,.lf (.v (.slice Au1 (List.length u1) cu1))),(2,.lf (.v (.int .i64 u2))),(3,.lf (.v (.int .i64 u3))),(4,.lf (.own 4 0)),(12,.lf (.vec 5035))],H := [(4,[.one (.v (.slice Au0_0 (List.length u0_0) cu0_0)),.arr .i64 4 u0_1])],V := [(5035,⟨2,1,List.length ([] : List Int),ints .i64 ([] : List Int)⟩)],M := M,ds := [] }) [1,2,3,4,12] [4] [5035] (by kernel_rfl) ?_
      refine T_seq (c1:=(sub [1,1,1,1,1,1,1,0] (bodyOf Try.f20))) (c2:=(sub [1,1,1,1,1,1,1,1] (bodyOf Try.f20))) (by kernel_rfl) ?_
      refine T_region (id:=14) (by kernel_rfl) ?_
      refine TI_segK (i:=0) (j:=1) (s':={ σ := [(1,.lf (.v (.slice Au1 (List.length u1) cu1))),(2,.lf (.v (.int .i64 u2))),(3,.lf (.v (.int .i64 u3))),(4,.lf (.own 4 0)),(12,.lf (.vec 5035)),(13,.lf (.v (.int .i64 (0 : Int))))],H := [(4,[.one (.v (.slice Au0_0 (List.length u0_0) cu0_0)),.arr .i64 4 u0_1])],V := [(5035,⟨2,1,List.length ([] : List Int),ints .i64 ([] : List Int)⟩)],M := M,ds := [] }) [1,2,3,4,12,13] [4] [5035] (by kernel_rfl) (by kernel_rfl) ?_
      refine TI_end (by kernel_rfl) ?_
      refine thenQ_n ?_
      refine T_seq (c1:=(sub [1,1,1,1,1,1,1,1,0] (bodyOf Try.f20))) (c2:=(sub [1,1,1,1,1,1,1,1,1] (bodyOf Try.f20))) (by kernel_rfl) ?_
      refine T_seq (c1:=(sub [1,1,1,1,1,1,1,1,0,0] (bodyOf Try.f20))) (c2:=(sub [1,1,1,1,1,1,1,1,0,1] (bodyOf Try.f20))) (by kernel_rfl) ?_
      refine T_region (id:=15) (by kernel_rfl) ?_
      refine TI_segK (i:=0) (j:=1) (s':={ σ := [(1,.lf (.v (.slice Au1 (List.length u1) cu1))),(2,.lf (.v (.int .i64 u2))),(3,.lf (.v (.int .i64 u3))),(4,.lf (.own 4 0)),(12,.lf (.vec 5035)),(13,.lf (.v (.int .i64 (0 : Int)))),(14,.lf (.v (.int .i64 (0 : Int))))],H := [(4,[.one (.v (.slice Au0_0 (List.length u0_0) cu0_0)),.arr .i64 4 u0_1])],V := [(5035,⟨2,1,List.length ([] : List Int),ints .i64 ([] : List Int)⟩)],M := M,ds := [] }) [1,2,3,4,12,13,14] [4] [5035] (by kernel_rfl) (by kernel_rfl) ?_
      refine TI_end (by kernel_rfl) ?_
      refine thenQ_n ?_
      obtain ⟨j38,e_j38,h⟩ := jn_some h
      refine T_bcut (id:=2) (c1:=(sub [1,1,1,1,1,1,1,1,0,1,0] (bodyOf Try.f20))) (fun s' => ∃ (x36 : Int) (L37 : List Int),Sub { σ := [(3,.lf (.v (.int .i64 u3))),(12,.lf (.vec 5035)),(13,.lf (.v (.int .i64 x36)))],H := [],V := [(5035,⟨2,1,List.length L37,ints .i64 L37⟩)],M := M,ds := [] } s' ∧ j38 x36 L37 = some r) (by kernel_rfl) ?_ ?_
      ·refine T_loop (c1:=(sub [1,1,1,1,1,1,1,1,0,1,0,0] (bodyOf Try.f20))) (by kernel_rfl) (fun n42 s' => ∃ (x39 : Int) (x40 : Int) (L41 : List Int),Sub { σ := [(1,.lf (.v (.slice Au1 (List.length u1) cu1))),(2,.lf (.v (.int .i64 u2))),(3,.lf (.v (.int .i64 u3))),(4,.lf (.own 4 0)),(12,.lf (.vec 5035)),(13,.lf (.v (.int .i64 x39))),(14,.lf (.v (.int .i64 x40)))],H := [(4,[.one (.v (.slice Au0_0 (List.length u0_0) cu0_0)),.arr .i64 4 u0_1])],V := [(5035,⟨2,1,List.length L41,ints .i64 L41⟩)],M := M,ds := [] } s' ∧ p20_l2 k u0_0 u0_1 u1 u2 j38 n42 x39 x40 L41 = some r) (k:=k) ⟨(0 : Int),(0 : Int),([] : List Int),keep_sub (ts:=[1,2,3,4,12,13,14]) (hs:=[4]) (vs:=[5035]) (by kernel_rfl),h⟩ ?_
       rintro n42 s' ⟨x39,x40,L41,hsub,h⟩
       cases n42 with
       | zero => rw [p20_l2] at h;cases h
       | succ n42 =>
        rw [p20_l2] at h
        refine T_sub hsub ?_
        refine T_seq (c1:=(sub [1,1,1,1,1,1,1,1,0,1,0,0,0] (bodyOf Try.f20))) (c2:=(sub [1,1,1,1,1,1,1,1,0,1,0,0,1] (bodyOf Try.f20))) (by kernel_rfl) ?_
        refine T_seq (c1:=(sub [1,1,1,1,1,1,1,1,0,1,0,0,0,0] (bodyOf Try.f20))) (c2:=(sub [1,1,1,1,1,1,1,1,0,1,0,0,0,1] (bodyOf Try.f20))) (by kernel_rfl) ?_
        refine T_region (id:=16) (by kernel_rfl) ?_
        obtain ⟨b43,e_b43,h⟩ := lt_some h
        refine TI_segK (i:=0) (j:=4) (s':={ σ := [(1,.lf (.v (.slice Au1 (List.length u1) cu1))),(2,.lf (.v (.int .i64 u2))),(3,.lf (.v (.int .i64 u3))),(4,.lf (.own 4 0)),(12,.lf (.vec 5035)),(13,.lf (.v (.int .i64 x39))),(14,.lf (.v (.int .i64 x40))),(52,.lf (.v (.bool b43)))],H := [(4,[.one (.v (.slice Au0_0 (List.length u0_0) cu0_0)),.arr .i64 4 u0_1])],V := [(5035,⟨2,1,List.length L41,ints .i64 L41⟩)],M := M,ds := [] }) [1,2,3,4,12,13,14,52] [4] [5035] (by subst e_b43;kernel_rfl) (by kernel_rfl) ?_
        refine TI_end (by kernel_rfl) ?_
        refine thenQ_n ?_
        cases b43 with
        | true =>
         replace h := sp_t h
         refine T_condT (x:=(.tmp 52)) (c1:=(sub [1,1,1,1,1,1,1,1,0,1,0,0,0,1,0] (bodyOf Try.f20))) (c2:=(sub [1,1,1,1,1,1,1,1,0,1,0,0,0,1,1] (bodyOf Try.f20))) (by kernel_rfl) (by kernel_rfl) ?_
         refine T_keep (s':={ σ := [(1,.lf (.v (.slice Au1 (List.length u1) cu1))),(2,.lf (.v (.int .i64 u2))),(3,.lf (.v (.int .i64 u3))),(4,.lf (.own 4 0)),(12,.lf (.vec 5035)),(13,.lf (.v (.int .i64 x39))),(14,.lf (.v (.int .i64 x40)))],H := [(4,[.one (.v (.slice Au0_0 (List.length u0_0) cu0_0)),.arr .i64 4 u0_1])],V := [(5035,⟨2,1,List.length L41,ints .i64 L41⟩)],M := M,ds := [] }) [1,2,3,4,12,13,14] [4] [5035] (by kernel_rfl) ?_
         refine T_skip (by kernel_rfl) ?_
         refine thenQ_n ?_
         refine T_seq (c1:=(sub [1,1,1,1,1,1,1,1,0,1,0,0,1,0] (bodyOf Try.f20))) (c2:=(sub [1,1,1,1,1,1,1,1,0,1,0,0,1,1] (bodyOf Try.f20))) (by kernel_rfl) ?_
         refine T_block (id:=3) (c1:=(sub [1,1,1,1,1,1,1,1,0,1,0,0,1,0,0] (bodyOf Try.f20))) (by kernel_rfl) ?_
         refine T_seq (c1:=(sub [1,1,1,1,1,1,1,1,0,1,0,0,1,0,0,0] (bodyOf Try.f20))) (c2:=(sub [1,1,1,1,1,1,1,1,0,1,0,0,1,0,0,1] (bodyOf Try.f20))) (by kernel_rfl) ?_
         refine T_region (id:=18) (by kernel_rfl) ?_
         refine TI_segK (i:=0) (j:=1) (s':={ σ := [(1,.lf (.v (.slice Au1 (List.length u1) cu1))),(2,.lf (.v (.int .i64 u2))),(3,.lf (.v (.int .i64 u3))),(4,.lf (.own 4 0)),(12,.lf (.vec 5035)),(13,.lf (.v (.int .i64 x39))),(14,.lf (.v (.int .i64 x40))),(15,.lf (.v (.int .i64 (0 : Int))))],H := [(4,[.one (.v (.slice Au0_0 (List.length u0_0) cu0_0)),.arr .i64 4 u0_1])],V := [(5035,⟨2,1,List.length L41,ints .i64 L41⟩)],M := M,ds := [] }) [1,2,3,4,12,13,14,15] [4] [5035] (by kernel_rfl) (by kernel_rfl) ?_
         refine TI_end (by kernel_rfl) ?_
         refine thenQ_n ?_
         obtain ⟨j45,e_j45,h⟩ := jn_some h
         refine T_cut (c1:=(sub [1,1,1,1,1,1,1,1,0,1,0,0,1,0,0,1,0] (bodyOf Try.f20))) (c2:=(sub [1,1,1,1,1,1,1,1,0,1,0,0,1,0,0,1,1] (bodyOf Try.f20))) (fun s' => ∃ (x44 : Int),Sub { σ := [(1,.lf (.v (.slice Au1 (List.length u1) cu1))),(2,.lf (.v (.int .i64 u2))),(3,.lf (.v (.int .i64 u3))),(4,.lf (.own 4 0)),(12,.lf (.vec 5035)),(13,.lf (.v (.int .i64 x39))),(14,.lf (.v (.int .i64 x40))),(15,.lf (.v (.int .i64 x44)))],H := [(4,[.one (.v (.slice Au0_0 (List.length u0_0) cu0_0)),.arr .i64 4 u0_1])],V := [(5035,⟨2,1,List.length L41,ints .i64 L41⟩)],M := M,ds := [] } s' ∧ j45 x44 = some r) (by kernel_rfl) ?_ ?_
         ·refine T_seq (c1:=(sub [1,1,1,1,1,1,1,1,0,1,0,0,1,0,0,1,0,0] (bodyOf Try.f20))) (c2:=(sub [1,1,1,1,1,1,1,1,0,1,0,0,1,0,0,1,0,1] (bodyOf Try.f20))) (by kernel_rfl) ?_
          obtain ⟨g46,h⟩ := gd_some h
          obtain ⟨L47,e_L47,h⟩ := lt_some h
          have l_L47 : (L47).length = 7 := by rw [e_L47]; exact SlR_row hu1 (toNat_lt g46)
          obtain ⟨v48,c_v48,h⟩ := cl_some h
          refine T_draw' (id:=19) [] [0,0,0,0,0,0] (by kernel_rfl) (by kernel_rfl) (by kernel_rfl) (by kernel_rfl) [(55,.agg [.one (.v (.slice Au0_0 (List.length u0_0) cu0_0)),.arr .i64 4 u0_1]),(56,.lf (.v (.slice Au1 (List.length u1) cu1))),(57,.lf (.v (.int .i64 x40))),(58,.lf (.ep (.slice Au1 (List.length u1) cu1) 7 ((x40).toNat) 0)),(59,.agg [.arr .i64 7 L47]),(60,.lf (.v (.int .i64 v48)))] (by kernel_rfl) ⟨⟨rfl,⟨hu0_1,trivial⟩⟩,⟨trivial,⟨trivial,⟨trivial,⟨⟨l_L47,trivial⟩,⟨trivial,trivial⟩⟩⟩⟩⟩⟩ ?_
          refine Stage_nil (stage_all' [0,1,2] [3,4,5] (by kernel_rfl) (by subst e_L47; kernel_rfl) (by kernel_rfl) ⟨QF_at (i:=3) (d:=58) (x:=.lf (.ep (.slice Au1 (List.length u1) cu1) 7 ((x40).toNat) 0)) (show OpAt _ _ _ 3 58 _ from by exact At_idxR (d:=58) (z:=x40) (by subst e_L47; kernel_rfl) g46 hu1) (by kernel_rfl) (by subst e_L47; kernel_rfl),⟨QF_at (i:=4) (d:=59) (x:=.agg [.arr .i64 7 L47]) (show OpAt _ _ _ 4 59 _ from by rw [e_L47]; exact At_ldRow (d:=59) (q:=(x40).toNat) (by subst e_L47; kernel_rfl) (toNat_lt g46) hu1) (by kernel_rfl) (by subst e_L47; kernel_rfl),⟨QF_at (i:=5) (d:=60) (x:=.lf (.v (.int .i64 v48))) (show OpAt _ _ _ 5 60 _ from by exact At_call (d:=60) (f:=51) (args:=[rval (.agg [.one (.v (.slice Au0_0 (List.length u0_0) cu0_0)),.arr .i64 4 u0_1]),rval (.agg [.arr .i64 7 L47])]) (x:=.lf (.v (.int .i64 v48))) (by subst e_L47; kernel_rfl) (w51 k hu0_0 hu0_1 l_L47 c_v48)) (by kernel_rfl) (by subst e_L47; kernel_rfl),trivial⟩⟩⟩) ?_
          refine thenQ_n ?_
          refine T_keep (s':={ σ := [(1,.lf (.v (.slice Au1 (List.length u1) cu1))),(2,.lf (.v (.int .i64 u2))),(3,.lf (.v (.int .i64 u3))),(4,.lf (.own 4 0)),(12,.lf (.vec 5035)),(13,.lf (.v (.int .i64 x39))),(14,.lf (.v (.int .i64 x40))),(15,.lf (.v (.int .i64 (0 : Int)))),(60,.lf (.v (.int .i64 v48)))],H := [(4,[.one (.v (.slice Au0_0 (List.length u0_0) cu0_0)),.arr .i64 4 u0_1])],V := [(5035,⟨2,1,List.length L41,ints .i64 L41⟩)],M := M,ds := [] }) [1,2,3,4,12,13,14,15,60] [4] [5035] (by subst e_L47;kernel_rfl) ?_
          refine T_block (id:=4) (c1:=(sub [1,1,1,1,1,1,1,1,0,1,0,0,1,0,0,1,0,1,0] (bodyOf Try.f20))) (by kernel_rfl) ?_
          refine T_seq (c1:=(sub [1,1,1,1,1,1,1,1,0,1,0,0,1,0,0,1,0,1,0,0] (bodyOf Try.f20))) (c2:=(sub [1,1,1,1,1,1,1,1,0,1,0,0,1,0,0,1,0,1,0,1] (bodyOf Try.f20))) (by kernel_rfl) ?_
          refine T_region (id:=20) (by kernel_rfl) ?_
          obtain ⟨b49,e_b49,h⟩ := lt_some h
          refine TI_segK (i:=0) (j:=2) (s':={ σ := [(1,.lf (.v (.slice Au1 (List.length u1) cu1))),(2,.lf (.v (.int .i64 u2))),(3,.lf (.v (.int .i64 u3))),(4,.lf (.own 4 0)),(12,.lf (.vec 5035)),(13,.lf (.v (.int .i64 x39))),(14,.lf (.v (.int .i64 x40))),(15,.lf (.v (.int .i64 (0 : Int)))),(60,.lf (.v (.int .i64 v48))),(61,.lf (.v (.bool b49)))],H := [(4,[.one (.v (.slice Au0_0 (List.length u0_0) cu0_0)),.arr .i64 4 u0_1])],V := [(5035,⟨2,1,List.length L41,ints .i64 L41⟩)],M := M,ds := [] }) [1,2,3,4,12,13,14,15,60,61] [4] [5035] (by subst e_b49;kernel_rfl) (by kernel_rfl) ?_
          refine TI_end (by kernel_rfl) ?_
          refine thenQ_n ?_
          cases b49 with
          | true =>
           replace h := sp_t h
           refine T_condT (x:=(.tmp 61)) (c1:=(sub [1,1,1,1,1,1,1,1,0,1,0,0,1,0,0,1,0,1,0,1,0] (bodyOf Try.f20))) (c2:=(sub [1,1,1,1,1,1,1,1,0,1,0,0,1,0,0,1,0,1,0,1,1] (bodyOf Try.f20))) (by kernel_rfl) (by kernel_rfl) ?_
           refine T_keep (s':={ σ := [(1,.lf (.v (.slice Au1 (List.length u1) cu1))),(2,.lf (.v (.int .i64 u2))),(3,.lf (.v (.int .i64 u3))),(4,.lf (.own 4 0)),(12,.lf (.vec 5035)),(13,.lf (.v (.int .i64 x39))),(14,.lf (.v (.int .i64 x40)))],H := [(4,[.one (.v (.slice Au0_0 (List.length u0_0) cu0_0)),.arr .i64 4 u0_1])],V := [(5035,⟨2,1,List.length L41,ints .i64 L41⟩)],M := M,ds := [] }) [1,2,3,4,12,13,14] [4] [5035] (by kernel_rfl) ?_
           refine T_region (id:=21) (by kernel_rfl) ?_
           refine TI_segK (i:=0) (j:=2) (s':={ σ := [(1,.lf (.v (.slice Au1 (List.length u1) cu1))),(2,.lf (.v (.int .i64 u2))),(3,.lf (.v (.int .i64 u3))),(4,.lf (.own 4 0)),(12,.lf (.vec 5035)),(13,.lf (.v (.int .i64 x39))),(14,.lf (.v (.int .i64 x40))),(63,.lf (.v (.slice Au1 (List.length u1) cu1))),(64,.lf (.v (.int .i64 x40)))],H := [(4,[.one (.v (.slice Au0_0 (List.length u0_0) cu0_0)),.arr .i64 4 u0_1])],V := [(5035,⟨2,1,List.length L41,ints .i64 L41⟩)],M := M,ds := [] }) [1,2,3,4,12,13,14,63,64] [4] [5035] (by kernel_rfl) (by kernel_rfl) ?_
           obtain ⟨g50,h⟩ := gd_some h
           refine TI_at (i:=2) (d:=65) (x:=.lf (.ep (.slice Au1 (List.length u1) cu1) 7 ((x40).toNat) 0)) (by exact At_idxR (d:=65) (z:=x40) (by kernel_rfl) g50 hu1) (by kernel_rfl) trivial ?_
           refine TI_segK (i:=3) (j:=4) (s':={ σ := [(1,.lf (.v (.slice Au1 (List.length u1) cu1))),(2,.lf (.v (.int .i64 u2))),(3,.lf (.v (.int .i64 u3))),(4,.lf (.own 4 0)),(12,.lf (.vec 5035)),(13,.lf (.v (.int .i64 x39))),(14,.lf (.v (.int .i64 x40))),(66,.lf (.ep (.slice Au1 (List.length u1) cu1) 7 ((x40).toNat) 6))],H := [(4,[.one (.v (.slice Au0_0 (List.length u0_0) cu0_0)),.arr .i64 4 u0_1])],V := [(5035,⟨2,1,List.length L41,ints .i64 L41⟩)],M := M,ds := [] }) [1,2,3,4,12,13,14,66] [4] [5035] (by kernel_rfl) (by kernel_rfl) ?_
           obtain ⟨x51,e_x51,h⟩ := lt_some h
           refine TI_at (i:=4) (d:=67) (x:=.lf (.v (.int .i64 x51))) (by rw [e_x51]; exact At_ldR1 (d:=67) (q:=(x40).toNat) (j:=6) (by subst e_x51; kernel_rfl) rfl (toNat_lt g50) hu1) (by kernel_rfl) trivial ?_
           refine TI_segK (i:=5) (j:=6) (s':={ σ := [(1,.lf (.v (.slice Au1 (List.length u1) cu1))),(2,.lf (.v (.int .i64 u2))),(3,.lf (.v (.int .i64 u3))),(4,.lf (.own 4 0)),(12,.lf (.vec 5035)),(13,.lf (.v (.int .i64 x39))),(14,.lf (.v (.int .i64 x40))),(15,.lf (.v (.int .i64 x51)))],H := [(4,[.one (.v (.slice Au0_0 (List.length u0_0) cu0_0)),.arr .i64 4 u0_1])],V := [(5035,⟨2,1,List.length L41,ints .i64 L41⟩)],M := M,ds := [] }) [1,2,3,4,12,13,14,15] [4] [5035] (by kernel_rfl) (by kernel_rfl) ?_
           refine TI_end (by kernel_rfl) ?_
           refine blockQ_n ?_
           refine thenQ_n ?_
           exact ⟨x51,keep_sub (ts:=[1,2,3,4,12,13,14,15]) (hs:=[4]) (vs:=[5035]) (by kernel_rfl),h⟩
          | false =>
           replace h := sp_f h
           refine T_condF (x:=(.tmp 61)) (c1:=(sub [1,1,1,1,1,1,1,1,0,1,0,0,1,0,0,1,0,1,0,1,0] (bodyOf Try.f20))) (c2:=(sub [1,1,1,1,1,1,1,1,0,1,0,0,1,0,0,1,0,1,0,1,1] (bodyOf Try.f20))) (by kernel_rfl) (by kernel_rfl) ?_
           refine T_keep (s':={ σ := [(1,.lf (.v (.slice Au1 (List.length u1) cu1))),(2,.lf (.v (.int .i64 u2))),(3,.lf (.v (.int .i64 u3))),(4,.lf (.own 4 0)),(12,.lf (.vec 5035)),(13,.lf (.v (.int .i64 x39))),(14,.lf (.v (.int .i64 x40))),(15,.lf (.v (.int .i64 (0 : Int)))),(60,.lf (.v (.int .i64 v48)))],H := [(4,[.one (.v (.slice Au0_0 (List.length u0_0) cu0_0)),.arr .i64 4 u0_1])],V := [(5035,⟨2,1,List.length L41,ints .i64 L41⟩)],M := M,ds := [] }) [1,2,3,4,12,13,14,15,60] [4] [5035] (by kernel_rfl) ?_
           refine T_seq (c1:=(sub [1,1,1,1,1,1,1,1,0,1,0,0,1,0,0,1,0,1,0,1,1,0] (bodyOf Try.f20))) (c2:=(sub [1,1,1,1,1,1,1,1,0,1,0,0,1,0,0,1,0,1,0,1,1,1] (bodyOf Try.f20))) (by kernel_rfl) ?_
           refine T_region (id:=22) (by kernel_rfl) ?_
           obtain ⟨b52,e_b52,h⟩ := lt_some h
           refine TI_segK (i:=0) (j:=2) (s':={ σ := [(1,.lf (.v (.slice Au1 (List.length u1) cu1))),(2,.lf (.v (.int .i64 u2))),(3,.lf (.v (.int .i64 u3))),(4,.lf (.own 4 0)),(12,.lf (.vec 5035)),(13,.lf (.v (.int .i64 x39))),(14,.lf (.v (.int .i64 x40))),(15,.lf (.v (.int .i64 (0 : Int)))),(68,.lf (.v (.bool b52)))],H := [(4,[.one (.v (.slice Au0_0 (List.length u0_0) cu0_0)),.arr .i64 4 u0_1])],V := [(5035,⟨2,1,List.length L41,ints .i64 L41⟩)],M := M,ds := [] }) [1,2,3,4,12,13,14,15,68] [4] [5035] (by subst e_b52;kernel_rfl) (by kernel_rfl) ?_
           refine TI_end (by kernel_rfl) ?_
           refine thenQ_n ?_
           cases b52 with
           | true =>
            replace h := sp_t h
            refine T_condT (x:=(.tmp 68)) (c1:=(sub [1,1,1,1,1,1,1,1,0,1,0,0,1,0,0,1,0,1,0,1,1,1,0] (bodyOf Try.f20))) (c2:=(sub [1,1,1,1,1,1,1,1,0,1,0,0,1,0,0,1,0,1,0,1,1,1,1] (bodyOf Try.f20))) (by kernel_rfl) (by kernel_rfl) ?_
            refine T_keep (s':={ σ := [(1,.lf (.v (.slice Au1 (List.length u1) cu1))),(2,.lf (.v (.int .i64 u2))),(3,.lf (.v (.int .i64 u3))),(4,.lf (.own 4 0)),(12,.lf (.vec 5035)),(13,.lf (.v (.int .i64 x39))),(14,.lf (.v (.int .i64 x40)))],H := [(4,[.one (.v (.slice Au0_0 (List.length u0_0) cu0_0)),.arr .i64 4 u0_1])],V := [(5035,⟨2,1,List.length L41,ints .i64 L41⟩)],M := M,ds := [] }) [1,2,3,4,12,13,14] [4] [5035] (by kernel_rfl) ?_
            refine T_region (id:=23) (by kernel_rfl) ?_
            refine TI_segK (i:=0) (j:=2) (s':={ σ := [(1,.lf (.v (.slice Au1 (List.length u1) cu1))),(2,.lf (.v (.int .i64 u2))),(3,.lf (.v (.int .i64 u3))),(4,.lf (.own 4 0)),(12,.lf (.vec 5035)),(13,.lf (.v (.int .i64 x39))),(14,.lf (.v (.int .i64 x40))),(70,.lf (.v (.slice Au1 (List.length u1) cu1))),(71,.lf (.v (.int .i64 x40)))],H := [(4,[.one (.v (.slice Au0_0 (List.length u0_0) cu0_0)),.arr .i64 4 u0_1])],V := [(5035,⟨2,1,List.length L41,ints .i64 L41⟩)],M := M,ds := [] }) [1,2,3,4,12,13,14,70,71] [4] [5035] (by kernel_rfl) (by kernel_rfl) ?_
            obtain ⟨g53,h⟩ := gd_some h
            refine TI_at (i:=2) (d:=72) (x:=.lf (.ep (.slice Au1 (List.length u1) cu1) 7 ((x40).toNat) 0)) (by exact At_idxR (d:=72) (z:=x40) (by kernel_rfl) g53 hu1) (by kernel_rfl) trivial ?_
            refine TI_segK (i:=3) (j:=4) (s':={ σ := [(1,.lf (.v (.slice Au1 (List.length u1) cu1))),(2,.lf (.v (.int .i64 u2))),(3,.lf (.v (.int .i64 u3))),(4,.lf (.own 4 0)),(12,.lf (.vec 5035)),(13,.lf (.v (.int .i64 x39))),(14,.lf (.v (.int .i64 x40))),(73,.lf (.ep (.slice Au1 (List.length u1) cu1) 7 ((x40).toNat) 6))],H := [(4,[.one (.v (.slice Au0_0 (List.length u0_0) cu0_0)),.arr .i64 4 u0_1])],V := [(5035,⟨2,1,List.length L41,ints .i64 L41⟩)],M := M,ds := [] }) [1,2,3,4,12,13,14,73] [4] [5035] (by kernel_rfl) (by kernel_rfl) ?_
            obtain ⟨x54,e_x54,h⟩ := lt_some h
            refine TI_at (i:=4) (d:=74) (x:=.lf (.v (.int .i64 x54))) (by rw [e_x54]; exact At_ldR1 (d:=74) (q:=(x40).toNat) (j:=6) (by subst e_x54; kernel_rfl) rfl (toNat_lt g53) hu1) (by kernel_rfl) trivial ?_
            obtain ⟨x55,e_x55,h⟩ := lt_some h
            obtain ⟨x56,e_x56,h⟩ := lt_some h
            refine TI_segK (i:=5) (j:=9) (s':={ σ := [(1,.lf (.v (.slice Au1 (List.length u1) cu1))),(2,.lf (.v (.int .i64 u2))),(3,.lf (.v (.int .i64 u3))),(4,.lf (.own 4 0)),(12,.lf (.vec 5035)),(13,.lf (.v (.int .i64 x39))),(14,.lf (.v (.int .i64 x40))),(15,.lf (.v (.int .i64 x56)))],H := [(4,[.one (.v (.slice Au0_0 (List.length u0_0) cu0_0)),.arr .i64 4 u0_1])],V := [(5035,⟨2,1,List.length L41,ints .i64 L41⟩)],M := M,ds := [] }) [1,2,3,4,12,13,14,15] [4] [5035] (by subst e_x56 e_x55;kernel_rfl) (by kernel_rfl) ?_
            refine TI_end (by kernel_rfl) ?_
            refine blockQ_n ?_
            refine thenQ_n ?_
            exact ⟨x56,keep_sub (ts:=[1,2,3,4,12,13,14,15]) (hs:=[4]) (vs:=[5035]) (by kernel_rfl),h⟩
           | false =>
            replace h := sp_f h
            refine T_condF (x:=(.tmp 68)) (c1:=(sub [1,1,1,1,1,1,1,1,0,1,0,0,1,0,0,1,0,1,0,1,1,1,0] (bodyOf Try.f20))) (c2:=(sub [1,1,1,1,1,1,1,1,0,1,0,0,1,0,0,1,0,1,0,1,1,1,1] (bodyOf Try.f20))) (by kernel_rfl) (by kernel_rfl) ?_
            refine T_keep (s':={ σ := [(1,.lf (.v (.slice Au1 (List.length u1) cu1))),(2,.lf (.v (.int .i64 u2))),(3,.lf (.v (.int .i64 u3))),(4,.lf (.own 4 0)),(12,.lf (.vec 5035)),(13,.lf (.v (.int .i64 x39))),(14,.lf (.v (.int .i64 x40))),(15,.lf (.v (.int .i64 (0 : Int))))],H := [(4,[.one (.v (.slice Au0_0 (List.length u0_0) cu0_0)),.arr .i64 4 u0_1])],V := [(5035,⟨2,1,List.length L41,ints .i64 L41⟩)],M := M,ds := [] }) [1,2,3,4,12,13,14,15] [4] [5035] (by kernel_rfl) ?_
            refine T_skip (by kernel_rfl) ?_
            refine blockQ_n ?_
            refine thenQ_n ?_
            exact ⟨(0 : Int),keep_sub (ts:=[1,2,3,4,12,13,14,15]) (hs:=[4]) (vs:=[5035]) (by kernel_rfl),h⟩
         ·rintro s' ⟨x44,hsub,h⟩
          subst e_j45
          refine T_sub hsub ?_
          refine T_seq (c1:=(sub [1,1,1,1,1,1,1,1,0,1,0,0,1,0,0,1,1,0] (bodyOf Try.f20))) (c2:=(sub [1,1,1,1,1,1,1,1,0,1,0,0,1,0,0,1,1,1] (bodyOf Try.f20))) (by kernel_rfl) ?_
          refine T_region (id:=24) (by kernel_rfl) ?_
          refine TI_segK (i:=0) (j:=2) (s':={ σ := [(1,.lf (.v (.slice Au1 (List.length u1) cu1))),(2,.lf (.v (.int .i64 u2))),(3,.lf (.v (.int .i64 u3))),(4,.lf (.own 4 0)),(13,.lf (.v (.int .i64 x39))),(14,.lf (.v (.int .i64 x40))),(15,.lf (.v (.int .i64 x44))),(78,.lf (.vec 5035)),(79,.lf (.v (.int .i64 x44)))],H := [(4,[.one (.v (.slice Au0_0 (List.length u0_0) cu0_0)),.arr .i64 4 u0_1])],V := [(5035,⟨2,1,List.length L41,ints .i64 L41⟩)],M := M,ds := [] }) [1,2,3,4,13,14,15,78,79] [4] [5035] (by kernel_rfl) (by kernel_rfl) ?_
          refine TI_of (i:=2) (by kernel_rfl) (TE_litC (d:=80) (e:=2) (sz:=1) (len:=1) (cs:=ints .i64 ([x44])) (by kernel_rfl) (by kernel_rfl) (by kernel_rfl) ?_)
          obtain ⟨g57,h⟩ := gd_some h
          obtain ⟨W58,e_W58,h⟩ := lt_some h
          refine TI_of (i:=3) (by kernel_rfl) (TE_appC (d:=81) (e:=2) (sz:=1) (bytes:=8) (n:=5035) (x:=(.tmp 80)) (len:=List.length L41) (cs0:=ints .i64 L41) (cs2:=ints .i64 W58) (by subst e_W58;kernel_rfl) (by kernel_rfl) (by subst e_W58;kernel_rfl) (vecI_src (n:=80) (e:=2) (k:=.i64) (L:=[x44]) (by subst e_W58;kernel_rfl) (by subst e_W58;kernel_rfl)) g57 rfl (len_app_eq e_W58) (ints_app_eq e_W58) ?_)
          refine TI_segK (i:=4) (j:=5) (s':={ σ := [(1,.lf (.v (.slice Au1 (List.length u1) cu1))),(2,.lf (.v (.int .i64 u2))),(3,.lf (.v (.int .i64 u3))),(4,.lf (.own 4 0)),(12,.lf (.vec 81)),(13,.lf (.v (.int .i64 x39))),(14,.lf (.v (.int .i64 x40))),(15,.lf (.v (.int .i64 x44)))],H := [(4,[.one (.v (.slice Au0_0 (List.length u0_0) cu0_0)),.arr .i64 4 u0_1])],V := [(81,⟨2,1,List.length W58,ints .i64 W58⟩)],M := M,ds := [] }) [1,2,3,4,12,13,14,15] [4] [81] (by kernel_rfl) (by kernel_rfl) ?_
          refine TI_end (by kernel_rfl) ?_
          refine thenQ_n ?_
          refine T_region (id:=25) (by kernel_rfl) ?_
          obtain ⟨x59,e_x59,h⟩ := lt_some h
          refine TI_segK (i:=0) (j:=4) (s':={ σ := [(1,.lf (.v (.slice Au1 (List.length u1) cu1))),(2,.lf (.v (.int .i64 u2))),(3,.lf (.v (.int .i64 u3))),(4,.lf (.own 4 0)),(12,.lf (.vec 81)),(13,.lf (.v (.int .i64 x59))),(14,.lf (.v (.int .i64 x40)))],H := [(4,[.one (.v (.slice Au0_0 (List.length u0_0) cu0_0)),.arr .i64 4 u0_1])],V := [(81,⟨2,1,List.length W58,ints .i64 W58⟩)],M := M,ds := [] }) [1,2,3,4,12,13,14] [4] [81] (by subst e_x59;kernel_rfl) (by kernel_rfl) ?_
          refine TI_end (by kernel_rfl) ?_
          refine blockQ_n ?_
          refine thenQ_n ?_
          refine T_region (id:=17) (by kernel_rfl) ?_
          obtain ⟨x60,e_x60,h⟩ := lt_some h
          refine TI_segK (i:=0) (j:=3) (s':={ σ := [(1,.lf (.v (.slice Au1 (List.length u1) cu1))),(2,.lf (.v (.int .i64 u2))),(3,.lf (.v (.int .i64 u3))),(4,.lf (.own 4 0)),(12,.lf (.vec 81)),(13,.lf (.v (.int .i64 x59))),(14,.lf (.v (.int .i64 x60)))],H := [(4,[.one (.v (.slice Au0_0 (List.length u0_0) cu0_0)),.arr .i64 4 u0_1])],V := [(81,⟨2,1,List.length W58,ints .i64 W58⟩)],M := M,ds := [] }) [1,2,3,4,12,13,14] [4] [81] (by subst e_x60;kernel_rfl) (by kernel_rfl) ?_
          refine TI_end (by kernel_rfl) ?_
          refine thenQ_n ?_
          exact ⟨n42,Nat.lt_succ_self _,x59,x60,W58,Sub.trans (keep_sub (ts:=[1,2,3,4,12,13,14]) (hs:=[4]) (vs:=[5035]) (by kernel_rfl)) (Sub.trans (ren_sub 81 5035 (s':={ σ := [(1,.lf (.v (.slice Au1 (List.length u1) cu1))),(2,.lf (.v (.int .i64 u2))),(3,.lf (.v (.int .i64 u3))),(4,.lf (.own 4 0)),(12,.lf (.vec 5035)),(13,.lf (.v (.int .i64 x59))),(14,.lf (.v (.int .i64 x60)))],H := [(4,[.one (.v (.slice Au0_0 (List.length u0_0) cu0_0)),.arr .i64 4 u0_1])],V := [(5035,⟨2,1,List.length W58,ints .i64 W58⟩)],M := M,ds := [] }) (by kernel_rfl) (by kernel_rfl)) (keep_sub (s':={ σ := [(1,.lf (.v (.slice Au1 (List.length u1) cu1))),(2,.lf (.v (.int .i64 u2))),(3,.lf (.v (.int .i64 u3))),(4,.lf (.own 4 0)),(12,.lf (.vec 81)),(13,.lf (.v (.int .i64 x59))),(14,.lf (.v (.int .i64 x60)))],H := [(4,[.one (.v (.slice Au0_0 (List.length u0_0) cu0_0)),.arr .i64 4 u0_1])],V := [(81,⟨2,1,List.length W58,ints .i64 W58⟩)],M := M,ds := [] }) (ts:=[1,2,3,4,12,13,14]) (hs:=[4]) (vs:=[81]) (by kernel_rfl))),h⟩
        | false =>
         replace h := sp_f h
         refine T_condF (x:=(.tmp 52)) (c1:=(sub [1,1,1,1,1,1,1,1,0,1,0,0,0,1,0] (bodyOf Try.f20))) (c2:=(sub [1,1,1,1,1,1,1,1,0,1,0,0,0,1,1] (bodyOf Try.f20))) (by kernel_rfl) (by kernel_rfl) ?_
         refine T_keep (s':={ σ := [(3,.lf (.v (.int .i64 u3))),(12,.lf (.vec 5035)),(13,.lf (.v (.int .i64 x39)))],H := [],V := [(5035,⟨2,1,List.length L41,ints .i64 L41⟩)],M := M,ds := [] }) [3,12,13] [] [5035] (by kernel_rfl) ?_
         refine T_exit (id:=2) (by kernel_rfl) ?_
         refine thenQ_x ?_
         refine thenQ_x ?_
         refine blockQ_x ?_
         refine thenQ_n ?_
         exact ⟨x39,L41,keep_sub (ts:=[3,12,13]) (hs:=[]) (vs:=[5035]) (by kernel_rfl),h⟩
      ·rintro s' ⟨x36,L37,hsub,h⟩
       subst e_j38
       refine thenQ_n ?_
       refine T_sub hsub ?_
       refine T_seq (c1:=(sub [1,1,1,1,1,1,1,1,1,0] (bodyOf Try.f20))) (c2:=(sub [1,1,1,1,1,1,1,1,1,1] (bodyOf Try.f20))) (by kernel_rfl) ?_
       refine T_seq (c1:=(sub [1,1,1,1,1,1,1,1,1,0,0] (bodyOf Try.f20))) (c2:=(sub [1,1,1,1,1,1,1,1,1,0,1] (bodyOf Try.f20))) (by kernel_rfl) ?_
       refine T_region (id:=26) (by kernel_rfl) ?_
       obtain ⟨b61,e_b61,h⟩ := lt_some h
       refine TI_segK (i:=0) (j:=3) (s':={ σ := [(3,.lf (.v (.int .i64 u3))),(12,.lf (.vec 5035)),(13,.lf (.v (.int .i64 x36))),(87,.lf (.v (.bool b61)))],H := [],V := [(5035,⟨2,1,List.length L37,ints .i64 L37⟩)],M := M,ds := [] }) [3,12,13,87] [] [5035] (by subst e_b61;kernel_rfl) (by kernel_rfl) ?_
       refine TI_end (by kernel_rfl) ?_
       refine thenQ_n ?_
       cases b61 with
       | true =>
        replace h := sp_t h
        refine T_condT (x:=(.tmp 87)) (c1:=(sub [1,1,1,1,1,1,1,1,1,0,1,0] (bodyOf Try.f20))) (c2:=(sub [1,1,1,1,1,1,1,1,1,0,1,1] (bodyOf Try.f20))) (by kernel_rfl) (by kernel_rfl) ?_
        refine T_keep (s':={ σ := [(12,.lf (.vec 5035))],H := [],V := [(5035,⟨2,1,List.length L37,ints .i64 L37⟩)],M := M,ds := [] }) [12] [] [5035] (by kernel_rfl) ?_
        refine T_seq (c1:=(sub [1,1,1,1,1,1,1,1,1,0,1,0,0] (bodyOf Try.f20))) (c2:=(sub [1,1,1,1,1,1,1,1,1,0,1,0,1] (bodyOf Try.f20))) (by kernel_rfl) ?_
        refine T_region (id:=27) (by kernel_rfl) ?_
        refine TI_segK (i:=0) (j:=3) (s':={ σ := [(8,.lf (.vec 5035)),(9,.lf (.v (.int .i64 (0 : Int))))],H := [],V := [(5035,⟨2,1,List.length L37,ints .i64 L37⟩)],M := M,ds := [] }) [8,9] [] [5035] (by kernel_rfl) (by kernel_rfl) ?_
        refine TI_end (by kernel_rfl) ?_
        refine thenQ_n ?_
        refine T_turn (turn_pubV 5035 (v:=⟨2,1,List.length L37,ints .i64 L37⟩) (by kernel_rfl)) ?_
        rintro _ ⟨A62,c63,M64,rfl,hSA62,hcA62,-,hNA62,hM64⟩
        have fA62 : SlI M64 A62 c63 .i64 L37 := ⟨hSA62,hcA62⟩
        refine T_keep (s':={ σ := [(8,.lf (.v (.slice A62 (List.length L37) c63))),(9,.lf (.v (.int .i64 (0 : Int))))],H := [],V := [],M := M64,ds := [] }) [8,9] [] [] (by kernel_rfl) ?_
        refine T_ret (by kernel_rfl) ?_
        refine thenQ_r ?_
        have h := Option.some.inj h
        subst h
        refine fin_ret (.tup [(some (.v (.slice A62 (List.length L37) c63)),[]),(some (.v (.int .i64 (0 : Int))),[])]) (by kernel_rfl) (by kernel_rfl) rfl ?_
        exact ⟨A62,c63,rfl,fA62⟩
       | false =>
        replace h := sp_f h
        refine T_condF (x:=(.tmp 87)) (c1:=(sub [1,1,1,1,1,1,1,1,1,0,1,0] (bodyOf Try.f20))) (c2:=(sub [1,1,1,1,1,1,1,1,1,0,1,1] (bodyOf Try.f20))) (by kernel_rfl) (by kernel_rfl) ?_
        refine T_keep (s':={ σ := [(3,.lf (.v (.int .i64 u3))),(12,.lf (.vec 5035)),(13,.lf (.v (.int .i64 x36)))],H := [],V := [(5035,⟨2,1,List.length L37,ints .i64 L37⟩)],M := M,ds := [] }) [3,12,13] [] [5035] (by kernel_rfl) ?_
        refine T_skip (by kernel_rfl) ?_
        refine thenQ_n ?_
        refine T_seq (c1:=(sub [1,1,1,1,1,1,1,1,1,1,0] (bodyOf Try.f20))) (c2:=(sub [1,1,1,1,1,1,1,1,1,1,1] (bodyOf Try.f20))) (by kernel_rfl) ?_
        refine T_region (id:=28) (by kernel_rfl) ?_
        refine TI_segK (i:=0) (j:=1) (s':={ σ := [(3,.lf (.v (.int .i64 u3))),(12,.lf (.vec 5035)),(13,.lf (.v (.int .i64 x36))),(16,.lf (.v (.slice none (List.length ([] : List Int)) 0)))],H := [],V := [(5035,⟨2,1,List.length L37,ints .i64 L37⟩)],M := M,ds := [] }) [3,12,13,16] [] [5035] (by kernel_rfl) (by kernel_rfl) ?_
        refine TI_end (by kernel_rfl) ?_
        refine thenQ_n ?_
        refine T_turn (turn_nil 5065 2 1 [(3,.lf (.v (.int .i64 u3))),(12,.lf (.vec 5035)),(13,.lf (.v (.int .i64 x36))),(16,.lf (.vec 5065))] [] (by kernel_rfl) (by kernel_rfl) (by kernel_rfl)) ?_
        rintro _ rfl
        refine T_keep (s':={ σ := [(3,.lf (.v (.int .i64 u3))),(12,.lf (.vec 5035)),(13,.lf (.v (.int .i64 x36))),(16,.lf (.vec 5065))],H := [],V := [(5035,⟨2,1,List.length L37,ints .i64 L37⟩),(5065,⟨2,1,List.length ([] : List Int),ints .i64 ([] : List Int)⟩)],M := M,ds := [] }) [3,12,13,16] [] [5035,5065] (by kernel_rfl) ?_
        refine T_seq (c1:=(sub [1,1,1,1,1,1,1,1,1,1,1,0] (bodyOf Try.f20))) (c2:=(sub [1,1,1,1,1,1,1,1,1,1,1,1] (bodyOf Try.f20))) (by kernel_rfl) ?_
        refine T_region (id:=29) (by kernel_rfl) ?_
        refine TI_segK (i:=0) (j:=2) (s':={ σ := [(3,.lf (.v (.int .i64 u3))),(12,.lf (.vec 5035)),(13,.lf (.v (.int .i64 x36))),(16,.lf (.vec 5065)),(17,.lf (.v (.int .i64 u3)))],H := [],V := [(5035,⟨2,1,List.length L37,ints .i64 L37⟩),(5065,⟨2,1,List.length ([] : List Int),ints .i64 ([] : List Int)⟩)],M := M,ds := [] }) [3,12,13,16,17] [] [5035,5065] (by kernel_rfl) (by kernel_rfl) ?_
        refine TI_end (by kernel_rfl) ?_
        refine thenQ_n ?_
        refine T_seq (c1:=(sub [1,1,1,1,1,1,1,1,1,1,1,1,0] (bodyOf Try.f20))) (c2:=(sub [1,1,1,1,1,1,1,1,1,1,1,1,1] (bodyOf Try.f20))) (by kernel_rfl) ?_
        refine T_seq (c1:=(sub [1,1,1,1,1,1,1,1,1,1,1,1,0,0] (bodyOf Try.f20))) (c2:=(sub [1,1,1,1,1,1,1,1,1,1,1,1,0,1] (bodyOf Try.f20))) (by kernel_rfl) ?_
        refine T_region (id:=30) (by kernel_rfl) ?_
        refine TI_segK (i:=0) (j:=1) (s':={ σ := [(3,.lf (.v (.int .i64 u3))),(12,.lf (.vec 5035)),(13,.lf (.v (.int .i64 x36))),(16,.lf (.vec 5065)),(17,.lf (.v (.int .i64 u3))),(18,.lf (.v (.int .i64 (0 : Int))))],H := [],V := [(5035,⟨2,1,List.length L37,ints .i64 L37⟩),(5065,⟨2,1,List.length ([] : List Int),ints .i64 ([] : List Int)⟩)],M := M,ds := [] }) [3,12,13,16,17,18] [] [5035,5065] (by kernel_rfl) (by kernel_rfl) ?_
        refine TI_end (by kernel_rfl) ?_
        refine thenQ_n ?_
        obtain ⟨j68,e_j68,h⟩ := jn_some h
        refine T_bcut (id:=5) (c1:=(sub [1,1,1,1,1,1,1,1,1,1,1,1,0,1,0] (bodyOf Try.f20))) (fun s' => ∃ (x66 : Int) (L67 : List Int),Sub { σ := [(12,.lf (.vec 5035)),(16,.lf (.vec 5065)),(17,.lf (.v (.int .i64 x66)))],H := [],V := [(5035,⟨2,1,List.length L37,ints .i64 L37⟩),(5065,⟨2,1,List.length L67,ints .i64 L67⟩)],M := M,ds := [] } s' ∧ j68 x66 L67 = some r) (by kernel_rfl) ?_ ?_
        ·refine T_loop (c1:=(sub [1,1,1,1,1,1,1,1,1,1,1,1,0,1,0,0] (bodyOf Try.f20))) (by kernel_rfl) (fun n72 s' => ∃ (x69 : Int) (x70 : Int) (L71 : List Int),Sub { σ := [(3,.lf (.v (.int .i64 u3))),(12,.lf (.vec 5035)),(13,.lf (.v (.int .i64 x36))),(16,.lf (.vec 5065)),(17,.lf (.v (.int .i64 x69))),(18,.lf (.v (.int .i64 x70)))],H := [],V := [(5035,⟨2,1,List.length L37,ints .i64 L37⟩),(5065,⟨2,1,List.length L71,ints .i64 L71⟩)],M := M,ds := [] } s' ∧ p20_l3 k u3 x36 L37 j68 n72 x69 x70 L71 = some r) (k:=k) ⟨u3,(0 : Int),([] : List Int),keep_sub (ts:=[3,12,13,16,17,18]) (hs:=[]) (vs:=[5035,5065]) (by kernel_rfl),h⟩ ?_
         rintro n72 s' ⟨x69,x70,L71,hsub,h⟩
         cases n72 with
         | zero => rw [p20_l3] at h;cases h
         | succ n72 =>
          rw [p20_l3] at h
          refine T_sub hsub ?_
          refine T_seq (c1:=(sub [1,1,1,1,1,1,1,1,1,1,1,1,0,1,0,0,0] (bodyOf Try.f20))) (c2:=(sub [1,1,1,1,1,1,1,1,1,1,1,1,0,1,0,0,1] (bodyOf Try.f20))) (by kernel_rfl) ?_
          refine T_seq (c1:=(sub [1,1,1,1,1,1,1,1,1,1,1,1,0,1,0,0,0,0] (bodyOf Try.f20))) (c2:=(sub [1,1,1,1,1,1,1,1,1,1,1,1,0,1,0,0,0,1] (bodyOf Try.f20))) (by kernel_rfl) ?_
          refine T_region (id:=31) (by kernel_rfl) ?_
          obtain ⟨b73,e_b73,h⟩ := lt_some h
          refine TI_segK (i:=0) (j:=4) (s':={ σ := [(3,.lf (.v (.int .i64 u3))),(12,.lf (.vec 5035)),(13,.lf (.v (.int .i64 x36))),(16,.lf (.vec 5065)),(17,.lf (.v (.int .i64 x69))),(18,.lf (.v (.int .i64 x70))),(93,.lf (.v (.bool b73)))],H := [],V := [(5035,⟨2,1,List.length L37,ints .i64 L37⟩),(5065,⟨2,1,List.length L71,ints .i64 L71⟩)],M := M,ds := [] }) [3,12,13,16,17,18,93] [] [5035,5065] (by subst e_b73;kernel_rfl) (by kernel_rfl) ?_
          refine TI_end (by kernel_rfl) ?_
          refine thenQ_n ?_
          cases b73 with
          | true =>
           replace h := sp_t h
           refine T_condT (x:=(.tmp 93)) (c1:=(sub [1,1,1,1,1,1,1,1,1,1,1,1,0,1,0,0,0,1,0] (bodyOf Try.f20))) (c2:=(sub [1,1,1,1,1,1,1,1,1,1,1,1,0,1,0,0,0,1,1] (bodyOf Try.f20))) (by kernel_rfl) (by kernel_rfl) ?_
           refine T_keep (s':={ σ := [(3,.lf (.v (.int .i64 u3))),(12,.lf (.vec 5035)),(13,.lf (.v (.int .i64 x36))),(16,.lf (.vec 5065)),(17,.lf (.v (.int .i64 x69))),(18,.lf (.v (.int .i64 x70)))],H := [],V := [(5035,⟨2,1,List.length L37,ints .i64 L37⟩),(5065,⟨2,1,List.length L71,ints .i64 L71⟩)],M := M,ds := [] }) [3,12,13,16,17,18] [] [5035,5065] (by kernel_rfl) ?_
           refine T_skip (by kernel_rfl) ?_
           refine thenQ_n ?_
           refine T_seq (c1:=(sub [1,1,1,1,1,1,1,1,1,1,1,1,0,1,0,0,1,0] (bodyOf Try.f20))) (c2:=(sub [1,1,1,1,1,1,1,1,1,1,1,1,0,1,0,0,1,1] (bodyOf Try.f20))) (by kernel_rfl) ?_
           refine T_block (id:=6) (c1:=(sub [1,1,1,1,1,1,1,1,1,1,1,1,0,1,0,0,1,0,0] (bodyOf Try.f20))) (by kernel_rfl) ?_
           refine T_seq (c1:=(sub [1,1,1,1,1,1,1,1,1,1,1,1,0,1,0,0,1,0,0,0] (bodyOf Try.f20))) (c2:=(sub [1,1,1,1,1,1,1,1,1,1,1,1,0,1,0,0,1,0,0,1] (bodyOf Try.f20))) (by kernel_rfl) ?_
           refine T_region (id:=33) (by kernel_rfl) ?_
           refine TI_segK (i:=0) (j:=2) (s':={ σ := [(3,.lf (.v (.int .i64 u3))),(12,.lf (.vec 5035)),(13,.lf (.v (.int .i64 x36))),(16,.lf (.vec 5065)),(17,.lf (.v (.int .i64 x69))),(18,.lf (.v (.int .i64 x70))),(96,.lf (.vec 5035)),(97,.lf (.v (.int .i64 x70)))],H := [],V := [(5035,⟨2,1,List.length L37,ints .i64 L37⟩),(5065,⟨2,1,List.length L71,ints .i64 L71⟩)],M := M,ds := [] }) [3,12,13,16,17,18,96,97] [] [5035,5065] (by kernel_rfl) (by kernel_rfl) ?_
           obtain ⟨g74,h⟩ := gd_some h
           refine TI_at (i:=2) (d:=98) (x:=.lf (.vel 5035 1 ((x70).toNat) 0)) (by exact At_idxV (d:=98) (z:=x70) (n:=5035) (sz:=1) (v:=⟨2,1,List.length L37,ints .i64 L37⟩) (by kernel_rfl) (by kernel_rfl) g74) (by kernel_rfl) trivial ?_
           obtain ⟨x75,e_x75,h⟩ := lt_some h
           refine TI_at (i:=3) (d:=99) (x:=.lf (.v (.int .i64 x75))) (by rw [e_x75]; exact At_ldVI (d:=99) (n:=5035) (q:=(x70).toNat) (k:=.i64) (L:=L37) (by subst e_x75; kernel_rfl) (v:=⟨2,1,List.length L37,ints .i64 L37⟩) (by subst e_x75; kernel_rfl) rfl (toNat_lt g74)) (by kernel_rfl) trivial ?_
           obtain ⟨x76,e_x76,h⟩ := lt_some h
           refine TI_segK (i:=4) (j:=7) (s':={ σ := [(3,.lf (.v (.int .i64 u3))),(12,.lf (.vec 5035)),(13,.lf (.v (.int .i64 x36))),(16,.lf (.vec 5065)),(17,.lf (.v (.int .i64 x69))),(18,.lf (.v (.int .i64 x70))),(101,.lf (.v (.int .i64 x76))),(102,.lf (.v (.int .i64 x36)))],H := [],V := [(5035,⟨2,1,List.length L37,ints .i64 L37⟩),(5065,⟨2,1,List.length L71,ints .i64 L71⟩)],M := M,ds := [] }) [3,12,13,16,17,18,101,102] [] [5035,5065] (by subst e_x76;kernel_rfl) (by kernel_rfl) ?_
           obtain ⟨g77,h⟩ := gd_some h
           obtain ⟨x78,e_x78,h⟩ := lt_some h
           refine TI_at (i:=7) (d:=103) (x:=.lf (.v (.int .i64 x78))) (by rw [e_x78]; exact At_quo (d:=103) (k:=.i64) (m:=x76) (n:=x36) (by subst e_x78; kernel_rfl) g77) (by kernel_rfl) trivial ?_
           refine TI_segK (i:=8) (j:=9) (s':={ σ := [(3,.lf (.v (.int .i64 u3))),(12,.lf (.vec 5035)),(13,.lf (.v (.int .i64 x36))),(16,.lf (.vec 5065)),(17,.lf (.v (.int .i64 x69))),(18,.lf (.v (.int .i64 x70))),(19,.lf (.v (.int .i64 x78)))],H := [],V := [(5035,⟨2,1,List.length L37,ints .i64 L37⟩),(5065,⟨2,1,List.length L71,ints .i64 L71⟩)],M := M,ds := [] }) [3,12,13,16,17,18,19] [] [5035,5065] (by kernel_rfl) (by kernel_rfl) ?_
           refine TI_end (by kernel_rfl) ?_
           refine thenQ_n ?_
           refine T_seq (c1:=(sub [1,1,1,1,1,1,1,1,1,1,1,1,0,1,0,0,1,0,0,1,0] (bodyOf Try.f20))) (c2:=(sub [1,1,1,1,1,1,1,1,1,1,1,1,0,1,0,0,1,0,0,1,1] (bodyOf Try.f20))) (by kernel_rfl) ?_
           refine T_region (id:=34) (by kernel_rfl) ?_
           refine TI_segK (i:=0) (j:=2) (s':={ σ := [(3,.lf (.v (.int .i64 u3))),(12,.lf (.vec 5035)),(13,.lf (.v (.int .i64 x36))),(17,.lf (.v (.int .i64 x69))),(18,.lf (.v (.int .i64 x70))),(19,.lf (.v (.int .i64 x78))),(104,.lf (.vec 5065)),(105,.lf (.v (.int .i64 x78)))],H := [],V := [(5035,⟨2,1,List.length L37,ints .i64 L37⟩),(5065,⟨2,1,List.length L71,ints .i64 L71⟩)],M := M,ds := [] }) [3,12,13,17,18,19,104,105] [] [5035,5065] (by kernel_rfl) (by kernel_rfl) ?_
           refine TI_of (i:=2) (by kernel_rfl) (TE_litC (d:=106) (e:=2) (sz:=1) (len:=1) (cs:=ints .i64 ([x78])) (by kernel_rfl) (by kernel_rfl) (by kernel_rfl) ?_)
           obtain ⟨g79,h⟩ := gd_some h
           obtain ⟨W80,e_W80,h⟩ := lt_some h
           refine TI_of (i:=3) (by kernel_rfl) (TE_appC (d:=107) (e:=2) (sz:=1) (bytes:=8) (n:=5065) (x:=(.tmp 106)) (len:=List.length L71) (cs0:=ints .i64 L71) (cs2:=ints .i64 W80) (by subst e_W80;kernel_rfl) (by kernel_rfl) (by subst e_W80;kernel_rfl) (vecI_src (n:=106) (e:=2) (k:=.i64) (L:=[x78]) (by subst e_W80;kernel_rfl) (by subst e_W80;kernel_rfl)) g79 rfl (len_app_eq e_W80) (ints_app_eq e_W80) ?_)
           refine TI_segK (i:=4) (j:=5) (s':={ σ := [(3,.lf (.v (.int .i64 u3))),(12,.lf (.vec 5035)),(13,.lf (.v (.int .i64 x36))),(16,.lf (.vec 107)),(17,.lf (.v (.int .i64 x69))),(18,.lf (.v (.int .i64 x70))),(19,.lf (.v (.int .i64 x78)))],H := [],V := [(107,⟨2,1,List.length W80,ints .i64 W80⟩),(5035,⟨2,1,List.length L37,ints .i64 L37⟩)],M := M,ds := [] }) [3,12,13,16,17,18,19] [] [107,5035] (by kernel_rfl) (by kernel_rfl) ?_
           refine TI_end (by kernel_rfl) ?_
           refine thenQ_n ?_
           refine T_region (id:=35) (by kernel_rfl) ?_
           obtain ⟨x81,e_x81,h⟩ := lt_some h
           refine TI_segK (i:=0) (j:=4) (s':={ σ := [(3,.lf (.v (.int .i64 u3))),(12,.lf (.vec 5035)),(13,.lf (.v (.int .i64 x36))),(16,.lf (.vec 107)),(17,.lf (.v (.int .i64 x81))),(18,.lf (.v (.int .i64 x70)))],H := [],V := [(107,⟨2,1,List.length W80,ints .i64 W80⟩),(5035,⟨2,1,List.length L37,ints .i64 L37⟩)],M := M,ds := [] }) [3,12,13,16,17,18] [] [107,5035] (by subst e_x81;kernel_rfl) (by kernel_rfl) ?_
           refine TI_end (by kernel_rfl) ?_
           refine blockQ_n ?_
           refine thenQ_n ?_
           refine T_region (id:=32) (by kernel_rfl) ?_
           obtain ⟨x82,e_x82,h⟩ := lt_some h
           refine TI_segK (i:=0) (j:=3) (s':={ σ := [(3,.lf (.v (.int .i64 u3))),(12,.lf (.vec 5035)),(13,.lf (.v (.int .i64 x36))),(16,.lf (.vec 107)),(17,.lf (.v (.int .i64 x81))),(18,.lf (.v (.int .i64 x82)))],H := [],V := [(107,⟨2,1,List.length W80,ints .i64 W80⟩),(5035,⟨2,1,List.length L37,ints .i64 L37⟩)],M := M,ds := [] }) [3,12,13,16,17,18] [] [107,5035] (by subst e_x82;kernel_rfl) (by kernel_rfl) ?_
           refine TI_end (by kernel_rfl) ?_
           refine thenQ_n ?_
           exact ⟨n72,Nat.lt_succ_self _,x81,x82,W80,Sub.trans (keep_sub (ts:=[3,12,13,16,17,18]) (hs:=[]) (vs:=[5035,5065]) (by kernel_rfl)) (Sub.trans (ren_sub 107 5065 (s':={ σ := [(3,.lf (.v (.int .i64 u3))),(12,.lf (.vec 5035)),(13,.lf (.v (.int .i64 x36))),(16,.lf (.vec 5065)),(17,.lf (.v (.int .i64 x81))),(18,.lf (.v (.int .i64 x82)))],H := [],V := [(5065,⟨2,1,List.length W80,ints .i64 W80⟩),(5035,⟨2,1,List.length L37,ints .i64 L37⟩)],M := M,ds := [] }) (by kernel_rfl) (by kernel_rfl)) (keep_sub (s':={ σ := [(3,.lf (.v (.int .i64 u3))),(12,.lf (.vec 5035)),(13,.lf (.v (.int .i64 x36))),(16,.lf (.vec 107)),(17,.lf (.v (.int .i64 x81))),(18,.lf (.v (.int .i64 x82)))],H := [],V := [(107,⟨2,1,List.length W80,ints .i64 W80⟩),(5035,⟨2,1,List.length L37,ints .i64 L37⟩)],M := M,ds := [] }) (ts:=[3,12,13,16,17,18]) (hs:=[]) (vs:=[107,5035]) (by kernel_rfl))),h⟩
          | false =>
           replace h := sp_f h
           refine T_condF (x:=(.tmp 93)) (c1:=(sub [1,1,1,1,1,1,1,1,1,1,1,1,0,1,0,0,0,1,0] (bodyOf Try.f20))) (c2:=(sub [1,1,1,1,1,1,1,1,1,1,1,1,0,1,0,0,0,1,1] (bodyOf Try.f20))) (by kernel_rfl) (by kernel_rfl) ?_
           refine T_keep (s':={ σ := [(12,.lf (.vec 5035)),(16,.lf (.vec 5065)),(17,.lf (.v (.int .i64 x69)))],H := [],V := [(5035,⟨2,1,List.length L37,ints .i64 L37⟩),(5065,⟨2,1,List.length L71,ints .i64 L71⟩)],M := M,ds := [] }) [12,16,17] [] [5035,5065] (by kernel_rfl) ?_
           refine T_exit (id:=5) (by kernel_rfl) ?_
           refine thenQ_x ?_
           refine thenQ_x ?_
           refine blockQ_x ?_
           refine thenQ_n ?_
           exact ⟨x69,L71,keep_sub (ts:=[12,16,17]) (hs:=[]) (vs:=[5035,5065]) (by kernel_rfl),h⟩
        ·rintro s' ⟨x66,L67,hsub,h⟩
         subst e_j68
         refine thenQ_n ?_
         refine T_sub hsub ?_
         refine T_seq (c1:=(sub [1,1,1,1,1,1,1,1,1,1,1,1,1,0] (bodyOf Try.f20))) (c2:=(sub [1,1,1,1,1,1,1,1,1,1,1,1,1,1] (bodyOf Try.f20))) (by kernel_rfl) ?_
         refine T_seq (c1:=(sub [1,1,1,1,1,1,1,1,1,1,1,1,1,0,0] (bodyOf Try.f20))) (c2:=(sub [1,1,1,1,1,1,1,1,1,1,1,1,1,0,1] (bodyOf Try.f20))) (by kernel_rfl) ?_
         refine T_region (id:=36) (by kernel_rfl) ?_
         refine TI_segK (i:=0) (j:=1) (s':={ σ := [(12,.lf (.vec 5035)),(16,.lf (.vec 5065)),(17,.lf (.v (.int .i64 x66))),(20,.lf (.v (.int .i64 (0 : Int))))],H := [],V := [(5035,⟨2,1,List.length L37,ints .i64 L37⟩),(5065,⟨2,1,List.length L67,ints .i64 L67⟩)],M := M,ds := [] }) [12,16,17,20] [] [5035,5065] (by kernel_rfl) (by kernel_rfl) ?_
         refine TI_end (by kernel_rfl) ?_
         refine thenQ_n ?_
         obtain ⟨j84,e_j84,h⟩ := jn_some h
         refine T_bcut (id:=7) (c1:=(sub [1,1,1,1,1,1,1,1,1,1,1,1,1,0,1,0] (bodyOf Try.f20))) (fun s' => ∃ (L83 : List Int),Sub { σ := [(16,.lf (.vec 5065))],H := [],V := [(5065,⟨2,1,List.length L83,ints .i64 L83⟩)],M := M,ds := [] } s' ∧ j84 L83 = some r) (by kernel_rfl) ?_ ?_
         ·refine T_loop (c1:=(sub [1,1,1,1,1,1,1,1,1,1,1,1,1,0,1,0,0] (bodyOf Try.f20))) (by kernel_rfl) (fun n88 s' => ∃ (x85 : Int) (x86 : Int) (L87 : List Int),Sub { σ := [(12,.lf (.vec 5035)),(16,.lf (.vec 5065)),(17,.lf (.v (.int .i64 x85))),(20,.lf (.v (.int .i64 x86)))],H := [],V := [(5035,⟨2,1,List.length L37,ints .i64 L37⟩),(5065,⟨2,1,List.length L87,ints .i64 L87⟩)],M := M,ds := [] } s' ∧ p20_l4 k L37 j84 n88 x85 x86 L87 = some r) (k:=k) ⟨x66,(0 : Int),L67,keep_sub (ts:=[12,16,17,20]) (hs:=[]) (vs:=[5035,5065]) (by kernel_rfl),h⟩ ?_
          rintro n88 s' ⟨x85,x86,L87,hsub,h⟩
          cases n88 with
          | zero => rw [p20_l4] at h;cases h
          | succ n88 =>
           rw [p20_l4] at h
           refine T_sub hsub ?_
           refine T_seq (c1:=(sub [1,1,1,1,1,1,1,1,1,1,1,1,1,0,1,0,0,0] (bodyOf Try.f20))) (c2:=(sub [1,1,1,1,1,1,1,1,1,1,1,1,1,0,1,0,0,1] (bodyOf Try.f20))) (by kernel_rfl) ?_
           obtain ⟨j90,e_j90,h⟩ := jn_some h
           refine T_cut (c1:=(sub [1,1,1,1,1,1,1,1,1,1,1,1,1,0,1,0,0,0,0] (bodyOf Try.f20))) (c2:=(sub [1,1,1,1,1,1,1,1,1,1,1,1,1,0,1,0,0,0,1] (bodyOf Try.f20))) (fun s' => ∃ (b89 : Bool),Sub { σ := [(12,.lf (.vec 5035)),(16,.lf (.vec 5065)),(17,.lf (.v (.int .i64 x85))),(20,.lf (.v (.int .i64 x86))),(118,.lf (.v (.bool b89)))],H := [],V := [(5035,⟨2,1,List.length L37,ints .i64 L37⟩),(5065,⟨2,1,List.length L87,ints .i64 L87⟩)],M := M,ds := [] } s' ∧ j90 b89 = some r) (by kernel_rfl) ?_ ?_
           ·refine T_region (id:=37) (by kernel_rfl) ?_
            obtain ⟨b91,e_b91,h⟩ := lt_some h
            refine TI_segK (i:=0) (j:=5) (s':={ σ := [(12,.lf (.vec 5035)),(16,.lf (.vec 5065)),(17,.lf (.v (.int .i64 x85))),(20,.lf (.v (.int .i64 x86))),(115,.lf (.v (.bool b91)))],H := [],V := [(5035,⟨2,1,List.length L37,ints .i64 L37⟩),(5065,⟨2,1,List.length L87,ints .i64 L87⟩)],M := M,ds := [] }) [12,16,17,20,115] [] [5035,5065] (by subst e_b91;kernel_rfl) (by kernel_rfl) ?_
            cases b91 with
            | true =>
             replace h := sp_t h
             obtain ⟨b92,e_b92,h⟩ := lt_some h
             refine TI_segK (i:=5) (j:=8) (s':={ σ := [(12,.lf (.vec 5035)),(16,.lf (.vec 5065)),(17,.lf (.v (.int .i64 x85))),(20,.lf (.v (.int .i64 x86))),(118,.lf (.v (.bool b92)))],H := [],V := [(5035,⟨2,1,List.length L37,ints .i64 L37⟩),(5065,⟨2,1,List.length L87,ints .i64 L87⟩)],M := M,ds := [] }) [12,16,17,20,118] [] [5035,5065] (by subst e_b92;kernel_rfl) (by kernel_rfl) ?_
             refine TI_end (by kernel_rfl) ?_
             refine thenQ_n ?_
             exact ⟨b92,keep_sub (ts:=[12,16,17,20,118]) (hs:=[]) (vs:=[5035,5065]) (by kernel_rfl),h⟩
            | false =>
             replace h := sp_f h
             refine TI_segK (i:=5) (j:=8) (s':={ σ := [(12,.lf (.vec 5035)),(16,.lf (.vec 5065)),(17,.lf (.v (.int .i64 x85))),(20,.lf (.v (.int .i64 x86))),(118,.lf (.v (.bool false)))],H := [],V := [(5035,⟨2,1,List.length L37,ints .i64 L37⟩),(5065,⟨2,1,List.length L87,ints .i64 L87⟩)],M := M,ds := [] }) [12,16,17,20,118] [] [5035,5065] (by kernel_rfl) (by kernel_rfl) ?_
             refine TI_end (by kernel_rfl) ?_
             refine thenQ_n ?_
             exact ⟨false,keep_sub (ts:=[12,16,17,20,118]) (hs:=[]) (vs:=[5035,5065]) (by kernel_rfl),h⟩
           ·rintro s' ⟨b89,hsub,h⟩
            subst e_j90
            refine T_sub hsub ?_
            cases b89 with
            | true =>
             replace h := sp_t h
             refine T_condT (x:=(.tmp 118)) (c1:=(sub [1,1,1,1,1,1,1,1,1,1,1,1,1,0,1,0,0,0,1,0] (bodyOf Try.f20))) (c2:=(sub [1,1,1,1,1,1,1,1,1,1,1,1,1,0,1,0,0,0,1,1] (bodyOf Try.f20))) (by kernel_rfl) (by kernel_rfl) ?_
             refine T_keep (s':={ σ := [(12,.lf (.vec 5035)),(16,.lf (.vec 5065)),(17,.lf (.v (.int .i64 x85))),(20,.lf (.v (.int .i64 x86)))],H := [],V := [(5035,⟨2,1,List.length L37,ints .i64 L37⟩),(5065,⟨2,1,List.length L87,ints .i64 L87⟩)],M := M,ds := [] }) [12,16,17,20] [] [5035,5065] (by kernel_rfl) ?_
             refine T_skip (by kernel_rfl) ?_
             refine thenQ_n ?_
             obtain ⟨j95,e_j95,h⟩ := jn_some h
             refine T_cut (c1:=(sub [1,1,1,1,1,1,1,1,1,1,1,1,1,0,1,0,0,1,0] (bodyOf Try.f20))) (c2:=(sub [1,1,1,1,1,1,1,1,1,1,1,1,1,0,1,0,0,1,1] (bodyOf Try.f20))) (fun s' => ∃ (x93 : Int) (L94 : List Int),Sub { σ := [(12,.lf (.vec 5035)),(16,.lf (.vec 5065)),(17,.lf (.v (.int .i64 x93))),(20,.lf (.v (.int .i64 x86)))],H := [],V := [(5035,⟨2,1,List.length L37,ints .i64 L37⟩),(5065,⟨2,1,List.length L94,ints .i64 L94⟩)],M := M,ds := [] } s' ∧ j95 x93 L94 = some r) (by kernel_rfl) ?_ ?_
             ·refine T_block (id:=8) (c1:=(sub [1,1,1,1,1,1,1,1,1,1,1,1,1,0,1,0,0,1,0,0] (bodyOf Try.f20))) (by kernel_rfl) ?_
              refine T_seq (c1:=(sub [1,1,1,1,1,1,1,1,1,1,1,1,1,0,1,0,0,1,0,0,0] (bodyOf Try.f20))) (c2:=(sub [1,1,1,1,1,1,1,1,1,1,1,1,1,0,1,0,0,1,0,0,1] (bodyOf Try.f20))) (by kernel_rfl) ?_
              obtain ⟨g96,h⟩ := gd_some h
              obtain ⟨x97,e_x97,h⟩ := lt_some h
              obtain ⟨g98,h⟩ := gd_some h
              obtain ⟨x99,e_x99,h⟩ := lt_some h
              obtain ⟨b100,e_b100,h⟩ := lt_some h
              refine T_draw' (id:=39) [] [0,0,0,0,0,0,0,0,0] (by kernel_rfl) (by kernel_rfl) (by kernel_rfl) (by kernel_rfl) [(121,.lf (.vec 5035)),(122,.lf (.v (.int .i64 x86))),(123,.lf (.vel 5035 1 ((x86).toNat) 0)),(124,.lf (.v (.int .i64 x97))),(125,.lf (.vec 5065)),(126,.lf (.v (.int .i64 x86))),(127,.lf (.vel 5065 1 ((x86).toNat) 0)),(128,.lf (.v (.int .i64 x99))),(129,.lf (.v (.bool b100)))] (by kernel_rfl) (wfs_lf _ (by kernel_rfl)) ?_
              refine Stage_nil (stage_all' [0,1,4,5,8] [2,3,6,7] (by kernel_rfl) (by subst_vars; kernel_rfl) (by kernel_rfl) ⟨QF_at (i:=2) (d:=123) (x:=.lf (.vel 5035 1 ((x86).toNat) 0)) (show OpAt _ _ _ 2 123 _ from by exact At_idxV (d:=123) (z:=x86) (n:=5035) (sz:=1) (v:=⟨2,1,List.length L37,ints .i64 L37⟩) (by subst_vars; kernel_rfl) (by subst_vars; kernel_rfl) g96) (by kernel_rfl) (by subst_vars; kernel_rfl),⟨QF_at (i:=3) (d:=124) (x:=.lf (.v (.int .i64 x97))) (show OpAt _ _ _ 3 124 _ from by rw [e_x97]; exact At_ldVI (d:=124) (n:=5035) (q:=(x86).toNat) (k:=.i64) (L:=L37) (by subst_vars; kernel_rfl) (v:=⟨2,1,List.length L37,ints .i64 L37⟩) (by subst_vars; kernel_rfl) rfl (toNat_lt g96)) (by kernel_rfl) (by subst_vars; kernel_rfl),⟨QF_at (i:=6) (d:=127) (x:=.lf (.vel 5065 1 ((x86).toNat) 0)) (show OpAt _ _ _ 6 127 _ from by exact At_idxV (d:=127) (z:=x86) (n:=5065) (sz:=1) (v:=⟨2,1,List.length L87,ints .i64 L87⟩) (by subst_vars; kernel_rfl) (by subst_vars; kernel_rfl) g98) (by kernel_rfl) (by subst_vars; kernel_rfl),⟨QF_at (i:=7) (d:=128) (x:=.lf (.v (.int .i64 x99))) (show OpAt _ _ _ 7 128 _ from by rw [e_x99]; exact At_ldVI (d:=128) (n:=5065) (q:=(x86).toNat) (k:=.i64) (L:=L87) (by subst_vars; kernel_rfl) (v:=⟨2,1,List.length L87,ints .i64 L87⟩) (by subst_vars; kernel_rfl) rfl (toNat_lt g98)) (by kernel_rfl) (by subst_vars; kernel_rfl),trivial⟩⟩⟩⟩) ?_
              refine thenQ_n ?_
              refine T_keep (s':={ σ := [(12,.lf (.vec 5035)),(16,.lf (.vec 5065)),(17,.lf (.v (.int .i64 x85))),(20,.lf (.v (.int .i64 x86))),(129,.lf (.v (.bool b100)))],H := [],V := [(5035,⟨2,1,List.length L37,ints .i64 L37⟩),(5065,⟨2,1,List.length L87,ints .i64 L87⟩)],M := M,ds := [] }) [12,16,17,20,129] [] [5035,5065] (by subst_vars;kernel_rfl) ?_
              cases b100 with
              | true =>
               replace h := sp_t h
               refine T_condT (x:=(.tmp 129)) (c1:=(sub [1,1,1,1,1,1,1,1,1,1,1,1,1,0,1,0,0,1,0,0,1,0] (bodyOf Try.f20))) (c2:=(sub [1,1,1,1,1,1,1,1,1,1,1,1,1,0,1,0,0,1,0,0,1,1] (bodyOf Try.f20))) (by kernel_rfl) (by kernel_rfl) ?_
               refine T_keep (s':={ σ := [(12,.lf (.vec 5035)),(16,.lf (.vec 5065)),(17,.lf (.v (.int .i64 x85))),(20,.lf (.v (.int .i64 x86)))],H := [],V := [(5035,⟨2,1,List.length L37,ints .i64 L37⟩),(5065,⟨2,1,List.length L87,ints .i64 L87⟩)],M := M,ds := [] }) [12,16,17,20] [] [5035,5065] (by kernel_rfl) ?_
               refine T_seq (c1:=(sub [1,1,1,1,1,1,1,1,1,1,1,1,1,0,1,0,0,1,0,0,1,0,0] (bodyOf Try.f20))) (c2:=(sub [1,1,1,1,1,1,1,1,1,1,1,1,1,0,1,0,0,1,0,0,1,0,1] (bodyOf Try.f20))) (by kernel_rfl) ?_
               refine T_region (id:=40) (by kernel_rfl) ?_
               refine TI_segK (i:=0) (j:=2) (s':={ σ := [(12,.lf (.vec 5035)),(16,.lf (.vec 5065)),(17,.lf (.v (.int .i64 x85))),(20,.lf (.v (.int .i64 x86))),(130,.lf (.vec 5065)),(131,.lf (.v (.int .i64 x86)))],H := [],V := [(5035,⟨2,1,List.length L37,ints .i64 L37⟩),(5065,⟨2,1,List.length L87,ints .i64 L87⟩)],M := M,ds := [] }) [12,16,17,20,130,131] [] [5035,5065] (by kernel_rfl) (by kernel_rfl) ?_
               obtain ⟨g101,h⟩ := gd_some h
               refine TI_at (i:=2) (d:=132) (x:=.lf (.vel 5065 1 ((x86).toNat) 0)) (by exact At_idxV (d:=132) (z:=x86) (n:=5065) (sz:=1) (v:=⟨2,1,List.length L87,ints .i64 L87⟩) (by kernel_rfl) (by kernel_rfl) g101) (by kernel_rfl) trivial ?_
               obtain ⟨x102,e_x102,h⟩ := lt_some h
               refine TI_at (i:=3) (d:=133) (x:=.lf (.v (.int .i64 x102))) (by rw [e_x102]; exact At_ldVI (d:=133) (n:=5065) (q:=(x86).toNat) (k:=.i64) (L:=L87) (by subst e_x102; kernel_rfl) (v:=⟨2,1,List.length L87,ints .i64 L87⟩) (by subst e_x102; kernel_rfl) rfl (toNat_lt g101)) (by kernel_rfl) trivial ?_
               obtain ⟨x103,e_x103,h⟩ := lt_some h
               refine TI_segK (i:=4) (j:=5) (s':={ σ := [(12,.lf (.vec 5035)),(16,.lf (.vec 5065)),(17,.lf (.v (.int .i64 x85))),(20,.lf (.v (.int .i64 x86))),(130,.lf (.vec 5065)),(131,.lf (.v (.int .i64 x86))),(134,.lf (.v (.int .i64 x103)))],H := [],V := [(5035,⟨2,1,List.length L37,ints .i64 L37⟩),(5065,⟨2,1,List.length L87,ints .i64 L87⟩)],M := M,ds := [] }) [12,16,17,20,130,131,134] [] [5035,5065] (by subst e_x103;kernel_rfl) (by kernel_rfl) ?_
               obtain ⟨g104,h⟩ := gd_some h
               refine TI_at (i:=5) (d:=135) (x:=.lf (.vel 5065 1 ((x86).toNat) 0)) (by exact At_idxV (d:=135) (z:=x86) (n:=5065) (sz:=1) (v:=⟨2,1,List.length L87,ints .i64 L87⟩) (by kernel_rfl) (by kernel_rfl) g104) (by kernel_rfl) trivial ?_
               obtain ⟨L105,e_L105,h⟩ := lt_some h
               refine TI_of (i:=6) (by kernel_rfl) (TE_stC (len2:=List.length L105) (m:=1) (n:=5065) (sz:=1) (j:=(x86).toNat) (q:=0) (e:=2) (len:=List.length L87) (c:=[.one (.v (.int .i64 x103))]) (cs0:=ints .i64 L87) (cs2:=ints .i64 L105) (by subst e_L105; kernel_rfl) (by kernel_rfl) (by subst e_L105; kernel_rfl) (vle (toNat_lt g104)) (by kernel_rfl) (by rw [e_L105]; exact set1_ints (toNat_lt g104)) (by rw [e_L105,List.length_set]) ?_)
               refine TI_segK (i:=7) (j:=7) (s':={ σ := [(12,.lf (.vec 5035)),(16,.lf (.vec 5065)),(17,.lf (.v (.int .i64 x85))),(20,.lf (.v (.int .i64 x86)))],H := [],V := [(5035,⟨2,1,List.length L37,ints .i64 L37⟩),(5065,⟨2,1,List.length L105,ints .i64 L105⟩)],M := M,ds := [] }) [12,16,17,20] [] [5035,5065] (by kernel_rfl) (by kernel_rfl) ?_
               refine TI_end (by kernel_rfl) ?_
               refine thenQ_n ?_
               refine T_region (id:=41) (by kernel_rfl) ?_
               obtain ⟨x106,e_x106,h⟩ := lt_some h
               refine TI_segK (i:=0) (j:=3) (s':={ σ := [(12,.lf (.vec 5035)),(16,.lf (.vec 5065)),(17,.lf (.v (.int .i64 x106))),(20,.lf (.v (.int .i64 x86)))],H := [],V := [(5035,⟨2,1,List.length L37,ints .i64 L37⟩),(5065,⟨2,1,List.length L105,ints .i64 L105⟩)],M := M,ds := [] }) [12,16,17,20] [] [5035,5065] (by subst e_x106;kernel_rfl) (by kernel_rfl) ?_
               refine TI_end (by kernel_rfl) ?_
               refine blockQ_n ?_
               refine thenQ_n ?_
               exact ⟨x106,L105,keep_sub (ts:=[12,16,17,20]) (hs:=[]) (vs:=[5035,5065]) (by kernel_rfl),h⟩
              | false =>
               replace h := sp_f h
               refine T_condF (x:=(.tmp 129)) (c1:=(sub [1,1,1,1,1,1,1,1,1,1,1,1,1,0,1,0,0,1,0,0,1,0] (bodyOf Try.f20))) (c2:=(sub [1,1,1,1,1,1,1,1,1,1,1,1,1,0,1,0,0,1,0,0,1,1] (bodyOf Try.f20))) (by kernel_rfl) (by kernel_rfl) ?_
               refine T_keep (s':={ σ := [(12,.lf (.vec 5035)),(16,.lf (.vec 5065)),(17,.lf (.v (.int .i64 x85))),(20,.lf (.v (.int .i64 x86)))],H := [],V := [(5035,⟨2,1,List.length L37,ints .i64 L37⟩),(5065,⟨2,1,List.length L87,ints .i64 L87⟩)],M := M,ds := [] }) [12,16,17,20] [] [5035,5065] (by kernel_rfl) ?_
               refine T_skip (by kernel_rfl) ?_
               refine blockQ_n ?_
               refine thenQ_n ?_
               exact ⟨x85,L87,keep_sub (ts:=[12,16,17,20]) (hs:=[]) (vs:=[5035,5065]) (by kernel_rfl),h⟩
             ·rintro s' ⟨x93,L94,hsub,h⟩
              subst e_j95
              refine T_sub hsub ?_
              refine T_region (id:=38) (by kernel_rfl) ?_
              obtain ⟨x107,e_x107,h⟩ := lt_some h
              refine TI_segK (i:=0) (j:=3) (s':={ σ := [(12,.lf (.vec 5035)),(16,.lf (.vec 5065)),(17,.lf (.v (.int .i64 x93))),(20,.lf (.v (.int .i64 x107)))],H := [],V := [(5035,⟨2,1,List.length L37,ints .i64 L37⟩),(5065,⟨2,1,List.length L94,ints .i64 L94⟩)],M := M,ds := [] }) [12,16,17,20] [] [5035,5065] (by subst e_x107;kernel_rfl) (by kernel_rfl) ?_
              refine TI_end (by kernel_rfl) ?_
              refine thenQ_n ?_
              exact ⟨n88,Nat.lt_succ_self _,x93,x107,L94,keep_sub (ts:=[12,16,17,20]) (hs:=[]) (vs:=[5035,5065]) (by kernel_rfl),h⟩
            | false =>
             replace h := sp_f h
             refine T_condF (x:=(.tmp 118)) (c1:=(sub [1,1,1,1,1,1,1,1,1,1,1,1,1,0,1,0,0,0,1,0] (bodyOf Try.f20))) (c2:=(sub [1,1,1,1,1,1,1,1,1,1,1,1,1,0,1,0,0,0,1,1] (bodyOf Try.f20))) (by kernel_rfl) (by kernel_rfl) ?_
             refine T_keep (s':={ σ := [(16,.lf (.vec 5065))],H := [],V := [(5065,⟨2,1,List.length L87,ints .i64 L87⟩)],M := M,ds := [] }) [16] [] [5065] (by kernel_rfl) ?_
             refine T_exit (id:=7) (by kernel_rfl) ?_
             refine thenQ_x ?_
             refine thenQ_x ?_
             refine blockQ_x ?_
             refine thenQ_n ?_
             exact ⟨L87,keep_sub (ts:=[16]) (hs:=[]) (vs:=[5065]) (by kernel_rfl),h⟩
         ·rintro s' ⟨L83,hsub,h⟩
          subst e_j84
          refine thenQ_n ?_
          refine T_sub hsub ?_
          refine T_seq (c1:=(sub [1,1,1,1,1,1,1,1,1,1,1,1,1,1,0] (bodyOf Try.f20))) (c2:=(sub [1,1,1,1,1,1,1,1,1,1,1,1,1,1,1] (bodyOf Try.f20))) (by kernel_rfl) ?_
          refine T_region (id:=42) (by kernel_rfl) ?_
          refine TI_segK (i:=0) (j:=3) (s':={ σ := [(8,.lf (.vec 5065)),(9,.lf (.v (.int .i64 (0 : Int))))],H := [],V := [(5065,⟨2,1,List.length L83,ints .i64 L83⟩)],M := M,ds := [] }) [8,9] [] [5065] (by kernel_rfl) (by kernel_rfl) ?_
          refine TI_end (by kernel_rfl) ?_
          refine thenQ_n ?_
          refine T_turn (turn_pubV 5065 (v:=⟨2,1,List.length L83,ints .i64 L83⟩) (by kernel_rfl)) ?_
          rintro _ ⟨A108,c109,M110,rfl,hSA108,hcA108,-,hNA108,hM110⟩
          have fA108 : SlI M110 A108 c109 .i64 L83 := ⟨hSA108,hcA108⟩
          refine T_keep (s':={ σ := [(8,.lf (.v (.slice A108 (List.length L83) c109))),(9,.lf (.v (.int .i64 (0 : Int))))],H := [],V := [],M := M110,ds := [] }) [8,9] [] [] (by kernel_rfl) ?_
          refine T_ret (by kernel_rfl) ?_
          have h := Option.some.inj h
          subst h
          refine fin_ret (.tup [(some (.v (.slice A108 (List.length L83) c109)),[]),(some (.v (.int .i64 (0 : Int))),[])]) (by kernel_rfl) (by kernel_rfl) rfl ?_
          exact ⟨A108,c109,rfl,fA108⟩
end Go.Proofs.Ythjkejbgknemgaa
namespace Go.Proofs.Ythjkejbgknemgaa
open Go.RowKit
abbrev CT := List (List Int) × List Int × Int × List (List Int) × List (List (List Int))
structure Crs (M : Mem) (b : Nat) (A : Option Addr) (c : Nat) (AP : Option Addr) (cP : Nat) (AV : Nat → Option Addr) (cV : Nat → Nat) (R : List (List Int)) (D : List Int) (st : Int) (P : List (List Int)) (V : List (List (List Int))) : Prop where
  log : memCell M b 0 = some (.slice A (List.length R) c)
  lR : SlR M A c .i64 11 R
  lD : D.length = 4
  dr : ∀ j, j < 4 → memCell M b (1 + j) = some (.int .i64 (D.getD j 0))
  start : memCell M b 5 = some (.int .i64 st)
  plc : memCell M b 6 = some (.slice AP (List.length P) cP)
  lP : SlR M AP cP .i64 2 P
  lV : V.length = 4
  val : ∀ k, k < 4 → memCell M b (7 + k) = some (.slice (AV k) (List.length (V.getD k [])) (cV k)) ∧ SlR M (AV k) (cV k) .i64 2 (V.getD k [])
theorem Crs.le {M M' : Mem} {b A c AP cP AV cV R D st P V} (h : Crs M b A c AP cP AV cV R D st P V) (hM : Mem.le M M') : Crs M' b A c AP cP AV cV R D st P V :=
  ⟨memCell_le hM h.log, h.lR.le hM, h.lD, fun j hj => memCell_le hM (h.dr j hj), memCell_le hM h.start, memCell_le hM h.plc, h.lP.le hM, h.lV, fun k hk => ⟨memCell_le hM (h.val k hk).1, (h.val k hk).2.le hM⟩⟩
def PtrR (M : Mem) (pv : Value) : Option CT → Prop
  | none => pv = .pointer none
  | some t => ∃ b A c AP cP AV cV, pv = .pointer (some ⟨b, 0, none⟩) ∧ Crs M b A c AP cP AV cV t.1 t.2.1 t.2.2.1 t.2.2.2.1 t.2.2.2.2
theorem PtrR.le {M M' : Mem} {pv : Value} : ∀ {o : Option CT}, PtrR M pv o → Mem.le M M' → PtrR M' pv o
  | none, h, _ => h
  | some _, ⟨b, A, c, AP, cP, AV, cV, h1, h2⟩, hM => ⟨b, A, c, AP, cP, AV, cV, h1, h2.le hM⟩
def AVof (A0 A1 A2 A3 : Option Addr) : Nat → Option Addr := fun k => [A0, A1, A2, A3].getD k none
def cVof (c0 c1 c2 c3 : Nat) : Nat → Nat := fun k => [c0, c1, c2, c3].getD k 0
theorem Crs_mk {M : Mem} {b c cP c0 c1 c2 c3 : Nat} {A AP A0 A1 A2 A3 : Option Addr} {R P V0 V1 V2 V3 : List (List Int)} {D : List Int} {st : Int}
    (hM : M b = some (sgCells (fun _ => 0) (fun _ => .slice none 0 0) [.one (.v (.slice A (List.length R) c)), .arr .i64 4 D, .one (.v (.int .i64 st)), .one (.v (.slice AP (List.length P) cP)), .one (.v (.slice A0 (List.length V0) c0)), .one (.v (.slice A1 (List.length V1) c1)), .one (.v (.slice A2 (List.length V2) c2)), .one (.v (.slice A3 (List.length V3) c3))]).toArray)
    (hD : D.length = 4) (hR : SlR M A c .i64 11 R) (hP : SlR M AP cP .i64 2 P) (h0 : SlR M A0 c0 .i64 2 V0) (h1 : SlR M A1 c1 .i64 2 V1) (h2 : SlR M A2 c2 .i64 2 V2) (h3 : SlR M A3 c3 .i64 2 V3) :
    Crs M b A c AP cP (AVof A0 A1 A2 A3) (cVof c0 c1 c2 c3) R D st P [V0, V1, V2, V3] := by
  obtain ⟨d0, d1, d2, d3, rfl⟩ : ∃ d0 d1 d2 d3, D = [d0, d1, d2, d3] := by
    match D, hD with
    | [d0, d1, d2, d3], _ => exact ⟨d0, d1, d2, d3, rfl⟩
  have g : ∀ {off v}, (sgCells (fun _ => 0) (fun _ => Value.slice none 0 0) [.one (.v (.slice A (List.length R) c)), .arr .i64 4 [d0, d1, d2, d3], .one (.v (.int .i64 st)), .one (.v (.slice AP (List.length P) cP)), .one (.v (.slice A0 (List.length V0) c0)), .one (.v (.slice A1 (List.length V1) c1)), .one (.v (.slice A2 (List.length V2) c2)), .one (.v (.slice A3 (List.length V3) c3))])[off]? = some v → memCell M b off = some v := fun h => cell_block hM h
  refine ⟨g rfl, hR, rfl, ?_, g rfl, g rfl, hP, rfl, ?_⟩
  · intro j hj
    match j, hj with
    | 0, _ => exact g rfl
    | 1, _ => exact g rfl
    | 2, _ => exact g rfl
    | 3, _ => exact g rfl
  · intro k hk
    match k, hk with
    | 0, _ => exact ⟨g rfl, h0⟩
    | 1, _ => exact ⟨g rfl, h1⟩
    | 2, _ => exact ⟨g rfl, h2⟩
    | 3, _ => exact ⟨g rfl, h3⟩
def bands4 (L : List Int) : List (List Int) := [List.take 2 (List.drop 3 L), List.take 2 (List.drop 5 L), List.take 2 (List.drop 7 L), List.take 2 (List.drop 9 L)]
theorem bands4_rows {L : List Int} (h : L.length = 11) : ∀ r ∈ bands4 L, r.length = 2 := by
  intro r hr
  simp only [bands4, List.mem_cons, List.mem_nil_iff, or_false] at hr
  rcases hr with rfl | rfl | rfl | rfl <;> (rw [List.length_take, List.length_drop, h]; rfl)
theorem bands4_cells {k : IntKind} {L : List Int} (h : L.length = 11) : ((sgCells (fun _ => 0) (fun _ => Value.slice none 0 0) [.arr k 11 L]).drop 3).take 8 = rowsC k (bands4 L) := by
  match L, h with
  | [a0, a1, a2, a3, a4, a5, a6, a7, a8, a9, a10], _ => rfl
end Go.Proofs.Ythjkejbgknemgaa
namespace Go.Proofs.Ythjkejbgknemgaa
open Go.RowKit
def p86 (k : Nat) (u0R : List (List Int)) (u0D : List Int) (u0st : Int) (u0P : List (List Int)) (u0V : List (List (List Int))) : Option Int :=
 lt' (wr .i64 ((List.length u0P : Int) - (1 : Int))) fun x1 => some x1
theorem hf86 : Try.prog.funcs[86]? = some Try.f86 := by kernel_rfl
theorem w86 (k : Nat) {M : Mem} {u0b : Nat} {u0A : Option Addr} {u0c : Nat} {u0AP : Option Addr} {u0cP : Nat} {u0AV : Nat → Option Addr} {u0cV : Nat → Nat} {u0R : List (List Int)} {u0D : List Int} {u0st : Int} {u0P : List (List Int)} {u0V : List (List (List Int))} (hu0 : Crs M u0b u0A u0c u0AP u0cP u0AV u0cV u0R u0D u0st u0P u0V) {r} (h : p86 k u0R u0D u0st u0P u0V = some r) :
  Fn Try.prog 86 [rval (.lf (.v (.pointer (some ⟨u0b,0,none⟩))))] M (fun x _ => x = .lf (.v (.int .i64 r))) := by
 unfold p86 at h
 refine Fn_of (P:=Try.prog) (fn:=Try.f86) (c:=bodyOf Try.f86) [.lf (.v (.pointer (some ⟨u0b,0,none⟩)))] hf86 (by kernel_rfl) (Nat.le_of_ble_eq_true (by kernel_rfl)) (args_ok (by kernel_rfl) ⟨trivial,trivial⟩) fun w => ?_
 change T _ _ _ (endQ _ _ _)
 refine T_seq (c1:=(sub [0] (bodyOf Try.f86))) (c2:=(sub [1] (bodyOf Try.f86))) (by kernel_rfl) ?_
 refine T_region (id:=0) (by kernel_rfl) ?_
 refine TI_segK (i:=0) (j:=1) (s':={ σ := [(0,.lf (.v (.pointer (some ⟨u0b,0,none⟩))))],H := [],V := [],M := M,ds := [] }) [0] [] [] (by kernel_rfl) (by kernel_rfl) ?_
 refine TI_end (by kernel_rfl) ?_
 refine thenQ_n ?_
 refine T_seq (c1:=(sub [1,0] (bodyOf Try.f86))) (c2:=(sub [1,1] (bodyOf Try.f86))) (by kernel_rfl) ?_
 refine T_region (id:=1) (by kernel_rfl) ?_
 refine TI_segK (i:=0) (j:=3) (s':={ σ := [(5,.lf (.v (.pointer (some ⟨u0b,6,none⟩))))],H := [],V := [],M := M,ds := [] }) [5] [] [] (by kernel_rfl) (by kernel_rfl) ?_
 refine TI_at (i:=3) (d:=6) (x:=.lf (.v (.slice u0AP (List.length u0P) u0cP))) (by exact At_ldP (d:=6) (b:=u0b) (off:=6) (m:=1) (v:=(.slice u0AP (List.length u0P) u0cP)) (by kernel_rfl) (hu0).plc) (by kernel_rfl) trivial ?_
 obtain ⟨x1,e_x1,h⟩ := lt_some h
 refine TI_segK (i:=4) (j:=7) (s':={ σ := [(2,.lf (.v (.int .i64 x1)))],H := [],V := [],M := M,ds := [] }) [2] [] [] (by subst e_x1;kernel_rfl) (by kernel_rfl) ?_
 refine TI_end (by kernel_rfl) ?_
 refine thenQ_n ?_
 refine T_ret (by kernel_rfl) ?_
 have h := Option.some.inj h
 subst h
 refine fin_ret (.lf (.v (.int .i64 x1))) (by kernel_rfl) (by kernel_rfl) rfl ?_
 rfl
def p73_l1 (k : Nat) (u0R : List (List Int)) (u1 : Int) (j3 : List Int → Option (List Int)) : Nat → Int → List Int → Option (List Int)
 | 0,_,_ => none
 | n7 + 1,x4,L5 => lt' (decide (x4 < (List.length u0R : Int))) fun b8 => sp b8 (jn (fun (L9 : List Int) => lt' (wr .i64 (x4 + (1 : Int))) fun x33 => p73_l1 k u0R u1 j3 n7 x33 L9) fun j11 => gd ((0 : Int) ≤ x4 ∧ x4 < (List.length u0R : Int)) <| lt' (List.getD u0R ((x4).toNat) []) fun L13 => jn (fun (L14 : List Int) => lt' (List.getD L13 0 0) fun x25 => lt' (decide (x25 ≥ u1)) fun b26 => sp b26 (lt' (List.getD L13 2 0) fun x27 => cl (p83 k ([L14,[(-1073741824 : Int),x27]])) fun v31 => gd ((v31).length = 2) <| j11 v31) (j11 L14)) fun j16 => lt' (List.getD L13 0 0) fun x17 => lt' (decide (x17 ≤ u1)) fun b18 => sp b18 (lt' (List.getD L13 1 0) fun x19 => cl (p83 k ([L5,[x19,(1073741824 : Int)]])) fun v23 => gd ((v23).length = 2) <| j16 v23) (j16 L5)) (j3 L5)
def p73 (k : Nat) (u0R : List (List Int)) (u0D : List Int) (u0st : Int) (u0P : List (List Int)) (u0V : List (List (List Int))) (u1 : Int) : Option (List Int) :=
 jn (fun (L1 : List Int) => some L1) fun j3 => p73_l1 k u0R u1 j3 k (0 : Int) ([(-1073741824 : Int),(1073741824 : Int)])
theorem hf73 : Try.prog.funcs[73]? = some Try.f73 := by kernel_rfl
theorem w73 (k : Nat) {M : Mem} {u0b : Nat} {u0A : Option Addr} {u0c : Nat} {u0AP : Option Addr} {u0cP : Nat} {u0AV : Nat → Option Addr} {u0cV : Nat → Nat} {u0R : List (List Int)} {u0D : List Int} {u0st : Int} {u0P : List (List Int)} {u0V : List (List (List Int))} {u1 : Int} (hu0 : Crs M u0b u0A u0c u0AP u0cP u0AV u0cV u0R u0D u0st u0P u0V) {r} (h : p73 k u0R u0D u0st u0P u0V u1 = some r) :
  Fn Try.prog 73 [rval (.lf (.v (.pointer (some ⟨u0b,0,none⟩)))),rval (.lf (.v (.int .i64 u1)))] M (fun x _ => x = .agg [.arr .i64 2 r]) := by
 unfold p73 at h
 refine Fn_of (P:=Try.prog) (fn:=Try.f73) (c:=bodyOf Try.f73) [.lf (.v (.pointer (some ⟨u0b,0,none⟩))),.lf (.v (.int .i64 u1))] hf73 (by kernel_rfl) (Nat.le_of_ble_eq_true (by kernel_rfl)) (args_ok (by kernel_rfl) ⟨trivial,⟨trivial,trivial⟩⟩) fun w => ?_
 change T _ _ _ (endQ _ _ _)
 refine T_seq (c1:=(sub [0] (bodyOf Try.f73))) (c2:=(sub [1] (bodyOf Try.f73))) (by kernel_rfl) ?_
 refine T_region (id:=0) (by kernel_rfl) ?_
 refine TI_segK (i:=0) (j:=1) (s':={ σ := [(0,.lf (.v (.pointer (some ⟨u0b,0,none⟩)))),(1,.lf (.v (.int .i64 u1))),(4,.lf (.own 4 0))],H := [(4,[.arr .i64 2 [(0 : Int),(0 : Int)]])],V := [],M := M,ds := [] }) [0,1,4] [4] [] (by kernel_rfl) (by kernel_rfl) ?_
 refine TI_end (by kernel_rfl) ?_
 refine thenQ_n ?_
 refine T_seq (c1:=(sub [1,0] (bodyOf Try.f73))) (c2:=(sub [1,1] (bodyOf Try.f73))) (by kernel_rfl) ?_
 refine T_region (id:=1) (by kernel_rfl) ?_
 refine TI_segK (i:=0) (j:=3) (s':={ σ := [(0,.lf (.v (.pointer (some ⟨u0b,0,none⟩)))),(1,.lf (.v (.int .i64 u1))),(4,.lf (.own 4 0)),(5,.lf (.own 5 0))],H := [(4,[.arr .i64 2 [(0 : Int),(0 : Int)]]),(5,[.arr .i64 2 [(-1073741824 : Int),(1073741824 : Int)]])],V := [],M := M,ds := [] }) [0,1,4,5] [4,5] [] (by kernel_rfl) (by kernel_rfl) ?_
 refine TI_end (by kernel_rfl) ?_
 refine thenQ_n ?_
 refine T_seq (c1:=(sub [1,1,0] (bodyOf Try.f73))) (c2:=(sub [1,1,1] (bodyOf Try.f73))) (by kernel_rfl) ?_
 refine T_seq (c1:=(sub [1,1,0,0] (bodyOf Try.f73))) (c2:=(sub [1,1,0,1] (bodyOf Try.f73))) (by kernel_rfl) ?_
 refine T_region (id:=2) (by kernel_rfl) ?_
 refine TI_segK (i:=0) (j:=4) (s':={ σ := [(1,.lf (.v (.int .i64 u1))),(4,.lf (.own 4 0)),(5,.lf (.own 5 0)),(12,.lf (.v (.pointer (some ⟨u0b,0,none⟩))))],H := [(4,[.arr .i64 2 [(0 : Int),(0 : Int)]]),(5,[.arr .i64 2 [(-1073741824 : Int),(1073741824 : Int)]])],V := [],M := M,ds := [] }) [1,4,5,12] [4,5] [] (by kernel_rfl) (by kernel_rfl) ?_
 refine TI_at (i:=4) (d:=13) (x:=.lf (.v (.slice u0A (List.length u0R) u0c))) (by exact At_ldP (d:=13) (b:=u0b) (off:=0) (m:=1) (v:=(.slice u0A (List.length u0R) u0c)) (by kernel_rfl) (hu0).log) (by kernel_rfl) trivial ?_
 refine TI_segK (i:=5) (j:=7) (s':={ σ := [(1,.lf (.v (.int .i64 u1))),(4,.lf (.own 4 0)),(5,.lf (.own 5 0)),(13,.lf (.v (.slice u0A (List.length u0R) u0c))),(14,.lf (.v (.int .i64 (List.length u0R : Int)))),(15,.lf (.v (.int .i64 (0 : Int))))],H := [(4,[.arr .i64 2 [(0 : Int),(0 : Int)]]),(5,[.arr .i64 2 [(-1073741824 : Int),(1073741824 : Int)]])],V := [],M := M,ds := [] }) [1,4,5,13,14,15] [4,5] [] (by kernel_rfl) (by kernel_rfl) ?_
 refine TI_end (by kernel_rfl) ?_
 refine thenQ_n ?_
 obtain ⟨j3,e_j3,h⟩ := jn_some h
 refine T_bcut (id:=0) (c1:=(sub [1,1,0,1,0] (bodyOf Try.f73))) (fun s' => ∃ (L1 : List Int) (M2 : Mem),Sub { σ := [(4,.lf (.own 4 0)),(5,.lf (.own 5 0))],H := [(4,[.arr .i64 2 [(0 : Int),(0 : Int)]]),(5,[.arr .i64 2 L1])],V := [],M := M2,ds := [] } s' ∧ Mem.le M M2 ∧ (L1).length = 2 ∧ j3 L1 = some r) (by kernel_rfl) ?_ ?_
 ·refine T_loop (c1:=(sub [1,1,0,1,0,0] (bodyOf Try.f73))) (by kernel_rfl) (fun n7 s' => ∃ (x4 : Int) (L5 : List Int) (M6 : Mem),Sub { σ := [(1,.lf (.v (.int .i64 u1))),(4,.lf (.own 4 0)),(5,.lf (.own 5 0)),(13,.lf (.v (.slice u0A (List.length u0R) u0c))),(14,.lf (.v (.int .i64 (List.length u0R : Int)))),(15,.lf (.v (.int .i64 x4)))],H := [(4,[.arr .i64 2 [(0 : Int),(0 : Int)]]),(5,[.arr .i64 2 L5])],V := [],M := M6,ds := [] } s' ∧ Mem.le M M6 ∧ (L5).length = 2 ∧ p73_l1 k u0R u1 j3 n7 x4 L5 = some r) (k:=k) ⟨(0 : Int),([(-1073741824 : Int),(1073741824 : Int)]),M,keep_sub (ts:=[1,4,5,13,14,15]) (hs:=[4,5]) (vs:=[]) (by kernel_rfl),(Mem.le_refl _),rfl,h⟩ ?_
  rintro n7 s' ⟨x4,L5,M6,hsub,hM6,l_L5,h⟩
  cases n7 with
  | zero => rw [p73_l1] at h;cases h
  | succ n7 =>
   rw [p73_l1] at h
   refine T_sub hsub ?_
   refine T_seq (c1:=(sub [1,1,0,1,0,0,0] (bodyOf Try.f73))) (c2:=(sub [1,1,0,1,0,0,1] (bodyOf Try.f73))) (by kernel_rfl) ?_
   refine T_region (id:=3) (by kernel_rfl) ?_
   obtain ⟨b8,e_b8,h⟩ := lt_some h
   refine TI_segK (i:=0) (j:=1) (s':={ σ := [(1,.lf (.v (.int .i64 u1))),(4,.lf (.own 4 0)),(5,.lf (.own 5 0)),(13,.lf (.v (.slice u0A (List.length u0R) u0c))),(14,.lf (.v (.int .i64 (List.length u0R : Int)))),(15,.lf (.v (.int .i64 x4))),(16,.lf (.v (.bool b8)))],H := [(4,[.arr .i64 2 [(0 : Int),(0 : Int)]]),(5,[.arr .i64 2 L5])],V := [],M := M6,ds := [] }) [1,4,5,13,14,15,16] [4,5] [] (by subst e_b8;kernel_rfl) (by kernel_rfl) ?_
   refine TI_end (by kernel_rfl) ?_
   refine thenQ_n ?_
   refine T_seq (c1:=(sub [1,1,0,1,0,0,1,0] (bodyOf Try.f73))) (c2:=(sub [1,1,0,1,0,0,1,1] (bodyOf Try.f73))) (by kernel_rfl) ?_
   cases b8 with
   | true =>
    replace h := sp_t h
    refine T_condT (x:=(.tmp 16)) (c1:=(sub [1,1,0,1,0,0,1,0,0] (bodyOf Try.f73))) (c2:=(sub [1,1,0,1,0,0,1,0,1] (bodyOf Try.f73))) (by kernel_rfl) (by kernel_rfl) ?_
    refine T_keep (s':={ σ := [(1,.lf (.v (.int .i64 u1))),(4,.lf (.own 4 0)),(5,.lf (.own 5 0)),(13,.lf (.v (.slice u0A (List.length u0R) u0c))),(14,.lf (.v (.int .i64 (List.length u0R : Int)))),(15,.lf (.v (.int .i64 x4)))],H := [(4,[.arr .i64 2 [(0 : Int),(0 : Int)]]),(5,[.arr .i64 2 L5])],V := [],M := M6,ds := [] }) [1,4,5,13,14,15] [4,5] [] (by kernel_rfl) ?_
    refine T_skip (by kernel_rfl) ?_
    refine thenQ_n ?_
    obtain ⟨j11,e_j11,h⟩ := jn_some h
    refine T_cut (c1:=(sub [1,1,0,1,0,0,1,1,0] (bodyOf Try.f73))) (c2:=(sub [1,1,0,1,0,0,1,1,1] (bodyOf Try.f73))) (fun s' => ∃ (L9 : List Int) (M10 : Mem),Sub { σ := [(1,.lf (.v (.int .i64 u1))),(4,.lf (.own 4 0)),(5,.lf (.own 5 0)),(13,.lf (.v (.slice u0A (List.length u0R) u0c))),(14,.lf (.v (.int .i64 (List.length u0R : Int)))),(15,.lf (.v (.int .i64 x4)))],H := [(4,[.arr .i64 2 [(0 : Int),(0 : Int)]]),(5,[.arr .i64 2 L9])],V := [],M := M10,ds := [] } s' ∧ Mem.le M6 M10 ∧ (L9).length = 2 ∧ j11 L9 = some r) (by kernel_rfl) ?_ ?_
    ·refine T_block (id:=1) (c1:=(sub [1,1,0,1,0,0,1,1,0,0] (bodyOf Try.f73))) (by kernel_rfl) ?_
     refine T_seq (c1:=(sub [1,1,0,1,0,0,1,1,0,0,0] (bodyOf Try.f73))) (c2:=(sub [1,1,0,1,0,0,1,1,0,0,1] (bodyOf Try.f73))) (by kernel_rfl) ?_
     refine T_region (id:=4) (by kernel_rfl) ?_
     obtain ⟨g12,h⟩ := gd_some h
     refine TI_at (i:=0) (d:=17) (x:=.lf (.ep (.slice u0A (List.length u0R) u0c) 11 ((x4).toNat) 0)) (by exact At_idxR (d:=17) (z:=x4) (by kernel_rfl) g12 ((hu0).lR.le hM6)) (by kernel_rfl) trivial ?_
     obtain ⟨L13,e_L13,h⟩ := lt_some h
     have l_L13 : (L13).length = 11 := by rw [e_L13]; exact SlR_row ((hu0).lR.le hM6) (toNat_lt g12)
     refine TI_at (i:=1) (d:=18) (x:=.agg [.arr .i64 11 L13]) (by rw [e_L13]; exact At_ldRow (d:=18) (q:=(x4).toNat) (by subst e_L13; kernel_rfl) (toNat_lt g12) ((hu0).lR.le hM6)) (by kernel_rfl) ⟨l_L13,trivial⟩ ?_
     refine TI_segK (i:=2) (j:=4) (s':={ σ := [(1,.lf (.v (.int .i64 u1))),(4,.lf (.own 4 0)),(5,.lf (.own 5 0)),(7,.lf (.own 7 0)),(13,.lf (.v (.slice u0A (List.length u0R) u0c))),(14,.lf (.v (.int .i64 (List.length u0R : Int)))),(15,.lf (.v (.int .i64 x4)))],H := [(4,[.arr .i64 2 [(0 : Int),(0 : Int)]]),(5,[.arr .i64 2 L5]),(7,[.arr .i64 11 L13])],V := [],M := M6,ds := [] }) [1,4,5,7,13,14,15] [4,5,7] [] (by kernel_rfl) (by kernel_rfl) ?_
     refine TI_end (by kernel_rfl) ?_
     refine thenQ_n ?_
     obtain ⟨j16,e_j16,h⟩ := jn_some h
     refine T_cut (c1:=(sub [1,1,0,1,0,0,1,1,0,0,1,0] (bodyOf Try.f73))) (c2:=(sub [1,1,0,1,0,0,1,1,0,0,1,1] (bodyOf Try.f73))) (fun s' => ∃ (L14 : List Int) (M15 : Mem),Sub { σ := [(1,.lf (.v (.int .i64 u1))),(4,.lf (.own 4 0)),(5,.lf (.own 5 0)),(7,.lf (.own 7 0)),(13,.lf (.v (.slice u0A (List.length u0R) u0c))),(14,.lf (.v (.int .i64 (List.length u0R : Int)))),(15,.lf (.v (.int .i64 x4)))],H := [(4,[.arr .i64 2 [(0 : Int),(0 : Int)]]),(5,[.arr .i64 2 L14]),(7,[.arr .i64 11 L13])],V := [],M := M15,ds := [] } s' ∧ Mem.le M6 M15 ∧ (L14).length = 2 ∧ j16 L14 = some r) (by kernel_rfl) ?_ ?_
     ·refine T_seq (c1:=(sub [1,1,0,1,0,0,1,1,0,0,1,0,0] (bodyOf Try.f73))) (c2:=(sub [1,1,0,1,0,0,1,1,0,0,1,0,1] (bodyOf Try.f73))) (by kernel_rfl) ?_
      refine T_region (id:=5) (by kernel_rfl) ?_
      obtain ⟨x17,e_x17,h⟩ := lt_some h
      obtain ⟨b18,e_b18,h⟩ := lt_some h
      refine TI_segK (i:=0) (j:=4) (s':={ σ := [(1,.lf (.v (.int .i64 u1))),(4,.lf (.own 4 0)),(5,.lf (.own 5 0)),(7,.lf (.own 7 0)),(13,.lf (.v (.slice u0A (List.length u0R) u0c))),(14,.lf (.v (.int .i64 (List.length u0R : Int)))),(15,.lf (.v (.int .i64 x4))),(22,.lf (.v (.bool b18)))],H := [(4,[.arr .i64 2 [(0 : Int),(0 : Int)]]),(5,[.arr .i64 2 L5]),(7,[.arr .i64 11 L13])],V := [],M := M6,ds := [] }) [1,4,5,7,13,14,15,22] [4,5,7] [] (by subst e_b18 e_x17;kernel_rfl) (by kernel_rfl) ?_
      refine TI_end (by kernel_rfl) ?_
      refine thenQ_n ?_
      cases b18 with
      | true =>
       replace h := sp_t h
       refine T_condT (x:=(.tmp 22)) (c1:=(sub [1,1,0,1,0,0,1,1,0,0,1,0,1,0] (bodyOf Try.f73))) (c2:=(sub [1,1,0,1,0,0,1,1,0,0,1,0,1,1] (bodyOf Try.f73))) (by kernel_rfl) (by kernel_rfl) ?_
       refine T_keep (s':={ σ := [(1,.lf (.v (.int .i64 u1))),(4,.lf (.own 4 0)),(5,.lf (.own 5 0)),(7,.lf (.own 7 0)),(13,.lf (.v (.slice u0A (List.length u0R) u0c))),(14,.lf (.v (.int .i64 (List.length u0R : Int)))),(15,.lf (.v (.int .i64 x4)))],H := [(4,[.arr .i64 2 [(0 : Int),(0 : Int)]]),(5,[.arr .i64 2 L5]),(7,[.arr .i64 11 L13])],V := [],M := M6,ds := [] }) [1,4,5,7,13,14,15] [4,5,7] [] (by kernel_rfl) ?_
       refine T_region (id:=6) (by kernel_rfl) ?_
       obtain ⟨x19,e_x19,h⟩ := lt_some h
       refine TI_segK (i:=0) (j:=5) (s':={ σ := [(1,.lf (.v (.int .i64 u1))),(4,.lf (.own 4 0)),(5,.lf (.own 5 0)),(7,.lf (.own 7 0)),(13,.lf (.v (.slice u0A (List.length u0R) u0c))),(14,.lf (.v (.int .i64 (List.length u0R : Int)))),(15,.lf (.v (.int .i64 x4))),(23,.agg [.arr .i64 2 L5]),(27,.agg [.arr .i64 2 [x19,(1073741824 : Int)]])],H := [(4,[.arr .i64 2 [(0 : Int),(0 : Int)]]),(5,[.arr .i64 2 L5]),(7,[.arr .i64 11 L13])],V := [],M := M6,ds := [] }) [1,4,5,7,13,14,15,23,27] [4,5,7] [] (by subst e_x19;kernel_rfl) (by kernel_rfl) ?_
       refine TI_of (i:=5) (by kernel_rfl) (TE_litC (d:=28) (e:=40) (sz:=2) (len:=2) (cs:=rowsC .i64 ([L5,[x19,(1073741824 : Int)]])) (by kernel_rfl) (by kernel_rfl) (by kernel_rfl) ?_)
       refine TI_segK (i:=6) (j:=6) (s':={ σ := [(1,.lf (.v (.int .i64 u1))),(4,.lf (.own 4 0)),(5,.lf (.own 5 0)),(7,.lf (.own 7 0)),(13,.lf (.v (.slice u0A (List.length u0R) u0c))),(14,.lf (.v (.int .i64 (List.length u0R : Int)))),(15,.lf (.v (.int .i64 x4))),(28,.lf (.vec 28))],H := [(4,[.arr .i64 2 [(0 : Int),(0 : Int)]]),(5,[.arr .i64 2 L5]),(7,[.arr .i64 11 L13])],V := [(28,⟨40,2,List.length ([L5,[x19,(1073741824 : Int)]]),rowsC .i64 ([L5,[x19,(1073741824 : Int)]])⟩)],M := M6,ds := [] }) [1,4,5,7,13,14,15,28] [4,5,7] [28] (by kernel_rfl) (by kernel_rfl) ?_
       refine TI_turn (turn_pubV 28 (v:=⟨40,2,List.length ([L5,[x19,(1073741824 : Int)]]),rowsC .i64 ([L5,[x19,(1073741824 : Int)]])⟩) (by kernel_rfl)) ?_
       rintro _ ⟨A20,c21,M22,rfl,hSA20,hcA20,-,hNA20,hM22⟩
       have fA20 : SlR M22 A20 c21 .i64 2 ([L5,[x19,(1073741824 : Int)]]) := ⟨(rows_cons l_L5 (rows_cons rfl rows_nil)),hSA20,hcA20⟩
       obtain ⟨v23,c_v23,h⟩ := cl_some h
       obtain ⟨g24,h⟩ := gd_some h
       refine TI_at (i:=6) (d:=29) (x:=.agg [.arr .i64 2 v23]) (At_call (d:=29) (f:=83) (args:=[rval (.lf (.v (.slice A20 (List.length ([L5,[x19,(1073741824 : Int)]])) c21)))]) (x:=.agg [.arr .i64 2 v23]) (by kernel_rfl) (w83 k fA20 c_v23)) (by kernel_rfl) ⟨g24,trivial⟩ ?_
       refine TI_segK (i:=7) (j:=8) (s':={ σ := [(1,.lf (.v (.int .i64 u1))),(4,.lf (.own 4 0)),(5,.lf (.own 5 0)),(7,.lf (.own 7 0)),(13,.lf (.v (.slice u0A (List.length u0R) u0c))),(14,.lf (.v (.int .i64 (List.length u0R : Int)))),(15,.lf (.v (.int .i64 x4)))],H := [(4,[.arr .i64 2 [(0 : Int),(0 : Int)]]),(5,[.arr .i64 2 v23]),(7,[.arr .i64 11 L13])],V := [],M := M22,ds := [] }) [1,4,5,7,13,14,15] [4,5,7] [] (by kernel_rfl) (by kernel_rfl) ?_
       refine TI_end (by kernel_rfl) ?_
       refine thenQ_n ?_
       exact ⟨v23,M22,keep_sub (ts:=[1,4,5,7,13,14,15]) (hs:=[4,5,7]) (vs:=[]) (by kernel_rfl),(Mem.le_trans (Mem.le_refl _) hM22),g24,h⟩
      | false =>
       replace h := sp_f h
       refine T_condF (x:=(.tmp 22)) (c1:=(sub [1,1,0,1,0,0,1,1,0,0,1,0,1,0] (bodyOf Try.f73))) (c2:=(sub [1,1,0,1,0,0,1,1,0,0,1,0,1,1] (bodyOf Try.f73))) (by kernel_rfl) (by kernel_rfl) ?_
       refine T_keep (s':={ σ := [(1,.lf (.v (.int .i64 u1))),(4,.lf (.own 4 0)),(5,.lf (.own 5 0)),(7,.lf (.own 7 0)),(13,.lf (.v (.slice u0A (List.length u0R) u0c))),(14,.lf (.v (.int .i64 (List.length u0R : Int)))),(15,.lf (.v (.int .i64 x4)))],H := [(4,[.arr .i64 2 [(0 : Int),(0 : Int)]]),(5,[.arr .i64 2 L5]),(7,[.arr .i64 11 L13])],V := [],M := M6,ds := [] }) [1,4,5,7,13,14,15] [4,5,7] [] (by kernel_rfl) ?_
       refine T_skip (by kernel_rfl) ?_
       refine thenQ_n ?_
       exact ⟨L5,M6,keep_sub (ts:=[1,4,5,7,13,14,15]) (hs:=[4,5,7]) (vs:=[]) (by kernel_rfl),(Mem.le_refl _),l_L5,h⟩
     ·rintro s' ⟨L14,M15,hsub,hM15,l_L14,h⟩
      subst e_j16
      refine T_sub hsub ?_
      refine T_seq (c1:=(sub [1,1,0,1,0,0,1,1,0,0,1,1,0] (bodyOf Try.f73))) (c2:=(sub [1,1,0,1,0,0,1,1,0,0,1,1,1] (bodyOf Try.f73))) (by kernel_rfl) ?_
      refine T_region (id:=7) (by kernel_rfl) ?_
      obtain ⟨x25,e_x25,h⟩ := lt_some h
      obtain ⟨b26,e_b26,h⟩ := lt_some h
      refine TI_segK (i:=0) (j:=4) (s':={ σ := [(1,.lf (.v (.int .i64 u1))),(4,.lf (.own 4 0)),(5,.lf (.own 5 0)),(7,.lf (.own 7 0)),(13,.lf (.v (.slice u0A (List.length u0R) u0c))),(14,.lf (.v (.int .i64 (List.length u0R : Int)))),(15,.lf (.v (.int .i64 x4))),(33,.lf (.v (.bool b26)))],H := [(4,[.arr .i64 2 [(0 : Int),(0 : Int)]]),(5,[.arr .i64 2 L14]),(7,[.arr .i64 11 L13])],V := [],M := M15,ds := [] }) [1,4,5,7,13,14,15,33] [4,5,7] [] (by subst e_b26 e_x25;kernel_rfl) (by kernel_rfl) ?_
      refine TI_end (by kernel_rfl) ?_
      refine thenQ_n ?_
      cases b26 with
      | true =>
       replace h := sp_t h
       refine T_condT (x:=(.tmp 33)) (c1:=(sub [1,1,0,1,0,0,1,1,0,0,1,1,1,0] (bodyOf Try.f73))) (c2:=(sub [1,1,0,1,0,0,1,1,0,0,1,1,1,1] (bodyOf Try.f73))) (by kernel_rfl) (by kernel_rfl) ?_
       refine T_keep (s':={ σ := [(1,.lf (.v (.int .i64 u1))),(4,.lf (.own 4 0)),(5,.lf (.own 5 0)),(7,.lf (.own 7 0)),(13,.lf (.v (.slice u0A (List.length u0R) u0c))),(14,.lf (.v (.int .i64 (List.length u0R : Int)))),(15,.lf (.v (.int .i64 x4)))],H := [(4,[.arr .i64 2 [(0 : Int),(0 : Int)]]),(5,[.arr .i64 2 L14]),(7,[.arr .i64 11 L13])],V := [],M := M15,ds := [] }) [1,4,5,7,13,14,15] [4,5,7] [] (by kernel_rfl) ?_
       refine T_region (id:=8) (by kernel_rfl) ?_
       obtain ⟨x27,e_x27,h⟩ := lt_some h
       refine TI_segK (i:=0) (j:=5) (s':={ σ := [(1,.lf (.v (.int .i64 u1))),(4,.lf (.own 4 0)),(5,.lf (.own 5 0)),(13,.lf (.v (.slice u0A (List.length u0R) u0c))),(14,.lf (.v (.int .i64 (List.length u0R : Int)))),(15,.lf (.v (.int .i64 x4))),(34,.agg [.arr .i64 2 L14]),(38,.agg [.arr .i64 2 [(-1073741824 : Int),x27]])],H := [(4,[.arr .i64 2 [(0 : Int),(0 : Int)]]),(5,[.arr .i64 2 L14])],V := [],M := M15,ds := [] }) [1,4,5,13,14,15,34,38] [4,5] [] (by subst e_x27;kernel_rfl) (by kernel_rfl) ?_
       refine TI_of (i:=5) (by kernel_rfl) (TE_litC (d:=39) (e:=40) (sz:=2) (len:=2) (cs:=rowsC .i64 ([L14,[(-1073741824 : Int),x27]])) (by kernel_rfl) (by kernel_rfl) (by kernel_rfl) ?_)
       refine TI_segK (i:=6) (j:=6) (s':={ σ := [(1,.lf (.v (.int .i64 u1))),(4,.lf (.own 4 0)),(5,.lf (.own 5 0)),(13,.lf (.v (.slice u0A (List.length u0R) u0c))),(14,.lf (.v (.int .i64 (List.length u0R : Int)))),(15,.lf (.v (.int .i64 x4))),(39,.lf (.vec 39))],H := [(4,[.arr .i64 2 [(0 : Int),(0 : Int)]]),(5,[.arr .i64 2 L14])],V := [(39,⟨40,2,List.length ([L14,[(-1073741824 : Int),x27]]),rowsC .i64 ([L14,[(-1073741824 : Int),x27]])⟩)],M := M15,ds := [] }) [1,4,5,13,14,15,39] [4,5] [39] (by kernel_rfl) (by kernel_rfl) ?_
       refine TI_turn (turn_pubV 39 (v:=⟨40,2,List.length ([L14,[(-1073741824 : Int),x27]]),rowsC .i64 ([L14,[(-1073741824 : Int),x27]])⟩) (by kernel_rfl)) ?_
       rintro _ ⟨A28,c29,M30,rfl,hSA28,hcA28,-,hNA28,hM30⟩
       have fA28 : SlR M30 A28 c29 .i64 2 ([L14,[(-1073741824 : Int),x27]]) := ⟨(rows_cons l_L14 (rows_cons rfl rows_nil)),hSA28,hcA28⟩
       obtain ⟨v31,c_v31,h⟩ := cl_some h
       obtain ⟨g32,h⟩ := gd_some h
       refine TI_at (i:=6) (d:=40) (x:=.agg [.arr .i64 2 v31]) (At_call (d:=40) (f:=83) (args:=[rval (.lf (.v (.slice A28 (List.length ([L14,[(-1073741824 : Int),x27]])) c29)))]) (x:=.agg [.arr .i64 2 v31]) (by kernel_rfl) (w83 k fA28 c_v31)) (by kernel_rfl) ⟨g32,trivial⟩ ?_
       refine TI_segK (i:=7) (j:=8) (s':={ σ := [(1,.lf (.v (.int .i64 u1))),(4,.lf (.own 4 0)),(5,.lf (.own 5 0)),(13,.lf (.v (.slice u0A (List.length u0R) u0c))),(14,.lf (.v (.int .i64 (List.length u0R : Int)))),(15,.lf (.v (.int .i64 x4)))],H := [(4,[.arr .i64 2 [(0 : Int),(0 : Int)]]),(5,[.arr .i64 2 v31])],V := [],M := M30,ds := [] }) [1,4,5,13,14,15] [4,5] [] (by kernel_rfl) (by kernel_rfl) ?_
       refine TI_end (by kernel_rfl) ?_
       refine blockQ_n ?_
       refine thenQ_n ?_
       exact ⟨v31,M30,keep_sub (ts:=[1,4,5,13,14,15]) (hs:=[4,5]) (vs:=[]) (by kernel_rfl),(Mem.le_trans (Mem.le_trans (Mem.le_refl _) hM15) hM30),g32,h⟩
      | false =>
       replace h := sp_f h
       refine T_condF (x:=(.tmp 33)) (c1:=(sub [1,1,0,1,0,0,1,1,0,0,1,1,1,0] (bodyOf Try.f73))) (c2:=(sub [1,1,0,1,0,0,1,1,0,0,1,1,1,1] (bodyOf Try.f73))) (by kernel_rfl) (by kernel_rfl) ?_
       refine T_keep (s':={ σ := [(1,.lf (.v (.int .i64 u1))),(4,.lf (.own 4 0)),(5,.lf (.own 5 0)),(13,.lf (.v (.slice u0A (List.length u0R) u0c))),(14,.lf (.v (.int .i64 (List.length u0R : Int)))),(15,.lf (.v (.int .i64 x4)))],H := [(4,[.arr .i64 2 [(0 : Int),(0 : Int)]]),(5,[.arr .i64 2 L14])],V := [],M := M15,ds := [] }) [1,4,5,13,14,15] [4,5] [] (by kernel_rfl) ?_
       refine T_skip (by kernel_rfl) ?_
       refine blockQ_n ?_
       refine thenQ_n ?_
       exact ⟨L14,M15,keep_sub (ts:=[1,4,5,13,14,15]) (hs:=[4,5]) (vs:=[]) (by kernel_rfl),(Mem.le_trans (Mem.le_refl _) hM15),l_L14,h⟩
    ·rintro s' ⟨L9,M10,hsub,hM10,l_L9,h⟩
     subst e_j11
     refine T_sub hsub ?_
     refine T_region (id:=9) (by kernel_rfl) ?_
     obtain ⟨x33,e_x33,h⟩ := lt_some h
     refine TI_segK (i:=0) (j:=2) (s':={ σ := [(1,.lf (.v (.int .i64 u1))),(4,.lf (.own 4 0)),(5,.lf (.own 5 0)),(13,.lf (.v (.slice u0A (List.length u0R) u0c))),(14,.lf (.v (.int .i64 (List.length u0R : Int)))),(15,.lf (.v (.int .i64 x33)))],H := [(4,[.arr .i64 2 [(0 : Int),(0 : Int)]]),(5,[.arr .i64 2 L9])],V := [],M := M10,ds := [] }) [1,4,5,13,14,15] [4,5] [] (by subst e_x33;kernel_rfl) (by kernel_rfl) ?_
     refine TI_end (by kernel_rfl) ?_
     refine thenQ_n ?_
     exact ⟨n7,Nat.lt_succ_self _,x33,L9,M10,keep_sub (ts:=[1,4,5,13,14,15]) (hs:=[4,5]) (vs:=[]) (by kernel_rfl),(Mem.le_trans (Mem.le_trans (Mem.le_refl _) hM6) hM10),l_L9,h⟩
   | false =>
    replace h := sp_f h
    refine T_condF (x:=(.tmp 16)) (c1:=(sub [1,1,0,1,0,0,1,0,0] (bodyOf Try.f73))) (c2:=(sub [1,1,0,1,0,0,1,0,1] (bodyOf Try.f73))) (by kernel_rfl) (by kernel_rfl) ?_
    refine T_keep (s':={ σ := [(4,.lf (.own 4 0)),(5,.lf (.own 5 0))],H := [(4,[.arr .i64 2 [(0 : Int),(0 : Int)]]),(5,[.arr .i64 2 L5])],V := [],M := M6,ds := [] }) [4,5] [4,5] [] (by kernel_rfl) ?_
    refine T_exit (id:=0) (by kernel_rfl) ?_
    refine thenQ_x ?_
    refine thenQ_x ?_
    refine blockQ_x ?_
    refine thenQ_n ?_
    exact ⟨L5,M6,keep_sub (ts:=[4,5]) (hs:=[4,5]) (vs:=[]) (by kernel_rfl),(Mem.le_trans (Mem.le_refl _) hM6),l_L5,h⟩
 ·rintro s' ⟨L1,M2,hsub,hM2,l_L1,h⟩
  subst e_j3
  refine thenQ_n ?_
  refine T_sub hsub ?_
  refine T_seq (c1:=(sub [1,1,1,0] (bodyOf Try.f73))) (c2:=(sub [1,1,1,1] (bodyOf Try.f73))) (by kernel_rfl) ?_
  refine T_region (id:=10) (by kernel_rfl) ?_
  refine TI_segK (i:=0) (j:=2) (s':={ σ := [(4,.lf (.own 4 0))],H := [(4,[.arr .i64 2 L1])],V := [],M := M2,ds := [] }) [4] [4] [] (by kernel_rfl) (by kernel_rfl) ?_
  refine TI_end (by kernel_rfl) ?_
  refine thenQ_n ?_
  refine T_ret (by kernel_rfl) ?_
  have h := Option.some.inj h
  subst h
  refine fin_ret (.agg [.arr .i64 2 L1]) (by kernel_rfl) (by kernel_rfl) rfl ?_
  rfl
def p81_l1 (k : Nat) (u0 : List Int) (j1 : Option Int) : Nat → Int → Option Int
 | 0,_ => none
 | n3 + 1,x2 => lt' (decide (x2 < (List.length u0 : Int))) fun b4 => sp b4 (gd ((0 : Int) ≤ x2 ∧ x2 < (List.length u0 : Int)) <| lt' (List.getD u0 ((x2).toNat) 0) fun x6 => cl (p69 k x6) fun v7 => sp v7 (some x2) (lt' (wr .i64 (x2 + (1 : Int))) fun x8 => p81_l1 k u0 j1 n3 x8)) (j1)
def p81 (k : Nat) (u0 : List Int) : Option Int :=
 jn (some (-1 : Int)) fun j1 => p81_l1 k u0 j1 k (0 : Int)
theorem hf81 : Try.prog.funcs[81]? = some Try.f81 := by kernel_rfl
theorem w81 (k : Nat) {M : Mem} {Au0 : Option Addr} {cu0 : Nat} {u0 : List Int} (hu0 : SlI M Au0 cu0 .i64 u0) {r} (h : p81 k u0 = some r) :
  Fn Try.prog 81 [rval (.lf (.v (.slice Au0 (List.length u0) cu0))),rval (.lf (.v (.func (.func 69) #[] #[])))] M (fun x _ => x = .lf (.v (.int .i64 r))) := by
 unfold p81 at h
 refine Fn_of (P:=Try.prog) (fn:=Try.f81) (c:=bodyOf Try.f81) [.lf (.v (.slice Au0 (List.length u0) cu0)),.lf (.v (.func (.func 69) #[] #[]))] hf81 (by kernel_rfl) (Nat.le_of_ble_eq_true (by kernel_rfl)) (args_ok (by kernel_rfl) ⟨trivial,⟨trivial,trivial⟩⟩) fun w => ?_
 change T _ _ _ (endQ _ _ _)
 refine T_seq (c1:=(sub [0] (bodyOf Try.f81))) (c2:=(sub [1] (bodyOf Try.f81))) (by kernel_rfl) ?_
 refine T_region (id:=0) (by kernel_rfl) ?_
 refine TI_segK (i:=0) (j:=1) (s':={ σ := [(0,.lf (.v (.slice Au0 (List.length u0) cu0))),(1,.lf (.v (.func (.func 69) #[] #[])))],H := [],V := [],M := M,ds := [] }) [0,1] [] [] (by kernel_rfl) (by kernel_rfl) ?_
 refine TI_end (by kernel_rfl) ?_
 refine thenQ_n ?_
 refine T_seq (c1:=(sub [1,0] (bodyOf Try.f81))) (c2:=(sub [1,1] (bodyOf Try.f81))) (by kernel_rfl) ?_
 refine T_seq (c1:=(sub [1,0,0] (bodyOf Try.f81))) (c2:=(sub [1,0,1] (bodyOf Try.f81))) (by kernel_rfl) ?_
 refine T_region (id:=1) (by kernel_rfl) ?_
 refine TI_segK (i:=0) (j:=3) (s':={ σ := [(0,.lf (.v (.slice Au0 (List.length u0) cu0))),(1,.lf (.v (.func (.func 69) #[] #[]))),(7,.lf (.v (.int .i64 (List.length u0 : Int)))),(8,.lf (.v (.int .i64 (0 : Int))))],H := [],V := [],M := M,ds := [] }) [0,1,7,8] [] [] (by kernel_rfl) (by kernel_rfl) ?_
 refine TI_end (by kernel_rfl) ?_
 refine thenQ_n ?_
 obtain ⟨j1,e_j1,h⟩ := jn_some h
 refine T_bcut (id:=0) (c1:=(sub [1,0,1,0] (bodyOf Try.f81))) (fun s' => Sub { σ := [],H := [],V := [],M := M,ds := [] } s' ∧ j1 = some r) (by kernel_rfl) ?_ ?_
 ·refine T_loop (c1:=(sub [1,0,1,0,0] (bodyOf Try.f81))) (by kernel_rfl) (fun n3 s' => ∃ (x2 : Int),Sub { σ := [(0,.lf (.v (.slice Au0 (List.length u0) cu0))),(1,.lf (.v (.func (.func 69) #[] #[]))),(7,.lf (.v (.int .i64 (List.length u0 : Int)))),(8,.lf (.v (.int .i64 x2)))],H := [],V := [],M := M,ds := [] } s' ∧ p81_l1 k u0 j1 n3 x2 = some r) (k:=k) ⟨(0 : Int),keep_sub (ts:=[0,1,7,8]) (hs:=[]) (vs:=[]) (by kernel_rfl),h⟩ ?_
  rintro n3 s' ⟨x2,hsub,h⟩
  cases n3 with
  | zero => rw [p81_l1] at h;cases h
  | succ n3 =>
   rw [p81_l1] at h
   refine T_sub hsub ?_
   refine T_seq (c1:=(sub [1,0,1,0,0,0] (bodyOf Try.f81))) (c2:=(sub [1,0,1,0,0,1] (bodyOf Try.f81))) (by kernel_rfl) ?_
   refine T_region (id:=2) (by kernel_rfl) ?_
   obtain ⟨b4,e_b4,h⟩ := lt_some h
   refine TI_segK (i:=0) (j:=1) (s':={ σ := [(0,.lf (.v (.slice Au0 (List.length u0) cu0))),(1,.lf (.v (.func (.func 69) #[] #[]))),(7,.lf (.v (.int .i64 (List.length u0 : Int)))),(8,.lf (.v (.int .i64 x2))),(9,.lf (.v (.bool b4)))],H := [],V := [],M := M,ds := [] }) [0,1,7,8,9] [] [] (by subst e_b4;kernel_rfl) (by kernel_rfl) ?_
   refine TI_end (by kernel_rfl) ?_
   refine thenQ_n ?_
   refine T_seq (c1:=(sub [1,0,1,0,0,1,0] (bodyOf Try.f81))) (c2:=(sub [1,0,1,0,0,1,1] (bodyOf Try.f81))) (by kernel_rfl) ?_
   cases b4 with
   | true =>
    replace h := sp_t h
    refine T_condT (x:=(.tmp 9)) (c1:=(sub [1,0,1,0,0,1,0,0] (bodyOf Try.f81))) (c2:=(sub [1,0,1,0,0,1,0,1] (bodyOf Try.f81))) (by kernel_rfl) (by kernel_rfl) ?_
    refine T_keep (s':={ σ := [(0,.lf (.v (.slice Au0 (List.length u0) cu0))),(1,.lf (.v (.func (.func 69) #[] #[]))),(7,.lf (.v (.int .i64 (List.length u0 : Int)))),(8,.lf (.v (.int .i64 x2)))],H := [],V := [],M := M,ds := [] }) [0,1,7,8] [] [] (by kernel_rfl) ?_
    refine T_skip (by kernel_rfl) ?_
    refine thenQ_n ?_
    refine T_seq (c1:=(sub [1,0,1,0,0,1,1,0] (bodyOf Try.f81))) (c2:=(sub [1,0,1,0,0,1,1,1] (bodyOf Try.f81))) (by kernel_rfl) ?_
    refine T_block (id:=1) (c1:=(sub [1,0,1,0,0,1,1,0,0] (bodyOf Try.f81))) (by kernel_rfl) ?_
    refine T_seq (c1:=(sub [1,0,1,0,0,1,1,0,0,0] (bodyOf Try.f81))) (c2:=(sub [1,0,1,0,0,1,1,0,0,1] (bodyOf Try.f81))) (by kernel_rfl) ?_
    refine T_region (id:=3) (by kernel_rfl) ?_
    refine TI_segK (i:=0) (j:=2) (s':={ σ := [(0,.lf (.v (.slice Au0 (List.length u0) cu0))),(1,.lf (.v (.func (.func 69) #[] #[]))),(5,.lf (.v (.int .i64 x2))),(7,.lf (.v (.int .i64 (List.length u0 : Int)))),(8,.lf (.v (.int .i64 x2)))],H := [],V := [],M := M,ds := [] }) [0,1,5,7,8] [] [] (by kernel_rfl) (by kernel_rfl) ?_
    refine TI_end (by kernel_rfl) ?_
    refine thenQ_n ?_
    refine T_seq (c1:=(sub [1,0,1,0,0,1,1,0,0,1,0] (bodyOf Try.f81))) (c2:=(sub [1,0,1,0,0,1,1,0,0,1,1] (bodyOf Try.f81))) (by kernel_rfl) ?_
    refine T_region (id:=4) (by kernel_rfl) ?_
    refine TI_segK (i:=0) (j:=3) (s':={ σ := [(0,.lf (.v (.slice Au0 (List.length u0) cu0))),(1,.lf (.v (.func (.func 69) #[] #[]))),(5,.lf (.v (.int .i64 x2))),(7,.lf (.v (.int .i64 (List.length u0 : Int)))),(8,.lf (.v (.int .i64 x2))),(11,.lf (.v (.func (.func 69) #[] #[]))),(12,.lf (.v (.slice Au0 (List.length u0) cu0))),(13,.lf (.v (.int .i64 x2)))],H := [],V := [],M := M,ds := [] }) [0,1,5,7,8,11,12,13] [] [] (by kernel_rfl) (by kernel_rfl) ?_
    obtain ⟨g5,h⟩ := gd_some h
    refine TI_at (i:=3) (d:=14) (x:=.lf (.ep (.slice Au0 (List.length u0) cu0) 1 ((x2).toNat) 0)) (by exact At_idxI (d:=14) (z:=x2) (by kernel_rfl) g5 hu0) (by kernel_rfl) trivial ?_
    obtain ⟨x6,e_x6,h⟩ := lt_some h
    refine TI_at (i:=4) (d:=15) (x:=.lf (.v (.int .i64 x6))) (by rw [e_x6]; exact At_ldI (d:=15) (q:=(x2).toNat) (by subst e_x6; kernel_rfl) (toNat_lt g5) hu0) (by kernel_rfl) trivial ?_
    obtain ⟨v7,c_v7,h⟩ := cl_some h
    refine TI_at (i:=5) (d:=16) (x:=.lf (.v (.bool v7))) (At_call (d:=16) (f:=69) (args:=[rval (.lf (.v (.int .i64 x6)))]) (x:=.lf (.v (.bool v7))) (by kernel_rfl) (w69 k  c_v7)) (by kernel_rfl) trivial ?_
    refine TI_segK (i:=6) (j:=6) (s':={ σ := [(0,.lf (.v (.slice Au0 (List.length u0) cu0))),(1,.lf (.v (.func (.func 69) #[] #[]))),(5,.lf (.v (.int .i64 x2))),(7,.lf (.v (.int .i64 (List.length u0 : Int)))),(8,.lf (.v (.int .i64 x2))),(16,.lf (.v (.bool v7)))],H := [],V := [],M := M,ds := [] }) [0,1,5,7,8,16] [] [] (by kernel_rfl) (by kernel_rfl) ?_
    refine TI_end (by kernel_rfl) ?_
    refine thenQ_n ?_
    cases v7 with
    | true =>
     replace h := sp_t h
     refine T_condT (x:=(.tmp 16)) (c1:=(sub [1,0,1,0,0,1,1,0,0,1,1,0] (bodyOf Try.f81))) (c2:=(sub [1,0,1,0,0,1,1,0,0,1,1,1] (bodyOf Try.f81))) (by kernel_rfl) (by kernel_rfl) ?_
     refine T_keep (s':={ σ := [(5,.lf (.v (.int .i64 x2)))],H := [],V := [],M := M,ds := [] }) [5] [] [] (by kernel_rfl) ?_
     refine T_seq (c1:=(sub [1,0,1,0,0,1,1,0,0,1,1,0,0] (bodyOf Try.f81))) (c2:=(sub [1,0,1,0,0,1,1,0,0,1,1,0,1] (bodyOf Try.f81))) (by kernel_rfl) ?_
     refine T_region (id:=5) (by kernel_rfl) ?_
     refine TI_segK (i:=0) (j:=2) (s':={ σ := [(4,.lf (.v (.int .i64 x2)))],H := [],V := [],M := M,ds := [] }) [4] [] [] (by kernel_rfl) (by kernel_rfl) ?_
     refine TI_end (by kernel_rfl) ?_
     refine thenQ_n ?_
     refine T_ret (by kernel_rfl) ?_
     refine blockQ_r ?_
     refine thenQ_r ?_
     refine thenQ_r ?_
     refine blockQ_r ?_
     refine thenQ_r ?_
     refine thenQ_r ?_
     have h := Option.some.inj h
     subst h
     refine fin_ret (.lf (.v (.int .i64 x2))) (by kernel_rfl) (by kernel_rfl) rfl ?_
     rfl
    | false =>
     replace h := sp_f h
     refine T_condF (x:=(.tmp 16)) (c1:=(sub [1,0,1,0,0,1,1,0,0,1,1,0] (bodyOf Try.f81))) (c2:=(sub [1,0,1,0,0,1,1,0,0,1,1,1] (bodyOf Try.f81))) (by kernel_rfl) (by kernel_rfl) ?_
     refine T_keep (s':={ σ := [(0,.lf (.v (.slice Au0 (List.length u0) cu0))),(1,.lf (.v (.func (.func 69) #[] #[]))),(7,.lf (.v (.int .i64 (List.length u0 : Int)))),(8,.lf (.v (.int .i64 x2)))],H := [],V := [],M := M,ds := [] }) [0,1,7,8] [] [] (by kernel_rfl) ?_
     refine T_skip (by kernel_rfl) ?_
     refine blockQ_n ?_
     refine thenQ_n ?_
     refine T_region (id:=6) (by kernel_rfl) ?_
     obtain ⟨x8,e_x8,h⟩ := lt_some h
     refine TI_segK (i:=0) (j:=2) (s':={ σ := [(0,.lf (.v (.slice Au0 (List.length u0) cu0))),(1,.lf (.v (.func (.func 69) #[] #[]))),(7,.lf (.v (.int .i64 (List.length u0 : Int)))),(8,.lf (.v (.int .i64 x8)))],H := [],V := [],M := M,ds := [] }) [0,1,7,8] [] [] (by subst e_x8;kernel_rfl) (by kernel_rfl) ?_
     refine TI_end (by kernel_rfl) ?_
     refine thenQ_n ?_
     exact ⟨n3,Nat.lt_succ_self _,x8,keep_sub (ts:=[0,1,7,8]) (hs:=[]) (vs:=[]) (by kernel_rfl),h⟩
   | false =>
    replace h := sp_f h
    refine T_condF (x:=(.tmp 9)) (c1:=(sub [1,0,1,0,0,1,0,0] (bodyOf Try.f81))) (c2:=(sub [1,0,1,0,0,1,0,1] (bodyOf Try.f81))) (by kernel_rfl) (by kernel_rfl) ?_
    refine T_keep (s':={ σ := [],H := [],V := [],M := M,ds := [] }) [] [] [] (by kernel_rfl) ?_
    refine T_exit (id:=0) (by kernel_rfl) ?_
    refine thenQ_x ?_
    refine thenQ_x ?_
    refine blockQ_x ?_
    refine thenQ_n ?_
    exact ⟨keep_sub (ts:=[]) (hs:=[]) (vs:=[]) (by kernel_rfl),h⟩
 ·rintro s' ⟨hsub,h⟩
  subst e_j1
  refine thenQ_n ?_
  refine T_sub hsub ?_
  refine T_seq (c1:=(sub [1,1,0] (bodyOf Try.f81))) (c2:=(sub [1,1,1] (bodyOf Try.f81))) (by kernel_rfl) ?_
  refine T_region (id:=7) (by kernel_rfl) ?_
  refine TI_segK (i:=0) (j:=1) (s':={ σ := [(4,.lf (.v (.int .i64 (-1 : Int))))],H := [],V := [],M := M,ds := [] }) [4] [] [] (by kernel_rfl) (by kernel_rfl) ?_
  refine TI_end (by kernel_rfl) ?_
  refine thenQ_n ?_
  refine T_ret (by kernel_rfl) ?_
  have h := Option.some.inj h
  subst h
  refine fin_ret (.lf (.v (.int .i64 (-1 : Int)))) (by kernel_rfl) (by kernel_rfl) rfl ?_
  rfl
def p82_l1 (k : Nat) (u0 : List (List Int)) (j1 : Option Int) : Nat → Int → Option Int
 | 0,_ => none
 | n3 + 1,x2 => lt' (decide (x2 < (List.length u0 : Int))) fun b4 => sp b4 (gd ((0 : Int) ≤ x2 ∧ x2 < (List.length u0 : Int)) <| lt' (List.getD u0 ((x2).toNat) []) fun L6 => cl (p71 k L6) fun v7 => sp v7 (some x2) (lt' (wr .i64 (x2 + (1 : Int))) fun x8 => p82_l1 k u0 j1 n3 x8)) (j1)
def p82 (k : Nat) (u0 : List (List Int)) : Option Int :=
 jn (some (-1 : Int)) fun j1 => p82_l1 k u0 j1 k (0 : Int)
theorem hf82 : Try.prog.funcs[82]? = some Try.f82 := by kernel_rfl
theorem w82 (k : Nat) {M : Mem} {Au0 : Option Addr} {cu0 : Nat} {u0 : List (List Int)} (hu0 : SlR M Au0 cu0 .i64 2 u0) {r} (h : p82 k u0 = some r) :
  Fn Try.prog 82 [rval (.lf (.v (.slice Au0 (List.length u0) cu0))),rval (.lf (.v (.func (.func 71) #[] #[])))] M (fun x _ => x = .lf (.v (.int .i64 r))) := by
 unfold p82 at h
 refine Fn_of (P:=Try.prog) (fn:=Try.f82) (c:=bodyOf Try.f82) [.lf (.v (.slice Au0 (List.length u0) cu0)),.lf (.v (.func (.func 71) #[] #[]))] hf82 (by kernel_rfl) (Nat.le_of_ble_eq_true (by kernel_rfl)) (args_ok (by kernel_rfl) ⟨trivial,⟨trivial,trivial⟩⟩) fun w => ?_
 change T _ _ _ (endQ _ _ _)
 refine T_seq (c1:=(sub [0] (bodyOf Try.f82))) (c2:=(sub [1] (bodyOf Try.f82))) (by kernel_rfl) ?_
 refine T_region (id:=0) (by kernel_rfl) ?_
 refine TI_segK (i:=0) (j:=1) (s':={ σ := [(0,.lf (.v (.slice Au0 (List.length u0) cu0))),(1,.lf (.v (.func (.func 71) #[] #[])))],H := [],V := [],M := M,ds := [] }) [0,1] [] [] (by kernel_rfl) (by kernel_rfl) ?_
 refine TI_end (by kernel_rfl) ?_
 refine thenQ_n ?_
 refine T_seq (c1:=(sub [1,0] (bodyOf Try.f82))) (c2:=(sub [1,1] (bodyOf Try.f82))) (by kernel_rfl) ?_
 refine T_seq (c1:=(sub [1,0,0] (bodyOf Try.f82))) (c2:=(sub [1,0,1] (bodyOf Try.f82))) (by kernel_rfl) ?_
 refine T_region (id:=1) (by kernel_rfl) ?_
 refine TI_segK (i:=0) (j:=3) (s':={ σ := [(0,.lf (.v (.slice Au0 (List.length u0) cu0))),(1,.lf (.v (.func (.func 71) #[] #[]))),(7,.lf (.v (.int .i64 (List.length u0 : Int)))),(8,.lf (.v (.int .i64 (0 : Int))))],H := [],V := [],M := M,ds := [] }) [0,1,7,8] [] [] (by kernel_rfl) (by kernel_rfl) ?_
 refine TI_end (by kernel_rfl) ?_
 refine thenQ_n ?_
 obtain ⟨j1,e_j1,h⟩ := jn_some h
 refine T_bcut (id:=0) (c1:=(sub [1,0,1,0] (bodyOf Try.f82))) (fun s' => Sub { σ := [],H := [],V := [],M := M,ds := [] } s' ∧ j1 = some r) (by kernel_rfl) ?_ ?_
 ·refine T_loop (c1:=(sub [1,0,1,0,0] (bodyOf Try.f82))) (by kernel_rfl) (fun n3 s' => ∃ (x2 : Int),Sub { σ := [(0,.lf (.v (.slice Au0 (List.length u0) cu0))),(1,.lf (.v (.func (.func 71) #[] #[]))),(7,.lf (.v (.int .i64 (List.length u0 : Int)))),(8,.lf (.v (.int .i64 x2)))],H := [],V := [],M := M,ds := [] } s' ∧ p82_l1 k u0 j1 n3 x2 = some r) (k:=k) ⟨(0 : Int),keep_sub (ts:=[0,1,7,8]) (hs:=[]) (vs:=[]) (by kernel_rfl),h⟩ ?_
  rintro n3 s' ⟨x2,hsub,h⟩
  cases n3 with
  | zero => rw [p82_l1] at h;cases h
  | succ n3 =>
   rw [p82_l1] at h
   refine T_sub hsub ?_
   refine T_seq (c1:=(sub [1,0,1,0,0,0] (bodyOf Try.f82))) (c2:=(sub [1,0,1,0,0,1] (bodyOf Try.f82))) (by kernel_rfl) ?_
   refine T_region (id:=2) (by kernel_rfl) ?_
   obtain ⟨b4,e_b4,h⟩ := lt_some h
   refine TI_segK (i:=0) (j:=1) (s':={ σ := [(0,.lf (.v (.slice Au0 (List.length u0) cu0))),(1,.lf (.v (.func (.func 71) #[] #[]))),(7,.lf (.v (.int .i64 (List.length u0 : Int)))),(8,.lf (.v (.int .i64 x2))),(9,.lf (.v (.bool b4)))],H := [],V := [],M := M,ds := [] }) [0,1,7,8,9] [] [] (by subst e_b4;kernel_rfl) (by kernel_rfl) ?_
   refine TI_end (by kernel_rfl) ?_
   refine thenQ_n ?_
   refine T_seq (c1:=(sub [1,0,1,0,0,1,0] (bodyOf Try.f82))) (c2:=(sub [1,0,1,0,0,1,1] (bodyOf Try.f82))) (by kernel_rfl) ?_
   cases b4 with
   | true =>
    replace h := sp_t h
    refine T_condT (x:=(.tmp 9)) (c1:=(sub [1,0,1,0,0,1,0,0] (bodyOf Try.f82))) (c2:=(sub [1,0,1,0,0,1,0,1] (bodyOf Try.f82))) (by kernel_rfl) (by kernel_rfl) ?_
    refine T_keep (s':={ σ := [(0,.lf (.v (.slice Au0 (List.length u0) cu0))),(1,.lf (.v (.func (.func 71) #[] #[]))),(7,.lf (.v (.int .i64 (List.length u0 : Int)))),(8,.lf (.v (.int .i64 x2)))],H := [],V := [],M := M,ds := [] }) [0,1,7,8] [] [] (by kernel_rfl) ?_
    refine T_skip (by kernel_rfl) ?_
    refine thenQ_n ?_
    refine T_seq (c1:=(sub [1,0,1,0,0,1,1,0] (bodyOf Try.f82))) (c2:=(sub [1,0,1,0,0,1,1,1] (bodyOf Try.f82))) (by kernel_rfl) ?_
    refine T_block (id:=1) (c1:=(sub [1,0,1,0,0,1,1,0,0] (bodyOf Try.f82))) (by kernel_rfl) ?_
    refine T_seq (c1:=(sub [1,0,1,0,0,1,1,0,0,0] (bodyOf Try.f82))) (c2:=(sub [1,0,1,0,0,1,1,0,0,1] (bodyOf Try.f82))) (by kernel_rfl) ?_
    refine T_region (id:=3) (by kernel_rfl) ?_
    refine TI_segK (i:=0) (j:=2) (s':={ σ := [(0,.lf (.v (.slice Au0 (List.length u0) cu0))),(1,.lf (.v (.func (.func 71) #[] #[]))),(5,.lf (.v (.int .i64 x2))),(7,.lf (.v (.int .i64 (List.length u0 : Int)))),(8,.lf (.v (.int .i64 x2)))],H := [],V := [],M := M,ds := [] }) [0,1,5,7,8] [] [] (by kernel_rfl) (by kernel_rfl) ?_
    refine TI_end (by kernel_rfl) ?_
    refine thenQ_n ?_
    refine T_seq (c1:=(sub [1,0,1,0,0,1,1,0,0,1,0] (bodyOf Try.f82))) (c2:=(sub [1,0,1,0,0,1,1,0,0,1,1] (bodyOf Try.f82))) (by kernel_rfl) ?_
    refine T_region (id:=4) (by kernel_rfl) ?_
    refine TI_segK (i:=0) (j:=3) (s':={ σ := [(0,.lf (.v (.slice Au0 (List.length u0) cu0))),(1,.lf (.v (.func (.func 71) #[] #[]))),(5,.lf (.v (.int .i64 x2))),(7,.lf (.v (.int .i64 (List.length u0 : Int)))),(8,.lf (.v (.int .i64 x2))),(11,.lf (.v (.func (.func 71) #[] #[]))),(12,.lf (.v (.slice Au0 (List.length u0) cu0))),(13,.lf (.v (.int .i64 x2)))],H := [],V := [],M := M,ds := [] }) [0,1,5,7,8,11,12,13] [] [] (by kernel_rfl) (by kernel_rfl) ?_
    obtain ⟨g5,h⟩ := gd_some h
    refine TI_at (i:=3) (d:=14) (x:=.lf (.ep (.slice Au0 (List.length u0) cu0) 2 ((x2).toNat) 0)) (by exact At_idxR (d:=14) (z:=x2) (by kernel_rfl) g5 hu0) (by kernel_rfl) trivial ?_
    obtain ⟨L6,e_L6,h⟩ := lt_some h
    have l_L6 : (L6).length = 2 := by rw [e_L6]; exact SlR_row hu0 (toNat_lt g5)
    refine TI_at (i:=4) (d:=15) (x:=.agg [.arr .i64 2 L6]) (by rw [e_L6]; exact At_ldRow (d:=15) (q:=(x2).toNat) (by subst e_L6; kernel_rfl) (toNat_lt g5) hu0) (by kernel_rfl) ⟨l_L6,trivial⟩ ?_
    obtain ⟨v7,c_v7,h⟩ := cl_some h
    refine TI_at (i:=5) (d:=16) (x:=.lf (.v (.bool v7))) (At_call (d:=16) (f:=71) (args:=[rval (.agg [.arr .i64 2 L6])]) (x:=.lf (.v (.bool v7))) (by kernel_rfl) (w71 k l_L6 c_v7)) (by kernel_rfl) trivial ?_
    refine TI_segK (i:=6) (j:=6) (s':={ σ := [(0,.lf (.v (.slice Au0 (List.length u0) cu0))),(1,.lf (.v (.func (.func 71) #[] #[]))),(5,.lf (.v (.int .i64 x2))),(7,.lf (.v (.int .i64 (List.length u0 : Int)))),(8,.lf (.v (.int .i64 x2))),(16,.lf (.v (.bool v7)))],H := [],V := [],M := M,ds := [] }) [0,1,5,7,8,16] [] [] (by kernel_rfl) (by kernel_rfl) ?_
    refine TI_end (by kernel_rfl) ?_
    refine thenQ_n ?_
    cases v7 with
    | true =>
     replace h := sp_t h
     refine T_condT (x:=(.tmp 16)) (c1:=(sub [1,0,1,0,0,1,1,0,0,1,1,0] (bodyOf Try.f82))) (c2:=(sub [1,0,1,0,0,1,1,0,0,1,1,1] (bodyOf Try.f82))) (by kernel_rfl) (by kernel_rfl) ?_
     refine T_keep (s':={ σ := [(5,.lf (.v (.int .i64 x2)))],H := [],V := [],M := M,ds := [] }) [5] [] [] (by kernel_rfl) ?_
     refine T_seq (c1:=(sub [1,0,1,0,0,1,1,0,0,1,1,0,0] (bodyOf Try.f82))) (c2:=(sub [1,0,1,0,0,1,1,0,0,1,1,0,1] (bodyOf Try.f82))) (by kernel_rfl) ?_
     refine T_region (id:=5) (by kernel_rfl) ?_
     refine TI_segK (i:=0) (j:=2) (s':={ σ := [(4,.lf (.v (.int .i64 x2)))],H := [],V := [],M := M,ds := [] }) [4] [] [] (by kernel_rfl) (by kernel_rfl) ?_
     refine TI_end (by kernel_rfl) ?_
     refine thenQ_n ?_
     refine T_ret (by kernel_rfl) ?_
     refine blockQ_r ?_
     refine thenQ_r ?_
     refine thenQ_r ?_
     refine blockQ_r ?_
     refine thenQ_r ?_
     refine thenQ_r ?_
     have h := Option.some.inj h
     subst h
     refine fin_ret (.lf (.v (.int .i64 x2))) (by kernel_rfl) (by kernel_rfl) rfl ?_
     rfl
    | false =>
     replace h := sp_f h
     refine T_condF (x:=(.tmp 16)) (c1:=(sub [1,0,1,0,0,1,1,0,0,1,1,0] (bodyOf Try.f82))) (c2:=(sub [1,0,1,0,0,1,1,0,0,1,1,1] (bodyOf Try.f82))) (by kernel_rfl) (by kernel_rfl) ?_
     refine T_keep (s':={ σ := [(0,.lf (.v (.slice Au0 (List.length u0) cu0))),(1,.lf (.v (.func (.func 71) #[] #[]))),(7,.lf (.v (.int .i64 (List.length u0 : Int)))),(8,.lf (.v (.int .i64 x2)))],H := [],V := [],M := M,ds := [] }) [0,1,7,8] [] [] (by kernel_rfl) ?_
     refine T_skip (by kernel_rfl) ?_
     refine blockQ_n ?_
     refine thenQ_n ?_
     refine T_region (id:=6) (by kernel_rfl) ?_
     obtain ⟨x8,e_x8,h⟩ := lt_some h
     refine TI_segK (i:=0) (j:=2) (s':={ σ := [(0,.lf (.v (.slice Au0 (List.length u0) cu0))),(1,.lf (.v (.func (.func 71) #[] #[]))),(7,.lf (.v (.int .i64 (List.length u0 : Int)))),(8,.lf (.v (.int .i64 x8)))],H := [],V := [],M := M,ds := [] }) [0,1,7,8] [] [] (by subst e_x8;kernel_rfl) (by kernel_rfl) ?_
     refine TI_end (by kernel_rfl) ?_
     refine thenQ_n ?_
     exact ⟨n3,Nat.lt_succ_self _,x8,keep_sub (ts:=[0,1,7,8]) (hs:=[]) (vs:=[]) (by kernel_rfl),h⟩
   | false =>
    replace h := sp_f h
    refine T_condF (x:=(.tmp 9)) (c1:=(sub [1,0,1,0,0,1,0,0] (bodyOf Try.f82))) (c2:=(sub [1,0,1,0,0,1,0,1] (bodyOf Try.f82))) (by kernel_rfl) (by kernel_rfl) ?_
    refine T_keep (s':={ σ := [],H := [],V := [],M := M,ds := [] }) [] [] [] (by kernel_rfl) ?_
    refine T_exit (id:=0) (by kernel_rfl) ?_
    refine thenQ_x ?_
    refine thenQ_x ?_
    refine blockQ_x ?_
    refine thenQ_n ?_
    exact ⟨keep_sub (ts:=[]) (hs:=[]) (vs:=[]) (by kernel_rfl),h⟩
 ·rintro s' ⟨hsub,h⟩
  subst e_j1
  refine thenQ_n ?_
  refine T_sub hsub ?_
  refine T_seq (c1:=(sub [1,1,0] (bodyOf Try.f82))) (c2:=(sub [1,1,1] (bodyOf Try.f82))) (by kernel_rfl) ?_
  refine T_region (id:=7) (by kernel_rfl) ?_
  refine TI_segK (i:=0) (j:=1) (s':={ σ := [(4,.lf (.v (.int .i64 (-1 : Int))))],H := [],V := [],M := M,ds := [] }) [4] [] [] (by kernel_rfl) (by kernel_rfl) ?_
  refine TI_end (by kernel_rfl) ?_
  refine thenQ_n ?_
  refine T_ret (by kernel_rfl) ?_
  have h := Option.some.inj h
  subst h
  refine fin_ret (.lf (.v (.int .i64 (-1 : Int)))) (by kernel_rfl) (by kernel_rfl) rfl ?_
  rfl
def p75_l1 (k : Nat) (u0 : List (List Int)) (j1 : Option Int) : Nat → Int → Option Int
 | 0,_ => none
 | n3 + 1,x2 => lt' (decide (x2 < (List.length u0 : Int))) fun b4 => sp b4 (gd ((0 : Int) ≤ x2 ∧ x2 < (List.length u0 : Int)) <| lt' (List.getD u0 ((x2).toNat) []) fun L6 => cl (p48 k L6) fun v7 => sp v7 (some x2) (lt' (wr .i64 (x2 + (1 : Int))) fun x8 => p75_l1 k u0 j1 n3 x8)) (j1)
def p75 (k : Nat) (u0 : List (List Int)) : Option Int :=
 jn (some (-1 : Int)) fun j1 => p75_l1 k u0 j1 k (0 : Int)
theorem hf75 : Try.prog.funcs[75]? = some Try.f75 := by kernel_rfl
theorem w75 (k : Nat) {M : Mem} {Au0 : Option Addr} {cu0 : Nat} {u0 : List (List Int)} (hu0 : SlR M Au0 cu0 .i64 7 u0) {r} (h : p75 k u0 = some r) :
  Fn Try.prog 75 [rval (.lf (.v (.slice Au0 (List.length u0) cu0))),rval (.lf (.v (.func (.func 48) #[] #[])))] M (fun x _ => x = .lf (.v (.int .i64 r))) := by
 unfold p75 at h
 refine Fn_of (P:=Try.prog) (fn:=Try.f75) (c:=bodyOf Try.f75) [.lf (.v (.slice Au0 (List.length u0) cu0)),.lf (.v (.func (.func 48) #[] #[]))] hf75 (by kernel_rfl) (Nat.le_of_ble_eq_true (by kernel_rfl)) (args_ok (by kernel_rfl) ⟨trivial,⟨trivial,trivial⟩⟩) fun w => ?_
 change T _ _ _ (endQ _ _ _)
 refine T_seq (c1:=(sub [0] (bodyOf Try.f75))) (c2:=(sub [1] (bodyOf Try.f75))) (by kernel_rfl) ?_
 refine T_region (id:=0) (by kernel_rfl) ?_
 refine TI_segK (i:=0) (j:=1) (s':={ σ := [(0,.lf (.v (.slice Au0 (List.length u0) cu0))),(1,.lf (.v (.func (.func 48) #[] #[])))],H := [],V := [],M := M,ds := [] }) [0,1] [] [] (by kernel_rfl) (by kernel_rfl) ?_
 refine TI_end (by kernel_rfl) ?_
 refine thenQ_n ?_
 refine T_seq (c1:=(sub [1,0] (bodyOf Try.f75))) (c2:=(sub [1,1] (bodyOf Try.f75))) (by kernel_rfl) ?_
 refine T_seq (c1:=(sub [1,0,0] (bodyOf Try.f75))) (c2:=(sub [1,0,1] (bodyOf Try.f75))) (by kernel_rfl) ?_
 refine T_region (id:=1) (by kernel_rfl) ?_
 refine TI_segK (i:=0) (j:=3) (s':={ σ := [(0,.lf (.v (.slice Au0 (List.length u0) cu0))),(1,.lf (.v (.func (.func 48) #[] #[]))),(7,.lf (.v (.int .i64 (List.length u0 : Int)))),(8,.lf (.v (.int .i64 (0 : Int))))],H := [],V := [],M := M,ds := [] }) [0,1,7,8] [] [] (by kernel_rfl) (by kernel_rfl) ?_
 refine TI_end (by kernel_rfl) ?_
 refine thenQ_n ?_
 obtain ⟨j1,e_j1,h⟩ := jn_some h
 refine T_bcut (id:=0) (c1:=(sub [1,0,1,0] (bodyOf Try.f75))) (fun s' => Sub { σ := [],H := [],V := [],M := M,ds := [] } s' ∧ j1 = some r) (by kernel_rfl) ?_ ?_
 ·refine T_loop (c1:=(sub [1,0,1,0,0] (bodyOf Try.f75))) (by kernel_rfl) (fun n3 s' => ∃ (x2 : Int),Sub { σ := [(0,.lf (.v (.slice Au0 (List.length u0) cu0))),(1,.lf (.v (.func (.func 48) #[] #[]))),(7,.lf (.v (.int .i64 (List.length u0 : Int)))),(8,.lf (.v (.int .i64 x2)))],H := [],V := [],M := M,ds := [] } s' ∧ p75_l1 k u0 j1 n3 x2 = some r) (k:=k) ⟨(0 : Int),keep_sub (ts:=[0,1,7,8]) (hs:=[]) (vs:=[]) (by kernel_rfl),h⟩ ?_
  rintro n3 s' ⟨x2,hsub,h⟩
  cases n3 with
  | zero => rw [p75_l1] at h;cases h
  | succ n3 =>
   rw [p75_l1] at h
   refine T_sub hsub ?_
   refine T_seq (c1:=(sub [1,0,1,0,0,0] (bodyOf Try.f75))) (c2:=(sub [1,0,1,0,0,1] (bodyOf Try.f75))) (by kernel_rfl) ?_
   refine T_region (id:=2) (by kernel_rfl) ?_
   obtain ⟨b4,e_b4,h⟩ := lt_some h
   refine TI_segK (i:=0) (j:=1) (s':={ σ := [(0,.lf (.v (.slice Au0 (List.length u0) cu0))),(1,.lf (.v (.func (.func 48) #[] #[]))),(7,.lf (.v (.int .i64 (List.length u0 : Int)))),(8,.lf (.v (.int .i64 x2))),(9,.lf (.v (.bool b4)))],H := [],V := [],M := M,ds := [] }) [0,1,7,8,9] [] [] (by subst e_b4;kernel_rfl) (by kernel_rfl) ?_
   refine TI_end (by kernel_rfl) ?_
   refine thenQ_n ?_
   refine T_seq (c1:=(sub [1,0,1,0,0,1,0] (bodyOf Try.f75))) (c2:=(sub [1,0,1,0,0,1,1] (bodyOf Try.f75))) (by kernel_rfl) ?_
   cases b4 with
   | true =>
    replace h := sp_t h
    refine T_condT (x:=(.tmp 9)) (c1:=(sub [1,0,1,0,0,1,0,0] (bodyOf Try.f75))) (c2:=(sub [1,0,1,0,0,1,0,1] (bodyOf Try.f75))) (by kernel_rfl) (by kernel_rfl) ?_
    refine T_keep (s':={ σ := [(0,.lf (.v (.slice Au0 (List.length u0) cu0))),(1,.lf (.v (.func (.func 48) #[] #[]))),(7,.lf (.v (.int .i64 (List.length u0 : Int)))),(8,.lf (.v (.int .i64 x2)))],H := [],V := [],M := M,ds := [] }) [0,1,7,8] [] [] (by kernel_rfl) ?_
    refine T_skip (by kernel_rfl) ?_
    refine thenQ_n ?_
    refine T_seq (c1:=(sub [1,0,1,0,0,1,1,0] (bodyOf Try.f75))) (c2:=(sub [1,0,1,0,0,1,1,1] (bodyOf Try.f75))) (by kernel_rfl) ?_
    refine T_block (id:=1) (c1:=(sub [1,0,1,0,0,1,1,0,0] (bodyOf Try.f75))) (by kernel_rfl) ?_
    refine T_seq (c1:=(sub [1,0,1,0,0,1,1,0,0,0] (bodyOf Try.f75))) (c2:=(sub [1,0,1,0,0,1,1,0,0,1] (bodyOf Try.f75))) (by kernel_rfl) ?_
    refine T_region (id:=3) (by kernel_rfl) ?_
    refine TI_segK (i:=0) (j:=2) (s':={ σ := [(0,.lf (.v (.slice Au0 (List.length u0) cu0))),(1,.lf (.v (.func (.func 48) #[] #[]))),(5,.lf (.v (.int .i64 x2))),(7,.lf (.v (.int .i64 (List.length u0 : Int)))),(8,.lf (.v (.int .i64 x2)))],H := [],V := [],M := M,ds := [] }) [0,1,5,7,8] [] [] (by kernel_rfl) (by kernel_rfl) ?_
    refine TI_end (by kernel_rfl) ?_
    refine thenQ_n ?_
    refine T_seq (c1:=(sub [1,0,1,0,0,1,1,0,0,1,0] (bodyOf Try.f75))) (c2:=(sub [1,0,1,0,0,1,1,0,0,1,1] (bodyOf Try.f75))) (by kernel_rfl) ?_
    refine T_region (id:=4) (by kernel_rfl) ?_
    refine TI_segK (i:=0) (j:=3) (s':={ σ := [(0,.lf (.v (.slice Au0 (List.length u0) cu0))),(1,.lf (.v (.func (.func 48) #[] #[]))),(5,.lf (.v (.int .i64 x2))),(7,.lf (.v (.int .i64 (List.length u0 : Int)))),(8,.lf (.v (.int .i64 x2))),(11,.lf (.v (.func (.func 48) #[] #[]))),(12,.lf (.v (.slice Au0 (List.length u0) cu0))),(13,.lf (.v (.int .i64 x2)))],H := [],V := [],M := M,ds := [] }) [0,1,5,7,8,11,12,13] [] [] (by kernel_rfl) (by kernel_rfl) ?_
    obtain ⟨g5,h⟩ := gd_some h
    refine TI_at (i:=3) (d:=14) (x:=.lf (.ep (.slice Au0 (List.length u0) cu0) 7 ((x2).toNat) 0)) (by exact At_idxR (d:=14) (z:=x2) (by kernel_rfl) g5 hu0) (by kernel_rfl) trivial ?_
    obtain ⟨L6,e_L6,h⟩ := lt_some h
    have l_L6 : (L6).length = 7 := by rw [e_L6]; exact SlR_row hu0 (toNat_lt g5)
    refine TI_at (i:=4) (d:=15) (x:=.agg [.arr .i64 7 L6]) (by rw [e_L6]; exact At_ldRow (d:=15) (q:=(x2).toNat) (by subst e_L6; kernel_rfl) (toNat_lt g5) hu0) (by kernel_rfl) ⟨l_L6,trivial⟩ ?_
    obtain ⟨v7,c_v7,h⟩ := cl_some h
    refine TI_at (i:=5) (d:=16) (x:=.lf (.v (.bool v7))) (At_call (d:=16) (f:=48) (args:=[rval (.agg [.arr .i64 7 L6])]) (x:=.lf (.v (.bool v7))) (by kernel_rfl) (w48 k l_L6 c_v7)) (by kernel_rfl) trivial ?_
    refine TI_segK (i:=6) (j:=6) (s':={ σ := [(0,.lf (.v (.slice Au0 (List.length u0) cu0))),(1,.lf (.v (.func (.func 48) #[] #[]))),(5,.lf (.v (.int .i64 x2))),(7,.lf (.v (.int .i64 (List.length u0 : Int)))),(8,.lf (.v (.int .i64 x2))),(16,.lf (.v (.bool v7)))],H := [],V := [],M := M,ds := [] }) [0,1,5,7,8,16] [] [] (by kernel_rfl) (by kernel_rfl) ?_
    refine TI_end (by kernel_rfl) ?_
    refine thenQ_n ?_
    cases v7 with
    | true =>
     replace h := sp_t h
     refine T_condT (x:=(.tmp 16)) (c1:=(sub [1,0,1,0,0,1,1,0,0,1,1,0] (bodyOf Try.f75))) (c2:=(sub [1,0,1,0,0,1,1,0,0,1,1,1] (bodyOf Try.f75))) (by kernel_rfl) (by kernel_rfl) ?_
     refine T_keep (s':={ σ := [(5,.lf (.v (.int .i64 x2)))],H := [],V := [],M := M,ds := [] }) [5] [] [] (by kernel_rfl) ?_
     refine T_seq (c1:=(sub [1,0,1,0,0,1,1,0,0,1,1,0,0] (bodyOf Try.f75))) (c2:=(sub [1,0,1,0,0,1,1,0,0,1,1,0,1] (bodyOf Try.f75))) (by kernel_rfl) ?_
     refine T_region (id:=5) (by kernel_rfl) ?_
     refine TI_segK (i:=0) (j:=2) (s':={ σ := [(4,.lf (.v (.int .i64 x2)))],H := [],V := [],M := M,ds := [] }) [4] [] [] (by kernel_rfl) (by kernel_rfl) ?_
     refine TI_end (by kernel_rfl) ?_
     refine thenQ_n ?_
     refine T_ret (by kernel_rfl) ?_
     refine blockQ_r ?_
     refine thenQ_r ?_
     refine thenQ_r ?_
     refine blockQ_r ?_
     refine thenQ_r ?_
     refine thenQ_r ?_
     have h := Option.some.inj h
     subst h
     refine fin_ret (.lf (.v (.int .i64 x2))) (by kernel_rfl) (by kernel_rfl) rfl ?_
     rfl
    | false =>
     replace h := sp_f h
     refine T_condF (x:=(.tmp 16)) (c1:=(sub [1,0,1,0,0,1,1,0,0,1,1,0] (bodyOf Try.f75))) (c2:=(sub [1,0,1,0,0,1,1,0,0,1,1,1] (bodyOf Try.f75))) (by kernel_rfl) (by kernel_rfl) ?_
     refine T_keep (s':={ σ := [(0,.lf (.v (.slice Au0 (List.length u0) cu0))),(1,.lf (.v (.func (.func 48) #[] #[]))),(7,.lf (.v (.int .i64 (List.length u0 : Int)))),(8,.lf (.v (.int .i64 x2)))],H := [],V := [],M := M,ds := [] }) [0,1,7,8] [] [] (by kernel_rfl) ?_
     refine T_skip (by kernel_rfl) ?_
     refine blockQ_n ?_
     refine thenQ_n ?_
     refine T_region (id:=6) (by kernel_rfl) ?_
     obtain ⟨x8,e_x8,h⟩ := lt_some h
     refine TI_segK (i:=0) (j:=2) (s':={ σ := [(0,.lf (.v (.slice Au0 (List.length u0) cu0))),(1,.lf (.v (.func (.func 48) #[] #[]))),(7,.lf (.v (.int .i64 (List.length u0 : Int)))),(8,.lf (.v (.int .i64 x8)))],H := [],V := [],M := M,ds := [] }) [0,1,7,8] [] [] (by subst e_x8;kernel_rfl) (by kernel_rfl) ?_
     refine TI_end (by kernel_rfl) ?_
     refine thenQ_n ?_
     exact ⟨n3,Nat.lt_succ_self _,x8,keep_sub (ts:=[0,1,7,8]) (hs:=[]) (vs:=[]) (by kernel_rfl),h⟩
   | false =>
    replace h := sp_f h
    refine T_condF (x:=(.tmp 9)) (c1:=(sub [1,0,1,0,0,1,0,0] (bodyOf Try.f75))) (c2:=(sub [1,0,1,0,0,1,0,1] (bodyOf Try.f75))) (by kernel_rfl) (by kernel_rfl) ?_
    refine T_keep (s':={ σ := [],H := [],V := [],M := M,ds := [] }) [] [] [] (by kernel_rfl) ?_
    refine T_exit (id:=0) (by kernel_rfl) ?_
    refine thenQ_x ?_
    refine thenQ_x ?_
    refine blockQ_x ?_
    refine thenQ_n ?_
    exact ⟨keep_sub (ts:=[]) (hs:=[]) (vs:=[]) (by kernel_rfl),h⟩
 ·rintro s' ⟨hsub,h⟩
  subst e_j1
  refine thenQ_n ?_
  refine T_sub hsub ?_
  refine T_seq (c1:=(sub [1,1,0] (bodyOf Try.f75))) (c2:=(sub [1,1,1] (bodyOf Try.f75))) (by kernel_rfl) ?_
  refine T_region (id:=7) (by kernel_rfl) ?_
  refine TI_segK (i:=0) (j:=1) (s':={ σ := [(4,.lf (.v (.int .i64 (-1 : Int))))],H := [],V := [],M := M,ds := [] }) [4] [] [] (by kernel_rfl) (by kernel_rfl) ?_
  refine TI_end (by kernel_rfl) ?_
  refine thenQ_n ?_
  refine T_ret (by kernel_rfl) ?_
  have h := Option.some.inj h
  subst h
  refine fin_ret (.lf (.v (.int .i64 (-1 : Int)))) (by kernel_rfl) (by kernel_rfl) rfl ?_
  rfl
def p68 (k : Nat) (u0 : List Int) : Option Bool :=
 cl (p81 k u0) fun v1 => lt' (decide (v1 ≥ (0 : Int))) fun b2 => some b2
theorem hf68 : Try.prog.funcs[68]? = some Try.f68 := by kernel_rfl
theorem w68 (k : Nat) {M : Mem} {Au0 : Option Addr} {cu0 : Nat} {u0 : List Int} (hu0 : SlI M Au0 cu0 .i64 u0) {r} (h : p68 k u0 = some r) :
  Fn Try.prog 68 [rval (.lf (.v (.slice Au0 (List.length u0) cu0))),rval (.lf (.v (.func (.func 69) #[] #[])))] M (fun x _ => x = .lf (.v (.bool r))) := by
 unfold p68 at h
 refine Fn_of (P:=Try.prog) (fn:=Try.f68) (c:=bodyOf Try.f68) [.lf (.v (.slice Au0 (List.length u0) cu0)),.lf (.v (.func (.func 69) #[] #[]))] hf68 (by kernel_rfl) (Nat.le_of_ble_eq_true (by kernel_rfl)) (args_ok (by kernel_rfl) ⟨trivial,⟨trivial,trivial⟩⟩) fun w => ?_
 change T _ _ _ (endQ _ _ _)
 refine T_seq (c1:=(sub [0] (bodyOf Try.f68))) (c2:=(sub [1] (bodyOf Try.f68))) (by kernel_rfl) ?_
 refine T_region (id:=0) (by kernel_rfl) ?_
 refine TI_segK (i:=0) (j:=1) (s':={ σ := [(0,.lf (.v (.slice Au0 (List.length u0) cu0))),(1,.lf (.v (.func (.func 69) #[] #[])))],H := [],V := [],M := M,ds := [] }) [0,1] [] [] (by kernel_rfl) (by kernel_rfl) ?_
 refine TI_end (by kernel_rfl) ?_
 refine thenQ_n ?_
 refine T_seq (c1:=(sub [1,0] (bodyOf Try.f68))) (c2:=(sub [1,1] (bodyOf Try.f68))) (by kernel_rfl) ?_
 refine T_region (id:=1) (by kernel_rfl) ?_
 refine TI_segK (i:=0) (j:=2) (s':={ σ := [(5,.lf (.v (.slice Au0 (List.length u0) cu0))),(6,.lf (.v (.func (.func 69) #[] #[])))],H := [],V := [],M := M,ds := [] }) [5,6] [] [] (by kernel_rfl) (by kernel_rfl) ?_
 obtain ⟨v1,c_v1,h⟩ := cl_some h
 refine TI_at (i:=2) (d:=7) (x:=.lf (.v (.int .i64 v1))) (At_call (d:=7) (f:=81) (args:=[rval (.lf (.v (.slice Au0 (List.length u0) cu0))),rval (.lf (.v (.func (.func 69) #[] #[])))]) (x:=.lf (.v (.int .i64 v1))) (by kernel_rfl) (w81 k hu0 c_v1)) (by kernel_rfl) trivial ?_
 obtain ⟨b2,e_b2,h⟩ := lt_some h
 refine TI_segK (i:=3) (j:=5) (s':={ σ := [(4,.lf (.v (.bool b2)))],H := [],V := [],M := M,ds := [] }) [4] [] [] (by subst e_b2;kernel_rfl) (by kernel_rfl) ?_
 refine TI_end (by kernel_rfl) ?_
 refine thenQ_n ?_
 refine T_ret (by kernel_rfl) ?_
 have h := Option.some.inj h
 subst h
 refine fin_ret (.lf (.v (.bool b2))) (by kernel_rfl) (by kernel_rfl) rfl ?_
 rfl
def p70 (k : Nat) (u0 : List (List Int)) : Option Bool :=
 cl (p82 k u0) fun v1 => lt' (decide (v1 ≥ (0 : Int))) fun b2 => some b2
theorem hf70 : Try.prog.funcs[70]? = some Try.f70 := by kernel_rfl
theorem w70 (k : Nat) {M : Mem} {Au0 : Option Addr} {cu0 : Nat} {u0 : List (List Int)} (hu0 : SlR M Au0 cu0 .i64 2 u0) {r} (h : p70 k u0 = some r) :
  Fn Try.prog 70 [rval (.lf (.v (.slice Au0 (List.length u0) cu0))),rval (.lf (.v (.func (.func 71) #[] #[])))] M (fun x _ => x = .lf (.v (.bool r))) := by
 unfold p70 at h
 refine Fn_of (P:=Try.prog) (fn:=Try.f70) (c:=bodyOf Try.f70) [.lf (.v (.slice Au0 (List.length u0) cu0)),.lf (.v (.func (.func 71) #[] #[]))] hf70 (by kernel_rfl) (Nat.le_of_ble_eq_true (by kernel_rfl)) (args_ok (by kernel_rfl) ⟨trivial,⟨trivial,trivial⟩⟩) fun w => ?_
 change T _ _ _ (endQ _ _ _)
 refine T_seq (c1:=(sub [0] (bodyOf Try.f70))) (c2:=(sub [1] (bodyOf Try.f70))) (by kernel_rfl) ?_
 refine T_region (id:=0) (by kernel_rfl) ?_
 refine TI_segK (i:=0) (j:=1) (s':={ σ := [(0,.lf (.v (.slice Au0 (List.length u0) cu0))),(1,.lf (.v (.func (.func 71) #[] #[])))],H := [],V := [],M := M,ds := [] }) [0,1] [] [] (by kernel_rfl) (by kernel_rfl) ?_
 refine TI_end (by kernel_rfl) ?_
 refine thenQ_n ?_
 refine T_seq (c1:=(sub [1,0] (bodyOf Try.f70))) (c2:=(sub [1,1] (bodyOf Try.f70))) (by kernel_rfl) ?_
 refine T_region (id:=1) (by kernel_rfl) ?_
 refine TI_segK (i:=0) (j:=2) (s':={ σ := [(5,.lf (.v (.slice Au0 (List.length u0) cu0))),(6,.lf (.v (.func (.func 71) #[] #[])))],H := [],V := [],M := M,ds := [] }) [5,6] [] [] (by kernel_rfl) (by kernel_rfl) ?_
 obtain ⟨v1,c_v1,h⟩ := cl_some h
 refine TI_at (i:=2) (d:=7) (x:=.lf (.v (.int .i64 v1))) (At_call (d:=7) (f:=82) (args:=[rval (.lf (.v (.slice Au0 (List.length u0) cu0))),rval (.lf (.v (.func (.func 71) #[] #[])))]) (x:=.lf (.v (.int .i64 v1))) (by kernel_rfl) (w82 k hu0 c_v1)) (by kernel_rfl) trivial ?_
 obtain ⟨b2,e_b2,h⟩ := lt_some h
 refine TI_segK (i:=3) (j:=5) (s':={ σ := [(4,.lf (.v (.bool b2)))],H := [],V := [],M := M,ds := [] }) [4] [] [] (by subst e_b2;kernel_rfl) (by kernel_rfl) ?_
 refine TI_end (by kernel_rfl) ?_
 refine thenQ_n ?_
 refine T_ret (by kernel_rfl) ?_
 have h := Option.some.inj h
 subst h
 refine fin_ret (.lf (.v (.bool b2))) (by kernel_rfl) (by kernel_rfl) rfl ?_
 rfl
def p47 (k : Nat) (u0 : List (List Int)) : Option Bool :=
 cl (p75 k u0) fun v1 => lt' (decide (v1 ≥ (0 : Int))) fun b2 => some b2
theorem hf47 : Try.prog.funcs[47]? = some Try.f47 := by kernel_rfl
theorem w47 (k : Nat) {M : Mem} {Au0 : Option Addr} {cu0 : Nat} {u0 : List (List Int)} (hu0 : SlR M Au0 cu0 .i64 7 u0) {r} (h : p47 k u0 = some r) :
  Fn Try.prog 47 [rval (.lf (.v (.slice Au0 (List.length u0) cu0))),rval (.lf (.v (.func (.func 48) #[] #[])))] M (fun x _ => x = .lf (.v (.bool r))) := by
 unfold p47 at h
 refine Fn_of (P:=Try.prog) (fn:=Try.f47) (c:=bodyOf Try.f47) [.lf (.v (.slice Au0 (List.length u0) cu0)),.lf (.v (.func (.func 48) #[] #[]))] hf47 (by kernel_rfl) (Nat.le_of_ble_eq_true (by kernel_rfl)) (args_ok (by kernel_rfl) ⟨trivial,⟨trivial,trivial⟩⟩) fun w => ?_
 change T _ _ _ (endQ _ _ _)
 refine T_seq (c1:=(sub [0] (bodyOf Try.f47))) (c2:=(sub [1] (bodyOf Try.f47))) (by kernel_rfl) ?_
 refine T_region (id:=0) (by kernel_rfl) ?_
 refine TI_segK (i:=0) (j:=1) (s':={ σ := [(0,.lf (.v (.slice Au0 (List.length u0) cu0))),(1,.lf (.v (.func (.func 48) #[] #[])))],H := [],V := [],M := M,ds := [] }) [0,1] [] [] (by kernel_rfl) (by kernel_rfl) ?_
 refine TI_end (by kernel_rfl) ?_
 refine thenQ_n ?_
 refine T_seq (c1:=(sub [1,0] (bodyOf Try.f47))) (c2:=(sub [1,1] (bodyOf Try.f47))) (by kernel_rfl) ?_
 refine T_region (id:=1) (by kernel_rfl) ?_
 refine TI_segK (i:=0) (j:=2) (s':={ σ := [(5,.lf (.v (.slice Au0 (List.length u0) cu0))),(6,.lf (.v (.func (.func 48) #[] #[])))],H := [],V := [],M := M,ds := [] }) [5,6] [] [] (by kernel_rfl) (by kernel_rfl) ?_
 obtain ⟨v1,c_v1,h⟩ := cl_some h
 refine TI_at (i:=2) (d:=7) (x:=.lf (.v (.int .i64 v1))) (At_call (d:=7) (f:=75) (args:=[rval (.lf (.v (.slice Au0 (List.length u0) cu0))),rval (.lf (.v (.func (.func 48) #[] #[])))]) (x:=.lf (.v (.int .i64 v1))) (by kernel_rfl) (w75 k hu0 c_v1)) (by kernel_rfl) trivial ?_
 obtain ⟨b2,e_b2,h⟩ := lt_some h
 refine TI_segK (i:=3) (j:=5) (s':={ σ := [(4,.lf (.v (.bool b2)))],H := [],V := [],M := M,ds := [] }) [4] [] [] (by subst e_b2;kernel_rfl) (by kernel_rfl) ?_
 refine TI_end (by kernel_rfl) ?_
 refine thenQ_n ?_
 refine T_ret (by kernel_rfl) ?_
 have h := Option.some.inj h
 subst h
 refine fin_ret (.lf (.v (.bool b2))) (by kernel_rfl) (by kernel_rfl) rfl ?_
 rfl
def p58_l1 (k : Nat) (u0P : List (List Int)) (u1 : List Int) (u2 : List Int) (j2 : Option Int) (x1 : Int) : Nat → Int → Option Int
 | 0,_ => none
 | n4 + 1,x3 => lt' (decide (x3 < x1)) fun b5 => sp b5 (jn (fun (b6 : Bool) => jn (fun (b17 : Bool) => jn (fun (b26 : Bool) => jn (fun (b37 : Bool) => sp b37 (some x3) (lt' (wr .i64 (x3 + (1 : Int))) fun x39 => p58_l1 k u0P u1 u2 j2 x1 n4 x39)) fun j38 => sp b6 (sp b17 (j38 b26) (j38 false)) (j38 false)) fun j27 => lt' (x3 == (0 : Int)) fun b28 => sp b28 (j27 true) (lt' (x3 == (List.length u2 : Int)) fun b29 => sp b29 (j27 true) (gd ((0 : Int) ≤ x3 ∧ x3 < (List.length u2 : Int)) <| lt' (List.getD u2 ((x3).toNat) 0) fun x31 => lt' (wr .i64 (x3 - (1 : Int))) fun x32 => gd ((0 : Int) ≤ x32 ∧ x32 < (List.length u2 : Int)) <| lt' (List.getD u2 ((x32).toNat) 0) fun x34 => lt' (wr .i64 (x34 + (1 : Int))) fun x35 => lt' (decide (x31 > x35)) fun b36 => j27 b36))) fun j18 => lt' (x3 == (List.length u2 : Int)) fun b19 => sp b19 (j18 true) (gd ((0 : Int) ≤ x3 ∧ x3 < (List.length u2 : Int)) <| lt' (List.getD u2 ((x3).toNat) 0) fun x21 => gd ((0 : Int) ≤ x21 ∧ x21 < (List.length u0P : Int)) <| lt' (List.getD (List.getD u0P ((x21).toNat) []) 1 0) fun x23 => lt' (List.getD u1 1 0) fun x24 => lt' (decide (x23 > x24)) fun b25 => j18 b25)) fun j7 => lt' (x3 == (0 : Int)) fun b8 => sp b8 (j7 true) (lt' (wr .i64 (x3 - (1 : Int))) fun x9 => gd ((0 : Int) ≤ x9 ∧ x9 < (List.length u2 : Int)) <| lt' (List.getD u2 ((x9).toNat) 0) fun x11 => lt' (wr .i64 (x11 + (1 : Int))) fun x12 => gd ((0 : Int) ≤ x12 ∧ x12 < (List.length u0P : Int)) <| lt' (List.getD (List.getD u0P ((x12).toNat) []) 0 0) fun x14 => lt' (List.getD u1 0 0) fun x15 => lt' (decide (x14 < x15)) fun b16 => j7 b16)) (j2)
def p58 (k : Nat) (u0R : List (List Int)) (u0D : List Int) (u0st : Int) (u0P : List (List Int)) (u0V : List (List (List Int))) (u1 : List Int) (u2 : List Int) : Option Int :=
 lt' (wr .i64 ((List.length u2 : Int) + (1 : Int))) fun x1 => jn (some (-1 : Int)) fun j2 => p58_l1 k u0P u1 u2 j2 x1 k (0 : Int)
theorem hf58 : Try.prog.funcs[58]? = some Try.f58 := by kernel_rfl
theorem w58 (k : Nat) {M : Mem} {u0b : Nat} {u0A : Option Addr} {u0c : Nat} {u0AP : Option Addr} {u0cP : Nat} {u0AV : Nat → Option Addr} {u0cV : Nat → Nat} {Au2 : Option Addr} {cu2 : Nat} {u0R : List (List Int)} {u0D : List Int} {u0st : Int} {u0P : List (List Int)} {u0V : List (List (List Int))} {u1 : List Int} {u2 : List Int} (hu0 : Crs M u0b u0A u0c u0AP u0cP u0AV u0cV u0R u0D u0st u0P u0V) (hu1 : u1.length = 7) (hu2 : SlI M Au2 cu2 .i64 u2) {r} (h : p58 k u0R u0D u0st u0P u0V u1 u2 = some r) :
  Fn Try.prog 58 [rval (.lf (.v (.pointer (some ⟨u0b,0,none⟩)))),rval (.agg [.arr .i64 7 u1]),rval (.lf (.v (.slice Au2 (List.length u2) cu2)))] M (fun x _ => x = .lf (.v (.int .i64 r))) := by
 unfold p58 at h
 refine Fn_of (P:=Try.prog) (fn:=Try.f58) (c:=bodyOf Try.f58) [.lf (.v (.pointer (some ⟨u0b,0,none⟩))),.agg [.arr .i64 7 u1],.lf (.v (.slice Au2 (List.length u2) cu2))] hf58 (by kernel_rfl) (Nat.le_of_ble_eq_true (by kernel_rfl)) (args_ok (by kernel_rfl) ⟨trivial,⟨⟨hu1,trivial⟩,⟨trivial,trivial⟩⟩⟩) fun w => ?_
 change T _ _ _ (endQ _ _ _)
 refine T_seq (c1:=(sub [0] (bodyOf Try.f58))) (c2:=(sub [1] (bodyOf Try.f58))) (by kernel_rfl) ?_
 refine T_region (id:=0) (by kernel_rfl) ?_
 refine TI_segK (i:=0) (j:=2) (s':={ σ := [(0,.lf (.v (.pointer (some ⟨u0b,0,none⟩)))),(2,.lf (.v (.slice Au2 (List.length u2) cu2))),(4,.lf (.own 4 0))],H := [(4,[.arr .i64 7 u1])],V := [],M := M,ds := [] }) [0,2,4] [4] [] (by kernel_rfl) (by kernel_rfl) ?_
 refine TI_end (by kernel_rfl) ?_
 refine thenQ_n ?_
 refine T_seq (c1:=(sub [1,0] (bodyOf Try.f58))) (c2:=(sub [1,1] (bodyOf Try.f58))) (by kernel_rfl) ?_
 refine T_seq (c1:=(sub [1,0,0] (bodyOf Try.f58))) (c2:=(sub [1,0,1] (bodyOf Try.f58))) (by kernel_rfl) ?_
 refine T_region (id:=1) (by kernel_rfl) ?_
 obtain ⟨x1,e_x1,h⟩ := lt_some h
 refine TI_segK (i:=0) (j:=4) (s':={ σ := [(0,.lf (.v (.pointer (some ⟨u0b,0,none⟩)))),(2,.lf (.v (.slice Au2 (List.length u2) cu2))),(4,.lf (.own 4 0)),(13,.lf (.v (.int .i64 x1))),(14,.lf (.v (.int .i64 (0 : Int))))],H := [(4,[.arr .i64 7 u1])],V := [],M := M,ds := [] }) [0,2,4,13,14] [4] [] (by subst e_x1;kernel_rfl) (by kernel_rfl) ?_
 refine TI_end (by kernel_rfl) ?_
 refine thenQ_n ?_
 obtain ⟨j2,e_j2,h⟩ := jn_some h
 refine T_bcut (id:=0) (c1:=(sub [1,0,1,0] (bodyOf Try.f58))) (fun s' => Sub { σ := [],H := [],V := [],M := M,ds := [] } s' ∧ j2 = some r) (by kernel_rfl) ?_ ?_
 ·refine T_loop (c1:=(sub [1,0,1,0,0] (bodyOf Try.f58))) (by kernel_rfl) (fun n4 s' => ∃ (x3 : Int),Sub { σ := [(0,.lf (.v (.pointer (some ⟨u0b,0,none⟩)))),(2,.lf (.v (.slice Au2 (List.length u2) cu2))),(4,.lf (.own 4 0)),(13,.lf (.v (.int .i64 x1))),(14,.lf (.v (.int .i64 x3)))],H := [(4,[.arr .i64 7 u1])],V := [],M := M,ds := [] } s' ∧ p58_l1 k u0P u1 u2 j2 x1 n4 x3 = some r) (k:=k) ⟨(0 : Int),keep_sub (ts:=[0,2,4,13,14]) (hs:=[4]) (vs:=[]) (by kernel_rfl),h⟩ ?_
  rintro n4 s' ⟨x3,hsub,h⟩
  cases n4 with
  | zero => rw [p58_l1] at h;cases h
  | succ n4 =>
   rw [p58_l1] at h
   refine T_sub hsub ?_
   refine T_seq (c1:=(sub [1,0,1,0,0,0] (bodyOf Try.f58))) (c2:=(sub [1,0,1,0,0,1] (bodyOf Try.f58))) (by kernel_rfl) ?_
   refine T_region (id:=2) (by kernel_rfl) ?_
   obtain ⟨b5,e_b5,h⟩ := lt_some h
   refine TI_segK (i:=0) (j:=1) (s':={ σ := [(0,.lf (.v (.pointer (some ⟨u0b,0,none⟩)))),(2,.lf (.v (.slice Au2 (List.length u2) cu2))),(4,.lf (.own 4 0)),(13,.lf (.v (.int .i64 x1))),(14,.lf (.v (.int .i64 x3))),(15,.lf (.v (.bool b5)))],H := [(4,[.arr .i64 7 u1])],V := [],M := M,ds := [] }) [0,2,4,13,14,15] [4] [] (by subst e_b5;kernel_rfl) (by kernel_rfl) ?_
   refine TI_end (by kernel_rfl) ?_
   refine thenQ_n ?_
   refine T_seq (c1:=(sub [1,0,1,0,0,1,0] (bodyOf Try.f58))) (c2:=(sub [1,0,1,0,0,1,1] (bodyOf Try.f58))) (by kernel_rfl) ?_
   cases b5 with
   | true =>
    replace h := sp_t h
    refine T_condT (x:=(.tmp 15)) (c1:=(sub [1,0,1,0,0,1,0,0] (bodyOf Try.f58))) (c2:=(sub [1,0,1,0,0,1,0,1] (bodyOf Try.f58))) (by kernel_rfl) (by kernel_rfl) ?_
    refine T_keep (s':={ σ := [(0,.lf (.v (.pointer (some ⟨u0b,0,none⟩)))),(2,.lf (.v (.slice Au2 (List.length u2) cu2))),(4,.lf (.own 4 0)),(13,.lf (.v (.int .i64 x1))),(14,.lf (.v (.int .i64 x3)))],H := [(4,[.arr .i64 7 u1])],V := [],M := M,ds := [] }) [0,2,4,13,14] [4] [] (by kernel_rfl) ?_
    refine T_skip (by kernel_rfl) ?_
    refine thenQ_n ?_
    refine T_seq (c1:=(sub [1,0,1,0,0,1,1,0] (bodyOf Try.f58))) (c2:=(sub [1,0,1,0,0,1,1,1] (bodyOf Try.f58))) (by kernel_rfl) ?_
    refine T_block (id:=1) (c1:=(sub [1,0,1,0,0,1,1,0,0] (bodyOf Try.f58))) (by kernel_rfl) ?_
    refine T_seq (c1:=(sub [1,0,1,0,0,1,1,0,0,0] (bodyOf Try.f58))) (c2:=(sub [1,0,1,0,0,1,1,0,0,1] (bodyOf Try.f58))) (by kernel_rfl) ?_
    refine T_region (id:=3) (by kernel_rfl) ?_
    refine TI_segK (i:=0) (j:=2) (s':={ σ := [(0,.lf (.v (.pointer (some ⟨u0b,0,none⟩)))),(2,.lf (.v (.slice Au2 (List.length u2) cu2))),(4,.lf (.own 4 0)),(7,.lf (.v (.int .i64 x3))),(13,.lf (.v (.int .i64 x1))),(14,.lf (.v (.int .i64 x3)))],H := [(4,[.arr .i64 7 u1])],V := [],M := M,ds := [] }) [0,2,4,7,13,14] [4] [] (by kernel_rfl) (by kernel_rfl) ?_
    refine TI_end (by kernel_rfl) ?_
    refine thenQ_n ?_
    obtain ⟨j7,e_j7,h⟩ := jn_some h
    refine T_cut (c1:=(sub [1,0,1,0,0,1,1,0,0,1,0] (bodyOf Try.f58))) (c2:=(sub [1,0,1,0,0,1,1,0,0,1,1] (bodyOf Try.f58))) (fun s' => ∃ (b6 : Bool),Sub { σ := [(0,.lf (.v (.pointer (some ⟨u0b,0,none⟩)))),(2,.lf (.v (.slice Au2 (List.length u2) cu2))),(4,.lf (.own 4 0)),(7,.lf (.v (.int .i64 x3))),(8,.lf (.v (.bool b6))),(13,.lf (.v (.int .i64 x1))),(14,.lf (.v (.int .i64 x3)))],H := [(4,[.arr .i64 7 u1])],V := [],M := M,ds := [] } s' ∧ j7 b6 = some r) (by kernel_rfl) ?_ ?_
    ·obtain ⟨b8,e_b8,h⟩ := lt_some h
     cases b8 with
     | true =>
      replace h := sp_t h
      refine T_draw' (id:=4) [] [0,0,0,0,0,0,0,0,0,0,0,0,0,0,0,0,0,0,0,0,0] (by kernel_rfl) (by kernel_rfl) (by kernel_rfl) (by kernel_rfl) [(17,.lf (.v (.int .i64 x3))),(18,.lf (.v (.bool true))),(19,.lf (.v (.bool true))),(20,.tup []),(21,.tup []),(22,.tup []),(23,.tup []),(24,.tup []),(25,.tup []),(26,.tup []),(27,.tup []),(28,.tup []),(29,.tup []),(30,.tup []),(31,.tup []),(32,.tup []),(33,.tup []),(34,.tup []),(35,.tup []),(36,.lf (.v (.bool true))),(8,.lf (.v (.bool true)))] (by kernel_rfl) ⟨trivial,⟨trivial,⟨trivial,⟨(by intro y hy;cases hy),⟨(by intro y hy;cases hy),⟨(by intro y hy;cases hy),⟨(by intro y hy;cases hy),⟨(by intro y hy;cases hy),⟨(by intro y hy;cases hy),⟨(by intro y hy;cases hy),⟨(by intro y hy;cases hy),⟨(by intro y hy;cases hy),⟨(by intro y hy;cases hy),⟨(by intro y hy;cases hy),⟨(by intro y hy;cases hy),⟨(by intro y hy;cases hy),⟨(by intro y hy;cases hy),⟨(by intro y hy;cases hy),⟨(by intro y hy;cases hy),⟨trivial,⟨trivial,trivial⟩⟩⟩⟩⟩⟩⟩⟩⟩⟩⟩⟩⟩⟩⟩⟩⟩⟩⟩⟩⟩ ?_
      refine Stage_nil (stage_all' [0,2,3,4,5,6,7,8,9,10,11,12,13,14,15,16,17,18,19,20] [1] (by kernel_rfl) (by kernel_rfl) (by kernel_rfl) ⟨QF_at (i:=1) (d:=18) (x:=.lf (.v (.bool true))) (show OpAt _ _ _ 1 18 _ from by exact At_bin (d:=18) (b:=.eql) (u:=.int .i64 x3) (v:=.int .i64 (0 : Int)) (w':=.bool true) (by kernel_rfl) (by rw [show exBin .eql (.int .i64 x3) (.int .i64 (0 : Int)) = some (.bool (x3 == (0 : Int))) from by kernel_rfl,← e_b8])) (by kernel_rfl) (by kernel_rfl),trivial⟩) ?_
      refine thenQ_n ?_
      exact ⟨true,keep_sub (ts:=[0,2,4,7,8,13,14]) (hs:=[4]) (vs:=[]) (by kernel_rfl),h⟩
     | false =>
      replace h := sp_f h
      obtain ⟨x9,e_x9,h⟩ := lt_some h
      obtain ⟨g10,h⟩ := gd_some h
      obtain ⟨x11,e_x11,h⟩ := lt_some h
      obtain ⟨x12,e_x12,h⟩ := lt_some h
      obtain ⟨g13,h⟩ := gd_some h
      obtain ⟨x14,e_x14,h⟩ := lt_some h
      obtain ⟨x15,e_x15,h⟩ := lt_some h
      obtain ⟨b16,e_b16,h⟩ := lt_some h
      refine T_draw' (id:=4) [] [0,0,0,0,0,0,0,0,0,0,0,0,0,0,0,0,0,0,0,0,0] (by kernel_rfl) (by kernel_rfl) (by kernel_rfl) (by kernel_rfl) [(17,.lf (.v (.int .i64 x3))),(18,.lf (.v (.bool false))),(19,.lf (.v (.bool false))),(20,.lf (.v (.pointer (some ⟨u0b,0,none⟩)))),(21,.lf (.v (.pointer (some ⟨u0b,0,none⟩)))),(22,.lf (.v (.pointer (some ⟨u0b,6,none⟩)))),(23,.lf (.v (.slice u0AP (List.length u0P) u0cP))),(24,.lf (.v (.slice Au2 (List.length u2) cu2))),(25,.lf (.v (.int .i64 x3))),(26,.lf (.v (.int .i64 x9))),(27,.lf (.ep (.slice Au2 (List.length u2) cu2) 1 ((x9).toNat) 0)),(28,.lf (.v (.int .i64 x11))),(29,.lf (.v (.int .i64 x12))),(30,.lf (.ep (.slice u0AP (List.length u0P) u0cP) 2 ((x12).toNat) 0)),(31,.lf (.ep (.slice u0AP (List.length u0P) u0cP) 2 ((x12).toNat) 0)),(32,.lf (.v (.int .i64 x14))),(33,.lf (.own 4 0)),(34,.lf (.v (.int .i64 x15))),(35,.lf (.v (.bool b16))),(36,.lf (.v (.bool b16))),(8,.lf (.v (.bool b16)))] (by kernel_rfl) (wfs_lf _ (by kernel_rfl)) ?_
      refine Stage_nil (stage_all' [0,2,3,4,5,7,8,9,12,14,16,17,18,19,20] [1,6,10,11,13,15] (by kernel_rfl) (by subst_vars; kernel_rfl) (by kernel_rfl) ⟨QF_at (i:=1) (d:=18) (x:=.lf (.v (.bool false))) (show OpAt _ _ _ 1 18 _ from by exact At_bin (d:=18) (b:=.eql) (u:=.int .i64 x3) (v:=.int .i64 (0 : Int)) (w':=.bool false) (by subst_vars; kernel_rfl) (by rw [show exBin .eql (.int .i64 x3) (.int .i64 (0 : Int)) = some (.bool (x3 == (0 : Int))) from by kernel_rfl,← e_b8])) (by kernel_rfl) (by subst_vars; kernel_rfl),⟨QF_at (i:=6) (d:=23) (x:=.lf (.v (.slice u0AP (List.length u0P) u0cP))) (show OpAt _ _ _ 6 23 _ from by exact At_ldP (d:=23) (b:=u0b) (off:=6) (m:=1) (v:=(.slice u0AP (List.length u0P) u0cP)) (by subst_vars; kernel_rfl) (hu0).plc) (by kernel_rfl) (by subst_vars; kernel_rfl),⟨QF_at (i:=10) (d:=27) (x:=.lf (.ep (.slice Au2 (List.length u2) cu2) 1 ((x9).toNat) 0)) (show OpAt _ _ _ 10 27 _ from by exact At_idxI (d:=27) (z:=x9) (by subst_vars; kernel_rfl) g10 hu2) (by kernel_rfl) (by subst_vars; kernel_rfl),⟨QF_at (i:=11) (d:=28) (x:=.lf (.v (.int .i64 x11))) (show OpAt _ _ _ 11 28 _ from by rw [e_x11]; exact At_ldI (d:=28) (q:=(x9).toNat) (by subst_vars; kernel_rfl) (toNat_lt g10) hu2) (by kernel_rfl) (by subst_vars; kernel_rfl),⟨QF_at (i:=13) (d:=30) (x:=.lf (.ep (.slice u0AP (List.length u0P) u0cP) 2 ((x12).toNat) 0)) (show OpAt _ _ _ 13 30 _ from by exact At_idxR (d:=30) (z:=x12) (by subst_vars; kernel_rfl) g13 (hu0).lP) (by kernel_rfl) (by subst_vars; kernel_rfl),⟨QF_at (i:=15) (d:=32) (x:=.lf (.v (.int .i64 x14))) (show OpAt _ _ _ 15 32 _ from by rw [e_x14]; exact At_ldR1 (d:=32) (q:=(x12).toNat) (j:=0) (by subst_vars; kernel_rfl) rfl (toNat_lt g13) (hu0).lP) (by kernel_rfl) (by subst_vars; kernel_rfl),trivial⟩⟩⟩⟩⟩⟩) ?_
      refine thenQ_n ?_
      exact ⟨b16,keep_sub (ts:=[0,2,4,7,8,13,14]) (hs:=[4]) (vs:=[]) (by subst_vars;kernel_rfl),h⟩
    ·rintro s' ⟨b6,hsub,h⟩
     subst e_j7
     refine T_sub hsub ?_
     obtain ⟨j18,e_j18,h⟩ := jn_some h
     refine T_cut (c1:=(sub [1,0,1,0,0,1,1,0,0,1,1,0] (bodyOf Try.f58))) (c2:=(sub [1,0,1,0,0,1,1,0,0,1,1,1] (bodyOf Try.f58))) (fun s' => ∃ (b17 : Bool),Sub { σ := [(0,.lf (.v (.pointer (some ⟨u0b,0,none⟩)))),(2,.lf (.v (.slice Au2 (List.length u2) cu2))),(4,.lf (.own 4 0)),(7,.lf (.v (.int .i64 x3))),(8,.lf (.v (.bool b6))),(9,.lf (.v (.bool b17))),(13,.lf (.v (.int .i64 x1))),(14,.lf (.v (.int .i64 x3)))],H := [(4,[.arr .i64 7 u1])],V := [],M := M,ds := [] } s' ∧ j18 b17 = some r) (by kernel_rfl) ?_ ?_
     ·obtain ⟨b19,e_b19,h⟩ := lt_some h
      cases b19 with
      | true =>
       replace h := sp_t h
       refine T_draw' (id:=5) [] [0,0,0,0,0,0,0,0,0,0,0,0,0,0,0,0,0,0,0,0,0] (by kernel_rfl) (by kernel_rfl) (by kernel_rfl) (by kernel_rfl) [(37,.lf (.v (.int .i64 x3))),(38,.lf (.v (.slice Au2 (List.length u2) cu2))),(39,.lf (.v (.int .i64 (List.length u2 : Int)))),(40,.lf (.v (.bool true))),(41,.lf (.v (.bool true))),(42,.tup []),(43,.tup []),(44,.tup []),(45,.tup []),(46,.tup []),(47,.tup []),(48,.tup []),(49,.tup []),(50,.tup []),(51,.tup []),(52,.tup []),(53,.tup []),(54,.tup []),(55,.tup []),(56,.lf (.v (.bool true))),(9,.lf (.v (.bool true)))] (by kernel_rfl) ⟨trivial,⟨trivial,⟨trivial,⟨trivial,⟨trivial,⟨(by intro y hy;cases hy),⟨(by intro y hy;cases hy),⟨(by intro y hy;cases hy),⟨(by intro y hy;cases hy),⟨(by intro y hy;cases hy),⟨(by intro y hy;cases hy),⟨(by intro y hy;cases hy),⟨(by intro y hy;cases hy),⟨(by intro y hy;cases hy),⟨(by intro y hy;cases hy),⟨(by intro y hy;cases hy),⟨(by intro y hy;cases hy),⟨(by intro y hy;cases hy),⟨(by intro y hy;cases hy),⟨trivial,⟨trivial,trivial⟩⟩⟩⟩⟩⟩⟩⟩⟩⟩⟩⟩⟩⟩⟩⟩⟩⟩⟩⟩⟩ ?_
       refine Stage_nil (stage_all' [0,1,2,4,5,6,7,8,9,10,11,12,13,14,15,16,17,18,19,20] [3] (by kernel_rfl) (by kernel_rfl) (by kernel_rfl) ⟨QF_at (i:=3) (d:=40) (x:=.lf (.v (.bool true))) (show OpAt _ _ _ 3 40 _ from by exact At_bin (d:=40) (b:=.eql) (u:=.int .i64 x3) (v:=.int .i64 (List.length u2 : Int)) (w':=.bool true) (by kernel_rfl) (by rw [show exBin .eql (.int .i64 x3) (.int .i64 (List.length u2 : Int)) = some (.bool (x3 == (List.length u2 : Int))) from by kernel_rfl,← e_b19])) (by kernel_rfl) (by kernel_rfl),trivial⟩) ?_
       refine thenQ_n ?_
       exact ⟨true,keep_sub (ts:=[0,2,4,7,8,9,13,14]) (hs:=[4]) (vs:=[]) (by kernel_rfl),h⟩
      | false =>
       replace h := sp_f h
       obtain ⟨g20,h⟩ := gd_some h
       obtain ⟨x21,e_x21,h⟩ := lt_some h
       obtain ⟨g22,h⟩ := gd_some h
       obtain ⟨x23,e_x23,h⟩ := lt_some h
       obtain ⟨x24,e_x24,h⟩ := lt_some h
       obtain ⟨b25,e_b25,h⟩ := lt_some h
       refine T_draw' (id:=5) [] [0,0,0,0,0,0,0,0,0,0,0,0,0,0,0,0,0,0,0,0,0] (by kernel_rfl) (by kernel_rfl) (by kernel_rfl) (by kernel_rfl) [(37,.lf (.v (.int .i64 x3))),(38,.lf (.v (.slice Au2 (List.length u2) cu2))),(39,.lf (.v (.int .i64 (List.length u2 : Int)))),(40,.lf (.v (.bool false))),(41,.lf (.v (.bool false))),(42,.lf (.v (.pointer (some ⟨u0b,0,none⟩)))),(43,.lf (.v (.pointer (some ⟨u0b,0,none⟩)))),(44,.lf (.v (.pointer (some ⟨u0b,6,none⟩)))),(45,.lf (.v (.slice u0AP (List.length u0P) u0cP))),(46,.lf (.v (.slice Au2 (List.length u2) cu2))),(47,.lf (.v (.int .i64 x3))),(48,.lf (.ep (.slice Au2 (List.length u2) cu2) 1 ((x3).toNat) 0)),(49,.lf (.v (.int .i64 x21))),(50,.lf (.ep (.slice u0AP (List.length u0P) u0cP) 2 ((x21).toNat) 0)),(51,.lf (.ep (.slice u0AP (List.length u0P) u0cP) 2 ((x21).toNat) 1)),(52,.lf (.v (.int .i64 x23))),(53,.lf (.own 4 1)),(54,.lf (.v (.int .i64 x24))),(55,.lf (.v (.bool b25))),(56,.lf (.v (.bool b25))),(9,.lf (.v (.bool b25)))] (by kernel_rfl) (wfs_lf _ (by kernel_rfl)) ?_
       refine Stage_nil (stage_all' [0,1,2,4,5,6,7,9,10,14,16,17,18,19,20] [3,8,11,12,13,15] (by kernel_rfl) (by subst_vars; kernel_rfl) (by kernel_rfl) ⟨QF_at (i:=3) (d:=40) (x:=.lf (.v (.bool false))) (show OpAt _ _ _ 3 40 _ from by exact At_bin (d:=40) (b:=.eql) (u:=.int .i64 x3) (v:=.int .i64 (List.length u2 : Int)) (w':=.bool false) (by subst_vars; kernel_rfl) (by rw [show exBin .eql (.int .i64 x3) (.int .i64 (List.length u2 : Int)) = some (.bool (x3 == (List.length u2 : Int))) from by kernel_rfl,← e_b19])) (by kernel_rfl) (by subst_vars; kernel_rfl),⟨QF_at (i:=8) (d:=45) (x:=.lf (.v (.slice u0AP (List.length u0P) u0cP))) (show OpAt _ _ _ 8 45 _ from by exact At_ldP (d:=45) (b:=u0b) (off:=6) (m:=1) (v:=(.slice u0AP (List.length u0P) u0cP)) (by subst_vars; kernel_rfl) (hu0).plc) (by kernel_rfl) (by subst_vars; kernel_rfl),⟨QF_at (i:=11) (d:=48) (x:=.lf (.ep (.slice Au2 (List.length u2) cu2) 1 ((x3).toNat) 0)) (show OpAt _ _ _ 11 48 _ from by exact At_idxI (d:=48) (z:=x3) (by subst_vars; kernel_rfl) g20 hu2) (by kernel_rfl) (by subst_vars; kernel_rfl),⟨QF_at (i:=12) (d:=49) (x:=.lf (.v (.int .i64 x21))) (show OpAt _ _ _ 12 49 _ from by rw [e_x21]; exact At_ldI (d:=49) (q:=(x3).toNat) (by subst_vars; kernel_rfl) (toNat_lt g20) hu2) (by kernel_rfl) (by subst_vars; kernel_rfl),⟨QF_at (i:=13) (d:=50) (x:=.lf (.ep (.slice u0AP (List.length u0P) u0cP) 2 ((x21).toNat) 0)) (show OpAt _ _ _ 13 50 _ from by exact At_idxR (d:=50) (z:=x21) (by subst_vars; kernel_rfl) g22 (hu0).lP) (by kernel_rfl) (by subst_vars; kernel_rfl),⟨QF_at (i:=15) (d:=52) (x:=.lf (.v (.int .i64 x23))) (show OpAt _ _ _ 15 52 _ from by rw [e_x23]; exact At_ldR1 (d:=52) (q:=(x21).toNat) (j:=1) (by subst_vars; kernel_rfl) rfl (toNat_lt g22) (hu0).lP) (by kernel_rfl) (by subst_vars; kernel_rfl),trivial⟩⟩⟩⟩⟩⟩) ?_
       refine thenQ_n ?_
       exact ⟨b25,keep_sub (ts:=[0,2,4,7,8,9,13,14]) (hs:=[4]) (vs:=[]) (by subst_vars;kernel_rfl),h⟩
     ·rintro s' ⟨b17,hsub,h⟩
      subst e_j18
      refine T_sub hsub ?_
      obtain ⟨j27,e_j27,h⟩ := jn_some h
      refine T_cut (c1:=(sub [1,0,1,0,0,1,1,0,0,1,1,1,0] (bodyOf Try.f58))) (c2:=(sub [1,0,1,0,0,1,1,0,0,1,1,1,1] (bodyOf Try.f58))) (fun s' => ∃ (b26 : Bool),Sub { σ := [(0,.lf (.v (.pointer (some ⟨u0b,0,none⟩)))),(2,.lf (.v (.slice Au2 (List.length u2) cu2))),(4,.lf (.own 4 0)),(7,.lf (.v (.int .i64 x3))),(8,.lf (.v (.bool b6))),(9,.lf (.v (.bool b17))),(10,.lf (.v (.bool b26))),(13,.lf (.v (.int .i64 x1))),(14,.lf (.v (.int .i64 x3)))],H := [(4,[.arr .i64 7 u1])],V := [],M := M,ds := [] } s' ∧ j27 b26 = some r) (by kernel_rfl) ?_ ?_
      ·obtain ⟨b28,e_b28,h⟩ := lt_some h
       cases b28 with
       | true =>
        replace h := sp_t h
        refine T_draw' (id:=6) [] [0,0,0,0,0,0,0,0,0,0,0,0,0,0,0,0,0,0,0,0,0,0] (by kernel_rfl) (by kernel_rfl) (by kernel_rfl) (by kernel_rfl) [(57,.lf (.v (.int .i64 x3))),(58,.lf (.v (.bool true))),(59,.lf (.v (.bool true))),(60,.tup []),(61,.tup []),(62,.tup []),(63,.tup []),(64,.lf (.v (.bool true))),(65,.lf (.v (.bool true))),(66,.tup []),(67,.tup []),(68,.tup []),(69,.tup []),(70,.tup []),(71,.tup []),(72,.tup []),(73,.tup []),(74,.tup []),(75,.tup []),(76,.tup []),(77,.lf (.v (.bool true))),(10,.lf (.v (.bool true)))] (by kernel_rfl) ⟨trivial,⟨trivial,⟨trivial,⟨(by intro y hy;cases hy),⟨(by intro y hy;cases hy),⟨(by intro y hy;cases hy),⟨(by intro y hy;cases hy),⟨trivial,⟨trivial,⟨(by intro y hy;cases hy),⟨(by intro y hy;cases hy),⟨(by intro y hy;cases hy),⟨(by intro y hy;cases hy),⟨(by intro y hy;cases hy),⟨(by intro y hy;cases hy),⟨(by intro y hy;cases hy),⟨(by intro y hy;cases hy),⟨(by intro y hy;cases hy),⟨(by intro y hy;cases hy),⟨(by intro y hy;cases hy),⟨trivial,⟨trivial,trivial⟩⟩⟩⟩⟩⟩⟩⟩⟩⟩⟩⟩⟩⟩⟩⟩⟩⟩⟩⟩⟩⟩ ?_
        refine Stage_nil (stage_all' [0,2,3,4,5,6,7,8,9,10,11,12,13,14,15,16,17,18,19,20,21] [1] (by kernel_rfl) (by kernel_rfl) (by kernel_rfl) ⟨QF_at (i:=1) (d:=58) (x:=.lf (.v (.bool true))) (show OpAt _ _ _ 1 58 _ from by exact At_bin (d:=58) (b:=.eql) (u:=.int .i64 x3) (v:=.int .i64 (0 : Int)) (w':=.bool true) (by kernel_rfl) (by rw [show exBin .eql (.int .i64 x3) (.int .i64 (0 : Int)) = some (.bool (x3 == (0 : Int))) from by kernel_rfl,← e_b28])) (by kernel_rfl) (by kernel_rfl),trivial⟩) ?_
        refine thenQ_n ?_
        exact ⟨true,keep_sub (ts:=[0,2,4,7,8,9,10,13,14]) (hs:=[4]) (vs:=[]) (by kernel_rfl),h⟩
       | false =>
        replace h := sp_f h
        obtain ⟨b29,e_b29,h⟩ := lt_some h
        cases b29 with
        | true =>
         replace h := sp_t h
         refine T_draw' (id:=6) [] [0,0,0,0,0,0,0,0,0,0,0,0,0,0,0,0,0,0,0,0,0,0] (by kernel_rfl) (by kernel_rfl) (by kernel_rfl) (by kernel_rfl) [(57,.lf (.v (.int .i64 x3))),(58,.lf (.v (.bool false))),(59,.lf (.v (.bool false))),(60,.lf (.v (.int .i64 x3))),(61,.lf (.v (.slice Au2 (List.length u2) cu2))),(62,.lf (.v (.int .i64 (List.length u2 : Int)))),(63,.lf (.v (.bool true))),(64,.lf (.v (.bool true))),(65,.lf (.v (.bool true))),(66,.tup []),(67,.tup []),(68,.tup []),(69,.tup []),(70,.tup []),(71,.tup []),(72,.tup []),(73,.tup []),(74,.tup []),(75,.tup []),(76,.tup []),(77,.lf (.v (.bool true))),(10,.lf (.v (.bool true)))] (by kernel_rfl) ⟨trivial,⟨trivial,⟨trivial,⟨trivial,⟨trivial,⟨trivial,⟨trivial,⟨trivial,⟨trivial,⟨(by intro y hy;cases hy),⟨(by intro y hy;cases hy),⟨(by intro y hy;cases hy),⟨(by intro y hy;cases hy),⟨(by intro y hy;cases hy),⟨(by intro y hy;cases hy),⟨(by intro y hy;cases hy),⟨(by intro y hy;cases hy),⟨(by intro y hy;cases hy),⟨(by intro y hy;cases hy),⟨(by intro y hy;cases hy),⟨trivial,⟨trivial,trivial⟩⟩⟩⟩⟩⟩⟩⟩⟩⟩⟩⟩⟩⟩⟩⟩⟩⟩⟩⟩⟩⟩ ?_
         refine Stage_nil (stage_all' [0,2,3,4,5,7,8,9,10,11,12,13,14,15,16,17,18,19,20,21] [1,6] (by kernel_rfl) (by kernel_rfl) (by kernel_rfl) ⟨QF_at (i:=1) (d:=58) (x:=.lf (.v (.bool false))) (show OpAt _ _ _ 1 58 _ from by exact At_bin (d:=58) (b:=.eql) (u:=.int .i64 x3) (v:=.int .i64 (0 : Int)) (w':=.bool false) (by kernel_rfl) (by rw [show exBin .eql (.int .i64 x3) (.int .i64 (0 : Int)) = some (.bool (x3 == (0 : Int))) from by kernel_rfl,← e_b28])) (by kernel_rfl) (by kernel_rfl),⟨QF_at (i:=6) (d:=63) (x:=.lf (.v (.bool true))) (show OpAt _ _ _ 6 63 _ from by exact At_bin (d:=63) (b:=.eql) (u:=.int .i64 x3) (v:=.int .i64 (List.length u2 : Int)) (w':=.bool true) (by kernel_rfl) (by rw [show exBin .eql (.int .i64 x3) (.int .i64 (List.length u2 : Int)) = some (.bool (x3 == (List.length u2 : Int))) from by kernel_rfl,← e_b29])) (by kernel_rfl) (by kernel_rfl),trivial⟩⟩) ?_
         refine thenQ_n ?_
         exact ⟨true,keep_sub (ts:=[0,2,4,7,8,9,10,13,14]) (hs:=[4]) (vs:=[]) (by kernel_rfl),h⟩
        | false =>
         replace h := sp_f h
         obtain ⟨g30,h⟩ := gd_some h
         obtain ⟨x31,e_x31,h⟩ := lt_some h
         obtain ⟨x32,e_x32,h⟩ := lt_some h
         obtain ⟨g33,h⟩ := gd_some h
         obtain ⟨x34,e_x34,h⟩ := lt_some h
         obtain ⟨x35,e_x35,h⟩ := lt_some h
         obtain ⟨b36,e_b36,h⟩ := lt_some h
         refine T_draw' (id:=6) [] [0,0,0,0,0,0,0,0,0,0,0,0,0,0,0,0,0,0,0,0,0,0] (by kernel_rfl) (by kernel_rfl) (by kernel_rfl) (by kernel_rfl) [(57,.lf (.v (.int .i64 x3))),(58,.lf (.v (.bool false))),(59,.lf (.v (.bool false))),(60,.lf (.v (.int .i64 x3))),(61,.lf (.v (.slice Au2 (List.length u2) cu2))),(62,.lf (.v (.int .i64 (List.length u2 : Int)))),(63,.lf (.v (.bool false))),(64,.lf (.v (.bool false))),(65,.lf (.v (.bool false))),(66,.lf (.v (.slice Au2 (List.length u2) cu2))),(67,.lf (.v (.int .i64 x3))),(68,.lf (.ep (.slice Au2 (List.length u2) cu2) 1 ((x3).toNat) 0)),(69,.lf (.v (.int .i64 x31))),(70,.lf (.v (.slice Au2 (List.length u2) cu2))),(71,.lf (.v (.int .i64 x3))),(72,.lf (.v (.int .i64 x32))),(73,.lf (.ep (.slice Au2 (List.length u2) cu2) 1 ((x32).toNat) 0)),(74,.lf (.v (.int .i64 x34))),(75,.lf (.v (.int .i64 x35))),(76,.lf (.v (.bool b36))),(77,.lf (.v (.bool b36))),(10,.lf (.v (.bool b36)))] (by kernel_rfl) (wfs_lf _ (by kernel_rfl)) ?_
         refine Stage_nil (stage_all' [0,2,3,4,5,7,8,9,10,13,14,15,18,19,20,21] [1,6,11,12,16,17] (by kernel_rfl) (by subst_vars; kernel_rfl) (by kernel_rfl) ⟨QF_at (i:=1) (d:=58) (x:=.lf (.v (.bool false))) (show OpAt _ _ _ 1 58 _ from by exact At_bin (d:=58) (b:=.eql) (u:=.int .i64 x3) (v:=.int .i64 (0 : Int)) (w':=.bool false) (by subst_vars; kernel_rfl) (by rw [show exBin .eql (.int .i64 x3) (.int .i64 (0 : Int)) = some (.bool (x3 == (0 : Int))) from by kernel_rfl,← e_b28])) (by kernel_rfl) (by subst_vars; kernel_rfl),⟨QF_at (i:=6) (d:=63) (x:=.lf (.v (.bool false))) (show OpAt _ _ _ 6 63 _ from by exact At_bin (d:=63) (b:=.eql) (u:=.int .i64 x3) (v:=.int .i64 (List.length u2 : Int)) (w':=.bool false) (by subst_vars; kernel_rfl) (by rw [show exBin .eql (.int .i64 x3) (.int .i64 (List.length u2 : Int)) = some (.bool (x3 == (List.length u2 : Int))) from by kernel_rfl,← e_b29])) (by kernel_rfl) (by subst_vars; kernel_rfl),⟨QF_at (i:=11) (d:=68) (x:=.lf (.ep (.slice Au2 (List.length u2) cu2) 1 ((x3).toNat) 0)) (show OpAt _ _ _ 11 68 _ from by exact At_idxI (d:=68) (z:=x3) (by subst_vars; kernel_rfl) g30 hu2) (by kernel_rfl) (by subst_vars; kernel_rfl),⟨QF_at (i:=12) (d:=69) (x:=.lf (.v (.int .i64 x31))) (show OpAt _ _ _ 12 69 _ from by rw [e_x31]; exact At_ldI (d:=69) (q:=(x3).toNat) (by subst_vars; kernel_rfl) (toNat_lt g30) hu2) (by kernel_rfl) (by subst_vars; kernel_rfl),⟨QF_at (i:=16) (d:=73) (x:=.lf (.ep (.slice Au2 (List.length u2) cu2) 1 ((x32).toNat) 0)) (show OpAt _ _ _ 16 73 _ from by exact At_idxI (d:=73) (z:=x32) (by subst_vars; kernel_rfl) g33 hu2) (by kernel_rfl) (by subst_vars; kernel_rfl),⟨QF_at (i:=17) (d:=74) (x:=.lf (.v (.int .i64 x34))) (show OpAt _ _ _ 17 74 _ from by rw [e_x34]; exact At_ldI (d:=74) (q:=(x32).toNat) (by subst_vars; kernel_rfl) (toNat_lt g33) hu2) (by kernel_rfl) (by subst_vars; kernel_rfl),trivial⟩⟩⟩⟩⟩⟩) ?_
         refine thenQ_n ?_
         exact ⟨b36,keep_sub (ts:=[0,2,4,7,8,9,10,13,14]) (hs:=[4]) (vs:=[]) (by subst_vars;kernel_rfl),h⟩
      ·rintro s' ⟨b26,hsub,h⟩
       subst e_j27
       refine T_sub hsub ?_
       obtain ⟨j38,e_j38,h⟩ := jn_some h
       refine T_cut (c1:=(sub [1,0,1,0,0,1,1,0,0,1,1,1,1,0] (bodyOf Try.f58))) (c2:=(sub [1,0,1,0,0,1,1,0,0,1,1,1,1,1] (bodyOf Try.f58))) (fun s' => ∃ (b37 : Bool),Sub { σ := [(0,.lf (.v (.pointer (some ⟨u0b,0,none⟩)))),(2,.lf (.v (.slice Au2 (List.length u2) cu2))),(4,.lf (.own 4 0)),(7,.lf (.v (.int .i64 x3))),(13,.lf (.v (.int .i64 x1))),(14,.lf (.v (.int .i64 x3))),(84,.lf (.v (.bool b37)))],H := [(4,[.arr .i64 7 u1])],V := [],M := M,ds := [] } s' ∧ j38 b37 = some r) (by kernel_rfl) ?_ ?_
       ·refine T_region (id:=7) (by kernel_rfl) ?_
        refine TI_segK (i:=0) (j:=2) (s':={ σ := [(0,.lf (.v (.pointer (some ⟨u0b,0,none⟩)))),(2,.lf (.v (.slice Au2 (List.length u2) cu2))),(4,.lf (.own 4 0)),(7,.lf (.v (.int .i64 x3))),(9,.lf (.v (.bool b17))),(10,.lf (.v (.bool b26))),(13,.lf (.v (.int .i64 x1))),(14,.lf (.v (.int .i64 x3))),(79,.lf (.v (.bool b6)))],H := [(4,[.arr .i64 7 u1])],V := [],M := M,ds := [] }) [0,2,4,7,9,10,13,14,79] [4] [] (by kernel_rfl) (by kernel_rfl) ?_
        cases b6 with
        | true =>
         replace h := sp_t h
         refine TI_segK (i:=2) (j:=5) (s':={ σ := [(0,.lf (.v (.pointer (some ⟨u0b,0,none⟩)))),(2,.lf (.v (.slice Au2 (List.length u2) cu2))),(4,.lf (.own 4 0)),(7,.lf (.v (.int .i64 x3))),(10,.lf (.v (.bool b26))),(13,.lf (.v (.int .i64 x1))),(14,.lf (.v (.int .i64 x3))),(82,.lf (.v (.bool b17)))],H := [(4,[.arr .i64 7 u1])],V := [],M := M,ds := [] }) [0,2,4,7,10,13,14,82] [4] [] (by kernel_rfl) (by kernel_rfl) ?_
         cases b17 with
         | true =>
          replace h := sp_t h
          refine TI_segK (i:=5) (j:=7) (s':={ σ := [(0,.lf (.v (.pointer (some ⟨u0b,0,none⟩)))),(2,.lf (.v (.slice Au2 (List.length u2) cu2))),(4,.lf (.own 4 0)),(7,.lf (.v (.int .i64 x3))),(13,.lf (.v (.int .i64 x1))),(14,.lf (.v (.int .i64 x3))),(84,.lf (.v (.bool b26)))],H := [(4,[.arr .i64 7 u1])],V := [],M := M,ds := [] }) [0,2,4,7,13,14,84] [4] [] (by kernel_rfl) (by kernel_rfl) ?_
          refine TI_end (by kernel_rfl) ?_
          refine thenQ_n ?_
          exact ⟨b26,keep_sub (ts:=[0,2,4,7,13,14,84]) (hs:=[4]) (vs:=[]) (by kernel_rfl),h⟩
         | false =>
          replace h := sp_f h
          refine TI_segK (i:=5) (j:=7) (s':={ σ := [(0,.lf (.v (.pointer (some ⟨u0b,0,none⟩)))),(2,.lf (.v (.slice Au2 (List.length u2) cu2))),(4,.lf (.own 4 0)),(7,.lf (.v (.int .i64 x3))),(13,.lf (.v (.int .i64 x1))),(14,.lf (.v (.int .i64 x3))),(84,.lf (.v (.bool false)))],H := [(4,[.arr .i64 7 u1])],V := [],M := M,ds := [] }) [0,2,4,7,13,14,84] [4] [] (by kernel_rfl) (by kernel_rfl) ?_
          refine TI_end (by kernel_rfl) ?_
          refine thenQ_n ?_
          exact ⟨false,keep_sub (ts:=[0,2,4,7,13,14,84]) (hs:=[4]) (vs:=[]) (by kernel_rfl),h⟩
        | false =>
         replace h := sp_f h
         refine TI_segK (i:=2) (j:=7) (s':={ σ := [(0,.lf (.v (.pointer (some ⟨u0b,0,none⟩)))),(2,.lf (.v (.slice Au2 (List.length u2) cu2))),(4,.lf (.own 4 0)),(7,.lf (.v (.int .i64 x3))),(13,.lf (.v (.int .i64 x1))),(14,.lf (.v (.int .i64 x3))),(84,.lf (.v (.bool false)))],H := [(4,[.arr .i64 7 u1])],V := [],M := M,ds := [] }) [0,2,4,7,13,14,84] [4] [] (by kernel_rfl) (by kernel_rfl) ?_
         refine TI_end (by kernel_rfl) ?_
         refine thenQ_n ?_
         exact ⟨false,keep_sub (ts:=[0,2,4,7,13,14,84]) (hs:=[4]) (vs:=[]) (by kernel_rfl),h⟩
       ·rintro s' ⟨b37,hsub,h⟩
        subst e_j38
        refine T_sub hsub ?_
        cases b37 with
        | true =>
         replace h := sp_t h
         refine T_condT (x:=(.tmp 84)) (c1:=(sub [1,0,1,0,0,1,1,0,0,1,1,1,1,1,0] (bodyOf Try.f58))) (c2:=(sub [1,0,1,0,0,1,1,0,0,1,1,1,1,1,1] (bodyOf Try.f58))) (by kernel_rfl) (by kernel_rfl) ?_
         refine T_keep (s':={ σ := [(7,.lf (.v (.int .i64 x3)))],H := [],V := [],M := M,ds := [] }) [7] [] [] (by kernel_rfl) ?_
         refine T_seq (c1:=(sub [1,0,1,0,0,1,1,0,0,1,1,1,1,1,0,0] (bodyOf Try.f58))) (c2:=(sub [1,0,1,0,0,1,1,0,0,1,1,1,1,1,0,1] (bodyOf Try.f58))) (by kernel_rfl) ?_
         refine T_region (id:=8) (by kernel_rfl) ?_
         refine TI_segK (i:=0) (j:=2) (s':={ σ := [(6,.lf (.v (.int .i64 x3)))],H := [],V := [],M := M,ds := [] }) [6] [] [] (by kernel_rfl) (by kernel_rfl) ?_
         refine TI_end (by kernel_rfl) ?_
         refine thenQ_n ?_
         refine T_ret (by kernel_rfl) ?_
         refine blockQ_r ?_
         refine thenQ_r ?_
         refine thenQ_r ?_
         refine blockQ_r ?_
         refine thenQ_r ?_
         refine thenQ_r ?_
         have h := Option.some.inj h
         subst h
         refine fin_ret (.lf (.v (.int .i64 x3))) (by kernel_rfl) (by kernel_rfl) rfl ?_
         rfl
        | false =>
         replace h := sp_f h
         refine T_condF (x:=(.tmp 84)) (c1:=(sub [1,0,1,0,0,1,1,0,0,1,1,1,1,1,0] (bodyOf Try.f58))) (c2:=(sub [1,0,1,0,0,1,1,0,0,1,1,1,1,1,1] (bodyOf Try.f58))) (by kernel_rfl) (by kernel_rfl) ?_
         refine T_keep (s':={ σ := [(0,.lf (.v (.pointer (some ⟨u0b,0,none⟩)))),(2,.lf (.v (.slice Au2 (List.length u2) cu2))),(4,.lf (.own 4 0)),(13,.lf (.v (.int .i64 x1))),(14,.lf (.v (.int .i64 x3)))],H := [(4,[.arr .i64 7 u1])],V := [],M := M,ds := [] }) [0,2,4,13,14] [4] [] (by kernel_rfl) ?_
         refine T_skip (by kernel_rfl) ?_
         refine blockQ_n ?_
         refine thenQ_n ?_
         refine T_region (id:=9) (by kernel_rfl) ?_
         obtain ⟨x39,e_x39,h⟩ := lt_some h
         refine TI_segK (i:=0) (j:=2) (s':={ σ := [(0,.lf (.v (.pointer (some ⟨u0b,0,none⟩)))),(2,.lf (.v (.slice Au2 (List.length u2) cu2))),(4,.lf (.own 4 0)),(13,.lf (.v (.int .i64 x1))),(14,.lf (.v (.int .i64 x39)))],H := [(4,[.arr .i64 7 u1])],V := [],M := M,ds := [] }) [0,2,4,13,14] [4] [] (by subst e_x39;kernel_rfl) (by kernel_rfl) ?_
         refine TI_end (by kernel_rfl) ?_
         refine thenQ_n ?_
         exact ⟨n4,Nat.lt_succ_self _,x39,keep_sub (ts:=[0,2,4,13,14]) (hs:=[4]) (vs:=[]) (by kernel_rfl),h⟩
   | false =>
    replace h := sp_f h
    refine T_condF (x:=(.tmp 15)) (c1:=(sub [1,0,1,0,0,1,0,0] (bodyOf Try.f58))) (c2:=(sub [1,0,1,0,0,1,0,1] (bodyOf Try.f58))) (by kernel_rfl) (by kernel_rfl) ?_
    refine T_keep (s':={ σ := [],H := [],V := [],M := M,ds := [] }) [] [] [] (by kernel_rfl) ?_
    refine T_exit (id:=0) (by kernel_rfl) ?_
    refine thenQ_x ?_
    refine thenQ_x ?_
    refine blockQ_x ?_
    refine thenQ_n ?_
    exact ⟨keep_sub (ts:=[]) (hs:=[]) (vs:=[]) (by kernel_rfl),h⟩
 ·rintro s' ⟨hsub,h⟩
  subst e_j2
  refine thenQ_n ?_
  refine T_sub hsub ?_
  refine T_seq (c1:=(sub [1,1,0] (bodyOf Try.f58))) (c2:=(sub [1,1,1] (bodyOf Try.f58))) (by kernel_rfl) ?_
  refine T_region (id:=10) (by kernel_rfl) ?_
  refine TI_segK (i:=0) (j:=1) (s':={ σ := [(6,.lf (.v (.int .i64 (-1 : Int))))],H := [],V := [],M := M,ds := [] }) [6] [] [] (by kernel_rfl) (by kernel_rfl) ?_
  refine TI_end (by kernel_rfl) ?_
  refine thenQ_n ?_
  refine T_ret (by kernel_rfl) ?_
  have h := Option.some.inj h
  subst h
  refine fin_ret (.lf (.v (.int .i64 (-1 : Int)))) (by kernel_rfl) (by kernel_rfl) rfl ?_
  rfl
end Go.Proofs.Ythjkejbgknemgaa
namespace Go.Proofs.Ythjkejbgknemgaa
open Go.RowKit
theorem TW_ex {α : Type} {P N M c σ Q} {p : α → World → Prop} (h : ∀ x, TW P N M c σ (p x) Q) : TW P N M c σ (fun w => ∃ x, p x w) Q := fun a w hr ⟨x, hx⟩ => h x a w hr hx
theorem TW_and {P N M c σ Q} {φ : Prop} {p : World → Prop} (h : φ → TW P N M c σ p Q) : TW P N M c σ (fun w => φ ∧ p w) Q := fun a w hr ⟨hφ, hp⟩ => h hφ a w hr hp
def p85_l (st B E n : Int) : Nat → Int → Option (List Int)
  | 0, _ => none
  | f + 1, k => sp (decide (k < n)) (lt' (wr .i64 (st + k)) fun t => sp (decide (t ≥ B)) (lt' (wr .i64 (t + (1 : Int))) fun t1 => sp (decide (t1 ≤ E)) (cl (p85_l st B E n f (wr .i64 (k + (1 : Int)))) fun r => some (k :: r)) (p85_l st B E n f (wr .i64 (k + (1 : Int))))) (p85_l st B E n f (wr .i64 (k + (1 : Int))))) (some [])
theorem hf85 : Try.prog.funcs[85]? = some Try.f85 := by kernel_rfl
theorem w85 (k : Nat) {M : Mem} {b : Nat} {A : Option Addr} {c : Nat} {AP : Option Addr} {cP : Nat} {AV : Nat → Option Addr} {cV : Nat → Nat} {R D st Pl V} (hu : Crs M b A c AP cP AV cV R D st Pl V) {c0 x0 : Nat} {u : List Int}
    (hc0 : memCell M c0 0 = some (.pointer (some ⟨b, 0, none⟩))) (hx4 : memCell M x0 4 = some (.int .i64 (u.getD 4 0))) (hx5 : memCell M x0 5 = some (.int .i64 (u.getD 5 0))) {n : Int} (hn : p86 k R D st Pl V = some n) {ks} (h : p85_l st (u.getD 4 0) (u.getD 5 0) n k 0 = some ks) :
    IterL Try.prog 85 [.pointer (some ⟨c0, 0, none⟩), .pointer (some ⟨x0, 0, none⟩)] M ks := by
  intro l J Jx W hW hJ hJx hy h0
  refine calls_TW (c := bodyOf Try.f85) [.lf (.v (.func (.yield l) #[] #[])), .lf (.v (.pointer (some ⟨c0, 0, none⟩))), .lf (.v (.pointer (some ⟨x0, 0, none⟩)))] hf85 (by kernel_rfl) (Nat.le_of_ble_eq_true (by kernel_rfl)) (by kernel_rfl) (by intro x hx; simp only [List.mem_cons, List.mem_nil_iff, or_false] at hx; rcases hx with rfl | rfl | rfl <;> trivial) hW ?_
  refine TW_pre (pre' := J []) (by rintro w rfl; exact h0) ?_
  refine TW_seq (c1 := (sub [0] (bodyOf Try.f85))) (c2 := (sub [1] (bodyOf Try.f85))) (fun σ w => σ = [(0, .lf (.v (.func (.yield l) #[] #[]))), (1, .lf (.v (.pointer (some ⟨c0, 0, none⟩)))), (2, .lf (.v (.pointer (some ⟨x0, 0, none⟩)))), (7, .lf (.v (.int .i64 n))), (8, .lf (.v (.int .i64 (0 : Int))))] ∧ J [] w) (by kernel_rfl) ?_ ?_
  · refine TW_region (id := 0) (by kernel_rfl) ?_
    refine TWI_at (d := 6) (x := .lf (.v (.pointer (some ⟨b, 0, none⟩)))) (fun w => At_ldP (d := 6) (b := c0) (off := 0) (m := 1) (v := (.pointer (some ⟨b, 0, none⟩))) (by kernel_rfl) hc0) (hJ _) (by kernel_rfl) trivial ?_
    refine TWI_at (d := 7) (x := .lf (.v (.int .i64 n))) (fun w => At_call (d := 7) (f := 86) (args := [rval (.lf (.v (.pointer (some ⟨b, 0, none⟩))))]) (x := .lf (.v (.int .i64 n))) (by kernel_rfl) (w86 k hu hn)) (hJ _) (by kernel_rfl) trivial ?_
    refine TWI_pure (y := (8, .lf (.v (.int .i64 (0 : Int))))) (by kernel_rfl) ?_
    refine TWI_keep (σ' := [(0, .lf (.v (.func (.yield l) #[] #[]))), (1, .lf (.v (.pointer (some ⟨c0, 0, none⟩)))), (2, .lf (.v (.pointer (some ⟨x0, 0, none⟩)))), (7, .lf (.v (.int .i64 n))), (8, .lf (.v (.int .i64 (0 : Int))))]) [0, 1, 2, 7, 8] (by kernel_rfl) ?_
    exact TWI_end (by kernel_rfl) fun w hw => And.intro rfl hw
  · intro σ; refine TW_and fun hσ => ?_; subst hσ
    refine TW_block (id := 0) (c1 := (sub [1, 0] (bodyOf Try.f85))) (by kernel_rfl) ?_
    refine TW_loop (c1 := (sub [1, 0, 0] (bodyOf Try.f85))) (by kernel_rfl) (fun f σ w => ∃ kk pr rest, (σ = [(0, .lf (.v (.func (.yield l) #[] #[]))), (1, .lf (.v (.pointer (some ⟨c0, 0, none⟩)))), (2, .lf (.v (.pointer (some ⟨x0, 0, none⟩)))), (7, .lf (.v (.int .i64 n))), (8, .lf (.v (.int .i64 kk)))] ∧ pr ++ rest = ks ∧ p85_l st (u.getD 4 0) (u.getD 5 0) n f kk = some rest) ∧ J pr w) (k := k) (fun w hw => ⟨_, [], ks, ⟨rfl, rfl, h⟩, hw⟩) ?_
    intro f σ; refine TW_ex fun kk => TW_ex fun pr => TW_ex fun rest => TW_and ?_
    rintro ⟨hσ, hks, h⟩; subst hσ
    cases f with
    | zero => rw [p85_l] at h; cases h
    | succ f =>
      rw [p85_l] at h
      obtain ⟨b9, e9, h⟩ := sp_some h
      refine TW_seq (c1 := (sub [1, 0, 0, 0] (bodyOf Try.f85))) (c2 := (sub [1, 0, 0, 1] (bodyOf Try.f85))) (fun σ w => σ = [(0, .lf (.v (.func (.yield l) #[] #[]))), (1, .lf (.v (.pointer (some ⟨c0, 0, none⟩)))), (2, .lf (.v (.pointer (some ⟨x0, 0, none⟩)))), (7, .lf (.v (.int .i64 n))), (8, .lf (.v (.int .i64 kk))), (9, .lf (.v (.bool b9)))] ∧ J pr w) (by kernel_rfl) ?_ ?_
      · refine TW_region (id := 1) (by kernel_rfl) ?_
        refine TWI_pure (y := (9, .lf (.v (.bool b9)))) (by subst e9; kernel_rfl) ?_
        refine TWI_keep (σ' := [(0, .lf (.v (.func (.yield l) #[] #[]))), (1, .lf (.v (.pointer (some ⟨c0, 0, none⟩)))), (2, .lf (.v (.pointer (some ⟨x0, 0, none⟩)))), (7, .lf (.v (.int .i64 n))), (8, .lf (.v (.int .i64 kk))), (9, .lf (.v (.bool b9)))]) [0, 1, 2, 7, 8, 9] (by kernel_rfl) ?_
        exact TWI_end (by kernel_rfl) fun w hw => And.intro rfl hw
      · intro σ; refine TW_and fun hσ => ?_; subst hσ
        refine TW_seq (c1 := (sub [1, 0, 0, 1, 0] (bodyOf Try.f85))) (c2 := (sub [1, 0, 0, 1, 1] (bodyOf Try.f85))) (fun σ w => b9 = true ∧ σ = [(0, .lf (.v (.func (.yield l) #[] #[]))), (1, .lf (.v (.pointer (some ⟨c0, 0, none⟩)))), (2, .lf (.v (.pointer (some ⟨x0, 0, none⟩)))), (7, .lf (.v (.int .i64 n))), (8, .lf (.v (.int .i64 kk)))] ∧ J pr w) (by kernel_rfl) ?_ ?_
        · refine TW_keep (σ' := [(9, .lf (.v (.bool b9))), (0, .lf (.v (.func (.yield l) #[] #[]))), (1, .lf (.v (.pointer (some ⟨c0, 0, none⟩)))), (2, .lf (.v (.pointer (some ⟨x0, 0, none⟩)))), (7, .lf (.v (.int .i64 n))), (8, .lf (.v (.int .i64 kk)))]) [9, 0, 1, 2, 7, 8] (by kernel_rfl) ?_
          refine TW_cond (x := .tmp 9) (b := b9) (c1 := (sub [1, 0, 0, 1, 0, 0] (bodyOf Try.f85))) (c2 := (sub [1, 0, 0, 1, 0, 1] (bodyOf Try.f85))) (by kernel_rfl) (by kernel_rfl) (fun hb => ?_) (fun hb => ?_)
          · refine TW_keep (σ' := [(0, .lf (.v (.func (.yield l) #[] #[]))), (1, .lf (.v (.pointer (some ⟨c0, 0, none⟩)))), (2, .lf (.v (.pointer (some ⟨x0, 0, none⟩)))), (7, .lf (.v (.int .i64 n))), (8, .lf (.v (.int .i64 kk)))]) [0, 1, 2, 7, 8] (by kernel_rfl) ?_
            exact TW_skip (by kernel_rfl) fun w hw => And.intro hb (And.intro rfl hw)
          · subst hb
            have h := Option.some.inj (sp_f h)
            subst h
            refine TW_exit (id := 0) (by kernel_rfl) fun w hw => ?_
            refine And.intro (Or.inl rfl) (Or.inl ?_)
            rw [List.append_nil] at hks; rw [← hks]; exact hw
        · intro σ; refine TW_and fun hb => TW_and fun hσ => ?_; subst hb hσ
          replace h := sp_t h
          obtain ⟨t, et, h⟩ := lt_some h
          obtain ⟨b20, e20, h⟩ := sp_some h
          refine TW_seq (c1 := (sub [1, 0, 0, 1, 1, 0] (bodyOf Try.f85))) (c2 := (sub [1, 0, 0, 1, 1, 1] (bodyOf Try.f85))) (fun σ w => σ = [(0, .lf (.v (.func (.yield l) #[] #[]))), (1, .lf (.v (.pointer (some ⟨c0, 0, none⟩)))), (2, .lf (.v (.pointer (some ⟨x0, 0, none⟩)))), (7, .lf (.v (.int .i64 n))), (8, .lf (.v (.int .i64 kk)))] ∧ ∃ pr' rest', (pr' ++ rest' = ks ∧ p85_l st (u.getD 4 0) (u.getD 5 0) n f (wr .i64 (kk + (1 : Int))) = some rest') ∧ J pr' w) (by kernel_rfl) ?_ ?_
          · refine TW_block (id := 1) (c1 := (sub [1, 0, 0, 1, 1, 0, 0] (bodyOf Try.f85))) (by kernel_rfl) ?_
            refine TW_seq (c1 := (sub [1, 0, 0, 1, 1, 0, 0, 0] (bodyOf Try.f85))) (c2 := (sub [1, 0, 0, 1, 1, 0, 0, 1] (bodyOf Try.f85))) (fun σ w => σ = [(0, .lf (.v (.func (.yield l) #[] #[]))), (1, .lf (.v (.pointer (some ⟨c0, 0, none⟩)))), (2, .lf (.v (.pointer (some ⟨x0, 0, none⟩)))), (4, .lf (.v (.int .i64 kk))), (7, .lf (.v (.int .i64 n))), (8, .lf (.v (.int .i64 kk)))] ∧ J pr w) (by kernel_rfl) ?_ ?_
            · refine TW_region (id := 2) (by kernel_rfl) ?_
              refine TWI_pure (y := (10, .lf (.v (.int .i64 kk)))) (by kernel_rfl) ?_
              refine TWI_pure (y := (4, .lf (.v (.int .i64 kk)))) (by kernel_rfl) ?_
              refine TWI_keep (σ' := [(0, .lf (.v (.func (.yield l) #[] #[]))), (1, .lf (.v (.pointer (some ⟨c0, 0, none⟩)))), (2, .lf (.v (.pointer (some ⟨x0, 0, none⟩)))), (4, .lf (.v (.int .i64 kk))), (7, .lf (.v (.int .i64 n))), (8, .lf (.v (.int .i64 kk)))]) [0, 1, 2, 4, 7, 8] (by kernel_rfl) ?_
              exact TWI_end (by kernel_rfl) fun w hw => And.intro rfl hw
            · intro σ; refine TW_and fun hσ => ?_; subst hσ
              refine TW_seq (c1 := (sub [1, 0, 0, 1, 1, 0, 0, 1, 0] (bodyOf Try.f85))) (c2 := (sub [1, 0, 0, 1, 1, 0, 0, 1, 1] (bodyOf Try.f85))) (fun σ w => σ = [(0, .lf (.v (.func (.yield l) #[] #[]))), (1, .lf (.v (.pointer (some ⟨c0, 0, none⟩)))), (2, .lf (.v (.pointer (some ⟨x0, 0, none⟩)))), (4, .lf (.v (.int .i64 kk))), (5, .lf (.v (.int .i64 t))), (7, .lf (.v (.int .i64 n))), (8, .lf (.v (.int .i64 kk)))] ∧ J pr w) (by kernel_rfl) ?_ ?_
              · refine TW_region (id := 3) (by kernel_rfl) ?_
                refine TWI_at (d := 11) (x := .lf (.v (.pointer (some ⟨b, 0, none⟩)))) (fun w => At_ldP (d := 11) (b := c0) (off := 0) (m := 1) (v := (.pointer (some ⟨b, 0, none⟩))) (by kernel_rfl) hc0) (hJ _) (by kernel_rfl) trivial ?_
                refine TWI_pure (y := (12, .lf (.v (.pointer (some ⟨b, 0, none⟩))))) (by kernel_rfl) ?_
                refine TWI_pure (y := (13, .lf (.v (.pointer (some ⟨b, 5, none⟩))))) (by kernel_rfl) ?_
                refine TWI_at (d := 14) (x := .lf (.v (.int .i64 st))) (fun w => At_ldP (d := 14) (b := b) (off := 5) (m := 1) (v := (.int .i64 st)) (by kernel_rfl) hu.start) (hJ _) (by kernel_rfl) trivial ?_
                refine TWI_pure (y := (15, .lf (.v (.int .i64 kk)))) (by kernel_rfl) ?_
                refine TWI_pure (y := (16, .lf (.v (.int .i64 t)))) (by subst et; kernel_rfl) ?_
                refine TWI_pure (y := (5, .lf (.v (.int .i64 t)))) (by kernel_rfl) ?_
                refine TWI_keep (σ' := [(0, .lf (.v (.func (.yield l) #[] #[]))), (1, .lf (.v (.pointer (some ⟨c0, 0, none⟩)))), (2, .lf (.v (.pointer (some ⟨x0, 0, none⟩)))), (4, .lf (.v (.int .i64 kk))), (5, .lf (.v (.int .i64 t))), (7, .lf (.v (.int .i64 n))), (8, .lf (.v (.int .i64 kk)))]) [0, 1, 2, 4, 5, 7, 8] (by kernel_rfl) ?_
                exact TWI_end (by kernel_rfl) fun w hw => And.intro rfl hw
              · intro σ; refine TW_and fun hσ => ?_; subst hσ
                refine TW_seq (c1 := (sub [1, 0, 0, 1, 1, 0, 0, 1, 1, 0] (bodyOf Try.f85))) (c2 := (sub [1, 0, 0, 1, 1, 0, 0, 1, 1, 1] (bodyOf Try.f85))) (fun σ w => ∃ b33, σ = [(33, .lf (.v (.bool b33))), (0, .lf (.v (.func (.yield l) #[] #[]))), (1, .lf (.v (.pointer (some ⟨c0, 0, none⟩)))), (2, .lf (.v (.pointer (some ⟨x0, 0, none⟩)))), (7, .lf (.v (.int .i64 n))), (8, .lf (.v (.int .i64 kk)))] ∧ ((b33 = true ∧ Jx w) ∨ (b33 = false ∧ ∃ pr' rest', (pr' ++ rest' = ks ∧ p85_l st (u.getD 4 0) (u.getD 5 0) n f (wr .i64 (kk + (1 : Int))) = some rest') ∧ J pr' w))) (by kernel_rfl) ?_ ?_
                · refine TW_region (id := 4) (by kernel_rfl) ?_
                  refine TWI_pure (y := (17, .lf (.v (.int .i64 t)))) (by kernel_rfl) ?_
                  refine TWI_pure (y := (18, .lf (.v (.pointer (some ⟨x0, 4, none⟩))))) (by kernel_rfl) ?_
                  refine TWI_at (d := 19) (x := .lf (.v (.int .i64 (u.getD 4 0)))) (fun w => At_ldP (d := 19) (b := x0) (off := 4) (m := 1) (v := (.int .i64 (u.getD 4 0))) (by kernel_rfl) hx4) (hJ _) (by kernel_rfl) trivial ?_
                  refine TWI_pure (y := (20, .lf (.v (.bool b20)))) (by subst e20; kernel_rfl) ?_
                  refine TWI_pure (y := (21, .lf (.v (.bool b20)))) (by kernel_rfl) ?_
                  cases b20 with
                  | false =>
                    replace h := sp_f h
                    refine TWI_pure (y := (22, .tup [])) (by kernel_rfl) ?_
                    refine TWI_pure (y := (23, .tup [])) (by kernel_rfl) ?_
                    refine TWI_pure (y := (24, .tup [])) (by kernel_rfl) ?_
                    refine TWI_pure (y := (25, .tup [])) (by kernel_rfl) ?_
                    refine TWI_pure (y := (26, .tup [])) (by kernel_rfl) ?_
                    refine TWI_pure (y := (27, .lf (.v (.bool false)))) (by kernel_rfl) ?_
                    refine TWI_pure (y := (28, .lf (.v (.bool false)))) (by kernel_rfl) ?_
                    refine TWI_pure (y := (29, .tup [])) (by kernel_rfl) ?_
                    refine TWI_pure (y := (30, .tup [])) (by kernel_rfl) ?_
                    refine TWI_pure (y := (31, .tup [])) (by kernel_rfl) ?_
                    refine TWI_pure (y := (32, .tup [])) (by kernel_rfl) ?_
                    refine TWI_pure (y := (33, .lf (.v (.bool false)))) (by kernel_rfl) ?_
                    refine TWI_keep (σ' := [(33, .lf (.v (.bool false))), (0, .lf (.v (.func (.yield l) #[] #[]))), (1, .lf (.v (.pointer (some ⟨c0, 0, none⟩)))), (2, .lf (.v (.pointer (some ⟨x0, 0, none⟩)))), (7, .lf (.v (.int .i64 n))), (8, .lf (.v (.int .i64 kk)))]) [33, 0, 1, 2, 7, 8] (by kernel_rfl) ?_
                    exact TWI_end (by kernel_rfl) fun w hw => ⟨false, rfl, Or.inr ⟨rfl, pr, rest, ⟨hks, h⟩, hw⟩⟩
                  | true =>
                    replace h := sp_t h
                    obtain ⟨t1, et1, h⟩ := lt_some h
                    obtain ⟨b26, e26, h⟩ := sp_some h
                    refine TWI_pure (y := (22, .lf (.v (.int .i64 t)))) (by kernel_rfl) ?_
                    refine TWI_pure (y := (23, .lf (.v (.int .i64 t1)))) (by subst et1; kernel_rfl) ?_
                    refine TWI_pure (y := (24, .lf (.v (.pointer (some ⟨x0, 5, none⟩))))) (by kernel_rfl) ?_
                    refine TWI_at (d := 25) (x := .lf (.v (.int .i64 (u.getD 5 0)))) (fun w => At_ldP (d := 25) (b := x0) (off := 5) (m := 1) (v := (.int .i64 (u.getD 5 0))) (by kernel_rfl) hx5) (hJ _) (by kernel_rfl) trivial ?_
                    refine TWI_pure (y := (26, .lf (.v (.bool b26)))) (by subst e26; kernel_rfl) ?_
                    refine TWI_pure (y := (27, .lf (.v (.bool b26)))) (by kernel_rfl) ?_
                    cases b26 with
                    | false =>
                      replace h := sp_f h
                      refine TWI_pure (y := (28, .lf (.v (.bool false)))) (by kernel_rfl) ?_
                      refine TWI_pure (y := (29, .tup [])) (by kernel_rfl) ?_
                      refine TWI_pure (y := (30, .tup [])) (by kernel_rfl) ?_
                      refine TWI_pure (y := (31, .tup [])) (by kernel_rfl) ?_
                      refine TWI_pure (y := (32, .tup [])) (by kernel_rfl) ?_
                      refine TWI_pure (y := (33, .lf (.v (.bool false)))) (by kernel_rfl) ?_
                      refine TWI_keep (σ' := [(33, .lf (.v (.bool false))), (0, .lf (.v (.func (.yield l) #[] #[]))), (1, .lf (.v (.pointer (some ⟨c0, 0, none⟩)))), (2, .lf (.v (.pointer (some ⟨x0, 0, none⟩)))), (7, .lf (.v (.int .i64 n))), (8, .lf (.v (.int .i64 kk)))]) [33, 0, 1, 2, 7, 8] (by kernel_rfl) ?_
                      exact TWI_end (by kernel_rfl) fun w hw => ⟨false, rfl, Or.inr ⟨rfl, pr, rest, ⟨hks, h⟩, hw⟩⟩
                    | true =>
                      replace h := sp_t h
                      obtain ⟨r, er, h⟩ := cl_some h
                      have h := Option.some.inj h
                      subst h
                      refine TWI_pure (y := (28, .lf (.v (.bool true)))) (by kernel_rfl) ?_
                      refine TWI_pure (y := (29, .lf (.v (.func (.yield l) #[] #[])))) (by kernel_rfl) ?_
                      refine TWI_pure (y := (30, .lf (.v (.int .i64 kk)))) (by kernel_rfl) ?_
                      refine TWI_yield (d := 31) (l := l) (k := .i64) (z := kk) (J (pr ++ [kk])) Jx (by kernel_rfl) (by kernel_rfl) (fun w hw hm => hy pr kk w ⟨r, by rw [← hks]; simp⟩ hw hm) ?_ ?_
                      · skip
                        refine TWI_pure (y := (32, .lf (.v (.bool false)))) (by kernel_rfl) ?_
                        refine TWI_pure (y := (33, .lf (.v (.bool false)))) (by kernel_rfl) ?_
                        refine TWI_keep (σ' := [(33, .lf (.v (.bool false))), (0, .lf (.v (.func (.yield l) #[] #[]))), (1, .lf (.v (.pointer (some ⟨c0, 0, none⟩)))), (2, .lf (.v (.pointer (some ⟨x0, 0, none⟩)))), (7, .lf (.v (.int .i64 n))), (8, .lf (.v (.int .i64 kk)))]) [33, 0, 1, 2, 7, 8] (by kernel_rfl) ?_
                        exact TWI_end (by kernel_rfl) fun w hw => ⟨false, rfl, Or.inr ⟨rfl, pr ++ [kk], r, ⟨by rw [← hks]; simp, er⟩, hw⟩⟩
                      · skip
                        refine TWI_pure (y := (32, .lf (.v (.bool true)))) (by kernel_rfl) ?_
                        refine TWI_pure (y := (33, .lf (.v (.bool true)))) (by kernel_rfl) ?_
                        refine TWI_keep (σ' := [(33, .lf (.v (.bool true))), (0, .lf (.v (.func (.yield l) #[] #[]))), (1, .lf (.v (.pointer (some ⟨c0, 0, none⟩)))), (2, .lf (.v (.pointer (some ⟨x0, 0, none⟩)))), (7, .lf (.v (.int .i64 n))), (8, .lf (.v (.int .i64 kk)))]) [33, 0, 1, 2, 7, 8] (by kernel_rfl) ?_
                        exact TWI_end (by kernel_rfl) fun w hw => ⟨true, rfl, Or.inl ⟨rfl, hw⟩⟩
                · intro σ; refine TW_ex fun b33 => TW_and fun hσ => ?_; subst hσ
                  refine TW_cond (x := .tmp 33) (b := b33) (c1 := (sub [1, 0, 0, 1, 1, 0, 0, 1, 1, 1, 0] (bodyOf Try.f85))) (c2 := (sub [1, 0, 0, 1, 1, 0, 0, 1, 1, 1, 1] (bodyOf Try.f85))) (by kernel_rfl) (by kernel_rfl) (fun hb => ?_) (fun hb => ?_)
                  · refine TW_ret (by kernel_rfl) fun w hw => ?_
                    refine And.intro (Or.inr rfl) (Or.inr ?_)
                    rcases hw with hw | hw
                    · exact hw.2
                    · rw [hb] at hw; exact absurd hw.1 (by simp)
                  · refine TW_keep (σ' := [(0, .lf (.v (.func (.yield l) #[] #[]))), (1, .lf (.v (.pointer (some ⟨c0, 0, none⟩)))), (2, .lf (.v (.pointer (some ⟨x0, 0, none⟩)))), (7, .lf (.v (.int .i64 n))), (8, .lf (.v (.int .i64 kk)))]) [0, 1, 2, 7, 8] (by kernel_rfl) ?_
                    refine TW_skip (by kernel_rfl) fun w hw => ?_
                    refine And.intro rfl ?_
                    rcases hw with hw | hw
                    · rw [hb] at hw; exact absurd hw.1 (by simp)
                    · exact hw.2
          · intro σ; refine TW_and fun hσ => TW_ex fun pr' => TW_ex fun rest' => TW_and fun hh => ?_; subst hσ
            refine TW_region (id := 5) (by kernel_rfl) ?_
            refine TWI_pure (y := (34, .lf (.v (.int .i64 (wr .i64 (kk + (1 : Int))))))) (by kernel_rfl) ?_
            refine TWI_pure (y := (8, .lf (.v (.int .i64 (wr .i64 (kk + (1 : Int))))))) (by kernel_rfl) ?_
            refine TWI_keep (σ' := [(0, .lf (.v (.func (.yield l) #[] #[]))), (1, .lf (.v (.pointer (some ⟨c0, 0, none⟩)))), (2, .lf (.v (.pointer (some ⟨x0, 0, none⟩)))), (7, .lf (.v (.int .i64 n))), (8, .lf (.v (.int .i64 (wr .i64 (kk + (1 : Int))))))]) [0, 1, 2, 7, 8] (by kernel_rfl) ?_
            exact TWI_end (by kernel_rfl) fun w hw => ⟨f, Nat.lt_succ_self _, _, pr', rest', ⟨rfl, hh.1, hh.2⟩, hw⟩
end Go.Proofs.Ythjkejbgknemgaa
namespace Go.Proofs.Ythjkejbgknemgaa
open Go.RowKit
def p77 (k : Nat) (R : List (List Int)) (D : List Int) (st : Int) (P : List (List Int)) (V : List (List (List Int))) (u : List Int) : Option (List Int) :=
  cl (p86 k R D st P V) fun n => p85_l st (u.getD 4 0) (u.getD 5 0) n k 0
theorem hf77 : Try.prog.funcs[77]? = some Try.f77 := by kernel_rfl
theorem w77 (k : Nat) {M : Mem} {b : Nat} {A : Option Addr} {c : Nat} {AP : Option Addr} {cP : Nat} {AV : Nat → Option Addr} {cV : Nat → Nat} {R D st Pl V} (hu : Crs M b A c AP cP AV cV R D st Pl V) {u : List Int} (hl : u.length = 7) {ks} (h : p77 k R D st Pl V u = some ks) :
    Fn Try.prog 77 [rval (.lf (.v (.pointer (some ⟨b, 0, none⟩)))), rval (.agg [.arr .i64 7 u])] M (fun x M' => ∃ lb : List Value, x = .lf (.v (.func (.func 85) #[] lb.toArray)) ∧ IterL Try.prog 85 lb M' ks) := by
  obtain ⟨n, hn, h⟩ := cl_some h
  refine Fn_of (P := Try.prog) (fn := Try.f77) (c := bodyOf Try.f77) [.lf (.v (.pointer (some ⟨b, 0, none⟩))), .agg [.arr .i64 7 u]] hf77 (by kernel_rfl) (Nat.le_of_ble_eq_true (by kernel_rfl)) (args_ok (by kernel_rfl) ⟨trivial, ⟨⟨hl, trivial⟩, trivial⟩⟩) fun w => ?_
  change T _ _ _ (endQ _ _ _)
  refine T_seq (c1 := (sub [0] (bodyOf Try.f77))) (c2 := (sub [1] (bodyOf Try.f77))) (by kernel_rfl) ?_
  refine T_region (id := 0) (by kernel_rfl) ?_
  refine TI_segK (i := 0) (j := 3) (s' := { σ := [(2, .lf (.own 2 0)), (3, .lf (.own 3 0))], H := [(2, [.one (.v (.pointer (some ⟨b, 0, none⟩)))]), (3, [.arr .i64 7 u])], V := [], M := M, ds := [] }) [2, 3] [2, 3] [] (by kernel_rfl) (by kernel_rfl) ?_
  refine TI_end (by kernel_rfl) ?_
  refine thenQ_n ?_
  refine T_turn (turn_pubH 2 (c := [.one (.v (.pointer (some ⟨b, 0, none⟩)))]) (by kernel_rfl) (by kernel_rfl)) ?_
  rintro _ ⟨c0, M1, rfl, h10, h11, -, hM1⟩
  refine T_turn (turn_pubH 3 (c := [.arr .i64 7 u]) (by kernel_rfl) (by kernel_rfl)) ?_
  rintro _ ⟨x0, M2, rfl, h20, h21, -, hM2⟩
  have e1 : memCell M2 c0 0 = some (.pointer (some ⟨b, 0, none⟩)) := memCell_le hM2 (by rw [h11]; exact memCell_add rfl)
  have e2 : ∀ j, j < 7 → memCell M2 x0 j = some (.int .i64 (u.getD j 0)) := fun j hj => by
    rw [h21]
    refine memCell_add ?_
    have : (sgCells (fun _ => 0) (fun _ => Value.slice none 0 0) [.arr .i64 7 u]) = ints .i64 u := by simp [sgCells, Sg.cells]
    rw [this, List.getElem?_toArray]
    exact ints_get (by omega)
  refine T_seq (c1 := (sub [1, 0] (bodyOf Try.f77))) (c2 := (sub [1, 1] (bodyOf Try.f77))) (by kernel_rfl) ?_
  refine T_region (id := 1) (by kernel_rfl) ?_
  refine TI_segK (i := 0) (j := 2) (s' := { σ := [(4, .lf (.v (.func (.func 85) #[] #[.pointer (some ⟨c0, 0, none⟩), .pointer (some ⟨x0, 0, none⟩)])))], H := [], V := [], M := M2, ds := [] }) [4] [] [] (by kernel_rfl) (by kernel_rfl) ?_
  refine TI_end (by kernel_rfl) ?_
  refine thenQ_n ?_
  refine T_ret (by kernel_rfl) ?_
  refine fin_ret (.lf (.v (.func (.func 85) #[] #[.pointer (some ⟨c0, 0, none⟩), .pointer (some ⟨x0, 0, none⟩)]))) (by kernel_rfl) (by kernel_rfl) rfl ?_
  exact ⟨[.pointer (some ⟨c0, 0, none⟩), .pointer (some ⟨x0, 0, none⟩)], rfl, w85 k (hu.le (Mem.le_trans hM1 hM2)) e1 (e2 4 (by omega)) (e2 5 (by omega)) hn h⟩
end Go.Proofs.Ythjkejbgknemgaa
