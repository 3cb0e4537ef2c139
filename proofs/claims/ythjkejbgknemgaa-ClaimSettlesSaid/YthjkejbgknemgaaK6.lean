/- The law ClaimSettles holds of every input. No condition: every theorem names its own hypotheses. -/
import Derived.Test.YthjkejbgknemgaaK5
import Derived.Test.YthjkejbgknemgaaProg
import Derived.Test.YthjkejbgknemgaaRows
set_option linter.unusedVariables false
set_option linter.unusedSimpArgs false
set_option maxHeartbeats 4000000
namespace Go.Proofs.Ythjkejbgknemgaa
open Go.RowKit
def p43 (k : Nat) (u0_0 : List (List Int)) (u0_1 : List Int) (u1 : List Int) : Option (Option CT × Int) :=
 cl2 (p46 k u0_0 u0_1) fun v2 v3 => lt' (v3 != (0 : Int)) fun b6 => sp b6 (some (none,v3)) (cl (p32 k u1) fun v7 => some (v2,v7))
theorem hf43 : Try.prog.funcs[43]? = some Try.f43 := by kernel_rfl
theorem w43 (k : Nat) {M : Mem} {Au0_0 : Option Addr} {cu0_0 : Nat} {u0_0 : List (List Int)} {u0_1 : List Int} {u1 : List Int} (hu0_0 : SlR M Au0_0 cu0_0 .i64 11 u0_0) (hu0_1 : u0_1.length = 4) (hu1 : u1.length = 7) {r} (h : p43 k u0_0 u0_1 u1 = some r) :
  Fn Try.prog 43 [rval (.agg [.one (.v (.slice Au0_0 (List.length u0_0) cu0_0)),.arr .i64 4 u0_1]),rval (.agg [.arr .i64 7 u1])] M (fun x M' => ∃ (q1 : Value),x = .tup [(some (.v q1),[]),(some (.v (.int .i64 r.2)),[])] ∧ PtrR M' q1 r.1) := by
 unfold p43 at h
 refine Fn_of (P:=Try.prog) (fn:=Try.f43) (c:=bodyOf Try.f43) [.agg [.one (.v (.slice Au0_0 (List.length u0_0) cu0_0)),.arr .i64 4 u0_1],.agg [.arr .i64 7 u1]] hf43 (by kernel_rfl) (Nat.le_of_ble_eq_true (by kernel_rfl)) (args_ok (by kernel_rfl) ⟨⟨rfl,⟨hu0_1,trivial⟩⟩,⟨⟨hu1,trivial⟩,trivial⟩⟩) fun w => ?_
 change T _ _ _ (endQ _ _ _)
 refine T_seq (c1:=(sub [0] (bodyOf Try.f43))) (c2:=(sub [1] (bodyOf Try.f43))) (by kernel_rfl) ?_
 refine T_region (id:=0) (by kernel_rfl) ?_
 refine TI_segK (i:=0) (j:=4) (s':={ σ := [(2,.lf (.own 2 0)),(3,.lf (.own 3 0))],H := [(2,[.one (.v (.slice Au0_0 (List.length u0_0) cu0_0)),.arr .i64 4 u0_1]),(3,[.arr .i64 7 u1])],V := [],M := M,ds := [] }) [2,3] [2,3] [] (by kernel_rfl) (by kernel_rfl) ?_
 refine TI_end (by kernel_rfl) ?_
 refine thenQ_n ?_
 refine T_seq (c1:=(sub [1,0] (bodyOf Try.f43))) (c2:=(sub [1,1] (bodyOf Try.f43))) (by kernel_rfl) ?_
 refine T_region (id:=1) (by kernel_rfl) ?_
 refine TI_segK (i:=0) (j:=1) (s':={ σ := [(3,.lf (.own 3 0)),(9,.agg [.one (.v (.slice Au0_0 (List.length u0_0) cu0_0)),.arr .i64 4 u0_1])],H := [(3,[.arr .i64 7 u1])],V := [],M := M,ds := [] }) [3,9] [3] [] (by kernel_rfl) (by kernel_rfl) ?_
 obtain ⟨v2,v3,c_v2,h⟩ := cl2_some h
 refine TI_of (i:=1) (by kernel_rfl) (TE_callR (d:=10) (f:=46) (args:=[rval (.agg [.one (.v (.slice Au0_0 (List.length u0_0) cu0_0)),.arr .i64 4 u0_1])]) (by kernel_rfl) (by kernel_rfl) (w46 k hu0_0 hu0_1 c_v2) ?_)
 rintro _ M5 _ hM5 _ ⟨q4,rfl,fq4⟩
 refine TI_segK (i:=2) (j:=7) (s':={ σ := [(3,.lf (.own 3 0)),(6,.lf (.v q4)),(7,.lf (.v (.int .i64 v3)))],H := [(3,[.arr .i64 7 u1])],V := [],M := M5,ds := [] }) [3,6,7] [3] [] (by kernel_rfl) (by kernel_rfl) ?_
 refine TI_end (by kernel_rfl) ?_
 refine thenQ_n ?_
 refine T_seq (c1:=(sub [1,1,0] (bodyOf Try.f43))) (c2:=(sub [1,1,1] (bodyOf Try.f43))) (by kernel_rfl) ?_
 refine T_seq (c1:=(sub [1,1,0,0] (bodyOf Try.f43))) (c2:=(sub [1,1,0,1] (bodyOf Try.f43))) (by kernel_rfl) ?_
 refine T_region (id:=2) (by kernel_rfl) ?_
 obtain ⟨b6,e_b6,h⟩ := lt_some h
 refine TI_segK (i:=0) (j:=2) (s':={ σ := [(3,.lf (.own 3 0)),(6,.lf (.v q4)),(7,.lf (.v (.int .i64 v3))),(14,.lf (.v (.bool b6)))],H := [(3,[.arr .i64 7 u1])],V := [],M := M5,ds := [] }) [3,6,7,14] [3] [] (by subst e_b6;kernel_rfl) (by kernel_rfl) ?_
 refine TI_end (by kernel_rfl) ?_
 refine thenQ_n ?_
 cases b6 with
 | true =>
  replace h := sp_t h
  refine T_condT (x:=(.tmp 14)) (c1:=(sub [1,1,0,1,0] (bodyOf Try.f43))) (c2:=(sub [1,1,0,1,1] (bodyOf Try.f43))) (by kernel_rfl) (by kernel_rfl) ?_
  refine T_keep (s':={ σ := [(7,.lf (.v (.int .i64 v3)))],H := [],V := [],M := M5,ds := [] }) [7] [] [] (by kernel_rfl) ?_
  refine T_seq (c1:=(sub [1,1,0,1,0,0] (bodyOf Try.f43))) (c2:=(sub [1,1,0,1,0,1] (bodyOf Try.f43))) (by kernel_rfl) ?_
  refine T_region (id:=3) (by kernel_rfl) ?_
  refine TI_segK (i:=0) (j:=3) (s':={ σ := [(4,.lf (.v (.pointer none))),(5,.lf (.v (.int .i64 v3)))],H := [],V := [],M := M5,ds := [] }) [4,5] [] [] (by kernel_rfl) (by kernel_rfl) ?_
  refine TI_end (by kernel_rfl) ?_
  refine thenQ_n ?_
  refine T_ret (by kernel_rfl) ?_
  refine thenQ_r ?_
  have h := Option.some.inj h
  subst h
  refine fin_ret (.tup [(some (.v (.pointer none)),[]),(some (.v (.int .i64 v3)),[])]) (by kernel_rfl) (by kernel_rfl) rfl ?_
  exact ⟨(.pointer none),rfl,rfl⟩
 | false =>
  replace h := sp_f h
  refine T_condF (x:=(.tmp 14)) (c1:=(sub [1,1,0,1,0] (bodyOf Try.f43))) (c2:=(sub [1,1,0,1,1] (bodyOf Try.f43))) (by kernel_rfl) (by kernel_rfl) ?_
  refine T_keep (s':={ σ := [(3,.lf (.own 3 0)),(6,.lf (.v q4))],H := [(3,[.arr .i64 7 u1])],V := [],M := M5,ds := [] }) [3,6] [3] [] (by kernel_rfl) ?_
  refine T_skip (by kernel_rfl) ?_
  refine thenQ_n ?_
  refine T_seq (c1:=(sub [1,1,1,0] (bodyOf Try.f43))) (c2:=(sub [1,1,1,1] (bodyOf Try.f43))) (by kernel_rfl) ?_
  refine T_region (id:=4) (by kernel_rfl) ?_
  refine TI_segK (i:=0) (j:=2) (s':={ σ := [(16,.lf (.v q4)),(17,.agg [.arr .i64 7 u1])],H := [],V := [],M := M5,ds := [] }) [16,17] [] [] (by kernel_rfl) (by kernel_rfl) ?_
  obtain ⟨v7,c_v7,h⟩ := cl_some h
  refine TI_at (i:=2) (d:=18) (x:=.lf (.v (.int .i64 v7))) (At_call (d:=18) (f:=32) (args:=[rval (.agg [.arr .i64 7 u1])]) (x:=.lf (.v (.int .i64 v7))) (by kernel_rfl) (w32 k hu1 c_v7)) (by kernel_rfl) trivial ?_
  refine TI_segK (i:=3) (j:=5) (s':={ σ := [(4,.lf (.v q4)),(5,.lf (.v (.int .i64 v7)))],H := [],V := [],M := M5,ds := [] }) [4,5] [] [] (by kernel_rfl) (by kernel_rfl) ?_
  refine TI_end (by kernel_rfl) ?_
  refine thenQ_n ?_
  refine T_ret (by kernel_rfl) ?_
  have h := Option.some.inj h
  subst h
  refine fin_ret (.tup [(some (.v q4),[]),(some (.v (.int .i64 v7)),[])]) (by kernel_rfl) (by kernel_rfl) rfl ?_
  exact ⟨q4,rfl,fq4⟩
def p23 (k : Nat) (u0_0 : List (List Int)) (u0_1 : List Int) : Option (Int × Int) :=
 cl2 (p46 k u0_0 u0_1) fun v1 v2 => lt' (v2 != (0 : Int)) fun b5 => sp b5 (some ((0 : Int),v2)) (cl v1 fun C6 => some ((List.length C6.2.2.2.1 : Int),(0 : Int)))
theorem hf23 : Try.prog.funcs[23]? = some Try.f23 := by kernel_rfl
theorem w23 (k : Nat) {M : Mem} {Au0_0 : Option Addr} {cu0_0 : Nat} {u0_0 : List (List Int)} {u0_1 : List Int} (hu0_0 : SlR M Au0_0 cu0_0 .i64 11 u0_0) (hu0_1 : u0_1.length = 4) {r} (h : p23 k u0_0 u0_1 = some r) :
  Fn Try.prog 23 [rval (.agg [.one (.v (.slice Au0_0 (List.length u0_0) cu0_0)),.arr .i64 4 u0_1])] M (fun x _ => x = .tup [(some (.v (.int .i64 r.1)),[]),(some (.v (.int .i64 r.2)),[])]) := by
 unfold p23 at h
 refine Fn_of (P:=Try.prog) (fn:=Try.f23) (c:=bodyOf Try.f23) [.agg [.one (.v (.slice Au0_0 (List.length u0_0) cu0_0)),.arr .i64 4 u0_1]] hf23 (by kernel_rfl) (Nat.le_of_ble_eq_true (by kernel_rfl)) (args_ok (by kernel_rfl) ⟨⟨rfl,⟨hu0_1,trivial⟩⟩,trivial⟩) fun w => ?_
 change T _ _ _ (endQ _ _ _)
 refine T_seq (c1:=(sub [0] (bodyOf Try.f23))) (c2:=(sub [1] (bodyOf Try.f23))) (by kernel_rfl) ?_
 refine T_region (id:=0) (by kernel_rfl) ?_
 refine TI_segK (i:=0) (j:=3) (s':={ σ := [(1,.lf (.own 1 0))],H := [(1,[.one (.v (.slice Au0_0 (List.length u0_0) cu0_0)),.arr .i64 4 u0_1])],V := [],M := M,ds := [] }) [1] [1] [] (by kernel_rfl) (by kernel_rfl) ?_
 refine TI_end (by kernel_rfl) ?_
 refine thenQ_n ?_
 refine T_seq (c1:=(sub [1,0] (bodyOf Try.f23))) (c2:=(sub [1,1] (bodyOf Try.f23))) (by kernel_rfl) ?_
 refine T_region (id:=1) (by kernel_rfl) ?_
 refine TI_segK (i:=0) (j:=1) (s':={ σ := [(7,.agg [.one (.v (.slice Au0_0 (List.length u0_0) cu0_0)),.arr .i64 4 u0_1])],H := [],V := [],M := M,ds := [] }) [7] [] [] (by kernel_rfl) (by kernel_rfl) ?_
 obtain ⟨v1,v2,c_v1,h⟩ := cl2_some h
 refine TI_of (i:=1) (by kernel_rfl) (TE_callR (d:=8) (f:=46) (args:=[rval (.agg [.one (.v (.slice Au0_0 (List.length u0_0) cu0_0)),.arr .i64 4 u0_1])]) (by kernel_rfl) (by kernel_rfl) (w46 k hu0_0 hu0_1 c_v1) ?_)
 rintro _ M4 _ hM4 _ ⟨q3,rfl,fq3⟩
 refine TI_segK (i:=2) (j:=7) (s':={ σ := [(4,.lf (.v q3)),(5,.lf (.v (.int .i64 v2)))],H := [],V := [],M := M4,ds := [] }) [4,5] [] [] (by kernel_rfl) (by kernel_rfl) ?_
 refine TI_end (by kernel_rfl) ?_
 refine thenQ_n ?_
 refine T_seq (c1:=(sub [1,1,0] (bodyOf Try.f23))) (c2:=(sub [1,1,1] (bodyOf Try.f23))) (by kernel_rfl) ?_
 refine T_seq (c1:=(sub [1,1,0,0] (bodyOf Try.f23))) (c2:=(sub [1,1,0,1] (bodyOf Try.f23))) (by kernel_rfl) ?_
 refine T_region (id:=2) (by kernel_rfl) ?_
 obtain ⟨b5,e_b5,h⟩ := lt_some h
 refine TI_segK (i:=0) (j:=2) (s':={ σ := [(4,.lf (.v q3)),(5,.lf (.v (.int .i64 v2))),(12,.lf (.v (.bool b5)))],H := [],V := [],M := M4,ds := [] }) [4,5,12] [] [] (by subst e_b5;kernel_rfl) (by kernel_rfl) ?_
 refine TI_end (by kernel_rfl) ?_
 refine thenQ_n ?_
 cases b5 with
 | true =>
  replace h := sp_t h
  refine T_condT (x:=(.tmp 12)) (c1:=(sub [1,1,0,1,0] (bodyOf Try.f23))) (c2:=(sub [1,1,0,1,1] (bodyOf Try.f23))) (by kernel_rfl) (by kernel_rfl) ?_
  refine T_keep (s':={ σ := [(5,.lf (.v (.int .i64 v2)))],H := [],V := [],M := M4,ds := [] }) [5] [] [] (by kernel_rfl) ?_
  refine T_seq (c1:=(sub [1,1,0,1,0,0] (bodyOf Try.f23))) (c2:=(sub [1,1,0,1,0,1] (bodyOf Try.f23))) (by kernel_rfl) ?_
  refine T_region (id:=3) (by kernel_rfl) ?_
  refine TI_segK (i:=0) (j:=3) (s':={ σ := [(2,.lf (.v (.int .i64 (0 : Int)))),(3,.lf (.v (.int .i64 v2)))],H := [],V := [],M := M4,ds := [] }) [2,3] [] [] (by kernel_rfl) (by kernel_rfl) ?_
  refine TI_end (by kernel_rfl) ?_
  refine thenQ_n ?_
  refine T_ret (by kernel_rfl) ?_
  refine thenQ_r ?_
  have h := Option.some.inj h
  subst h
  refine fin_ret (.tup [(some (.v (.int .i64 (0 : Int))),[]),(some (.v (.int .i64 v2)),[])]) (by kernel_rfl) (by kernel_rfl) rfl ?_
  rfl
 | false =>
  replace h := sp_f h
  refine T_condF (x:=(.tmp 12)) (c1:=(sub [1,1,0,1,0] (bodyOf Try.f23))) (c2:=(sub [1,1,0,1,1] (bodyOf Try.f23))) (by kernel_rfl) (by kernel_rfl) ?_
  refine T_keep (s':={ σ := [(4,.lf (.v q3))],H := [],V := [],M := M4,ds := [] }) [4] [] [] (by kernel_rfl) ?_
  refine T_skip (by kernel_rfl) ?_
  refine thenQ_n ?_
  obtain ⟨C6,e_C6,h⟩ := cl_some h
  have hC6 := fq3
  rw [e_C6] at hC6
  obtain ⟨C6b,C6A,C6c,C6AP,C6cP,C6AV,C6cV,rfl,hC6⟩ := hC6
  refine T_seq (c1:=(sub [1,1,1,0] (bodyOf Try.f23))) (c2:=(sub [1,1,1,1] (bodyOf Try.f23))) (by kernel_rfl) ?_
  refine T_region (id:=4) (by kernel_rfl) ?_
  refine TI_segK (i:=0) (j:=3) (s':={ σ := [(16,.lf (.v (.pointer (some ⟨C6b,6,none⟩))))],H := [],V := [],M := M4,ds := [] }) [16] [] [] (by kernel_rfl) (by kernel_rfl) ?_
  refine TI_at (i:=3) (d:=17) (x:=.lf (.v (.slice C6AP (List.length C6.2.2.2.1) C6cP))) (by exact At_ldP (d:=17) (b:=C6b) (off:=6) (m:=1) (v:=(.slice C6AP (List.length C6.2.2.2.1) C6cP)) (by kernel_rfl) (hC6).plc) (by kernel_rfl) trivial ?_
  refine TI_segK (i:=4) (j:=7) (s':={ σ := [(2,.lf (.v (.int .i64 (List.length C6.2.2.2.1 : Int)))),(3,.lf (.v (.int .i64 (0 : Int))))],H := [],V := [],M := M4,ds := [] }) [2,3] [] [] (by kernel_rfl) (by kernel_rfl) ?_
  refine TI_end (by kernel_rfl) ?_
  refine thenQ_n ?_
  refine T_ret (by kernel_rfl) ?_
  have h := Option.some.inj h
  subst h
  refine fin_ret (.tup [(some (.v (.int .i64 (List.length C6.2.2.2.1 : Int))),[]),(some (.v (.int .i64 (0 : Int))),[])]) (by kernel_rfl) (by kernel_rfl) rfl ?_
  rfl
def p14 (k : Nat) (u0_0 : List (List Int)) (u0_1 : List Int) (u1 : List Int) : Option (Int × Int) :=
 cl2 (p43 k u0_0 u0_1 u1) fun v1 v2 => lt' (v2 != (0 : Int)) fun b5 => sp b5 (some ((0 : Int),v2)) (cl v1 fun C6 => cl (p44 k C6.1 C6.2.1 C6.2.2.1 C6.2.2.2.1 C6.2.2.2.2 u1) fun v7 => some (v7,(0 : Int)))
theorem hf14 : Try.prog.funcs[14]? = some Try.f14 := by kernel_rfl
theorem w14 (k : Nat) {M : Mem} {Au0_0 : Option Addr} {cu0_0 : Nat} {u0_0 : List (List Int)} {u0_1 : List Int} {u1 : List Int} (hu0_0 : SlR M Au0_0 cu0_0 .i64 11 u0_0) (hu0_1 : u0_1.length = 4) (hu1 : u1.length = 7) {r} (h : p14 k u0_0 u0_1 u1 = some r) :
  Fn Try.prog 14 [rval (.agg [.one (.v (.slice Au0_0 (List.length u0_0) cu0_0)),.arr .i64 4 u0_1]),rval (.agg [.arr .i64 7 u1])] M (fun x _ => x = .tup [(some (.v (.int .i64 r.1)),[]),(some (.v (.int .i64 r.2)),[])]) := by
 unfold p14 at h
 refine Fn_of (P:=Try.prog) (fn:=Try.f14) (c:=bodyOf Try.f14) [.agg [.one (.v (.slice Au0_0 (List.length u0_0) cu0_0)),.arr .i64 4 u0_1],.agg [.arr .i64 7 u1]] hf14 (by kernel_rfl) (Nat.le_of_ble_eq_true (by kernel_rfl)) (args_ok (by kernel_rfl) ⟨⟨rfl,⟨hu0_1,trivial⟩⟩,⟨⟨hu1,trivial⟩,trivial⟩⟩) fun w => ?_
 change T _ _ _ (endQ _ _ _)
 refine T_seq (c1:=(sub [0] (bodyOf Try.f14))) (c2:=(sub [1] (bodyOf Try.f14))) (by kernel_rfl) ?_
 refine T_region (id:=0) (by kernel_rfl) ?_
 refine TI_segK (i:=0) (j:=4) (s':={ σ := [(2,.lf (.own 2 0)),(3,.lf (.own 3 0))],H := [(2,[.one (.v (.slice Au0_0 (List.length u0_0) cu0_0)),.arr .i64 4 u0_1]),(3,[.arr .i64 7 u1])],V := [],M := M,ds := [] }) [2,3] [2,3] [] (by kernel_rfl) (by kernel_rfl) ?_
 refine TI_end (by kernel_rfl) ?_
 refine thenQ_n ?_
 refine T_seq (c1:=(sub [1,0] (bodyOf Try.f14))) (c2:=(sub [1,1] (bodyOf Try.f14))) (by kernel_rfl) ?_
 refine T_region (id:=1) (by kernel_rfl) ?_
 refine TI_segK (i:=0) (j:=2) (s':={ σ := [(3,.lf (.own 3 0)),(9,.agg [.one (.v (.slice Au0_0 (List.length u0_0) cu0_0)),.arr .i64 4 u0_1]),(10,.agg [.arr .i64 7 u1])],H := [(3,[.arr .i64 7 u1])],V := [],M := M,ds := [] }) [3,9,10] [3] [] (by kernel_rfl) (by kernel_rfl) ?_
 obtain ⟨v1,v2,c_v1,h⟩ := cl2_some h
 refine TI_of (i:=2) (by kernel_rfl) (TE_callR (d:=11) (f:=43) (args:=[rval (.agg [.one (.v (.slice Au0_0 (List.length u0_0) cu0_0)),.arr .i64 4 u0_1]),rval (.agg [.arr .i64 7 u1])]) (by kernel_rfl) (by kernel_rfl) (w43 k hu0_0 hu0_1 hu1 c_v1) ?_)
 rintro _ M4 _ hM4 _ ⟨q3,rfl,fq3⟩
 refine TI_segK (i:=3) (j:=8) (s':={ σ := [(3,.lf (.own 3 0)),(6,.lf (.v q3)),(7,.lf (.v (.int .i64 v2)))],H := [(3,[.arr .i64 7 u1])],V := [],M := M4,ds := [] }) [3,6,7] [3] [] (by kernel_rfl) (by kernel_rfl) ?_
 refine TI_end (by kernel_rfl) ?_
 refine thenQ_n ?_
 refine T_seq (c1:=(sub [1,1,0] (bodyOf Try.f14))) (c2:=(sub [1,1,1] (bodyOf Try.f14))) (by kernel_rfl) ?_
 refine T_seq (c1:=(sub [1,1,0,0] (bodyOf Try.f14))) (c2:=(sub [1,1,0,1] (bodyOf Try.f14))) (by kernel_rfl) ?_
 refine T_region (id:=2) (by kernel_rfl) ?_
 obtain ⟨b5,e_b5,h⟩ := lt_some h
 refine TI_segK (i:=0) (j:=2) (s':={ σ := [(3,.lf (.own 3 0)),(6,.lf (.v q3)),(7,.lf (.v (.int .i64 v2))),(15,.lf (.v (.bool b5)))],H := [(3,[.arr .i64 7 u1])],V := [],M := M4,ds := [] }) [3,6,7,15] [3] [] (by subst e_b5;kernel_rfl) (by kernel_rfl) ?_
 refine TI_end (by kernel_rfl) ?_
 refine thenQ_n ?_
 cases b5 with
 | true =>
  replace h := sp_t h
  refine T_condT (x:=(.tmp 15)) (c1:=(sub [1,1,0,1,0] (bodyOf Try.f14))) (c2:=(sub [1,1,0,1,1] (bodyOf Try.f14))) (by kernel_rfl) (by kernel_rfl) ?_
  refine T_keep (s':={ σ := [(7,.lf (.v (.int .i64 v2)))],H := [],V := [],M := M4,ds := [] }) [7] [] [] (by kernel_rfl) ?_
  refine T_seq (c1:=(sub [1,1,0,1,0,0] (bodyOf Try.f14))) (c2:=(sub [1,1,0,1,0,1] (bodyOf Try.f14))) (by kernel_rfl) ?_
  refine T_region (id:=3) (by kernel_rfl) ?_
  refine TI_segK (i:=0) (j:=3) (s':={ σ := [(4,.lf (.v (.int .i64 (0 : Int)))),(5,.lf (.v (.int .i64 v2)))],H := [],V := [],M := M4,ds := [] }) [4,5] [] [] (by kernel_rfl) (by kernel_rfl) ?_
  refine TI_end (by kernel_rfl) ?_
  refine thenQ_n ?_
  refine T_ret (by kernel_rfl) ?_
  refine thenQ_r ?_
  have h := Option.some.inj h
  subst h
  refine fin_ret (.tup [(some (.v (.int .i64 (0 : Int))),[]),(some (.v (.int .i64 v2)),[])]) (by kernel_rfl) (by kernel_rfl) rfl ?_
  rfl
 | false =>
  replace h := sp_f h
  refine T_condF (x:=(.tmp 15)) (c1:=(sub [1,1,0,1,0] (bodyOf Try.f14))) (c2:=(sub [1,1,0,1,1] (bodyOf Try.f14))) (by kernel_rfl) (by kernel_rfl) ?_
  refine T_keep (s':={ σ := [(3,.lf (.own 3 0)),(6,.lf (.v q3))],H := [(3,[.arr .i64 7 u1])],V := [],M := M4,ds := [] }) [3,6] [3] [] (by kernel_rfl) ?_
  refine T_skip (by kernel_rfl) ?_
  refine thenQ_n ?_
  obtain ⟨C6,e_C6,h⟩ := cl_some h
  have hC6 := fq3
  rw [e_C6] at hC6
  obtain ⟨C6b,C6A,C6c,C6AP,C6cP,C6AV,C6cV,rfl,hC6⟩ := hC6
  refine T_seq (c1:=(sub [1,1,1,0] (bodyOf Try.f14))) (c2:=(sub [1,1,1,1] (bodyOf Try.f14))) (by kernel_rfl) ?_
  refine T_region (id:=4) (by kernel_rfl) ?_
  refine TI_segK (i:=0) (j:=2) (s':={ σ := [(17,.lf (.v (.pointer (some ⟨C6b,0,none⟩)))),(18,.agg [.arr .i64 7 u1])],H := [],V := [],M := M4,ds := [] }) [17,18] [] [] (by kernel_rfl) (by kernel_rfl) ?_
  obtain ⟨v7,c_v7,h⟩ := cl_some h
  refine TI_at (i:=2) (d:=19) (x:=.lf (.v (.int .i64 v7))) (At_call (d:=19) (f:=44) (args:=[rval (.lf (.v (.pointer (some ⟨C6b,0,none⟩)))),rval (.agg [.arr .i64 7 u1])]) (x:=.lf (.v (.int .i64 v7))) (by kernel_rfl) (w44 k hC6 hu1 c_v7)) (by kernel_rfl) trivial ?_
  refine TI_segK (i:=3) (j:=5) (s':={ σ := [(4,.lf (.v (.int .i64 v7))),(5,.lf (.v (.int .i64 (0 : Int))))],H := [],V := [],M := M4,ds := [] }) [4,5] [] [] (by kernel_rfl) (by kernel_rfl) ?_
  refine TI_end (by kernel_rfl) ?_
  refine thenQ_n ?_
  refine T_ret (by kernel_rfl) ?_
  have h := Option.some.inj h
  subst h
  refine fin_ret (.tup [(some (.v (.int .i64 v7)),[]),(some (.v (.int .i64 (0 : Int))),[])]) (by kernel_rfl) (by kernel_rfl) rfl ?_
  rfl
def p19_l1 (k : Nat) (u1 : List (List Int)) (u2 : Int) (j19 : Int → List Int → Option (List Int × Int)) (C16 : CT) : Nat → Int → Int → List Int → Option (List Int × Int)
 | 0,_,_,_ => none
 | n23 + 1,x20,x21,L22 => lt' (decide (x21 < (List.length u1 : Int))) fun b24 => sp b24 (gd ((0 : Int) ≤ x21 ∧ x21 < (List.length u1 : Int)) <| lt' (List.getD u1 ((x21).toNat) []) fun L26 => lt' (List.getD L26 6 0) fun x27 => cl (p44 k C16.1 C16.2.1 C16.2.2.1 C16.2.2.2.1 C16.2.2.2.2 L26) fun v28 => gd ((0 : Int) ≤ v28 ∧ v28 < ((3 : Nat) : Int)) <| lt' (List.getD ([u2,(1000 : Int),(0 : Int)]) (0 + (v28).toNat * 1) 0) fun x30 => lt' (wr .i64 (x27 * x30)) fun x31 => lt' (wr .i64 (Int.tdiv x31 (1000 : Int))) fun x32 => gd ((0 : Int) ≤ x21 ∧ x21 < (List.length L22 : Int)) <| lt' (List.set L22 ((x21).toNat) x32) fun L34 => gd ((0 : Int) ≤ x21 ∧ x21 < (List.length L34 : Int)) <| lt' (List.getD L34 ((x21).toNat) 0) fun x36 => lt' (wr .i64 (x20 + x36)) fun x37 => lt' (wr .i64 (x21 + (1 : Int))) fun x38 => p19_l1 k u1 u2 j19 C16 n23 x37 x38 L34) (j19 x20 L22)
def p19_l2 (k : Nat) (u3 : Int) (x17 : Int) (L18 : List Int) (j47 : Int → List Int → Option (List Int × Int)) : Nat → Int → Int → List Int → Option (List Int × Int)
 | 0,_,_,_ => none
 | n51 + 1,x48,x49,L50 => lt' (decide (x49 < (List.length L18 : Int))) fun b52 => sp b52 (gd ((0 : Int) ≤ x49 ∧ x49 < (List.length L18 : Int)) <| lt' (List.getD L18 ((x49).toNat) 0) fun x54 => lt' (wr .i64 (x54 * u3)) fun x55 => gd (x17 ≠ 0) <| lt' (wr .i64 (Int.tdiv x55 x17)) fun x57 => gd ((0 : Int) ≤ x49 ∧ x49 < (List.length L50 : Int)) <| lt' (List.set L50 ((x49).toNat) x57) fun L59 => gd ((0 : Int) ≤ x49 ∧ x49 < (List.length L59 : Int)) <| lt' (List.getD L59 ((x49).toNat) 0) fun x61 => lt' (wr .i64 (x48 - x61)) fun x62 => lt' (wr .i64 (x49 + (1 : Int))) fun x63 => p19_l2 k u3 x17 L18 j47 n51 x62 x63 L59) (j47 x48 L50)
def p19_l3 (k : Nat) (L18 : List Int) (L46 : List Int) (j65 : List Int → Option (List Int × Int)) : Nat → Int → Int → List Int → Option (List Int × Int)
 | 0,_,_,_ => none
 | n69 + 1,x66,x67,L68 => lt' (decide (x67 < (List.length L46 : Int))) fun b70 => sp b70 (jn (fun (x71 : Int) (L72 : List Int) => lt' (wr .i64 (x67 + (1 : Int))) fun x88 => p19_l3 k L18 L46 j65 n69 x71 x88 L72) fun j73 => jn (fun (b74 : Bool) => sp b74 (gd ((0 : Int) ≤ x67 ∧ x67 < (List.length L68 : Int)) <| lt' (List.getD L68 ((x67).toNat) 0) fun x83 => lt' (wr .i64 (x83 + (1 : Int))) fun x84 => gd ((0 : Int) ≤ x67 ∧ x67 < (List.length L68 : Int)) <| lt' (List.set L68 ((x67).toNat) x84) fun L86 => lt' (wr .i64 (x66 - (1 : Int))) fun x87 => j73 x87 L86) (j73 x66 L68)) fun j75 => lt' (decide (x66 > (0 : Int))) fun b76 => sp b76 (gd ((0 : Int) ≤ x67 ∧ x67 < (List.length L68 : Int)) <| lt' (List.getD L68 ((x67).toNat) 0) fun x78 => gd ((0 : Int) ≤ x67 ∧ x67 < (List.length L18 : Int)) <| lt' (List.getD L18 ((x67).toNat) 0) fun x80 => lt' (decide (x78 < x80)) fun b81 => j75 b81) (j75 false)) (j65 L68)
def p19 (k : Nat) (u0_0 : List (List Int)) (u0_1 : List Int) (u1 : List (List Int)) (u2 : Int) (u3 : Int) : Option (List Int × Int) :=
 cl2 (p46 k u0_0 u0_1) fun v3 v4 => lt' (v4 != (0 : Int)) fun b7 => sp b7 (some (([] : List Int),v4)) (lt' (decide ((List.length u1 : Int) > (32 : Int))) fun b8 => sp b8 (some (([] : List Int),(6 : Int))) (jn (fun (b9 : Bool) => sp b9 (some (([] : List Int),(2 : Int))) (gd ((0 : Int) ≤ (List.length u1 : Int) ∧ 8 * ((List.length u1 : Int)).toNat ≤ 281474976710656) <| lt' (List.replicate ((List.length u1 : Int)).toNat (0 : Int)) fun W15 => cl v3 fun C16 => jn (fun (x17 : Int) (L18 : List Int) => lt' (decide (x17 ≤ u3)) fun b39 => sp b39 (some (L18,(0 : Int))) (gd ((0 : Int) ≤ (List.length L18 : Int) ∧ 8 * ((List.length L18 : Int)).toNat ≤ 281474976710656) <| lt' (List.replicate ((List.length L18 : Int)).toNat (0 : Int)) fun W44 => jn (fun (x45 : Int) (L46 : List Int) => jn (fun (L64 : List Int) => some (L64,(0 : Int))) fun j65 => p19_l3 k L18 L46 j65 k x45 (0 : Int) L46) fun j47 => p19_l2 k u3 x17 L18 j47 k u3 (0 : Int) W44)) fun j19 => p19_l1 k u1 u2 j19 C16 k (0 : Int) (0 : Int) W15)) fun j10 => cl (p47 k u1) fun v11 => sp v11 (j10 true) (cl (p49 k u2 (0 : Int) (1000 : Int)) fun v12 => sp v12 (cl (p49 k u3 (0 : Int) (1099511627776 : Int)) fun v13 => j10 (!v13)) (j10 true))))
theorem hf19 : Try.prog.funcs[19]? = some Try.f19 := by kernel_rfl
theorem w19 (k : Nat) {M : Mem} {Au0_0 : Option Addr} {cu0_0 : Nat} {Au1 : Option Addr} {cu1 : Nat} {u0_0 : List (List Int)} {u0_1 : List Int} {u1 : List (List Int)} {u2 : Int} {u3 : Int} (hu0_0 : SlR M Au0_0 cu0_0 .i64 11 u0_0) (hu0_1 : u0_1.length = 4) (hu1 : SlR M Au1 cu1 .i64 7 u1) {r} (h : p19 k u0_0 u0_1 u1 u2 u3 = some r) :
  Fn Try.prog 19 [rval (.agg [.one (.v (.slice Au0_0 (List.length u0_0) cu0_0)),.arr .i64 4 u0_1]),rval (.lf (.v (.slice Au1 (List.length u1) cu1))),rval (.lf (.v (.int .i64 u2))),rval (.lf (.v (.int .i64 u3)))] M (fun x M' => ∃ (A1 : Option Addr) (c2 : Nat),x = .tup [(some (.v (.slice A1 (List.length r.1) c2)),[]),(some (.v (.int .i64 r.2)),[])] ∧ SlI M' A1 c2 .i64 r.1) := by
 unfold p19 at h
 refine Fn_of (P:=Try.prog) (fn:=Try.f19) (c:=bodyOf Try.f19) [.agg [.one (.v (.slice Au0_0 (List.length u0_0) cu0_0)),.arr .i64 4 u0_1],.lf (.v (.slice Au1 (List.length u1) cu1)),.lf (.v (.int .i64 u2)),.lf (.v (.int .i64 u3))] hf19 (by kernel_rfl) (Nat.le_of_ble_eq_true (by kernel_rfl)) (args_ok (by kernel_rfl) ⟨⟨rfl,⟨hu0_1,trivial⟩⟩,⟨trivial,⟨trivial,⟨trivial,trivial⟩⟩⟩⟩) fun w => ?_
 change T _ _ _ (endQ _ _ _)
 refine T_seq (c1:=(sub [0] (bodyOf Try.f19))) (c2:=(sub [1] (bodyOf Try.f19))) (by kernel_rfl) ?_
 refine T_region (id:=0) (by kernel_rfl) ?_
 refine TI_segK (i:=0) (j:=3) (s':={ σ := [(1,.lf (.v (.slice Au1 (List.length u1) cu1))),(2,.lf (.v (.int .i64 u2))),(3,.lf (.v (.int .i64 u3))),(4,.lf (.own 4 0))],H := [(4,[.one (.v (.slice Au0_0 (List.length u0_0) cu0_0)),.arr .i64 4 u0_1])],V := [],M := M,ds := [] }) [1,2,3,4] [4] [] (by kernel_rfl) (by kernel_rfl) ?_
 refine TI_end (by kernel_rfl) ?_
 refine thenQ_n ?_
 refine T_seq (c1:=(sub [1,0] (bodyOf Try.f19))) (c2:=(sub [1,1] (bodyOf Try.f19))) (by kernel_rfl) ?_
 refine T_region (id:=1) (by kernel_rfl) ?_
 refine TI_segK (i:=0) (j:=1) (s':={ σ := [(1,.lf (.v (.slice Au1 (List.length u1) cu1))),(2,.lf (.v (.int .i64 u2))),(3,.lf (.v (.int .i64 u3))),(23,.agg [.one (.v (.slice Au0_0 (List.length u0_0) cu0_0)),.arr .i64 4 u0_1])],H := [],V := [],M := M,ds := [] }) [1,2,3,23] [] [] (by kernel_rfl) (by kernel_rfl) ?_
 obtain ⟨v3,v4,c_v3,h⟩ := cl2_some h
 refine TI_of (i:=1) (by kernel_rfl) (TE_callR (d:=24) (f:=46) (args:=[rval (.agg [.one (.v (.slice Au0_0 (List.length u0_0) cu0_0)),.arr .i64 4 u0_1])]) (by kernel_rfl) (by kernel_rfl) (w46 k hu0_0 hu0_1 c_v3) ?_)
 rintro _ M6 _ hM6 _ ⟨q5,rfl,fq5⟩
 refine TI_segK (i:=2) (j:=7) (s':={ σ := [(1,.lf (.v (.slice Au1 (List.length u1) cu1))),(2,.lf (.v (.int .i64 u2))),(3,.lf (.v (.int .i64 u3))),(10,.lf (.v q5)),(11,.lf (.v (.int .i64 v4)))],H := [],V := [],M := M6,ds := [] }) [1,2,3,10,11] [] [] (by kernel_rfl) (by kernel_rfl) ?_
 refine TI_end (by kernel_rfl) ?_
 refine thenQ_n ?_
 refine T_seq (c1:=(sub [1,1,0] (bodyOf Try.f19))) (c2:=(sub [1,1,1] (bodyOf Try.f19))) (by kernel_rfl) ?_
 refine T_seq (c1:=(sub [1,1,0,0] (bodyOf Try.f19))) (c2:=(sub [1,1,0,1] (bodyOf Try.f19))) (by kernel_rfl) ?_
 refine T_region (id:=2) (by kernel_rfl) ?_
 obtain ⟨b7,e_b7,h⟩ := lt_some h
 refine TI_segK (i:=0) (j:=2) (s':={ σ := [(1,.lf (.v (.slice Au1 (List.length u1) cu1))),(2,.lf (.v (.int .i64 u2))),(3,.lf (.v (.int .i64 u3))),(10,.lf (.v q5)),(11,.lf (.v (.int .i64 v4))),(28,.lf (.v (.bool b7)))],H := [],V := [],M := M6,ds := [] }) [1,2,3,10,11,28] [] [] (by subst e_b7;kernel_rfl) (by kernel_rfl) ?_
 refine TI_end (by kernel_rfl) ?_
 refine thenQ_n ?_
 cases b7 with
 | true =>
  replace h := sp_t h
  refine T_condT (x:=(.tmp 28)) (c1:=(sub [1,1,0,1,0] (bodyOf Try.f19))) (c2:=(sub [1,1,0,1,1] (bodyOf Try.f19))) (by kernel_rfl) (by kernel_rfl) ?_
  refine T_keep (s':={ σ := [(11,.lf (.v (.int .i64 v4)))],H := [],V := [],M := M6,ds := [] }) [11] [] [] (by kernel_rfl) ?_
  refine T_seq (c1:=(sub [1,1,0,1,0,0] (bodyOf Try.f19))) (c2:=(sub [1,1,0,1,0,1] (bodyOf Try.f19))) (by kernel_rfl) ?_
  refine T_region (id:=3) (by kernel_rfl) ?_
  refine TI_segK (i:=0) (j:=3) (s':={ σ := [(8,.lf (.v (.slice none (List.length ([] : List Int)) 0))),(9,.lf (.v (.int .i64 v4)))],H := [],V := [],M := M6,ds := [] }) [8,9] [] [] (by kernel_rfl) (by kernel_rfl) ?_
  refine TI_end (by kernel_rfl) ?_
  refine thenQ_n ?_
  refine T_ret (by kernel_rfl) ?_
  refine thenQ_r ?_
  have h := Option.some.inj h
  subst h
  refine fin_ret (.tup [(some (.v (.slice none (List.length ([] : List Int)) 0)),[]),(some (.v (.int .i64 v4)),[])]) (by kernel_rfl) (by kernel_rfl) rfl ?_
  exact ⟨none,0,rfl,(nilI _ _ _)⟩
 | false =>
  replace h := sp_f h
  refine T_condF (x:=(.tmp 28)) (c1:=(sub [1,1,0,1,0] (bodyOf Try.f19))) (c2:=(sub [1,1,0,1,1] (bodyOf Try.f19))) (by kernel_rfl) (by kernel_rfl) ?_
  refine T_keep (s':={ σ := [(1,.lf (.v (.slice Au1 (List.length u1) cu1))),(2,.lf (.v (.int .i64 u2))),(3,.lf (.v (.int .i64 u3))),(10,.lf (.v q5))],H := [],V := [],M := M6,ds := [] }) [1,2,3,10] [] [] (by kernel_rfl) ?_
  refine T_skip (by kernel_rfl) ?_
  refine thenQ_n ?_
  refine T_seq (c1:=(sub [1,1,1,0] (bodyOf Try.f19))) (c2:=(sub [1,1,1,1] (bodyOf Try.f19))) (by kernel_rfl) ?_
  refine T_seq (c1:=(sub [1,1,1,0,0] (bodyOf Try.f19))) (c2:=(sub [1,1,1,0,1] (bodyOf Try.f19))) (by kernel_rfl) ?_
  refine T_region (id:=4) (by kernel_rfl) ?_
  obtain ⟨b8,e_b8,h⟩ := lt_some h
  refine TI_segK (i:=0) (j:=3) (s':={ σ := [(1,.lf (.v (.slice Au1 (List.length u1) cu1))),(2,.lf (.v (.int .i64 u2))),(3,.lf (.v (.int .i64 u3))),(10,.lf (.v q5)),(32,.lf (.v (.bool b8)))],H := [],V := [],M := M6,ds := [] }) [1,2,3,10,32] [] [] (by subst e_b8;kernel_rfl) (by kernel_rfl) ?_
  refine TI_end (by kernel_rfl) ?_
  refine thenQ_n ?_
  cases b8 with
  | true =>
   replace h := sp_t h
   refine T_condT (x:=(.tmp 32)) (c1:=(sub [1,1,1,0,1,0] (bodyOf Try.f19))) (c2:=(sub [1,1,1,0,1,1] (bodyOf Try.f19))) (by kernel_rfl) (by kernel_rfl) ?_
   refine T_keep (s':={ σ := [],H := [],V := [],M := M6,ds := [] }) [] [] [] (by kernel_rfl) ?_
   refine T_seq (c1:=(sub [1,1,1,0,1,0,0] (bodyOf Try.f19))) (c2:=(sub [1,1,1,0,1,0,1] (bodyOf Try.f19))) (by kernel_rfl) ?_
   refine T_region (id:=5) (by kernel_rfl) ?_
   refine TI_segK (i:=0) (j:=2) (s':={ σ := [(8,.lf (.v (.slice none (List.length ([] : List Int)) 0))),(9,.lf (.v (.int .i64 (6 : Int))))],H := [],V := [],M := M6,ds := [] }) [8,9] [] [] (by kernel_rfl) (by kernel_rfl) ?_
   refine TI_end (by kernel_rfl) ?_
   refine thenQ_n ?_
   refine T_ret (by kernel_rfl) ?_
   refine thenQ_r ?_
   have h := Option.some.inj h
   subst h
   refine fin_ret (.tup [(some (.v (.slice none (List.length ([] : List Int)) 0)),[]),(some (.v (.int .i64 (6 : Int))),[])]) (by kernel_rfl) (by kernel_rfl) rfl ?_
   exact ⟨none,0,rfl,(nilI _ _ _)⟩
  | false =>
   replace h := sp_f h
   refine T_condF (x:=(.tmp 32)) (c1:=(sub [1,1,1,0,1,0] (bodyOf Try.f19))) (c2:=(sub [1,1,1,0,1,1] (bodyOf Try.f19))) (by kernel_rfl) (by kernel_rfl) ?_
   refine T_keep (s':={ σ := [(1,.lf (.v (.slice Au1 (List.length u1) cu1))),(2,.lf (.v (.int .i64 u2))),(3,.lf (.v (.int .i64 u3))),(10,.lf (.v q5))],H := [],V := [],M := M6,ds := [] }) [1,2,3,10] [] [] (by kernel_rfl) ?_
   refine T_skip (by kernel_rfl) ?_
   refine thenQ_n ?_
   refine T_seq (c1:=(sub [1,1,1,1,0] (bodyOf Try.f19))) (c2:=(sub [1,1,1,1,1] (bodyOf Try.f19))) (by kernel_rfl) ?_
   obtain ⟨j10,e_j10,h⟩ := jn_some h
   refine T_cut (c1:=(sub [1,1,1,1,0,0] (bodyOf Try.f19))) (c2:=(sub [1,1,1,1,0,1] (bodyOf Try.f19))) (fun s' => ∃ (b9 : Bool),Sub { σ := [(1,.lf (.v (.slice Au1 (List.length u1) cu1))),(2,.lf (.v (.int .i64 u2))),(3,.lf (.v (.int .i64 u3))),(10,.lf (.v q5)),(44,.lf (.v (.bool b9)))],H := [],V := [],M := M6,ds := [] } s' ∧ j10 b9 = some r) (by kernel_rfl) ?_ ?_
   ·refine T_region (id:=6) (by kernel_rfl) ?_
    refine TI_segK (i:=0) (j:=1) (s':={ σ := [(1,.lf (.v (.slice Au1 (List.length u1) cu1))),(2,.lf (.v (.int .i64 u2))),(3,.lf (.v (.int .i64 u3))),(10,.lf (.v q5)),(33,.lf (.v (.slice Au1 (List.length u1) cu1)))],H := [],V := [],M := M6,ds := [] }) [1,2,3,10,33] [] [] (by kernel_rfl) (by kernel_rfl) ?_
    obtain ⟨v11,c_v11,h⟩ := cl_some h
    refine TI_at (i:=1) (d:=34) (x:=.lf (.v (.bool v11))) (At_call (d:=34) (f:=47) (args:=[rval (.lf (.v (.slice Au1 (List.length u1) cu1))),rval (.lf (.v (.func (.func 48) #[] #[])))]) (x:=.lf (.v (.bool v11))) (by kernel_rfl) (w47 k (hu1.le hM6) c_v11)) (by kernel_rfl) trivial ?_
    refine TI_segK (i:=2) (j:=3) (s':={ σ := [(1,.lf (.v (.slice Au1 (List.length u1) cu1))),(2,.lf (.v (.int .i64 u2))),(3,.lf (.v (.int .i64 u3))),(10,.lf (.v q5)),(35,.lf (.v (.bool v11)))],H := [],V := [],M := M6,ds := [] }) [1,2,3,10,35] [] [] (by kernel_rfl) (by kernel_rfl) ?_
    cases v11 with
    | true =>
     replace h := sp_t h
     refine TI_segK (i:=3) (j:=12) (s':={ σ := [(1,.lf (.v (.slice Au1 (List.length u1) cu1))),(2,.lf (.v (.int .i64 u2))),(3,.lf (.v (.int .i64 u3))),(10,.lf (.v q5)),(44,.lf (.v (.bool true)))],H := [],V := [],M := M6,ds := [] }) [1,2,3,10,44] [] [] (by kernel_rfl) (by kernel_rfl) ?_
     refine TI_end (by kernel_rfl) ?_
     refine thenQ_n ?_
     exact ⟨true,keep_sub (ts:=[1,2,3,10,44]) (hs:=[]) (vs:=[]) (by kernel_rfl),h⟩
    | false =>
     replace h := sp_f h
     refine TI_segK (i:=3) (j:=4) (s':={ σ := [(1,.lf (.v (.slice Au1 (List.length u1) cu1))),(2,.lf (.v (.int .i64 u2))),(3,.lf (.v (.int .i64 u3))),(10,.lf (.v q5)),(35,.lf (.v (.bool false))),(36,.lf (.v (.int .i64 u2)))],H := [],V := [],M := M6,ds := [] }) [1,2,3,10,35,36] [] [] (by kernel_rfl) (by kernel_rfl) ?_
     obtain ⟨v12,c_v12,h⟩ := cl_some h
     refine TI_at (i:=4) (d:=37) (x:=.lf (.v (.bool v12))) (At_call (d:=37) (f:=49) (args:=[rval (.lf (.v (.int .i64 u2))),rval (.lf (.v (.int .i64 (0 : Int)))),rval (.lf (.v (.int .i64 (1000 : Int))))]) (x:=.lf (.v (.bool v12))) (by kernel_rfl) (w49 k  c_v12)) (by kernel_rfl) trivial ?_
     refine TI_segK (i:=5) (j:=8) (s':={ σ := [(1,.lf (.v (.slice Au1 (List.length u1) cu1))),(2,.lf (.v (.int .i64 u2))),(3,.lf (.v (.int .i64 u3))),(10,.lf (.v q5)),(40,.lf (.v (.bool (!v12))))],H := [],V := [],M := M6,ds := [] }) [1,2,3,10,40] [] [] (by kernel_rfl) (by kernel_rfl) ?_
     cases v12 with
     | true =>
      replace h := sp_t h
      refine TI_segK (i:=8) (j:=9) (s':={ σ := [(1,.lf (.v (.slice Au1 (List.length u1) cu1))),(2,.lf (.v (.int .i64 u2))),(3,.lf (.v (.int .i64 u3))),(10,.lf (.v q5)),(40,.lf (.v (.bool false))),(41,.lf (.v (.int .i64 u3)))],H := [],V := [],M := M6,ds := [] }) [1,2,3,10,40,41] [] [] (by kernel_rfl) (by kernel_rfl) ?_
      obtain ⟨v13,c_v13,h⟩ := cl_some h
      refine TI_at (i:=9) (d:=42) (x:=.lf (.v (.bool v13))) (At_call (d:=42) (f:=49) (args:=[rval (.lf (.v (.int .i64 u3))),rval (.lf (.v (.int .i64 (0 : Int)))),rval (.lf (.v (.int .i64 (1099511627776 : Int))))]) (x:=.lf (.v (.bool v13))) (by kernel_rfl) (w49 k  c_v13)) (by kernel_rfl) trivial ?_
      refine TI_segK (i:=10) (j:=12) (s':={ σ := [(1,.lf (.v (.slice Au1 (List.length u1) cu1))),(2,.lf (.v (.int .i64 u2))),(3,.lf (.v (.int .i64 u3))),(10,.lf (.v q5)),(44,.lf (.v (.bool (!v13))))],H := [],V := [],M := M6,ds := [] }) [1,2,3,10,44] [] [] (by kernel_rfl) (by kernel_rfl) ?_
      refine TI_end (by kernel_rfl) ?_
      refine thenQ_n ?_
      exact ⟨(!v13),keep_sub (ts:=[1,2,3,10,44]) (hs:=[]) (vs:=[]) (by kernel_rfl),h⟩
     | false =>
      replace h := sp_f h
      refine TI_segK (i:=8) (j:=12) (s':={ σ := [(1,.lf (.v (.slice Au1 (List.length u1) cu1))),(2,.lf (.v (.int .i64 u2))),(3,.lf (.v (.int .i64 u3))),(10,.lf (.v q5)),(44,.lf (.v (.bool true)))],H := [],V := [],M := M6,ds := [] }) [1,2,3,10,44] [] [] (by kernel_rfl) (by kernel_rfl) ?_
      refine TI_end (by kernel_rfl) ?_
      refine thenQ_n ?_
      exact ⟨true,keep_sub (ts:=[1,2,3,10,44]) (hs:=[]) (vs:=[]) (by kernel_rfl),h⟩
   ·rintro s' ⟨b9,hsub,h⟩
    subst e_j10
    refine T_sub hsub ?_
    cases b9 with
    | true =>
     replace h := sp_t h
     refine T_condT (x:=(.tmp 44)) (c1:=(sub [1,1,1,1,0,1,0] (bodyOf Try.f19))) (c2:=(sub [1,1,1,1,0,1,1] (bodyOf Try.f19))) (by kernel_rfl) (by kernel_rfl) ?_
     refine T_keep (s':={ σ := [],H := [],V := [],M := M6,ds := [] }) [] [] [] (by kernel_rfl) ?_
     refine T_seq (c1:=(sub [1,1,1,1,0,1,0,0] (bodyOf Try.f19))) (c2:=(sub [1,1,1,1,0,1,0,1] (bodyOf Try.f19))) (by kernel_rfl) ?_
     refine T_region (id:=7) (by kernel_rfl) ?_
     refine TI_segK (i:=0) (j:=2) (s':={ σ := [(8,.lf (.v (.slice none (List.length ([] : List Int)) 0))),(9,.lf (.v (.int .i64 (2 : Int))))],H := [],V := [],M := M6,ds := [] }) [8,9] [] [] (by kernel_rfl) (by kernel_rfl) ?_
     refine TI_end (by kernel_rfl) ?_
     refine thenQ_n ?_
     refine T_ret (by kernel_rfl) ?_
     refine thenQ_r ?_
     have h := Option.some.inj h
     subst h
     refine fin_ret (.tup [(some (.v (.slice none (List.length ([] : List Int)) 0)),[]),(some (.v (.int .i64 (2 : Int))),[])]) (by kernel_rfl) (by kernel_rfl) rfl ?_
     exact ⟨none,0,rfl,(nilI _ _ _)⟩
    | false =>
     replace h := sp_f h
     refine T_condF (x:=(.tmp 44)) (c1:=(sub [1,1,1,1,0,1,0] (bodyOf Try.f19))) (c2:=(sub [1,1,1,1,0,1,1] (bodyOf Try.f19))) (by kernel_rfl) (by kernel_rfl) ?_
     refine T_keep (s':={ σ := [(1,.lf (.v (.slice Au1 (List.length u1) cu1))),(2,.lf (.v (.int .i64 u2))),(3,.lf (.v (.int .i64 u3))),(10,.lf (.v q5))],H := [],V := [],M := M6,ds := [] }) [1,2,3,10] [] [] (by kernel_rfl) ?_
     refine T_skip (by kernel_rfl) ?_
     refine thenQ_n ?_
     refine T_seq (c1:=(sub [1,1,1,1,1,0] (bodyOf Try.f19))) (c2:=(sub [1,1,1,1,1,1] (bodyOf Try.f19))) (by kernel_rfl) ?_
     refine T_region (id:=8) (by kernel_rfl) ?_
     refine TI_segK (i:=0) (j:=4) (s':={ σ := [(1,.lf (.v (.slice Au1 (List.length u1) cu1))),(3,.lf (.v (.int .i64 u3))),(10,.lf (.v q5)),(12,.lf (.own 12 0))],H := [(12,[.arr .i64 3 [u2,(1000 : Int),(0 : Int)]])],V := [],M := M6,ds := [] }) [1,3,10,12] [12] [] (by kernel_rfl) (by kernel_rfl) ?_
     refine TI_end (by kernel_rfl) ?_
     refine thenQ_n ?_
     refine T_seq (c1:=(sub [1,1,1,1,1,1,0] (bodyOf Try.f19))) (c2:=(sub [1,1,1,1,1,1,1] (bodyOf Try.f19))) (by kernel_rfl) ?_
     refine T_region (id:=9) (by kernel_rfl) ?_
     refine TI_segK (i:=0) (j:=2) (s':={ σ := [(1,.lf (.v (.slice Au1 (List.length u1) cu1))),(3,.lf (.v (.int .i64 u3))),(10,.lf (.v q5)),(12,.lf (.own 12 0)),(48,.lf (.v (.int .i64 (List.length u1 : Int))))],H := [(12,[.arr .i64 3 [u2,(1000 : Int),(0 : Int)]])],V := [],M := M6,ds := [] }) [1,3,10,12,48] [12] [] (by kernel_rfl) (by kernel_rfl) ?_
     obtain ⟨g14,h⟩ := gd_some h
     obtain ⟨W15,e_W15,h⟩ := lt_some h
     refine TI_of (i:=2) (by kernel_rfl) (TE_makeC (len2:=List.length W15) (d:=49) (e:=2) (sz:=1) (bytes:=8) (zs:=[.int .i64 0]) (cs:=ints .i64 W15) (z:=(List.length u1 : Int)) (by subst e_W15;kernel_rfl) (by kernel_rfl) g14.1 g14.2 rfl (rep_ints' e_W15) (by rw [e_W15,List.length_replicate]) ?_)
     refine TI_segK (i:=3) (j:=5) (s':={ σ := [(1,.lf (.v (.slice Au1 (List.length u1) cu1))),(3,.lf (.v (.int .i64 u3))),(10,.lf (.v q5)),(12,.lf (.own 12 0)),(13,.lf (.vec 49)),(14,.lf (.v (.int .i64 (0 : Int))))],H := [(12,[.arr .i64 3 [u2,(1000 : Int),(0 : Int)]])],V := [(49,⟨2,1,List.length W15,ints .i64 W15⟩)],M := M6,ds := [] }) [1,3,10,12,13,14] [12] [49] (by kernel_rfl) (by kernel_rfl) ?_
     refine TI_end (by kernel_rfl) ?_
     refine thenQ_n ?_
     refine T_seq (c1:=(sub [1,1,1,1,1,1,1,0] (bodyOf Try.f19))) (c2:=(sub [1,1,1,1,1,1,1,1] (bodyOf Try.f19))) (by kernel_rfl) ?_
     refine T_seq (c1:=(sub [1,1,1,1,1,1,1,0,0] (bodyOf Try.f19))) (c2:=(sub [1,1,1,1,1,1,1,0,1] (bodyOf Try.f19))) (by kernel_rfl) ?_
     refine T_region (id:=10) (by kernel_rfl) ?_
     refine TI_segK (i:=0) (j:=3) (s':={ σ := [(3,.lf (.v (.int .i64 u3))),(10,.lf (.v q5)),(12,.lf (.own 12 0)),(13,.lf (.vec 49)),(14,.lf (.v (.int .i64 (0 : Int)))),(50,.lf (.v (.slice Au1 (List.length u1) cu1))),(51,.lf (.v (.int .i64 (List.length u1 : Int)))),(52,.lf (.v (.int .i64 (0 : Int))))],H := [(12,[.arr .i64 3 [u2,(1000 : Int),(0 : Int)]])],V := [(49,⟨2,1,List.length W15,ints .i64 W15⟩)],M := M6,ds := [] }) [3,10,12,13,14,50,51,52] [12] [49] (by kernel_rfl) (by kernel_rfl) ?_
     refine TI_end (by kernel_rfl) ?_
     refine thenQ_n ?_
     obtain ⟨C16,e_C16,h⟩ := cl_some h
     have hC16 := fq5
     rw [e_C16] at hC16
     obtain ⟨C16b,C16A,C16c,C16AP,C16cP,C16AV,C16cV,rfl,hC16⟩ := hC16
     obtain ⟨j19,e_j19,h⟩ := jn_some h
     refine T_bcut (id:=0) (c1:=(sub [1,1,1,1,1,1,1,0,1,0] (bodyOf Try.f19))) (fun s' => ∃ (x17 : Int) (L18 : List Int),Sub { σ := [(3,.lf (.v (.int .i64 u3))),(13,.lf (.vec 49)),(14,.lf (.v (.int .i64 x17)))],H := [],V := [(49,⟨2,1,List.length L18,ints .i64 L18⟩)],M := M6,ds := [] } s' ∧ j19 x17 L18 = some r) (by kernel_rfl) ?_ ?_
     ·refine T_loop (c1:=(sub [1,1,1,1,1,1,1,0,1,0,0] (bodyOf Try.f19))) (by kernel_rfl) (fun n23 s' => ∃ (x20 : Int) (x21 : Int) (L22 : List Int),Sub { σ := [(3,.lf (.v (.int .i64 u3))),(10,.lf (.v (.pointer (some ⟨C16b,0,none⟩)))),(12,.lf (.own 12 0)),(13,.lf (.vec 49)),(14,.lf (.v (.int .i64 x20))),(50,.lf (.v (.slice Au1 (List.length u1) cu1))),(51,.lf (.v (.int .i64 (List.length u1 : Int)))),(52,.lf (.v (.int .i64 x21)))],H := [(12,[.arr .i64 3 [u2,(1000 : Int),(0 : Int)]])],V := [(49,⟨2,1,List.length L22,ints .i64 L22⟩)],M := M6,ds := [] } s' ∧ p19_l1 k u1 u2 j19 C16 n23 x20 x21 L22 = some r) (k:=k) ⟨(0 : Int),(0 : Int),W15,keep_sub (ts:=[3,10,12,13,14,50,51,52]) (hs:=[12]) (vs:=[49]) (by kernel_rfl),h⟩ ?_
      rintro n23 s' ⟨x20,x21,L22,hsub,h⟩
      cases n23 with
      | zero => rw [p19_l1] at h;cases h
      | succ n23 =>
       rw [p19_l1] at h
       refine T_sub hsub ?_
       refine T_seq (c1:=(sub [1,1,1,1,1,1,1,0,1,0,0,0] (bodyOf Try.f19))) (c2:=(sub [1,1,1,1,1,1,1,0,1,0,0,1] (bodyOf Try.f19))) (by kernel_rfl) ?_
       refine T_region (id:=11) (by kernel_rfl) ?_
       obtain ⟨b24,e_b24,h⟩ := lt_some h
       refine TI_segK (i:=0) (j:=1) (s':={ σ := [(3,.lf (.v (.int .i64 u3))),(10,.lf (.v (.pointer (some ⟨C16b,0,none⟩)))),(12,.lf (.own 12 0)),(13,.lf (.vec 49)),(14,.lf (.v (.int .i64 x20))),(50,.lf (.v (.slice Au1 (List.length u1) cu1))),(51,.lf (.v (.int .i64 (List.length u1 : Int)))),(52,.lf (.v (.int .i64 x21))),(53,.lf (.v (.bool b24)))],H := [(12,[.arr .i64 3 [u2,(1000 : Int),(0 : Int)]])],V := [(49,⟨2,1,List.length L22,ints .i64 L22⟩)],M := M6,ds := [] }) [3,10,12,13,14,50,51,52,53] [12] [49] (by subst e_b24;kernel_rfl) (by kernel_rfl) ?_
       refine TI_end (by kernel_rfl) ?_
       refine thenQ_n ?_
       refine T_seq (c1:=(sub [1,1,1,1,1,1,1,0,1,0,0,1,0] (bodyOf Try.f19))) (c2:=(sub [1,1,1,1,1,1,1,0,1,0,0,1,1] (bodyOf Try.f19))) (by kernel_rfl) ?_
       cases b24 with
       | true =>
        replace h := sp_t h
        refine T_condT (x:=(.tmp 53)) (c1:=(sub [1,1,1,1,1,1,1,0,1,0,0,1,0,0] (bodyOf Try.f19))) (c2:=(sub [1,1,1,1,1,1,1,0,1,0,0,1,0,1] (bodyOf Try.f19))) (by kernel_rfl) (by kernel_rfl) ?_
        refine T_keep (s':={ σ := [(3,.lf (.v (.int .i64 u3))),(10,.lf (.v (.pointer (some ⟨C16b,0,none⟩)))),(12,.lf (.own 12 0)),(13,.lf (.vec 49)),(14,.lf (.v (.int .i64 x20))),(50,.lf (.v (.slice Au1 (List.length u1) cu1))),(51,.lf (.v (.int .i64 (List.length u1 : Int)))),(52,.lf (.v (.int .i64 x21)))],H := [(12,[.arr .i64 3 [u2,(1000 : Int),(0 : Int)]])],V := [(49,⟨2,1,List.length L22,ints .i64 L22⟩)],M := M6,ds := [] }) [3,10,12,13,14,50,51,52] [12] [49] (by kernel_rfl) ?_
        refine T_skip (by kernel_rfl) ?_
        refine thenQ_n ?_
        refine T_seq (c1:=(sub [1,1,1,1,1,1,1,0,1,0,0,1,1,0] (bodyOf Try.f19))) (c2:=(sub [1,1,1,1,1,1,1,0,1,0,0,1,1,1] (bodyOf Try.f19))) (by kernel_rfl) ?_
        refine T_block (id:=1) (c1:=(sub [1,1,1,1,1,1,1,0,1,0,0,1,1,0,0] (bodyOf Try.f19))) (by kernel_rfl) ?_
        refine T_seq (c1:=(sub [1,1,1,1,1,1,1,0,1,0,0,1,1,0,0,0] (bodyOf Try.f19))) (c2:=(sub [1,1,1,1,1,1,1,0,1,0,0,1,1,0,0,1] (bodyOf Try.f19))) (by kernel_rfl) ?_
        refine T_region (id:=12) (by kernel_rfl) ?_
        refine TI_segK (i:=0) (j:=1) (s':={ σ := [(3,.lf (.v (.int .i64 u3))),(10,.lf (.v (.pointer (some ⟨C16b,0,none⟩)))),(12,.lf (.own 12 0)),(13,.lf (.vec 49)),(14,.lf (.v (.int .i64 x20))),(50,.lf (.v (.slice Au1 (List.length u1) cu1))),(51,.lf (.v (.int .i64 (List.length u1 : Int)))),(52,.lf (.v (.int .i64 x21))),(54,.lf (.v (.int .i64 x21)))],H := [(12,[.arr .i64 3 [u2,(1000 : Int),(0 : Int)]])],V := [(49,⟨2,1,List.length L22,ints .i64 L22⟩)],M := M6,ds := [] }) [3,10,12,13,14,50,51,52,54] [12] [49] (by kernel_rfl) (by kernel_rfl) ?_
        obtain ⟨g25,h⟩ := gd_some h
        refine TI_at (i:=1) (d:=55) (x:=.lf (.ep (.slice Au1 (List.length u1) cu1) 7 ((x21).toNat) 0)) (by exact At_idxR (d:=55) (z:=x21) (by kernel_rfl) g25 (hu1.le hM6)) (by kernel_rfl) trivial ?_
        obtain ⟨L26,e_L26,h⟩ := lt_some h
        have l_L26 : (L26).length = 7 := by rw [e_L26]; exact SlR_row (hu1.le hM6) (toNat_lt g25)
        refine TI_at (i:=2) (d:=56) (x:=.agg [.arr .i64 7 L26]) (by rw [e_L26]; exact At_ldRow (d:=56) (q:=(x21).toNat) (by subst e_L26; kernel_rfl) (toNat_lt g25) (hu1.le hM6)) (by kernel_rfl) ⟨l_L26,trivial⟩ ?_
        refine TI_segK (i:=3) (j:=6) (s':={ σ := [(3,.lf (.v (.int .i64 u3))),(10,.lf (.v (.pointer (some ⟨C16b,0,none⟩)))),(12,.lf (.own 12 0)),(13,.lf (.vec 49)),(14,.lf (.v (.int .i64 x20))),(15,.lf (.v (.int .i64 x21))),(16,.lf (.own 16 0)),(50,.lf (.v (.slice Au1 (List.length u1) cu1))),(51,.lf (.v (.int .i64 (List.length u1 : Int)))),(52,.lf (.v (.int .i64 x21)))],H := [(12,[.arr .i64 3 [u2,(1000 : Int),(0 : Int)]]),(16,[.arr .i64 7 L26])],V := [(49,⟨2,1,List.length L22,ints .i64 L22⟩)],M := M6,ds := [] }) [3,10,12,13,14,15,16,50,51,52] [12,16] [49] (by kernel_rfl) (by kernel_rfl) ?_
        refine TI_end (by kernel_rfl) ?_
        refine thenQ_n ?_
        refine T_seq (c1:=(sub [1,1,1,1,1,1,1,0,1,0,0,1,1,0,0,1,0] (bodyOf Try.f19))) (c2:=(sub [1,1,1,1,1,1,1,0,1,0,0,1,1,0,0,1,1] (bodyOf Try.f19))) (by kernel_rfl) ?_
        obtain ⟨x27,e_x27,h⟩ := lt_some h
        obtain ⟨v28,c_v28,h⟩ := cl_some h
        obtain ⟨g29,h⟩ := gd_some h
        obtain ⟨x30,e_x30,h⟩ := lt_some h
        obtain ⟨x31,e_x31,h⟩ := lt_some h
        obtain ⟨x32,e_x32,h⟩ := lt_some h
        obtain ⟨g33,h⟩ := gd_some h
        obtain ⟨L34,e_L34,h⟩ := lt_some h
        refine T_draw' (id:=13) [12] [0,0,0,0,0,0,0,0,0,0,0,0,0] (by kernel_rfl) (by kernel_rfl) (by kernel_rfl) (by kernel_rfl) [(57,.lf (.vec 49)),(58,.lf (.v (.int .i64 x21))),(59,.lf (.own 16 6)),(60,.lf (.v (.int .i64 x27))),(61,.lf (.v (.pointer (some ⟨C16b,0,none⟩)))),(62,.agg [.arr .i64 7 L26]),(63,.lf (.v (.int .i64 v28))),(64,.lf (.oel 12 (0 + (v28).toNat * 1))),(65,.lf (.v (.int .i64 x30))),(66,.lf (.v (.int .i64 x31))),(67,.lf (.v (.int .i64 x32))),(68,.lf (.vel 49 1 ((x21).toNat) 0))] (by kernel_rfl) ⟨trivial,⟨trivial,⟨trivial,⟨trivial,⟨trivial,⟨⟨l_L26,trivial⟩,⟨trivial,⟨trivial,⟨trivial,⟨trivial,⟨trivial,⟨trivial,trivial⟩⟩⟩⟩⟩⟩⟩⟩⟩⟩⟩⟩ ?_
        refine Stage_te (stage_all' [0,1,2,3,4,5,9,10] [6,7,8,11] (by kernel_rfl) (by subst_vars; kernel_rfl) (by kernel_rfl) ⟨QF_at (i:=6) (d:=63) (x:=.lf (.v (.int .i64 v28))) (show OpAt _ _ _ 6 63 _ from by exact At_call (d:=63) (f:=44) (args:=[rval (.lf (.v (.pointer (some ⟨C16b,0,none⟩)))),rval (.agg [.arr .i64 7 L26])]) (x:=.lf (.v (.int .i64 v28))) (by subst_vars; kernel_rfl) (w44 k hC16 l_L26 c_v28)) (by kernel_rfl) (by subst_vars; kernel_rfl),⟨QF_at (i:=7) (d:=64) (x:=.lf (.oel 12 (0 + (v28).toNat * 1))) (show OpAt _ _ _ 7 64 _ from by exact At_idxO (d:=64) (z:=v28) (b:=12) (off:=0) (sz:=1) (n:=3) (by subst_vars; kernel_rfl) g29) (by kernel_rfl) (by subst_vars; kernel_rfl),⟨QF_at (i:=8) (d:=65) (x:=.lf (.v (.int .i64 x30))) (show OpAt _ _ _ 8 65 _ from by rw [e_x30]; exact At_ldO1 (d:=65) (b:=12) (off:=0 + (v28).toNat * 1) (base:=0) (q:=0 + (v28).toNat * 1) (n:=3) (k:=.i64) (L:=[u2,(1000 : Int),(0 : Int)]) (by subst_vars; kernel_rfl) (by subst_vars; kernel_rfl) (by omega) (by omega)) (by kernel_rfl) (by subst_vars; kernel_rfl),⟨QF_at (i:=11) (d:=68) (x:=.lf (.vel 49 1 ((x21).toNat) 0)) (show OpAt _ _ _ 11 68 _ from by exact At_idxV (d:=68) (z:=x21) (n:=49) (sz:=1) (v:=⟨2,1,List.length L22,ints .i64 L22⟩) (by subst_vars; kernel_rfl) (by subst_vars; kernel_rfl) g33) (by kernel_rfl) (by subst_vars; kernel_rfl),trivial⟩⟩⟩⟩) (TE_stC (len2:=List.length L34) (m:=1) (n:=49) (sz:=1) (j:=(x21).toNat) (q:=0) (e:=2) (len:=List.length L22) (c:=[.one (.v (.int .i64 x32))]) (cs0:=ints .i64 L22) (cs2:=ints .i64 L34) (by subst_vars; kernel_rfl) (by kernel_rfl) (by subst_vars; kernel_rfl) (vle (toNat_lt g33)) (by kernel_rfl) (by rw [e_L34]; exact set1_ints (toNat_lt g33)) (by rw [e_L34,List.length_set]) ?_) 
        refine TL_nil (stageQ_of [] (by kernel_rfl) trivial ?_)
        refine Stage_nil (stage_all' [] [] (by kernel_rfl) (by subst_vars;kernel_rfl) (by kernel_rfl) trivial) ?_
        refine thenQ_n ?_
        refine T_keep (s':={ σ := [(3,.lf (.v (.int .i64 u3))),(10,.lf (.v (.pointer (some ⟨C16b,0,none⟩)))),(12,.lf (.own 12 0)),(13,.lf (.vec 49)),(14,.lf (.v (.int .i64 x20))),(15,.lf (.v (.int .i64 x21))),(50,.lf (.v (.slice Au1 (List.length u1) cu1))),(51,.lf (.v (.int .i64 (List.length u1 : Int)))),(52,.lf (.v (.int .i64 x21)))],H := [(12,[.arr .i64 3 [u2,(1000 : Int),(0 : Int)]])],V := [(49,⟨2,1,List.length L34,ints .i64 L34⟩)],M := M6,ds := [] }) [3,10,12,13,14,15,50,51,52] [12] [49] (by subst_vars;kernel_rfl) ?_
        refine T_region (id:=14) (by kernel_rfl) ?_
        refine TI_segK (i:=0) (j:=3) (s':={ σ := [(3,.lf (.v (.int .i64 u3))),(10,.lf (.v (.pointer (some ⟨C16b,0,none⟩)))),(12,.lf (.own 12 0)),(13,.lf (.vec 49)),(50,.lf (.v (.slice Au1 (List.length u1) cu1))),(51,.lf (.v (.int .i64 (List.length u1 : Int)))),(52,.lf (.v (.int .i64 x21))),(69,.lf (.v (.int .i64 x20))),(70,.lf (.vec 49)),(71,.lf (.v (.int .i64 x21)))],H := [(12,[.arr .i64 3 [u2,(1000 : Int),(0 : Int)]])],V := [(49,⟨2,1,List.length L34,ints .i64 L34⟩)],M := M6,ds := [] }) [3,10,12,13,50,51,52,69,70,71] [12] [49] (by kernel_rfl) (by kernel_rfl) ?_
        obtain ⟨g35,h⟩ := gd_some h
        refine TI_at (i:=3) (d:=72) (x:=.lf (.vel 49 1 ((x21).toNat) 0)) (by exact At_idxV (d:=72) (z:=x21) (n:=49) (sz:=1) (v:=⟨2,1,List.length L34,ints .i64 L34⟩) (by kernel_rfl) (by kernel_rfl) g35) (by kernel_rfl) trivial ?_
        obtain ⟨x36,e_x36,h⟩ := lt_some h
        refine TI_at (i:=4) (d:=73) (x:=.lf (.v (.int .i64 x36))) (by rw [e_x36]; exact At_ldVI (d:=73) (n:=49) (q:=(x21).toNat) (k:=.i64) (L:=L34) (by subst e_x36; kernel_rfl) (v:=⟨2,1,List.length L34,ints .i64 L34⟩) (by subst e_x36; kernel_rfl) rfl (toNat_lt g35)) (by kernel_rfl) trivial ?_
        obtain ⟨x37,e_x37,h⟩ := lt_some h
        refine TI_segK (i:=5) (j:=7) (s':={ σ := [(3,.lf (.v (.int .i64 u3))),(10,.lf (.v (.pointer (some ⟨C16b,0,none⟩)))),(12,.lf (.own 12 0)),(13,.lf (.vec 49)),(14,.lf (.v (.int .i64 x37))),(50,.lf (.v (.slice Au1 (List.length u1) cu1))),(51,.lf (.v (.int .i64 (List.length u1 : Int)))),(52,.lf (.v (.int .i64 x21)))],H := [(12,[.arr .i64 3 [u2,(1000 : Int),(0 : Int)]])],V := [(49,⟨2,1,List.length L34,ints .i64 L34⟩)],M := M6,ds := [] }) [3,10,12,13,14,50,51,52] [12] [49] (by subst e_x37;kernel_rfl) (by kernel_rfl) ?_
        refine TI_end (by kernel_rfl) ?_
        refine blockQ_n ?_
        refine thenQ_n ?_
        refine T_region (id:=15) (by kernel_rfl) ?_
        obtain ⟨x38,e_x38,h⟩ := lt_some h
        refine TI_segK (i:=0) (j:=2) (s':={ σ := [(3,.lf (.v (.int .i64 u3))),(10,.lf (.v (.pointer (some ⟨C16b,0,none⟩)))),(12,.lf (.own 12 0)),(13,.lf (.vec 49)),(14,.lf (.v (.int .i64 x37))),(50,.lf (.v (.slice Au1 (List.length u1) cu1))),(51,.lf (.v (.int .i64 (List.length u1 : Int)))),(52,.lf (.v (.int .i64 x38)))],H := [(12,[.arr .i64 3 [u2,(1000 : Int),(0 : Int)]])],V := [(49,⟨2,1,List.length L34,ints .i64 L34⟩)],M := M6,ds := [] }) [3,10,12,13,14,50,51,52] [12] [49] (by subst e_x38;kernel_rfl) (by kernel_rfl) ?_
        refine TI_end (by kernel_rfl) ?_
        refine thenQ_n ?_
        exact ⟨n23,Nat.lt_succ_self _,x37,x38,L34,keep_sub (ts:=[3,10,12,13,14,50,51,52]) (hs:=[12]) (vs:=[49]) (by kernel_rfl),h⟩
       | false =>
        replace h := sp_f h
        refine T_condF (x:=(.tmp 53)) (c1:=(sub [1,1,1,1,1,1,1,0,1,0,0,1,0,0] (bodyOf Try.f19))) (c2:=(sub [1,1,1,1,1,1,1,0,1,0,0,1,0,1] (bodyOf Try.f19))) (by kernel_rfl) (by kernel_rfl) ?_
        refine T_keep (s':={ σ := [(3,.lf (.v (.int .i64 u3))),(13,.lf (.vec 49)),(14,.lf (.v (.int .i64 x20)))],H := [],V := [(49,⟨2,1,List.length L22,ints .i64 L22⟩)],M := M6,ds := [] }) [3,13,14] [] [49] (by kernel_rfl) ?_
        refine T_exit (id:=0) (by kernel_rfl) ?_
        refine thenQ_x ?_
        refine thenQ_x ?_
        refine blockQ_x ?_
        refine thenQ_n ?_
        exact ⟨x20,L22,keep_sub (ts:=[3,13,14]) (hs:=[]) (vs:=[49]) (by kernel_rfl),h⟩
     ·rintro s' ⟨x17,L18,hsub,h⟩
      subst e_j19
      refine thenQ_n ?_
      refine T_sub hsub ?_
      refine T_seq (c1:=(sub [1,1,1,1,1,1,1,1,0] (bodyOf Try.f19))) (c2:=(sub [1,1,1,1,1,1,1,1,1] (bodyOf Try.f19))) (by kernel_rfl) ?_
      refine T_seq (c1:=(sub [1,1,1,1,1,1,1,1,0,0] (bodyOf Try.f19))) (c2:=(sub [1,1,1,1,1,1,1,1,0,1] (bodyOf Try.f19))) (by kernel_rfl) ?_
      refine T_region (id:=16) (by kernel_rfl) ?_
      obtain ⟨b39,e_b39,h⟩ := lt_some h
      refine TI_segK (i:=0) (j:=3) (s':={ σ := [(3,.lf (.v (.int .i64 u3))),(13,.lf (.vec 49)),(14,.lf (.v (.int .i64 x17))),(78,.lf (.v (.bool b39)))],H := [],V := [(49,⟨2,1,List.length L18,ints .i64 L18⟩)],M := M6,ds := [] }) [3,13,14,78] [] [49] (by subst e_b39;kernel_rfl) (by kernel_rfl) ?_
      refine TI_end (by kernel_rfl) ?_
      refine thenQ_n ?_
      cases b39 with
      | true =>
       replace h := sp_t h
       refine T_condT (x:=(.tmp 78)) (c1:=(sub [1,1,1,1,1,1,1,1,0,1,0] (bodyOf Try.f19))) (c2:=(sub [1,1,1,1,1,1,1,1,0,1,1] (bodyOf Try.f19))) (by kernel_rfl) (by kernel_rfl) ?_
       refine T_keep (s':={ σ := [(13,.lf (.vec 49))],H := [],V := [(49,⟨2,1,List.length L18,ints .i64 L18⟩)],M := M6,ds := [] }) [13] [] [49] (by kernel_rfl) ?_
       refine T_seq (c1:=(sub [1,1,1,1,1,1,1,1,0,1,0,0] (bodyOf Try.f19))) (c2:=(sub [1,1,1,1,1,1,1,1,0,1,0,1] (bodyOf Try.f19))) (by kernel_rfl) ?_
       refine T_region (id:=17) (by kernel_rfl) ?_
       refine TI_segK (i:=0) (j:=3) (s':={ σ := [(8,.lf (.vec 49)),(9,.lf (.v (.int .i64 (0 : Int))))],H := [],V := [(49,⟨2,1,List.length L18,ints .i64 L18⟩)],M := M6,ds := [] }) [8,9] [] [49] (by kernel_rfl) (by kernel_rfl) ?_
       refine TI_end (by kernel_rfl) ?_
       refine thenQ_n ?_
       refine T_turn (turn_pubV 49 (v:=⟨2,1,List.length L18,ints .i64 L18⟩) (by kernel_rfl)) ?_
       rintro _ ⟨A40,c41,M42,rfl,hSA40,hcA40,-,hNA40,hM42⟩
       have fA40 : SlI M42 A40 c41 .i64 L18 := ⟨hSA40,hcA40⟩
       refine T_keep (s':={ σ := [(8,.lf (.v (.slice A40 (List.length L18) c41))),(9,.lf (.v (.int .i64 (0 : Int))))],H := [],V := [],M := M42,ds := [] }) [8,9] [] [] (by kernel_rfl) ?_
       refine T_ret (by kernel_rfl) ?_
       refine thenQ_r ?_
       have h := Option.some.inj h
       subst h
       refine fin_ret (.tup [(some (.v (.slice A40 (List.length L18) c41)),[]),(some (.v (.int .i64 (0 : Int))),[])]) (by kernel_rfl) (by kernel_rfl) rfl ?_
       exact ⟨A40,c41,rfl,fA40⟩
      | false =>
       replace h := sp_f h
       refine T_condF (x:=(.tmp 78)) (c1:=(sub [1,1,1,1,1,1,1,1,0,1,0] (bodyOf Try.f19))) (c2:=(sub [1,1,1,1,1,1,1,1,0,1,1] (bodyOf Try.f19))) (by kernel_rfl) (by kernel_rfl) ?_
       refine T_keep (s':={ σ := [(3,.lf (.v (.int .i64 u3))),(13,.lf (.vec 49)),(14,.lf (.v (.int .i64 x17)))],H := [],V := [(49,⟨2,1,List.length L18,ints .i64 L18⟩)],M := M6,ds := [] }) [3,13,14] [] [49] (by kernel_rfl) ?_
       refine T_skip (by kernel_rfl) ?_
       refine thenQ_n ?_
       refine T_seq (c1:=(sub [1,1,1,1,1,1,1,1,1,0] (bodyOf Try.f19))) (c2:=(sub [1,1,1,1,1,1,1,1,1,1] (bodyOf Try.f19))) (by kernel_rfl) ?_
       refine T_region (id:=18) (by kernel_rfl) ?_
       refine TI_segK (i:=0) (j:=2) (s':={ σ := [(3,.lf (.v (.int .i64 u3))),(13,.lf (.vec 49)),(14,.lf (.v (.int .i64 x17))),(81,.lf (.v (.int .i64 (List.length L18 : Int))))],H := [],V := [(49,⟨2,1,List.length L18,ints .i64 L18⟩)],M := M6,ds := [] }) [3,13,14,81] [] [49] (by kernel_rfl) (by kernel_rfl) ?_
       obtain ⟨g43,h⟩ := gd_some h
       obtain ⟨W44,e_W44,h⟩ := lt_some h
       refine TI_of (i:=2) (by kernel_rfl) (TE_makeC (len2:=List.length W44) (d:=82) (e:=2) (sz:=1) (bytes:=8) (zs:=[.int .i64 0]) (cs:=ints .i64 W44) (z:=(List.length L18 : Int)) (by subst e_W44;kernel_rfl) (by kernel_rfl) g43.1 g43.2 rfl (rep_ints' e_W44) (by rw [e_W44,List.length_replicate]) ?_)
       refine TI_segK (i:=3) (j:=6) (s':={ σ := [(3,.lf (.v (.int .i64 u3))),(13,.lf (.vec 49)),(14,.lf (.v (.int .i64 x17))),(17,.lf (.vec 82)),(18,.lf (.v (.int .i64 u3)))],H := [],V := [(49,⟨2,1,List.length L18,ints .i64 L18⟩),(82,⟨2,1,List.length W44,ints .i64 W44⟩)],M := M6,ds := [] }) [3,13,14,17,18] [] [49,82] (by kernel_rfl) (by kernel_rfl) ?_
       refine TI_end (by kernel_rfl) ?_
       refine thenQ_n ?_
       refine T_seq (c1:=(sub [1,1,1,1,1,1,1,1,1,1,0] (bodyOf Try.f19))) (c2:=(sub [1,1,1,1,1,1,1,1,1,1,1] (bodyOf Try.f19))) (by kernel_rfl) ?_
       refine T_seq (c1:=(sub [1,1,1,1,1,1,1,1,1,1,0,0] (bodyOf Try.f19))) (c2:=(sub [1,1,1,1,1,1,1,1,1,1,0,1] (bodyOf Try.f19))) (by kernel_rfl) ?_
       refine T_region (id:=19) (by kernel_rfl) ?_
       refine TI_segK (i:=0) (j:=3) (s':={ σ := [(3,.lf (.v (.int .i64 u3))),(13,.lf (.vec 49)),(14,.lf (.v (.int .i64 x17))),(17,.lf (.vec 82)),(18,.lf (.v (.int .i64 u3))),(84,.lf (.vec 49)),(85,.lf (.v (.int .i64 (List.length L18 : Int)))),(86,.lf (.v (.int .i64 (0 : Int))))],H := [],V := [(49,⟨2,1,List.length L18,ints .i64 L18⟩),(82,⟨2,1,List.length W44,ints .i64 W44⟩)],M := M6,ds := [] }) [3,13,14,17,18,84,85,86] [] [49,82] (by kernel_rfl) (by kernel_rfl) ?_
       refine TI_end (by kernel_rfl) ?_
       refine thenQ_n ?_
       obtain ⟨j47,e_j47,h⟩ := jn_some h
       refine T_bcut (id:=2) (c1:=(sub [1,1,1,1,1,1,1,1,1,1,0,1,0] (bodyOf Try.f19))) (fun s' => ∃ (x45 : Int) (L46 : List Int),Sub { σ := [(13,.lf (.vec 49)),(17,.lf (.vec 82)),(18,.lf (.v (.int .i64 x45)))],H := [],V := [(49,⟨2,1,List.length L18,ints .i64 L18⟩),(82,⟨2,1,List.length L46,ints .i64 L46⟩)],M := M6,ds := [] } s' ∧ j47 x45 L46 = some r) (by kernel_rfl) ?_ ?_
       ·refine T_loop (c1:=(sub [1,1,1,1,1,1,1,1,1,1,0,1,0,0] (bodyOf Try.f19))) (by kernel_rfl) (fun n51 s' => ∃ (x48 : Int) (x49 : Int) (L50 : List Int),Sub { σ := [(3,.lf (.v (.int .i64 u3))),(13,.lf (.vec 49)),(14,.lf (.v (.int .i64 x17))),(17,.lf (.vec 82)),(18,.lf (.v (.int .i64 x48))),(84,.lf (.vec 49)),(85,.lf (.v (.int .i64 (List.length L18 : Int)))),(86,.lf (.v (.int .i64 x49)))],H := [],V := [(49,⟨2,1,List.length L18,ints .i64 L18⟩),(82,⟨2,1,List.length L50,ints .i64 L50⟩)],M := M6,ds := [] } s' ∧ p19_l2 k u3 x17 L18 j47 n51 x48 x49 L50 = some r) (k:=k) ⟨u3,(0 : Int),W44,keep_sub (ts:=[3,13,14,17,18,84,85,86]) (hs:=[]) (vs:=[49,82]) (by kernel_rfl),h⟩ ?_
        rintro n51 s' ⟨x48,x49,L50,hsub,h⟩
        cases n51 with
        | zero => rw [p19_l2] at h;cases h
        | succ n51 =>
         rw [p19_l2] at h
         refine T_sub hsub ?_
         refine T_seq (c1:=(sub [1,1,1,1,1,1,1,1,1,1,0,1,0,0,0] (bodyOf Try.f19))) (c2:=(sub [1,1,1,1,1,1,1,1,1,1,0,1,0,0,1] (bodyOf Try.f19))) (by kernel_rfl) ?_
         refine T_region (id:=20) (by kernel_rfl) ?_
         obtain ⟨b52,e_b52,h⟩ := lt_some h
         refine TI_segK (i:=0) (j:=1) (s':={ σ := [(3,.lf (.v (.int .i64 u3))),(13,.lf (.vec 49)),(14,.lf (.v (.int .i64 x17))),(17,.lf (.vec 82)),(18,.lf (.v (.int .i64 x48))),(84,.lf (.vec 49)),(85,.lf (.v (.int .i64 (List.length L18 : Int)))),(86,.lf (.v (.int .i64 x49))),(87,.lf (.v (.bool b52)))],H := [],V := [(49,⟨2,1,List.length L18,ints .i64 L18⟩),(82,⟨2,1,List.length L50,ints .i64 L50⟩)],M := M6,ds := [] }) [3,13,14,17,18,84,85,86,87] [] [49,82] (by subst e_b52;kernel_rfl) (by kernel_rfl) ?_
         refine TI_end (by kernel_rfl) ?_
         refine thenQ_n ?_
         refine T_seq (c1:=(sub [1,1,1,1,1,1,1,1,1,1,0,1,0,0,1,0] (bodyOf Try.f19))) (c2:=(sub [1,1,1,1,1,1,1,1,1,1,0,1,0,0,1,1] (bodyOf Try.f19))) (by kernel_rfl) ?_
         cases b52 with
         | true =>
          replace h := sp_t h
          refine T_condT (x:=(.tmp 87)) (c1:=(sub [1,1,1,1,1,1,1,1,1,1,0,1,0,0,1,0,0] (bodyOf Try.f19))) (c2:=(sub [1,1,1,1,1,1,1,1,1,1,0,1,0,0,1,0,1] (bodyOf Try.f19))) (by kernel_rfl) (by kernel_rfl) ?_
          refine T_keep (s':={ σ := [(3,.lf (.v (.int .i64 u3))),(13,.lf (.vec 49)),(14,.lf (.v (.int .i64 x17))),(17,.lf (.vec 82)),(18,.lf (.v (.int .i64 x48))),(84,.lf (.vec 49)),(85,.lf (.v (.int .i64 (List.length L18 : Int)))),(86,.lf (.v (.int .i64 x49)))],H := [],V := [(49,⟨2,1,List.length L18,ints .i64 L18⟩),(82,⟨2,1,List.length L50,ints .i64 L50⟩)],M := M6,ds := [] }) [3,13,14,17,18,84,85,86] [] [49,82] (by kernel_rfl) ?_
          refine T_skip (by kernel_rfl) ?_
          refine thenQ_n ?_
          refine T_seq (c1:=(sub [1,1,1,1,1,1,1,1,1,1,0,1,0,0,1,1,0] (bodyOf Try.f19))) (c2:=(sub [1,1,1,1,1,1,1,1,1,1,0,1,0,0,1,1,1] (bodyOf Try.f19))) (by kernel_rfl) ?_
          refine T_block (id:=3) (c1:=(sub [1,1,1,1,1,1,1,1,1,1,0,1,0,0,1,1,0,0] (bodyOf Try.f19))) (by kernel_rfl) ?_
          refine T_seq (c1:=(sub [1,1,1,1,1,1,1,1,1,1,0,1,0,0,1,1,0,0,0] (bodyOf Try.f19))) (c2:=(sub [1,1,1,1,1,1,1,1,1,1,0,1,0,0,1,1,0,0,1] (bodyOf Try.f19))) (by kernel_rfl) ?_
          refine T_region (id:=21) (by kernel_rfl) ?_
          refine TI_segK (i:=0) (j:=1) (s':={ σ := [(3,.lf (.v (.int .i64 u3))),(13,.lf (.vec 49)),(14,.lf (.v (.int .i64 x17))),(17,.lf (.vec 82)),(18,.lf (.v (.int .i64 x48))),(84,.lf (.vec 49)),(85,.lf (.v (.int .i64 (List.length L18 : Int)))),(86,.lf (.v (.int .i64 x49))),(88,.lf (.v (.int .i64 x49)))],H := [],V := [(49,⟨2,1,List.length L18,ints .i64 L18⟩),(82,⟨2,1,List.length L50,ints .i64 L50⟩)],M := M6,ds := [] }) [3,13,14,17,18,84,85,86,88] [] [49,82] (by kernel_rfl) (by kernel_rfl) ?_
          obtain ⟨g53,h⟩ := gd_some h
          refine TI_at (i:=1) (d:=89) (x:=.lf (.vel 49 1 ((x49).toNat) 0)) (by exact At_idxV (d:=89) (z:=x49) (n:=49) (sz:=1) (v:=⟨2,1,List.length L18,ints .i64 L18⟩) (by kernel_rfl) (by kernel_rfl) g53) (by kernel_rfl) trivial ?_
          obtain ⟨x54,e_x54,h⟩ := lt_some h
          refine TI_at (i:=2) (d:=90) (x:=.lf (.v (.int .i64 x54))) (by rw [e_x54]; exact At_ldVI (d:=90) (n:=49) (q:=(x49).toNat) (k:=.i64) (L:=L18) (by subst e_x54; kernel_rfl) (v:=⟨2,1,List.length L18,ints .i64 L18⟩) (by subst e_x54; kernel_rfl) rfl (toNat_lt g53)) (by kernel_rfl) trivial ?_
          refine TI_segK (i:=3) (j:=5) (s':={ σ := [(3,.lf (.v (.int .i64 u3))),(13,.lf (.vec 49)),(14,.lf (.v (.int .i64 x17))),(17,.lf (.vec 82)),(18,.lf (.v (.int .i64 x48))),(19,.lf (.v (.int .i64 x49))),(20,.lf (.v (.int .i64 x54))),(84,.lf (.vec 49)),(85,.lf (.v (.int .i64 (List.length L18 : Int)))),(86,.lf (.v (.int .i64 x49)))],H := [],V := [(49,⟨2,1,List.length L18,ints .i64 L18⟩),(82,⟨2,1,List.length L50,ints .i64 L50⟩)],M := M6,ds := [] }) [3,13,14,17,18,19,20,84,85,86] [] [49,82] (by kernel_rfl) (by kernel_rfl) ?_
          refine TI_end (by kernel_rfl) ?_
          refine thenQ_n ?_
          refine T_seq (c1:=(sub [1,1,1,1,1,1,1,1,1,1,0,1,0,0,1,1,0,0,1,0] (bodyOf Try.f19))) (c2:=(sub [1,1,1,1,1,1,1,1,1,1,0,1,0,0,1,1,0,0,1,1] (bodyOf Try.f19))) (by kernel_rfl) ?_
          refine T_region (id:=22) (by kernel_rfl) ?_
          obtain ⟨x55,e_x55,h⟩ := lt_some h
          refine TI_segK (i:=0) (j:=6) (s':={ σ := [(3,.lf (.v (.int .i64 u3))),(13,.lf (.vec 49)),(14,.lf (.v (.int .i64 x17))),(17,.lf (.vec 82)),(18,.lf (.v (.int .i64 x48))),(19,.lf (.v (.int .i64 x49))),(84,.lf (.vec 49)),(85,.lf (.v (.int .i64 (List.length L18 : Int)))),(86,.lf (.v (.int .i64 x49))),(91,.lf (.vec 82)),(92,.lf (.v (.int .i64 x49))),(95,.lf (.v (.int .i64 x55))),(96,.lf (.v (.int .i64 x17)))],H := [],V := [(49,⟨2,1,List.length L18,ints .i64 L18⟩),(82,⟨2,1,List.length L50,ints .i64 L50⟩)],M := M6,ds := [] }) [3,13,14,17,18,19,84,85,86,91,92,95,96] [] [49,82] (by subst e_x55;kernel_rfl) (by kernel_rfl) ?_
          obtain ⟨g56,h⟩ := gd_some h
          obtain ⟨x57,e_x57,h⟩ := lt_some h
          refine TI_at (i:=6) (d:=97) (x:=.lf (.v (.int .i64 x57))) (by rw [e_x57]; exact At_quo (d:=97) (k:=.i64) (m:=x55) (n:=x17) (by subst e_x57; kernel_rfl) g56) (by kernel_rfl) trivial ?_
          obtain ⟨g58,h⟩ := gd_some h
          refine TI_at (i:=7) (d:=98) (x:=.lf (.vel 82 1 ((x49).toNat) 0)) (by exact At_idxV (d:=98) (z:=x49) (n:=82) (sz:=1) (v:=⟨2,1,List.length L50,ints .i64 L50⟩) (by kernel_rfl) (by kernel_rfl) g58) (by kernel_rfl) trivial ?_
          obtain ⟨L59,e_L59,h⟩ := lt_some h
          refine TI_of (i:=8) (by kernel_rfl) (TE_stC (len2:=List.length L59) (m:=1) (n:=82) (sz:=1) (j:=(x49).toNat) (q:=0) (e:=2) (len:=List.length L50) (c:=[.one (.v (.int .i64 x57))]) (cs0:=ints .i64 L50) (cs2:=ints .i64 L59) (by subst e_L59; kernel_rfl) (by kernel_rfl) (by subst e_L59; kernel_rfl) (vle (toNat_lt g58)) (by kernel_rfl) (by rw [e_L59]; exact set1_ints (toNat_lt g58)) (by rw [e_L59,List.length_set]) ?_)
          refine TI_segK (i:=9) (j:=9) (s':={ σ := [(3,.lf (.v (.int .i64 u3))),(13,.lf (.vec 49)),(14,.lf (.v (.int .i64 x17))),(17,.lf (.vec 82)),(18,.lf (.v (.int .i64 x48))),(19,.lf (.v (.int .i64 x49))),(84,.lf (.vec 49)),(85,.lf (.v (.int .i64 (List.length L18 : Int)))),(86,.lf (.v (.int .i64 x49)))],H := [],V := [(49,⟨2,1,List.length L18,ints .i64 L18⟩),(82,⟨2,1,List.length L59,ints .i64 L59⟩)],M := M6,ds := [] }) [3,13,14,17,18,19,84,85,86] [] [49,82] (by kernel_rfl) (by kernel_rfl) ?_
          refine TI_end (by kernel_rfl) ?_
          refine thenQ_n ?_
          refine T_region (id:=23) (by kernel_rfl) ?_
          refine TI_segK (i:=0) (j:=3) (s':={ σ := [(3,.lf (.v (.int .i64 u3))),(13,.lf (.vec 49)),(14,.lf (.v (.int .i64 x17))),(17,.lf (.vec 82)),(84,.lf (.vec 49)),(85,.lf (.v (.int .i64 (List.length L18 : Int)))),(86,.lf (.v (.int .i64 x49))),(99,.lf (.v (.int .i64 x48))),(100,.lf (.vec 82)),(101,.lf (.v (.int .i64 x49)))],H := [],V := [(49,⟨2,1,List.length L18,ints .i64 L18⟩),(82,⟨2,1,List.length L59,ints .i64 L59⟩)],M := M6,ds := [] }) [3,13,14,17,84,85,86,99,100,101] [] [49,82] (by kernel_rfl) (by kernel_rfl) ?_
          obtain ⟨g60,h⟩ := gd_some h
          refine TI_at (i:=3) (d:=102) (x:=.lf (.vel 82 1 ((x49).toNat) 0)) (by exact At_idxV (d:=102) (z:=x49) (n:=82) (sz:=1) (v:=⟨2,1,List.length L59,ints .i64 L59⟩) (by kernel_rfl) (by kernel_rfl) g60) (by kernel_rfl) trivial ?_
          obtain ⟨x61,e_x61,h⟩ := lt_some h
          refine TI_at (i:=4) (d:=103) (x:=.lf (.v (.int .i64 x61))) (by rw [e_x61]; exact At_ldVI (d:=103) (n:=82) (q:=(x49).toNat) (k:=.i64) (L:=L59) (by subst e_x61; kernel_rfl) (v:=⟨2,1,List.length L59,ints .i64 L59⟩) (by subst e_x61; kernel_rfl) rfl (toNat_lt g60)) (by kernel_rfl) trivial ?_
          obtain ⟨x62,e_x62,h⟩ := lt_some h
          refine TI_segK (i:=5) (j:=7) (s':={ σ := [(3,.lf (.v (.int .i64 u3))),(13,.lf (.vec 49)),(14,.lf (.v (.int .i64 x17))),(17,.lf (.vec 82)),(18,.lf (.v (.int .i64 x62))),(84,.lf (.vec 49)),(85,.lf (.v (.int .i64 (List.length L18 : Int)))),(86,.lf (.v (.int .i64 x49)))],H := [],V := [(49,⟨2,1,List.length L18,ints .i64 L18⟩),(82,⟨2,1,List.length L59,ints .i64 L59⟩)],M := M6,ds := [] }) [3,13,14,17,18,84,85,86] [] [49,82] (by subst e_x62;kernel_rfl) (by kernel_rfl) ?_
          refine TI_end (by kernel_rfl) ?_
          refine blockQ_n ?_
          refine thenQ_n ?_
          refine T_region (id:=24) (by kernel_rfl) ?_
          obtain ⟨x63,e_x63,h⟩ := lt_some h
          refine TI_segK (i:=0) (j:=2) (s':={ σ := [(3,.lf (.v (.int .i64 u3))),(13,.lf (.vec 49)),(14,.lf (.v (.int .i64 x17))),(17,.lf (.vec 82)),(18,.lf (.v (.int .i64 x62))),(84,.lf (.vec 49)),(85,.lf (.v (.int .i64 (List.length L18 : Int)))),(86,.lf (.v (.int .i64 x63)))],H := [],V := [(49,⟨2,1,List.length L18,ints .i64 L18⟩),(82,⟨2,1,List.length L59,ints .i64 L59⟩)],M := M6,ds := [] }) [3,13,14,17,18,84,85,86] [] [49,82] (by subst e_x63;kernel_rfl) (by kernel_rfl) ?_
          refine TI_end (by kernel_rfl) ?_
          refine thenQ_n ?_
          exact ⟨n51,Nat.lt_succ_self _,x62,x63,L59,keep_sub (ts:=[3,13,14,17,18,84,85,86]) (hs:=[]) (vs:=[49,82]) (by kernel_rfl),h⟩
         | false =>
          replace h := sp_f h
          refine T_condF (x:=(.tmp 87)) (c1:=(sub [1,1,1,1,1,1,1,1,1,1,0,1,0,0,1,0,0] (bodyOf Try.f19))) (c2:=(sub [1,1,1,1,1,1,1,1,1,1,0,1,0,0,1,0,1] (bodyOf Try.f19))) (by kernel_rfl) (by kernel_rfl) ?_
          refine T_keep (s':={ σ := [(13,.lf (.vec 49)),(17,.lf (.vec 82)),(18,.lf (.v (.int .i64 x48)))],H := [],V := [(49,⟨2,1,List.length L18,ints .i64 L18⟩),(82,⟨2,1,List.length L50,ints .i64 L50⟩)],M := M6,ds := [] }) [13,17,18] [] [49,82] (by kernel_rfl) ?_
          refine T_exit (id:=2) (by kernel_rfl) ?_
          refine thenQ_x ?_
          refine thenQ_x ?_
          refine blockQ_x ?_
          refine thenQ_n ?_
          exact ⟨x48,L50,keep_sub (ts:=[13,17,18]) (hs:=[]) (vs:=[49,82]) (by kernel_rfl),h⟩
       ·rintro s' ⟨x45,L46,hsub,h⟩
        subst e_j47
        refine thenQ_n ?_
        refine T_sub hsub ?_
        refine T_seq (c1:=(sub [1,1,1,1,1,1,1,1,1,1,1,0] (bodyOf Try.f19))) (c2:=(sub [1,1,1,1,1,1,1,1,1,1,1,1] (bodyOf Try.f19))) (by kernel_rfl) ?_
        refine T_seq (c1:=(sub [1,1,1,1,1,1,1,1,1,1,1,0,0] (bodyOf Try.f19))) (c2:=(sub [1,1,1,1,1,1,1,1,1,1,1,0,1] (bodyOf Try.f19))) (by kernel_rfl) ?_
        refine T_region (id:=25) (by kernel_rfl) ?_
        refine TI_segK (i:=0) (j:=3) (s':={ σ := [(13,.lf (.vec 49)),(17,.lf (.vec 82)),(18,.lf (.v (.int .i64 x45))),(107,.lf (.v (.int .i64 (List.length L46 : Int)))),(108,.lf (.v (.int .i64 (0 : Int))))],H := [],V := [(49,⟨2,1,List.length L18,ints .i64 L18⟩),(82,⟨2,1,List.length L46,ints .i64 L46⟩)],M := M6,ds := [] }) [13,17,18,107,108] [] [49,82] (by kernel_rfl) (by kernel_rfl) ?_
        refine TI_end (by kernel_rfl) ?_
        refine thenQ_n ?_
        obtain ⟨j65,e_j65,h⟩ := jn_some h
        refine T_bcut (id:=4) (c1:=(sub [1,1,1,1,1,1,1,1,1,1,1,0,1,0] (bodyOf Try.f19))) (fun s' => ∃ (L64 : List Int),Sub { σ := [(17,.lf (.vec 82))],H := [],V := [(82,⟨2,1,List.length L64,ints .i64 L64⟩)],M := M6,ds := [] } s' ∧ j65 L64 = some r) (by kernel_rfl) ?_ ?_
        ·refine T_loop (c1:=(sub [1,1,1,1,1,1,1,1,1,1,1,0,1,0,0] (bodyOf Try.f19))) (by kernel_rfl) (fun n69 s' => ∃ (x66 : Int) (x67 : Int) (L68 : List Int),Sub { σ := [(13,.lf (.vec 49)),(17,.lf (.vec 82)),(18,.lf (.v (.int .i64 x66))),(107,.lf (.v (.int .i64 (List.length L46 : Int)))),(108,.lf (.v (.int .i64 x67)))],H := [],V := [(49,⟨2,1,List.length L18,ints .i64 L18⟩),(82,⟨2,1,List.length L68,ints .i64 L68⟩)],M := M6,ds := [] } s' ∧ p19_l3 k L18 L46 j65 n69 x66 x67 L68 = some r) (k:=k) ⟨x45,(0 : Int),L46,keep_sub (ts:=[13,17,18,107,108]) (hs:=[]) (vs:=[49,82]) (by kernel_rfl),h⟩ ?_
         rintro n69 s' ⟨x66,x67,L68,hsub,h⟩
         cases n69 with
         | zero => rw [p19_l3] at h;cases h
         | succ n69 =>
          rw [p19_l3] at h
          refine T_sub hsub ?_
          refine T_seq (c1:=(sub [1,1,1,1,1,1,1,1,1,1,1,0,1,0,0,0] (bodyOf Try.f19))) (c2:=(sub [1,1,1,1,1,1,1,1,1,1,1,0,1,0,0,1] (bodyOf Try.f19))) (by kernel_rfl) ?_
          refine T_region (id:=26) (by kernel_rfl) ?_
          obtain ⟨b70,e_b70,h⟩ := lt_some h
          refine TI_segK (i:=0) (j:=1) (s':={ σ := [(13,.lf (.vec 49)),(17,.lf (.vec 82)),(18,.lf (.v (.int .i64 x66))),(107,.lf (.v (.int .i64 (List.length L46 : Int)))),(108,.lf (.v (.int .i64 x67))),(109,.lf (.v (.bool b70)))],H := [],V := [(49,⟨2,1,List.length L18,ints .i64 L18⟩),(82,⟨2,1,List.length L68,ints .i64 L68⟩)],M := M6,ds := [] }) [13,17,18,107,108,109] [] [49,82] (by subst e_b70;kernel_rfl) (by kernel_rfl) ?_
          refine TI_end (by kernel_rfl) ?_
          refine thenQ_n ?_
          refine T_seq (c1:=(sub [1,1,1,1,1,1,1,1,1,1,1,0,1,0,0,1,0] (bodyOf Try.f19))) (c2:=(sub [1,1,1,1,1,1,1,1,1,1,1,0,1,0,0,1,1] (bodyOf Try.f19))) (by kernel_rfl) ?_
          cases b70 with
          | true =>
           replace h := sp_t h
           refine T_condT (x:=(.tmp 109)) (c1:=(sub [1,1,1,1,1,1,1,1,1,1,1,0,1,0,0,1,0,0] (bodyOf Try.f19))) (c2:=(sub [1,1,1,1,1,1,1,1,1,1,1,0,1,0,0,1,0,1] (bodyOf Try.f19))) (by kernel_rfl) (by kernel_rfl) ?_
           refine T_keep (s':={ σ := [(13,.lf (.vec 49)),(17,.lf (.vec 82)),(18,.lf (.v (.int .i64 x66))),(107,.lf (.v (.int .i64 (List.length L46 : Int)))),(108,.lf (.v (.int .i64 x67)))],H := [],V := [(49,⟨2,1,List.length L18,ints .i64 L18⟩),(82,⟨2,1,List.length L68,ints .i64 L68⟩)],M := M6,ds := [] }) [13,17,18,107,108] [] [49,82] (by kernel_rfl) ?_
           refine T_skip (by kernel_rfl) ?_
           refine thenQ_n ?_
           obtain ⟨j73,e_j73,h⟩ := jn_some h
           refine T_cut (c1:=(sub [1,1,1,1,1,1,1,1,1,1,1,0,1,0,0,1,1,0] (bodyOf Try.f19))) (c2:=(sub [1,1,1,1,1,1,1,1,1,1,1,0,1,0,0,1,1,1] (bodyOf Try.f19))) (fun s' => ∃ (x71 : Int) (L72 : List Int),Sub { σ := [(13,.lf (.vec 49)),(17,.lf (.vec 82)),(18,.lf (.v (.int .i64 x71))),(107,.lf (.v (.int .i64 (List.length L46 : Int)))),(108,.lf (.v (.int .i64 x67)))],H := [],V := [(49,⟨2,1,List.length L18,ints .i64 L18⟩),(82,⟨2,1,List.length L72,ints .i64 L72⟩)],M := M6,ds := [] } s' ∧ j73 x71 L72 = some r) (by kernel_rfl) ?_ ?_
           ·refine T_block (id:=5) (c1:=(sub [1,1,1,1,1,1,1,1,1,1,1,0,1,0,0,1,1,0,0] (bodyOf Try.f19))) (by kernel_rfl) ?_
            refine T_seq (c1:=(sub [1,1,1,1,1,1,1,1,1,1,1,0,1,0,0,1,1,0,0,0] (bodyOf Try.f19))) (c2:=(sub [1,1,1,1,1,1,1,1,1,1,1,0,1,0,0,1,1,0,0,1] (bodyOf Try.f19))) (by kernel_rfl) ?_
            refine T_region (id:=27) (by kernel_rfl) ?_
            refine TI_segK (i:=0) (j:=2) (s':={ σ := [(13,.lf (.vec 49)),(17,.lf (.vec 82)),(18,.lf (.v (.int .i64 x66))),(21,.lf (.v (.int .i64 x67))),(107,.lf (.v (.int .i64 (List.length L46 : Int)))),(108,.lf (.v (.int .i64 x67)))],H := [],V := [(49,⟨2,1,List.length L18,ints .i64 L18⟩),(82,⟨2,1,List.length L68,ints .i64 L68⟩)],M := M6,ds := [] }) [13,17,18,21,107,108] [] [49,82] (by kernel_rfl) (by kernel_rfl) ?_
            refine TI_end (by kernel_rfl) ?_
            refine thenQ_n ?_
            obtain ⟨j75,e_j75,h⟩ := jn_some h
            refine T_cut (c1:=(sub [1,1,1,1,1,1,1,1,1,1,1,0,1,0,0,1,1,0,0,1,0] (bodyOf Try.f19))) (c2:=(sub [1,1,1,1,1,1,1,1,1,1,1,0,1,0,0,1,1,0,0,1,1] (bodyOf Try.f19))) (fun s' => ∃ (b74 : Bool),Sub { σ := [(13,.lf (.vec 49)),(17,.lf (.vec 82)),(18,.lf (.v (.int .i64 x66))),(21,.lf (.v (.int .i64 x67))),(107,.lf (.v (.int .i64 (List.length L46 : Int)))),(108,.lf (.v (.int .i64 x67))),(123,.lf (.v (.bool b74)))],H := [],V := [(49,⟨2,1,List.length L18,ints .i64 L18⟩),(82,⟨2,1,List.length L68,ints .i64 L68⟩)],M := M6,ds := [] } s' ∧ j75 b74 = some r) (by kernel_rfl) ?_ ?_
            ·obtain ⟨b76,e_b76,h⟩ := lt_some h
             cases b76 with
             | true =>
              replace h := sp_t h
              obtain ⟨g77,h⟩ := gd_some h
              obtain ⟨x78,e_x78,h⟩ := lt_some h
              obtain ⟨g79,h⟩ := gd_some h
              obtain ⟨x80,e_x80,h⟩ := lt_some h
              obtain ⟨b81,e_b81,h⟩ := lt_some h
              refine T_draw' (id:=28) [] [0,0,0,0,0,0,0,0,0,0,0,0,0] (by kernel_rfl) (by kernel_rfl) (by kernel_rfl) (by kernel_rfl) [(111,.lf (.v (.int .i64 x66))),(112,.lf (.v (.bool true))),(113,.lf (.v (.bool true))),(114,.lf (.vec 82)),(115,.lf (.v (.int .i64 x67))),(116,.lf (.vel 82 1 ((x67).toNat) 0)),(117,.lf (.v (.int .i64 x78))),(118,.lf (.vec 49)),(119,.lf (.v (.int .i64 x67))),(120,.lf (.vel 49 1 ((x67).toNat) 0)),(121,.lf (.v (.int .i64 x80))),(122,.lf (.v (.bool b81))),(123,.lf (.v (.bool b81)))] (by kernel_rfl) (wfs_lf _ (by kernel_rfl)) ?_
              refine Stage_nil (stage_all' [0,2,3,4,7,8,11,12] [1,5,6,9,10] (by kernel_rfl) (by subst_vars; kernel_rfl) (by kernel_rfl) ⟨QF_at (i:=1) (d:=112) (x:=.lf (.v (.bool true))) (show OpAt _ _ _ 1 112 _ from by exact At_bin (d:=112) (b:=.gtr) (u:=.int .i64 x66) (v:=.int .i64 (0 : Int)) (w':=.bool true) (by subst_vars; kernel_rfl) (by rw [show exBin .gtr (.int .i64 x66) (.int .i64 (0 : Int)) = some (.bool (decide (x66 > (0 : Int)))) from by kernel_rfl,← e_b76])) (by kernel_rfl) (by subst_vars; kernel_rfl),⟨QF_at (i:=5) (d:=116) (x:=.lf (.vel 82 1 ((x67).toNat) 0)) (show OpAt _ _ _ 5 116 _ from by exact At_idxV (d:=116) (z:=x67) (n:=82) (sz:=1) (v:=⟨2,1,List.length L68,ints .i64 L68⟩) (by subst_vars; kernel_rfl) (by subst_vars; kernel_rfl) g77) (by kernel_rfl) (by subst_vars; kernel_rfl),⟨QF_at (i:=6) (d:=117) (x:=.lf (.v (.int .i64 x78))) (show OpAt _ _ _ 6 117 _ from by rw [e_x78]; exact At_ldVI (d:=117) (n:=82) (q:=(x67).toNat) (k:=.i64) (L:=L68) (by subst_vars; kernel_rfl) (v:=⟨2,1,List.length L68,ints .i64 L68⟩) (by subst_vars; kernel_rfl) rfl (toNat_lt g77)) (by kernel_rfl) (by subst_vars; kernel_rfl),⟨QF_at (i:=9) (d:=120) (x:=.lf (.vel 49 1 ((x67).toNat) 0)) (show OpAt _ _ _ 9 120 _ from by exact At_idxV (d:=120) (z:=x67) (n:=49) (sz:=1) (v:=⟨2,1,List.length L18,ints .i64 L18⟩) (by subst_vars; kernel_rfl) (by subst_vars; kernel_rfl) g79) (by kernel_rfl) (by subst_vars; kernel_rfl),⟨QF_at (i:=10) (d:=121) (x:=.lf (.v (.int .i64 x80))) (show OpAt _ _ _ 10 121 _ from by rw [e_x80]; exact At_ldVI (d:=121) (n:=49) (q:=(x67).toNat) (k:=.i64) (L:=L18) (by subst_vars; kernel_rfl) (v:=⟨2,1,List.length L18,ints .i64 L18⟩) (by subst_vars; kernel_rfl) rfl (toNat_lt g79)) (by kernel_rfl) (by subst_vars; kernel_rfl),trivial⟩⟩⟩⟩⟩) ?_
              refine thenQ_n ?_
              exact ⟨b81,keep_sub (ts:=[13,17,18,21,107,108,123]) (hs:=[]) (vs:=[49,82]) (by subst_vars;kernel_rfl),h⟩
             | false =>
              replace h := sp_f h
              refine T_draw' (id:=28) [] [0,0,0,0,0,0,0,0,0,0,0,0,0] (by kernel_rfl) (by kernel_rfl) (by kernel_rfl) (by kernel_rfl) [(111,.lf (.v (.int .i64 x66))),(112,.lf (.v (.bool false))),(113,.lf (.v (.bool false))),(114,.tup []),(115,.tup []),(116,.tup []),(117,.tup []),(118,.tup []),(119,.tup []),(120,.tup []),(121,.tup []),(122,.tup []),(123,.lf (.v (.bool false)))] (by kernel_rfl) ⟨trivial,⟨trivial,⟨trivial,⟨(by intro y hy;cases hy),⟨(by intro y hy;cases hy),⟨(by intro y hy;cases hy),⟨(by intro y hy;cases hy),⟨(by intro y hy;cases hy),⟨(by intro y hy;cases hy),⟨(by intro y hy;cases hy),⟨(by intro y hy;cases hy),⟨(by intro y hy;cases hy),⟨trivial,trivial⟩⟩⟩⟩⟩⟩⟩⟩⟩⟩⟩⟩⟩ ?_
              refine Stage_nil (stage_all' [0,2,3,4,5,6,7,8,9,10,11,12] [1] (by kernel_rfl) (by kernel_rfl) (by kernel_rfl) ⟨QF_at (i:=1) (d:=112) (x:=.lf (.v (.bool false))) (show OpAt _ _ _ 1 112 _ from by exact At_bin (d:=112) (b:=.gtr) (u:=.int .i64 x66) (v:=.int .i64 (0 : Int)) (w':=.bool false) (by kernel_rfl) (by rw [show exBin .gtr (.int .i64 x66) (.int .i64 (0 : Int)) = some (.bool (decide (x66 > (0 : Int)))) from by kernel_rfl,← e_b76])) (by kernel_rfl) (by kernel_rfl),trivial⟩) ?_
              refine thenQ_n ?_
              exact ⟨false,keep_sub (ts:=[13,17,18,21,107,108,123]) (hs:=[]) (vs:=[49,82]) (by kernel_rfl),h⟩
            ·rintro s' ⟨b74,hsub,h⟩
             subst e_j75
             refine T_sub hsub ?_
             cases b74 with
             | true =>
              replace h := sp_t h
              refine T_condT (x:=(.tmp 123)) (c1:=(sub [1,1,1,1,1,1,1,1,1,1,1,0,1,0,0,1,1,0,0,1,1,0] (bodyOf Try.f19))) (c2:=(sub [1,1,1,1,1,1,1,1,1,1,1,0,1,0,0,1,1,0,0,1,1,1] (bodyOf Try.f19))) (by kernel_rfl) (by kernel_rfl) ?_
              refine T_keep (s':={ σ := [(13,.lf (.vec 49)),(17,.lf (.vec 82)),(18,.lf (.v (.int .i64 x66))),(21,.lf (.v (.int .i64 x67))),(107,.lf (.v (.int .i64 (List.length L46 : Int)))),(108,.lf (.v (.int .i64 x67)))],H := [],V := [(49,⟨2,1,List.length L18,ints .i64 L18⟩),(82,⟨2,1,List.length L68,ints .i64 L68⟩)],M := M6,ds := [] }) [13,17,18,21,107,108] [] [49,82] (by kernel_rfl) ?_
              refine T_seq (c1:=(sub [1,1,1,1,1,1,1,1,1,1,1,0,1,0,0,1,1,0,0,1,1,0,0] (bodyOf Try.f19))) (c2:=(sub [1,1,1,1,1,1,1,1,1,1,1,0,1,0,0,1,1,0,0,1,1,0,1] (bodyOf Try.f19))) (by kernel_rfl) ?_
              refine T_region (id:=29) (by kernel_rfl) ?_
              refine TI_segK (i:=0) (j:=2) (s':={ σ := [(13,.lf (.vec 49)),(17,.lf (.vec 82)),(18,.lf (.v (.int .i64 x66))),(107,.lf (.v (.int .i64 (List.length L46 : Int)))),(108,.lf (.v (.int .i64 x67))),(124,.lf (.vec 82)),(125,.lf (.v (.int .i64 x67)))],H := [],V := [(49,⟨2,1,List.length L18,ints .i64 L18⟩),(82,⟨2,1,List.length L68,ints .i64 L68⟩)],M := M6,ds := [] }) [13,17,18,107,108,124,125] [] [49,82] (by kernel_rfl) (by kernel_rfl) ?_
              obtain ⟨g82,h⟩ := gd_some h
              refine TI_at (i:=2) (d:=126) (x:=.lf (.vel 82 1 ((x67).toNat) 0)) (by exact At_idxV (d:=126) (z:=x67) (n:=82) (sz:=1) (v:=⟨2,1,List.length L68,ints .i64 L68⟩) (by kernel_rfl) (by kernel_rfl) g82) (by kernel_rfl) trivial ?_
              obtain ⟨x83,e_x83,h⟩ := lt_some h
              refine TI_at (i:=3) (d:=127) (x:=.lf (.v (.int .i64 x83))) (by rw [e_x83]; exact At_ldVI (d:=127) (n:=82) (q:=(x67).toNat) (k:=.i64) (L:=L68) (by subst e_x83; kernel_rfl) (v:=⟨2,1,List.length L68,ints .i64 L68⟩) (by subst e_x83; kernel_rfl) rfl (toNat_lt g82)) (by kernel_rfl) trivial ?_
              obtain ⟨x84,e_x84,h⟩ := lt_some h
              refine TI_segK (i:=4) (j:=5) (s':={ σ := [(13,.lf (.vec 49)),(17,.lf (.vec 82)),(18,.lf (.v (.int .i64 x66))),(107,.lf (.v (.int .i64 (List.length L46 : Int)))),(108,.lf (.v (.int .i64 x67))),(124,.lf (.vec 82)),(125,.lf (.v (.int .i64 x67))),(128,.lf (.v (.int .i64 x84)))],H := [],V := [(49,⟨2,1,List.length L18,ints .i64 L18⟩),(82,⟨2,1,List.length L68,ints .i64 L68⟩)],M := M6,ds := [] }) [13,17,18,107,108,124,125,128] [] [49,82] (by subst e_x84;kernel_rfl) (by kernel_rfl) ?_
              obtain ⟨g85,h⟩ := gd_some h
              refine TI_at (i:=5) (d:=129) (x:=.lf (.vel 82 1 ((x67).toNat) 0)) (by exact At_idxV (d:=129) (z:=x67) (n:=82) (sz:=1) (v:=⟨2,1,List.length L68,ints .i64 L68⟩) (by kernel_rfl) (by kernel_rfl) g85) (by kernel_rfl) trivial ?_
              obtain ⟨L86,e_L86,h⟩ := lt_some h
              refine TI_of (i:=6) (by kernel_rfl) (TE_stC (len2:=List.length L86) (m:=1) (n:=82) (sz:=1) (j:=(x67).toNat) (q:=0) (e:=2) (len:=List.length L68) (c:=[.one (.v (.int .i64 x84))]) (cs0:=ints .i64 L68) (cs2:=ints .i64 L86) (by subst e_L86; kernel_rfl) (by kernel_rfl) (by subst e_L86; kernel_rfl) (vle (toNat_lt g85)) (by kernel_rfl) (by rw [e_L86]; exact set1_ints (toNat_lt g85)) (by rw [e_L86,List.length_set]) ?_)
              refine TI_segK (i:=7) (j:=7) (s':={ σ := [(13,.lf (.vec 49)),(17,.lf (.vec 82)),(18,.lf (.v (.int .i64 x66))),(107,.lf (.v (.int .i64 (List.length L46 : Int)))),(108,.lf (.v (.int .i64 x67)))],H := [],V := [(49,⟨2,1,List.length L18,ints .i64 L18⟩),(82,⟨2,1,List.length L86,ints .i64 L86⟩)],M := M6,ds := [] }) [13,17,18,107,108] [] [49,82] (by kernel_rfl) (by kernel_rfl) ?_
              refine TI_end (by kernel_rfl) ?_
              refine thenQ_n ?_
              refine T_region (id:=30) (by kernel_rfl) ?_
              obtain ⟨x87,e_x87,h⟩ := lt_some h
              refine TI_segK (i:=0) (j:=3) (s':={ σ := [(13,.lf (.vec 49)),(17,.lf (.vec 82)),(18,.lf (.v (.int .i64 x87))),(107,.lf (.v (.int .i64 (List.length L46 : Int)))),(108,.lf (.v (.int .i64 x67)))],H := [],V := [(49,⟨2,1,List.length L18,ints .i64 L18⟩),(82,⟨2,1,List.length L86,ints .i64 L86⟩)],M := M6,ds := [] }) [13,17,18,107,108] [] [49,82] (by subst e_x87;kernel_rfl) (by kernel_rfl) ?_
              refine TI_end (by kernel_rfl) ?_
              refine blockQ_n ?_
              refine thenQ_n ?_
              exact ⟨x87,L86,keep_sub (ts:=[13,17,18,107,108]) (hs:=[]) (vs:=[49,82]) (by kernel_rfl),h⟩
             | false =>
              replace h := sp_f h
              refine T_condF (x:=(.tmp 123)) (c1:=(sub [1,1,1,1,1,1,1,1,1,1,1,0,1,0,0,1,1,0,0,1,1,0] (bodyOf Try.f19))) (c2:=(sub [1,1,1,1,1,1,1,1,1,1,1,0,1,0,0,1,1,0,0,1,1,1] (bodyOf Try.f19))) (by kernel_rfl) (by kernel_rfl) ?_
              refine T_keep (s':={ σ := [(13,.lf (.vec 49)),(17,.lf (.vec 82)),(18,.lf (.v (.int .i64 x66))),(107,.lf (.v (.int .i64 (List.length L46 : Int)))),(108,.lf (.v (.int .i64 x67)))],H := [],V := [(49,⟨2,1,List.length L18,ints .i64 L18⟩),(82,⟨2,1,List.length L68,ints .i64 L68⟩)],M := M6,ds := [] }) [13,17,18,107,108] [] [49,82] (by kernel_rfl) ?_
              refine T_skip (by kernel_rfl) ?_
              refine blockQ_n ?_
              refine thenQ_n ?_
              exact ⟨x66,L68,keep_sub (ts:=[13,17,18,107,108]) (hs:=[]) (vs:=[49,82]) (by kernel_rfl),h⟩
           ·rintro s' ⟨x71,L72,hsub,h⟩
            subst e_j73
            refine T_sub hsub ?_
            refine T_region (id:=31) (by kernel_rfl) ?_
            obtain ⟨x88,e_x88,h⟩ := lt_some h
            refine TI_segK (i:=0) (j:=2) (s':={ σ := [(13,.lf (.vec 49)),(17,.lf (.vec 82)),(18,.lf (.v (.int .i64 x71))),(107,.lf (.v (.int .i64 (List.length L46 : Int)))),(108,.lf (.v (.int .i64 x88)))],H := [],V := [(49,⟨2,1,List.length L18,ints .i64 L18⟩),(82,⟨2,1,List.length L72,ints .i64 L72⟩)],M := M6,ds := [] }) [13,17,18,107,108] [] [49,82] (by subst e_x88;kernel_rfl) (by kernel_rfl) ?_
            refine TI_end (by kernel_rfl) ?_
            refine thenQ_n ?_
            exact ⟨n69,Nat.lt_succ_self _,x71,x88,L72,keep_sub (ts:=[13,17,18,107,108]) (hs:=[]) (vs:=[49,82]) (by kernel_rfl),h⟩
          | false =>
           replace h := sp_f h
           refine T_condF (x:=(.tmp 109)) (c1:=(sub [1,1,1,1,1,1,1,1,1,1,1,0,1,0,0,1,0,0] (bodyOf Try.f19))) (c2:=(sub [1,1,1,1,1,1,1,1,1,1,1,0,1,0,0,1,0,1] (bodyOf Try.f19))) (by kernel_rfl) (by kernel_rfl) ?_
           refine T_keep (s':={ σ := [(17,.lf (.vec 82))],H := [],V := [(82,⟨2,1,List.length L68,ints .i64 L68⟩)],M := M6,ds := [] }) [17] [] [82] (by kernel_rfl) ?_
           refine T_exit (id:=4) (by kernel_rfl) ?_
           refine thenQ_x ?_
           refine thenQ_x ?_
           refine blockQ_x ?_
           refine thenQ_n ?_
           exact ⟨L68,keep_sub (ts:=[17]) (hs:=[]) (vs:=[82]) (by kernel_rfl),h⟩
        ·rintro s' ⟨L64,hsub,h⟩
         subst e_j65
         refine thenQ_n ?_
         refine T_sub hsub ?_
         refine T_seq (c1:=(sub [1,1,1,1,1,1,1,1,1,1,1,1,0] (bodyOf Try.f19))) (c2:=(sub [1,1,1,1,1,1,1,1,1,1,1,1,1] (bodyOf Try.f19))) (by kernel_rfl) ?_
         refine T_region (id:=32) (by kernel_rfl) ?_
         refine TI_segK (i:=0) (j:=3) (s':={ σ := [(8,.lf (.vec 82)),(9,.lf (.v (.int .i64 (0 : Int))))],H := [],V := [(82,⟨2,1,List.length L64,ints .i64 L64⟩)],M := M6,ds := [] }) [8,9] [] [82] (by kernel_rfl) (by kernel_rfl) ?_
         refine TI_end (by kernel_rfl) ?_
         refine thenQ_n ?_
         refine T_turn (turn_pubV 82 (v:=⟨2,1,List.length L64,ints .i64 L64⟩) (by kernel_rfl)) ?_
         rintro _ ⟨A89,c90,M91,rfl,hSA89,hcA89,-,hNA89,hM91⟩
         have fA89 : SlI M91 A89 c90 .i64 L64 := ⟨hSA89,hcA89⟩
         refine T_keep (s':={ σ := [(8,.lf (.v (.slice A89 (List.length L64) c90))),(9,.lf (.v (.int .i64 (0 : Int))))],H := [],V := [],M := M91,ds := [] }) [8,9] [] [] (by kernel_rfl) ?_
         refine T_ret (by kernel_rfl) ?_
         have h := Option.some.inj h
         subst h
         refine fin_ret (.tup [(some (.v (.slice A89 (List.length L64) c90)),[]),(some (.v (.int .i64 (0 : Int))),[])]) (by kernel_rfl) (by kernel_rfl) rfl ?_
         exact ⟨A89,c90,rfl,fA89⟩
def p12 (k : Nat) : Option Bool :=
 cl2 (p40 k ) fun v1 v2 => gd ((v2).length = 4) <| cl2 (p14 k v1 v2 ([(40 : Int),(50 : Int),(0 : Int),(4 : Int),(0 : Int),(1000 : Int),(0 : Int)])) fun v7 v8 => cl2 (p40 k ) fun v9 v10 => gd ((v10).length = 4) <| cl2 (p23 k v9 v10) fun v15 v16 => jn (fun (b17 : Bool) => some b17) fun j18 => lt' (v8 == (0 : Int)) fun b19 => sp b19 (lt' (v16 == (0 : Int)) fun b20 => sp b20 (lt' (v7 == (1 : Int)) fun b21 => sp b21 (lt' (v15 == (5 : Int)) fun b22 => j18 b22) (j18 false)) (j18 false)) (j18 false)
theorem hf12 : Try.prog.funcs[12]? = some Try.f12 := by kernel_rfl
theorem w12 (k : Nat) {M : Mem} {r} (h : p12 k = some r) :
  Fn Try.prog 12 [] M (fun x _ => x = .lf (.v (.bool r))) := by
 unfold p12 at h
 refine Fn_of (P:=Try.prog) (fn:=Try.f12) (c:=bodyOf Try.f12) [] hf12 (by kernel_rfl) (Nat.le_of_ble_eq_true (by kernel_rfl)) (args_ok (by kernel_rfl) trivial) fun w => ?_
 change T _ _ _ (endQ _ _ _)
 refine T_seq (c1:=(sub [0] (bodyOf Try.f12))) (c2:=(sub [1] (bodyOf Try.f12))) (by kernel_rfl) ?_
 refine T_region (id:=0) (by kernel_rfl) ?_
 refine TI_segK (i:=0) (j:=1) (s':={ σ := [],H := [],V := [],M := M,ds := [] }) [] [] [] (by kernel_rfl) (by kernel_rfl) ?_
 refine TI_end (by kernel_rfl) ?_
 refine thenQ_n ?_
 refine T_seq (c1:=(sub [1,0] (bodyOf Try.f12))) (c2:=(sub [1,1] (bodyOf Try.f12))) (by kernel_rfl) ?_
 refine T_region (id:=1) (by kernel_rfl) ?_
 obtain ⟨v1,v2,c_v1,h⟩ := cl2_some h
 obtain ⟨g5,h⟩ := gd_some h
 refine TI_of (i:=0) (by kernel_rfl) (TE_callR (d:=6) (f:=40) (args:=[]) (by kernel_rfl) (by kernel_rfl) (w40 k  c_v1) ?_)
 rintro _ M6 _ hM6 _ ⟨A3,c4,rfl,fA3⟩
 refine TI_segK (i:=1) (j:=2) (s':={ σ := [(6,.agg [.one (.v (.slice A3 (List.length v1) c4)),.arr .i64 4 v2]),(7,.agg [.arr .i64 7 [(40 : Int),(50 : Int),(0 : Int),(4 : Int),(0 : Int),(1000 : Int),(0 : Int)]])],H := [],V := [],M := M6,ds := [] }) [6,7] [] [] (by kernel_rfl) (by kernel_rfl) ?_
 obtain ⟨v7,v8,c_v7,h⟩ := cl2_some h
 refine TI_at (i:=2) (d:=8) (x:=.tup [(some (.v (.int .i64 v7)),[]),(some (.v (.int .i64 v8)),[])]) (At_call (d:=8) (f:=14) (args:=[rval (.agg [.one (.v (.slice A3 (List.length v1) c4)),.arr .i64 4 v2]),rval (.agg [.arr .i64 7 [(40 : Int),(50 : Int),(0 : Int),(4 : Int),(0 : Int),(1000 : Int),(0 : Int)]])]) (x:=.tup [(some (.v (.int .i64 v7)),[]),(some (.v (.int .i64 v8)),[])]) (by kernel_rfl) (w14 k fA3 g5 rfl c_v7)) (by kernel_rfl) (by intro y hy; simp only [List.mem_cons,List.mem_nil_iff,or_false] at hy; rcases hy with rfl | rfl <;> exact trivial) ?_
 refine TI_segK (i:=3) (j:=8) (s':={ σ := [(1,.lf (.v (.int .i64 v7))),(2,.lf (.v (.int .i64 v8)))],H := [],V := [],M := M6,ds := [] }) [1,2] [] [] (by kernel_rfl) (by kernel_rfl) ?_
 refine TI_end (by kernel_rfl) ?_
 refine thenQ_n ?_
 refine T_seq (c1:=(sub [1,1,0] (bodyOf Try.f12))) (c2:=(sub [1,1,1] (bodyOf Try.f12))) (by kernel_rfl) ?_
 refine T_region (id:=2) (by kernel_rfl) ?_
 obtain ⟨v9,v10,c_v9,h⟩ := cl2_some h
 obtain ⟨g13,h⟩ := gd_some h
 refine TI_of (i:=0) (by kernel_rfl) (TE_callR (d:=12) (f:=40) (args:=[]) (by kernel_rfl) (by kernel_rfl) (w40 k  c_v9) ?_)
 rintro _ M14 _ hM14 _ ⟨A11,c12,rfl,fA11⟩
 obtain ⟨v15,v16,c_v15,h⟩ := cl2_some h
 refine TI_at (i:=1) (d:=13) (x:=.tup [(some (.v (.int .i64 v15)),[]),(some (.v (.int .i64 v16)),[])]) (At_call (d:=13) (f:=23) (args:=[rval (.agg [.one (.v (.slice A11 (List.length v9) c12)),.arr .i64 4 v10])]) (x:=.tup [(some (.v (.int .i64 v15)),[]),(some (.v (.int .i64 v16)),[])]) (by kernel_rfl) (w23 k fA11 g13 c_v15)) (by kernel_rfl) (by intro y hy; simp only [List.mem_cons,List.mem_nil_iff,or_false] at hy; rcases hy with rfl | rfl <;> exact trivial) ?_
 refine TI_segK (i:=2) (j:=7) (s':={ σ := [(1,.lf (.v (.int .i64 v7))),(2,.lf (.v (.int .i64 v8))),(3,.lf (.v (.int .i64 v15))),(4,.lf (.v (.int .i64 v16)))],H := [],V := [],M := M14,ds := [] }) [1,2,3,4] [] [] (by kernel_rfl) (by kernel_rfl) ?_
 refine TI_end (by kernel_rfl) ?_
 refine thenQ_n ?_
 obtain ⟨j18,e_j18,h⟩ := jn_some h
 refine T_cut (c1:=(sub [1,1,1,0] (bodyOf Try.f12))) (c2:=(sub [1,1,1,1] (bodyOf Try.f12))) (fun s' => ∃ (b17 : Bool),Sub { σ := [(0,.lf (.v (.bool b17)))],H := [],V := [],M := M14,ds := [] } s' ∧ j18 b17 = some r) (by kernel_rfl) ?_ ?_
 ·refine T_region (id:=3) (by kernel_rfl) ?_
  obtain ⟨b19,e_b19,h⟩ := lt_some h
  refine TI_segK (i:=0) (j:=3) (s':={ σ := [(1,.lf (.v (.int .i64 v7))),(3,.lf (.v (.int .i64 v15))),(4,.lf (.v (.int .i64 v16))),(18,.lf (.v (.bool b19)))],H := [],V := [],M := M14,ds := [] }) [1,3,4,18] [] [] (by subst e_b19;kernel_rfl) (by kernel_rfl) ?_
  cases b19 with
  | true =>
   replace h := sp_t h
   obtain ⟨b20,e_b20,h⟩ := lt_some h
   refine TI_segK (i:=3) (j:=7) (s':={ σ := [(1,.lf (.v (.int .i64 v7))),(3,.lf (.v (.int .i64 v15))),(22,.lf (.v (.bool b20)))],H := [],V := [],M := M14,ds := [] }) [1,3,22] [] [] (by subst e_b20;kernel_rfl) (by kernel_rfl) ?_
   cases b20 with
   | true =>
    replace h := sp_t h
    obtain ⟨b21,e_b21,h⟩ := lt_some h
    refine TI_segK (i:=7) (j:=11) (s':={ σ := [(3,.lf (.v (.int .i64 v15))),(26,.lf (.v (.bool b21)))],H := [],V := [],M := M14,ds := [] }) [3,26] [] [] (by subst e_b21;kernel_rfl) (by kernel_rfl) ?_
    cases b21 with
    | true =>
     replace h := sp_t h
     obtain ⟨b22,e_b22,h⟩ := lt_some h
     refine TI_segK (i:=11) (j:=15) (s':={ σ := [(0,.lf (.v (.bool b22)))],H := [],V := [],M := M14,ds := [] }) [0] [] [] (by subst e_b22;kernel_rfl) (by kernel_rfl) ?_
     refine TI_end (by kernel_rfl) ?_
     refine thenQ_n ?_
     exact ⟨b22,keep_sub (ts:=[0]) (hs:=[]) (vs:=[]) (by kernel_rfl),h⟩
    | false =>
     replace h := sp_f h
     refine TI_segK (i:=11) (j:=15) (s':={ σ := [(0,.lf (.v (.bool false)))],H := [],V := [],M := M14,ds := [] }) [0] [] [] (by kernel_rfl) (by kernel_rfl) ?_
     refine TI_end (by kernel_rfl) ?_
     refine thenQ_n ?_
     exact ⟨false,keep_sub (ts:=[0]) (hs:=[]) (vs:=[]) (by kernel_rfl),h⟩
   | false =>
    replace h := sp_f h
    refine TI_segK (i:=7) (j:=15) (s':={ σ := [(0,.lf (.v (.bool false)))],H := [],V := [],M := M14,ds := [] }) [0] [] [] (by kernel_rfl) (by kernel_rfl) ?_
    refine TI_end (by kernel_rfl) ?_
    refine thenQ_n ?_
    exact ⟨false,keep_sub (ts:=[0]) (hs:=[]) (vs:=[]) (by kernel_rfl),h⟩
  | false =>
   replace h := sp_f h
   refine TI_segK (i:=3) (j:=15) (s':={ σ := [(0,.lf (.v (.bool false)))],H := [],V := [],M := M14,ds := [] }) [0] [] [] (by kernel_rfl) (by kernel_rfl) ?_
   refine TI_end (by kernel_rfl) ?_
   refine thenQ_n ?_
   exact ⟨false,keep_sub (ts:=[0]) (hs:=[]) (vs:=[]) (by kernel_rfl),h⟩
 ·rintro s' ⟨b17,hsub,h⟩
  subst e_j18
  refine T_sub hsub ?_
  refine T_ret (by kernel_rfl) ?_
  have h := Option.some.inj h
  subst h
  refine fin_ret (.lf (.v (.bool b17))) (by kernel_rfl) (by kernel_rfl) rfl ?_
  rfl
end Go.Proofs.Ythjkejbgknemgaa
namespace Go.Proofs.Ythjkejbgknemgaa
open Go.RowKit
def p5_l1 (k : Nat) (j23 : Option Bool) (v9 : List Int) (v14 : List Int) : Nat → Int → Option Bool
 | 0,_ => none
 | n25 + 1,x24 => lt' (decide (x24 < (List.length v9 : Int))) fun b26 => sp b26 (gd ((0 : Int) ≤ x24 ∧ x24 < (List.length v9 : Int)) <| lt' (List.getD v9 ((x24).toNat) 0) fun x28 => gd ((0 : Int) ≤ x24 ∧ x24 < (List.length v14 : Int)) <| lt' (List.getD v14 ((x24).toNat) 0) fun x30 => lt' (x28 != x30) fun b31 => sp b31 (some false) (lt' (wr .i64 (x24 + (1 : Int))) fun x32 => p5_l1 k j23 v9 v14 n25 x32)) (j23)
def p5 (k : Nat) (u0_0 : List (List Int)) (u0_1 : List Int) (u1 : List (List Int)) (u2 : Int) (u3 : Int) : Option Bool :=
 jn (fun (b1 : Bool) => sp b1 (cl (p12 k ) fun v8 => some v8) (cl2 (p19 k u0_0 u0_1 u1 u2 u3) fun v9 v10 => cl2 (p20 k u0_0 u0_1 u1 u2 u3) fun v14 v15 => jn (fun (b19 : Bool) => sp b19 (some false) (jn (cl (p12 k ) fun v33 => some v33) fun j23 => p5_l1 k j23 v9 v14 k (0 : Int))) fun j20 => lt' (v10 != v15) fun b21 => sp b21 (j20 true) (lt' ((List.length v9 : Int) != (List.length v14 : Int)) fun b22 => j20 b22))) fun j2 => cl (p18 k u0_0 u0_1) fun v3 => sp v3 (j2 true) (lt' (decide ((List.length u1 : Int) > (8 : Int))) fun b4 => sp b4 (lt' (decide ((List.length u1 : Int) ≤ (32 : Int))) fun b5 => sp b5 (j2 true) (lt' (decide ((List.length u1 : Int) > (60 : Int))) fun b6 => j2 b6)) (lt' (decide ((List.length u1 : Int) > (60 : Int))) fun b7 => j2 b7))
theorem hf5 : Try.prog.funcs[5]? = some Try.f5 := by kernel_rfl
theorem w5 (k : Nat) {M : Mem} {Au0_0 : Option Addr} {cu0_0 : Nat} {Au1 : Option Addr} {cu1 : Nat} {u0_0 : List (List Int)} {u0_1 : List Int} {u1 : List (List Int)} {u2 : Int} {u3 : Int} (hu0_0 : SlR M Au0_0 cu0_0 .i64 11 u0_0) (hu0_1 : u0_1.length = 4) (hu1 : SlR M Au1 cu1 .i64 7 u1) {r} (h : p5 k u0_0 u0_1 u1 u2 u3 = some r) :
  Fn Try.prog 5 [rval (.agg [.one (.v (.slice Au0_0 (List.length u0_0) cu0_0)),.arr .i64 4 u0_1]),rval (.lf (.v (.slice Au1 (List.length u1) cu1))),rval (.lf (.v (.int .i64 u2))),rval (.lf (.v (.int .i64 u3)))] M (fun x _ => x = .lf (.v (.bool r))) := by
 unfold p5 at h
 refine Fn_of (P:=Try.prog) (fn:=Try.f5) (c:=bodyOf Try.f5) [.agg [.one (.v (.slice Au0_0 (List.length u0_0) cu0_0)),.arr .i64 4 u0_1],.lf (.v (.slice Au1 (List.length u1) cu1)),.lf (.v (.int .i64 u2)),.lf (.v (.int .i64 u3))] hf5 (by kernel_rfl) (Nat.le_of_ble_eq_true (by kernel_rfl)) (args_ok (by kernel_rfl) ⟨⟨rfl,⟨hu0_1,trivial⟩⟩,⟨trivial,⟨trivial,⟨trivial,trivial⟩⟩⟩⟩) fun w => ?_
 change T _ _ _ (endQ _ _ _)
 refine T_seq (c1:=(sub [0] (bodyOf Try.f5))) (c2:=(sub [1] (bodyOf Try.f5))) (by kernel_rfl) ?_
 refine T_region (id:=0) (by kernel_rfl) ?_
 refine TI_segK (i:=0) (j:=2) (s':={ σ := [(1,.lf (.v (.slice Au1 (List.length u1) cu1))),(2,.lf (.v (.int .i64 u2))),(3,.lf (.v (.int .i64 u3))),(4,.lf (.own 4 0))],H := [(4,[.one (.v (.slice Au0_0 (List.length u0_0) cu0_0)),.arr .i64 4 u0_1])],V := [],M := M,ds := [] }) [1,2,3,4] [4] [] (by kernel_rfl) (by kernel_rfl) ?_
 refine TI_end (by kernel_rfl) ?_
 refine thenQ_n ?_
 refine T_seq (c1:=(sub [1,0] (bodyOf Try.f5))) (c2:=(sub [1,1] (bodyOf Try.f5))) (by kernel_rfl) ?_
 obtain ⟨j2,e_j2,h⟩ := jn_some h
 refine T_cut (c1:=(sub [1,0,0] (bodyOf Try.f5))) (c2:=(sub [1,0,1] (bodyOf Try.f5))) (fun s' => ∃ (b1 : Bool),Sub { σ := [(1,.lf (.v (.slice Au1 (List.length u1) cu1))),(2,.lf (.v (.int .i64 u2))),(3,.lf (.v (.int .i64 u3))),(4,.lf (.own 4 0)),(30,.lf (.v (.bool b1)))],H := [(4,[.one (.v (.slice Au0_0 (List.length u0_0) cu0_0)),.arr .i64 4 u0_1])],V := [],M := M,ds := [] } s' ∧ j2 b1 = some r) (by kernel_rfl) ?_ ?_
 ·refine T_region (id:=1) (by kernel_rfl) ?_
  refine TI_segK (i:=0) (j:=1) (s':={ σ := [(1,.lf (.v (.slice Au1 (List.length u1) cu1))),(2,.lf (.v (.int .i64 u2))),(3,.lf (.v (.int .i64 u3))),(4,.lf (.own 4 0)),(14,.agg [.one (.v (.slice Au0_0 (List.length u0_0) cu0_0)),.arr .i64 4 u0_1])],H := [(4,[.one (.v (.slice Au0_0 (List.length u0_0) cu0_0)),.arr .i64 4 u0_1])],V := [],M := M,ds := [] }) [1,2,3,4,14] [4] [] (by kernel_rfl) (by kernel_rfl) ?_
  obtain ⟨v3,c_v3,h⟩ := cl_some h
  refine TI_at (i:=1) (d:=15) (x:=.lf (.v (.bool v3))) (At_call (d:=15) (f:=18) (args:=[rval (.agg [.one (.v (.slice Au0_0 (List.length u0_0) cu0_0)),.arr .i64 4 u0_1])]) (x:=.lf (.v (.bool v3))) (by kernel_rfl) (w18 k hu0_0 hu0_1 c_v3)) (by kernel_rfl) trivial ?_
  refine TI_segK (i:=2) (j:=3) (s':={ σ := [(1,.lf (.v (.slice Au1 (List.length u1) cu1))),(2,.lf (.v (.int .i64 u2))),(3,.lf (.v (.int .i64 u3))),(4,.lf (.own 4 0)),(16,.lf (.v (.bool v3)))],H := [(4,[.one (.v (.slice Au0_0 (List.length u0_0) cu0_0)),.arr .i64 4 u0_1])],V := [],M := M,ds := [] }) [1,2,3,4,16] [4] [] (by kernel_rfl) (by kernel_rfl) ?_
  cases v3 with
  | true =>
   replace h := sp_t h
   refine TI_segK (i:=3) (j:=17) (s':={ σ := [(1,.lf (.v (.slice Au1 (List.length u1) cu1))),(2,.lf (.v (.int .i64 u2))),(3,.lf (.v (.int .i64 u3))),(4,.lf (.own 4 0)),(30,.lf (.v (.bool true)))],H := [(4,[.one (.v (.slice Au0_0 (List.length u0_0) cu0_0)),.arr .i64 4 u0_1])],V := [],M := M,ds := [] }) [1,2,3,4,30] [4] [] (by kernel_rfl) (by kernel_rfl) ?_
   refine TI_end (by kernel_rfl) ?_
   refine thenQ_n ?_
   exact ⟨true,keep_sub (ts:=[1,2,3,4,30]) (hs:=[4]) (vs:=[]) (by kernel_rfl),h⟩
  | false =>
   replace h := sp_f h
   obtain ⟨b4,e_b4,h⟩ := lt_some h
   refine TI_segK (i:=3) (j:=7) (s':={ σ := [(1,.lf (.v (.slice Au1 (List.length u1) cu1))),(2,.lf (.v (.int .i64 u2))),(3,.lf (.v (.int .i64 u3))),(4,.lf (.own 4 0)),(16,.lf (.v (.bool false))),(20,.lf (.v (.bool b4)))],H := [(4,[.one (.v (.slice Au0_0 (List.length u0_0) cu0_0)),.arr .i64 4 u0_1])],V := [],M := M,ds := [] }) [1,2,3,4,16,20] [4] [] (by subst e_b4;kernel_rfl) (by kernel_rfl) ?_
   cases b4 with
   | true =>
    replace h := sp_t h
    obtain ⟨b5,e_b5,h⟩ := lt_some h
    refine TI_segK (i:=7) (j:=13) (s':={ σ := [(1,.lf (.v (.slice Au1 (List.length u1) cu1))),(2,.lf (.v (.int .i64 u2))),(3,.lf (.v (.int .i64 u3))),(4,.lf (.own 4 0)),(26,.lf (.v (.bool b5)))],H := [(4,[.one (.v (.slice Au0_0 (List.length u0_0) cu0_0)),.arr .i64 4 u0_1])],V := [],M := M,ds := [] }) [1,2,3,4,26] [4] [] (by subst e_b5;kernel_rfl) (by kernel_rfl) ?_
    cases b5 with
    | true =>
     replace h := sp_t h
     refine TI_segK (i:=13) (j:=17) (s':={ σ := [(1,.lf (.v (.slice Au1 (List.length u1) cu1))),(2,.lf (.v (.int .i64 u2))),(3,.lf (.v (.int .i64 u3))),(4,.lf (.own 4 0)),(30,.lf (.v (.bool true)))],H := [(4,[.one (.v (.slice Au0_0 (List.length u0_0) cu0_0)),.arr .i64 4 u0_1])],V := [],M := M,ds := [] }) [1,2,3,4,30] [4] [] (by kernel_rfl) (by kernel_rfl) ?_
     refine TI_end (by kernel_rfl) ?_
     refine thenQ_n ?_
     exact ⟨true,keep_sub (ts:=[1,2,3,4,30]) (hs:=[4]) (vs:=[]) (by kernel_rfl),h⟩
    | false =>
     replace h := sp_f h
     obtain ⟨b6,e_b6,h⟩ := lt_some h
     refine TI_segK (i:=13) (j:=17) (s':={ σ := [(1,.lf (.v (.slice Au1 (List.length u1) cu1))),(2,.lf (.v (.int .i64 u2))),(3,.lf (.v (.int .i64 u3))),(4,.lf (.own 4 0)),(30,.lf (.v (.bool b6)))],H := [(4,[.one (.v (.slice Au0_0 (List.length u0_0) cu0_0)),.arr .i64 4 u0_1])],V := [],M := M,ds := [] }) [1,2,3,4,30] [4] [] (by subst e_b6;kernel_rfl) (by kernel_rfl) ?_
     refine TI_end (by kernel_rfl) ?_
     refine thenQ_n ?_
     exact ⟨b6,keep_sub (ts:=[1,2,3,4,30]) (hs:=[4]) (vs:=[]) (by kernel_rfl),h⟩
   | false =>
    replace h := sp_f h
    obtain ⟨b7,e_b7,h⟩ := lt_some h
    refine TI_segK (i:=7) (j:=17) (s':={ σ := [(1,.lf (.v (.slice Au1 (List.length u1) cu1))),(2,.lf (.v (.int .i64 u2))),(3,.lf (.v (.int .i64 u3))),(4,.lf (.own 4 0)),(30,.lf (.v (.bool b7)))],H := [(4,[.one (.v (.slice Au0_0 (List.length u0_0) cu0_0)),.arr .i64 4 u0_1])],V := [],M := M,ds := [] }) [1,2,3,4,30] [4] [] (by subst e_b7;kernel_rfl) (by kernel_rfl) ?_
    refine TI_end (by kernel_rfl) ?_
    refine thenQ_n ?_
    exact ⟨b7,keep_sub (ts:=[1,2,3,4,30]) (hs:=[4]) (vs:=[]) (by kernel_rfl),h⟩
 ·rintro s' ⟨b1,hsub,h⟩
  subst e_j2
  refine T_sub hsub ?_
  cases b1 with
  | true =>
   replace h := sp_t h
   refine T_condT (x:=(.tmp 30)) (c1:=(sub [1,0,1,0] (bodyOf Try.f5))) (c2:=(sub [1,0,1,1] (bodyOf Try.f5))) (by kernel_rfl) (by kernel_rfl) ?_
   refine T_keep (s':={ σ := [],H := [],V := [],M := M,ds := [] }) [] [] [] (by kernel_rfl) ?_
   refine T_seq (c1:=(sub [1,0,1,0,0] (bodyOf Try.f5))) (c2:=(sub [1,0,1,0,1] (bodyOf Try.f5))) (by kernel_rfl) ?_
   refine T_region (id:=2) (by kernel_rfl) ?_
   obtain ⟨v8,c_v8,h⟩ := cl_some h
   refine TI_at (i:=0) (d:=31) (x:=.lf (.v (.bool v8))) (At_call (d:=31) (f:=12) (args:=[]) (x:=.lf (.v (.bool v8))) (by kernel_rfl) (w12 k  c_v8)) (by kernel_rfl) trivial ?_
   refine TI_segK (i:=1) (j:=2) (s':={ σ := [(8,.lf (.v (.bool v8)))],H := [],V := [],M := M,ds := [] }) [8] [] [] (by kernel_rfl) (by kernel_rfl) ?_
   refine TI_end (by kernel_rfl) ?_
   refine thenQ_n ?_
   refine T_ret (by kernel_rfl) ?_
   refine thenQ_r ?_
   have h := Option.some.inj h
   subst h
   refine fin_ret (.lf (.v (.bool v8))) (by kernel_rfl) (by kernel_rfl) rfl ?_
   rfl
  | false =>
   replace h := sp_f h
   refine T_condF (x:=(.tmp 30)) (c1:=(sub [1,0,1,0] (bodyOf Try.f5))) (c2:=(sub [1,0,1,1] (bodyOf Try.f5))) (by kernel_rfl) (by kernel_rfl) ?_
   refine T_keep (s':={ σ := [(1,.lf (.v (.slice Au1 (List.length u1) cu1))),(2,.lf (.v (.int .i64 u2))),(3,.lf (.v (.int .i64 u3))),(4,.lf (.own 4 0))],H := [(4,[.one (.v (.slice Au0_0 (List.length u0_0) cu0_0)),.arr .i64 4 u0_1])],V := [],M := M,ds := [] }) [1,2,3,4] [4] [] (by kernel_rfl) ?_
   refine T_skip (by kernel_rfl) ?_
   refine thenQ_n ?_
   refine T_seq (c1:=(sub [1,1,0] (bodyOf Try.f5))) (c2:=(sub [1,1,1] (bodyOf Try.f5))) (by kernel_rfl) ?_
   refine T_region (id:=3) (by kernel_rfl) ?_
   refine TI_segK (i:=0) (j:=4) (s':={ σ := [(1,.lf (.v (.slice Au1 (List.length u1) cu1))),(2,.lf (.v (.int .i64 u2))),(3,.lf (.v (.int .i64 u3))),(4,.lf (.own 4 0)),(33,.agg [.one (.v (.slice Au0_0 (List.length u0_0) cu0_0)),.arr .i64 4 u0_1]),(34,.lf (.v (.slice Au1 (List.length u1) cu1))),(35,.lf (.v (.int .i64 u2))),(36,.lf (.v (.int .i64 u3)))],H := [(4,[.one (.v (.slice Au0_0 (List.length u0_0) cu0_0)),.arr .i64 4 u0_1])],V := [],M := M,ds := [] }) [1,2,3,4,33,34,35,36] [4] [] (by kernel_rfl) (by kernel_rfl) ?_
   obtain ⟨v9,v10,c_v9,h⟩ := cl2_some h
   refine TI_of (i:=4) (by kernel_rfl) (TE_callR (d:=37) (f:=19) (args:=[rval (.agg [.one (.v (.slice Au0_0 (List.length u0_0) cu0_0)),.arr .i64 4 u0_1]),rval (.lf (.v (.slice Au1 (List.length u1) cu1))),rval (.lf (.v (.int .i64 u2))),rval (.lf (.v (.int .i64 u3)))]) (by kernel_rfl) (by kernel_rfl) (w19 k hu0_0 hu0_1 hu1 c_v9) ?_)
   rintro _ M13 _ hM13 _ ⟨A11,c12,rfl,fA11⟩
   refine TI_segK (i:=5) (j:=10) (s':={ σ := [(1,.lf (.v (.slice Au1 (List.length u1) cu1))),(2,.lf (.v (.int .i64 u2))),(3,.lf (.v (.int .i64 u3))),(4,.lf (.own 4 0)),(9,.lf (.v (.slice A11 (List.length v9) c12))),(10,.lf (.v (.int .i64 v10)))],H := [(4,[.one (.v (.slice Au0_0 (List.length u0_0) cu0_0)),.arr .i64 4 u0_1])],V := [],M := M13,ds := [] }) [1,2,3,4,9,10] [4] [] (by kernel_rfl) (by kernel_rfl) ?_
   refine TI_end (by kernel_rfl) ?_
   refine thenQ_n ?_
   refine T_seq (c1:=(sub [1,1,1,0] (bodyOf Try.f5))) (c2:=(sub [1,1,1,1] (bodyOf Try.f5))) (by kernel_rfl) ?_
   refine T_region (id:=4) (by kernel_rfl) ?_
   refine TI_segK (i:=0) (j:=4) (s':={ σ := [(9,.lf (.v (.slice A11 (List.length v9) c12))),(10,.lf (.v (.int .i64 v10))),(41,.agg [.one (.v (.slice Au0_0 (List.length u0_0) cu0_0)),.arr .i64 4 u0_1]),(42,.lf (.v (.slice Au1 (List.length u1) cu1))),(43,.lf (.v (.int .i64 u2))),(44,.lf (.v (.int .i64 u3)))],H := [],V := [],M := M13,ds := [] }) [9,10,41,42,43,44] [] [] (by kernel_rfl) (by kernel_rfl) ?_
   obtain ⟨v14,v15,c_v14,h⟩ := cl2_some h
   refine TI_of (i:=4) (by kernel_rfl) (TE_callR (d:=45) (f:=20) (args:=[rval (.agg [.one (.v (.slice Au0_0 (List.length u0_0) cu0_0)),.arr .i64 4 u0_1]),rval (.lf (.v (.slice Au1 (List.length u1) cu1))),rval (.lf (.v (.int .i64 u2))),rval (.lf (.v (.int .i64 u3)))]) (by kernel_rfl) (by kernel_rfl) (w20 k (hu0_0.le hM13) hu0_1 (hu1.le hM13) c_v14) ?_)
   rintro _ M18 _ hM18 _ ⟨A16,c17,rfl,fA16⟩
   refine TI_segK (i:=5) (j:=10) (s':={ σ := [(9,.lf (.v (.slice A11 (List.length v9) c12))),(10,.lf (.v (.int .i64 v10))),(11,.lf (.v (.slice A16 (List.length v14) c17))),(12,.lf (.v (.int .i64 v15)))],H := [],V := [],M := M18,ds := [] }) [9,10,11,12] [] [] (by kernel_rfl) (by kernel_rfl) ?_
   refine TI_end (by kernel_rfl) ?_
   refine thenQ_n ?_
   refine T_seq (c1:=(sub [1,1,1,1,0] (bodyOf Try.f5))) (c2:=(sub [1,1,1,1,1] (bodyOf Try.f5))) (by kernel_rfl) ?_
   obtain ⟨j20,e_j20,h⟩ := jn_some h
   refine T_cut (c1:=(sub [1,1,1,1,0,0] (bodyOf Try.f5))) (c2:=(sub [1,1,1,1,0,1] (bodyOf Try.f5))) (fun s' => ∃ (b19 : Bool),Sub { σ := [(9,.lf (.v (.slice A11 (List.length v9) c12))),(11,.lf (.v (.slice A16 (List.length v14) c17))),(57,.lf (.v (.bool b19)))],H := [],V := [],M := M18,ds := [] } s' ∧ j20 b19 = some r) (by kernel_rfl) ?_ ?_
   ·refine T_region (id:=5) (by kernel_rfl) ?_
    obtain ⟨b21,e_b21,h⟩ := lt_some h
    refine TI_segK (i:=0) (j:=4) (s':={ σ := [(9,.lf (.v (.slice A11 (List.length v9) c12))),(11,.lf (.v (.slice A16 (List.length v14) c17))),(51,.lf (.v (.bool b21)))],H := [],V := [],M := M18,ds := [] }) [9,11,51] [] [] (by subst e_b21;kernel_rfl) (by kernel_rfl) ?_
    cases b21 with
    | true =>
     replace h := sp_t h
     refine TI_segK (i:=4) (j:=10) (s':={ σ := [(9,.lf (.v (.slice A11 (List.length v9) c12))),(11,.lf (.v (.slice A16 (List.length v14) c17))),(57,.lf (.v (.bool true)))],H := [],V := [],M := M18,ds := [] }) [9,11,57] [] [] (by kernel_rfl) (by kernel_rfl) ?_
     refine TI_end (by kernel_rfl) ?_
     refine thenQ_n ?_
     exact ⟨true,keep_sub (ts:=[9,11,57]) (hs:=[]) (vs:=[]) (by kernel_rfl),h⟩
    | false =>
     replace h := sp_f h
     obtain ⟨b22,e_b22,h⟩ := lt_some h
     refine TI_segK (i:=4) (j:=10) (s':={ σ := [(9,.lf (.v (.slice A11 (List.length v9) c12))),(11,.lf (.v (.slice A16 (List.length v14) c17))),(57,.lf (.v (.bool b22)))],H := [],V := [],M := M18,ds := [] }) [9,11,57] [] [] (by subst e_b22;kernel_rfl) (by kernel_rfl) ?_
     refine TI_end (by kernel_rfl) ?_
     refine thenQ_n ?_
     exact ⟨b22,keep_sub (ts:=[9,11,57]) (hs:=[]) (vs:=[]) (by kernel_rfl),h⟩
   ·rintro s' ⟨b19,hsub,h⟩
    subst e_j20
    refine T_sub hsub ?_
    cases b19 with
    | true =>
     replace h := sp_t h
     refine T_condT (x:=(.tmp 57)) (c1:=(sub [1,1,1,1,0,1,0] (bodyOf Try.f5))) (c2:=(sub [1,1,1,1,0,1,1] (bodyOf Try.f5))) (by kernel_rfl) (by kernel_rfl) ?_
     refine T_keep (s':={ σ := [],H := [],V := [],M := M18,ds := [] }) [] [] [] (by kernel_rfl) ?_
     refine T_seq (c1:=(sub [1,1,1,1,0,1,0,0] (bodyOf Try.f5))) (c2:=(sub [1,1,1,1,0,1,0,1] (bodyOf Try.f5))) (by kernel_rfl) ?_
     refine T_region (id:=6) (by kernel_rfl) ?_
     refine TI_segK (i:=0) (j:=1) (s':={ σ := [(8,.lf (.v (.bool false)))],H := [],V := [],M := M18,ds := [] }) [8] [] [] (by kernel_rfl) (by kernel_rfl) ?_
     refine TI_end (by kernel_rfl) ?_
     refine thenQ_n ?_
     refine T_ret (by kernel_rfl) ?_
     refine thenQ_r ?_
     have h := Option.some.inj h
     subst h
     refine fin_ret (.lf (.v (.bool false))) (by kernel_rfl) (by kernel_rfl) rfl ?_
     rfl
    | false =>
     replace h := sp_f h
     refine T_condF (x:=(.tmp 57)) (c1:=(sub [1,1,1,1,0,1,0] (bodyOf Try.f5))) (c2:=(sub [1,1,1,1,0,1,1] (bodyOf Try.f5))) (by kernel_rfl) (by kernel_rfl) ?_
     refine T_keep (s':={ σ := [(9,.lf (.v (.slice A11 (List.length v9) c12))),(11,.lf (.v (.slice A16 (List.length v14) c17)))],H := [],V := [],M := M18,ds := [] }) [9,11] [] [] (by kernel_rfl) ?_
     refine T_skip (by kernel_rfl) ?_
     refine thenQ_n ?_
     refine T_seq (c1:=(sub [1,1,1,1,1,0] (bodyOf Try.f5))) (c2:=(sub [1,1,1,1,1,1] (bodyOf Try.f5))) (by kernel_rfl) ?_
     refine T_seq (c1:=(sub [1,1,1,1,1,0,0] (bodyOf Try.f5))) (c2:=(sub [1,1,1,1,1,0,1] (bodyOf Try.f5))) (by kernel_rfl) ?_
     refine T_region (id:=7) (by kernel_rfl) ?_
     refine TI_segK (i:=0) (j:=1) (s':={ σ := [(9,.lf (.v (.slice A11 (List.length v9) c12))),(11,.lf (.v (.slice A16 (List.length v14) c17))),(13,.lf (.v (.int .i64 (0 : Int))))],H := [],V := [],M := M18,ds := [] }) [9,11,13] [] [] (by kernel_rfl) (by kernel_rfl) ?_
     refine TI_end (by kernel_rfl) ?_
     refine thenQ_n ?_
     obtain ⟨j23,e_j23,h⟩ := jn_some h
     refine T_bcut (id:=0) (c1:=(sub [1,1,1,1,1,0,1,0] (bodyOf Try.f5))) (fun s' => Sub { σ := [],H := [],V := [],M := M18,ds := [] } s' ∧ j23 = some r) (by kernel_rfl) ?_ ?_
     ·refine T_loop (c1:=(sub [1,1,1,1,1,0,1,0,0] (bodyOf Try.f5))) (by kernel_rfl) (fun n25 s' => ∃ (x24 : Int),Sub { σ := [(9,.lf (.v (.slice A11 (List.length v9) c12))),(11,.lf (.v (.slice A16 (List.length v14) c17))),(13,.lf (.v (.int .i64 x24)))],H := [],V := [],M := M18,ds := [] } s' ∧ p5_l1 k j23 v9 v14 n25 x24 = some r) (k:=k) ⟨(0 : Int),keep_sub (ts:=[9,11,13]) (hs:=[]) (vs:=[]) (by kernel_rfl),h⟩ ?_
      rintro n25 s' ⟨x24,hsub,h⟩
      cases n25 with
      | zero => rw [p5_l1] at h;cases h
      | succ n25 =>
       rw [p5_l1] at h
       refine T_sub hsub ?_
       refine T_seq (c1:=(sub [1,1,1,1,1,0,1,0,0,0] (bodyOf Try.f5))) (c2:=(sub [1,1,1,1,1,0,1,0,0,1] (bodyOf Try.f5))) (by kernel_rfl) ?_
       refine T_seq (c1:=(sub [1,1,1,1,1,0,1,0,0,0,0] (bodyOf Try.f5))) (c2:=(sub [1,1,1,1,1,0,1,0,0,0,1] (bodyOf Try.f5))) (by kernel_rfl) ?_
       refine T_region (id:=8) (by kernel_rfl) ?_
       obtain ⟨b26,e_b26,h⟩ := lt_some h
       refine TI_segK (i:=0) (j:=4) (s':={ σ := [(9,.lf (.v (.slice A11 (List.length v9) c12))),(11,.lf (.v (.slice A16 (List.length v14) c17))),(13,.lf (.v (.int .i64 x24))),(61,.lf (.v (.bool b26)))],H := [],V := [],M := M18,ds := [] }) [9,11,13,61] [] [] (by subst e_b26;kernel_rfl) (by kernel_rfl) ?_
       refine TI_end (by kernel_rfl) ?_
       refine thenQ_n ?_
       cases b26 with
       | true =>
        replace h := sp_t h
        refine T_condT (x:=(.tmp 61)) (c1:=(sub [1,1,1,1,1,0,1,0,0,0,1,0] (bodyOf Try.f5))) (c2:=(sub [1,1,1,1,1,0,1,0,0,0,1,1] (bodyOf Try.f5))) (by kernel_rfl) (by kernel_rfl) ?_
        refine T_keep (s':={ σ := [(9,.lf (.v (.slice A11 (List.length v9) c12))),(11,.lf (.v (.slice A16 (List.length v14) c17))),(13,.lf (.v (.int .i64 x24)))],H := [],V := [],M := M18,ds := [] }) [9,11,13] [] [] (by kernel_rfl) ?_
        refine T_skip (by kernel_rfl) ?_
        refine thenQ_n ?_
        refine T_seq (c1:=(sub [1,1,1,1,1,0,1,0,0,1,0] (bodyOf Try.f5))) (c2:=(sub [1,1,1,1,1,0,1,0,0,1,1] (bodyOf Try.f5))) (by kernel_rfl) ?_
        refine T_block (id:=1) (c1:=(sub [1,1,1,1,1,0,1,0,0,1,0,0] (bodyOf Try.f5))) (by kernel_rfl) ?_
        refine T_seq (c1:=(sub [1,1,1,1,1,0,1,0,0,1,0,0,0] (bodyOf Try.f5))) (c2:=(sub [1,1,1,1,1,0,1,0,0,1,0,0,1] (bodyOf Try.f5))) (by kernel_rfl) ?_
        obtain ⟨g27,h⟩ := gd_some h
        obtain ⟨x28,e_x28,h⟩ := lt_some h
        obtain ⟨g29,h⟩ := gd_some h
        obtain ⟨x30,e_x30,h⟩ := lt_some h
        obtain ⟨b31,e_b31,h⟩ := lt_some h
        refine T_draw' (id:=10) [] [0,0,0,0,0,0,0,0,0] (by kernel_rfl) (by kernel_rfl) (by kernel_rfl) (by kernel_rfl) [(64,.lf (.v (.slice A11 (List.length v9) c12))),(65,.lf (.v (.int .i64 x24))),(66,.lf (.ep (.slice A11 (List.length v9) c12) 1 ((x24).toNat) 0)),(67,.lf (.v (.int .i64 x28))),(68,.lf (.v (.slice A16 (List.length v14) c17))),(69,.lf (.v (.int .i64 x24))),(70,.lf (.ep (.slice A16 (List.length v14) c17) 1 ((x24).toNat) 0)),(71,.lf (.v (.int .i64 x30))),(72,.lf (.v (.bool b31)))] (by kernel_rfl) (wfs_lf _ (by kernel_rfl)) ?_
        refine Stage_nil (stage_all' [0,1,4,5,8] [2,3,6,7] (by kernel_rfl) (by subst_vars; kernel_rfl) (by kernel_rfl) ⟨QF_at (i:=2) (d:=66) (x:=.lf (.ep (.slice A11 (List.length v9) c12) 1 ((x24).toNat) 0)) (show OpAt _ _ _ 2 66 _ from by exact At_idxI (d:=66) (z:=x24) (by subst_vars; kernel_rfl) g27 (fA11.le hM18)) (by kernel_rfl) (by subst_vars; kernel_rfl),⟨QF_at (i:=3) (d:=67) (x:=.lf (.v (.int .i64 x28))) (show OpAt _ _ _ 3 67 _ from by rw [e_x28]; exact At_ldI (d:=67) (q:=(x24).toNat) (by subst_vars; kernel_rfl) (toNat_lt g27) (fA11.le hM18)) (by kernel_rfl) (by subst_vars; kernel_rfl),⟨QF_at (i:=6) (d:=70) (x:=.lf (.ep (.slice A16 (List.length v14) c17) 1 ((x24).toNat) 0)) (show OpAt _ _ _ 6 70 _ from by exact At_idxI (d:=70) (z:=x24) (by subst_vars; kernel_rfl) g29 fA16) (by kernel_rfl) (by subst_vars; kernel_rfl),⟨QF_at (i:=7) (d:=71) (x:=.lf (.v (.int .i64 x30))) (show OpAt _ _ _ 7 71 _ from by rw [e_x30]; exact At_ldI (d:=71) (q:=(x24).toNat) (by subst_vars; kernel_rfl) (toNat_lt g29) fA16) (by kernel_rfl) (by subst_vars; kernel_rfl),trivial⟩⟩⟩⟩) ?_
        refine thenQ_n ?_
        refine T_keep (s':={ σ := [(9,.lf (.v (.slice A11 (List.length v9) c12))),(11,.lf (.v (.slice A16 (List.length v14) c17))),(13,.lf (.v (.int .i64 x24))),(72,.lf (.v (.bool b31)))],H := [],V := [],M := M18,ds := [] }) [9,11,13,72] [] [] (by subst_vars;kernel_rfl) ?_
        cases b31 with
        | true =>
         replace h := sp_t h
         refine T_condT (x:=(.tmp 72)) (c1:=(sub [1,1,1,1,1,0,1,0,0,1,0,0,1,0] (bodyOf Try.f5))) (c2:=(sub [1,1,1,1,1,0,1,0,0,1,0,0,1,1] (bodyOf Try.f5))) (by kernel_rfl) (by kernel_rfl) ?_
         refine T_keep (s':={ σ := [],H := [],V := [],M := M18,ds := [] }) [] [] [] (by kernel_rfl) ?_
         refine T_seq (c1:=(sub [1,1,1,1,1,0,1,0,0,1,0,0,1,0,0] (bodyOf Try.f5))) (c2:=(sub [1,1,1,1,1,0,1,0,0,1,0,0,1,0,1] (bodyOf Try.f5))) (by kernel_rfl) ?_
         refine T_region (id:=11) (by kernel_rfl) ?_
         refine TI_segK (i:=0) (j:=1) (s':={ σ := [(8,.lf (.v (.bool false)))],H := [],V := [],M := M18,ds := [] }) [8] [] [] (by kernel_rfl) (by kernel_rfl) ?_
         refine TI_end (by kernel_rfl) ?_
         refine thenQ_n ?_
         refine T_ret (by kernel_rfl) ?_
         refine blockQ_r ?_
         refine thenQ_r ?_
         refine thenQ_r ?_
         refine blockQ_r ?_
         refine thenQ_r ?_
         refine thenQ_r ?_
         have h := Option.some.inj h
         subst h
         refine fin_ret (.lf (.v (.bool false))) (by kernel_rfl) (by kernel_rfl) rfl ?_
         rfl
        | false =>
         replace h := sp_f h
         refine T_condF (x:=(.tmp 72)) (c1:=(sub [1,1,1,1,1,0,1,0,0,1,0,0,1,0] (bodyOf Try.f5))) (c2:=(sub [1,1,1,1,1,0,1,0,0,1,0,0,1,1] (bodyOf Try.f5))) (by kernel_rfl) (by kernel_rfl) ?_
         refine T_keep (s':={ σ := [(9,.lf (.v (.slice A11 (List.length v9) c12))),(11,.lf (.v (.slice A16 (List.length v14) c17))),(13,.lf (.v (.int .i64 x24)))],H := [],V := [],M := M18,ds := [] }) [9,11,13] [] [] (by kernel_rfl) ?_
         refine T_skip (by kernel_rfl) ?_
         refine blockQ_n ?_
         refine thenQ_n ?_
         refine T_region (id:=9) (by kernel_rfl) ?_
         obtain ⟨x32,e_x32,h⟩ := lt_some h
         refine TI_segK (i:=0) (j:=3) (s':={ σ := [(9,.lf (.v (.slice A11 (List.length v9) c12))),(11,.lf (.v (.slice A16 (List.length v14) c17))),(13,.lf (.v (.int .i64 x32)))],H := [],V := [],M := M18,ds := [] }) [9,11,13] [] [] (by subst e_x32;kernel_rfl) (by kernel_rfl) ?_
         refine TI_end (by kernel_rfl) ?_
         refine thenQ_n ?_
         exact ⟨n25,Nat.lt_succ_self _,x32,keep_sub (ts:=[9,11,13]) (hs:=[]) (vs:=[]) (by kernel_rfl),h⟩
       | false =>
        replace h := sp_f h
        refine T_condF (x:=(.tmp 61)) (c1:=(sub [1,1,1,1,1,0,1,0,0,0,1,0] (bodyOf Try.f5))) (c2:=(sub [1,1,1,1,1,0,1,0,0,0,1,1] (bodyOf Try.f5))) (by kernel_rfl) (by kernel_rfl) ?_
        refine T_keep (s':={ σ := [],H := [],V := [],M := M18,ds := [] }) [] [] [] (by kernel_rfl) ?_
        refine T_exit (id:=0) (by kernel_rfl) ?_
        refine thenQ_x ?_
        refine thenQ_x ?_
        refine blockQ_x ?_
        refine thenQ_n ?_
        exact ⟨keep_sub (ts:=[]) (hs:=[]) (vs:=[]) (by kernel_rfl),h⟩
     ·rintro s' ⟨hsub,h⟩
      subst e_j23
      refine thenQ_n ?_
      refine T_sub hsub ?_
      refine T_seq (c1:=(sub [1,1,1,1,1,1,0] (bodyOf Try.f5))) (c2:=(sub [1,1,1,1,1,1,1] (bodyOf Try.f5))) (by kernel_rfl) ?_
      refine T_region (id:=12) (by kernel_rfl) ?_
      obtain ⟨v33,c_v33,h⟩ := cl_some h
      refine TI_at (i:=0) (d:=73) (x:=.lf (.v (.bool v33))) (At_call (d:=73) (f:=12) (args:=[]) (x:=.lf (.v (.bool v33))) (by kernel_rfl) (w12 k  c_v33)) (by kernel_rfl) trivial ?_
      refine TI_segK (i:=1) (j:=2) (s':={ σ := [(8,.lf (.v (.bool v33)))],H := [],V := [],M := M18,ds := [] }) [8] [] [] (by kernel_rfl) (by kernel_rfl) ?_
      refine TI_end (by kernel_rfl) ?_
      refine thenQ_n ?_
      refine T_ret (by kernel_rfl) ?_
      have h := Option.some.inj h
      subst h
      refine fin_ret (.lf (.v (.bool v33))) (by kernel_rfl) (by kernel_rfl) rfl ?_
      rfl
end Go.Proofs.Ythjkejbgknemgaa
namespace Go.Proofs.Ythjkejbgknemgaa
open Go.RowKit Classical
theorem wr64 {z : Int} (h1 : -9223372036854775808 ≤ z) (h2 : z ≤ 9223372036854775807) : wr .i64 z = z := by
  simp only [wr, IntKind.wrap, IntKind.signed, IntKind.bits]
  simp
  omega
theorem mx_eq (x y : Int) : mx x y = max x y := by unfold mx; omega
theorem mn_eq (x y : Int) : mn x y = min x y := by unfold mn; omega
theorem lt_v {α β : Type} (x : β) (F : β → Option α) : lt' x F = F x := rfl
theorem jn_v {α β : Type} (F : β) (G : β → Option α) : jn F G = G F := rfl
theorem cl_v {α β : Type} (v : β) (F : β → Option α) : cl (some v) F = F v := rfl
theorem cl2_v {α β γ : Type} (a : α) (b : β) (F : α → β → Option γ) : cl2 (some (a, b)) F = F a b := rfl
theorem sp_tt {α : Type} (x y : Option α) : sp true x y = x := rfl
theorem sp_ff {α : Type} (x y : Option α) : sp false x y = y := rfl
theorem sp_d {α : Type} {c : Prop} [h : Decidable c] (x y : Option α) : sp (decide c) x y = if c then x else y := by
  cases h <;> rfl
theorem sp_nd {α : Type} {c : Prop} [h : Decidable c] (x y : Option α) : sp (!decide c) x y = if c then y else x := by
  cases h <;> rfl
theorem gd_v {α : Type} {c : Prop} [Decidable c] (h : c) (x : Option α) : gd c x = x := by unfold gd; rw [if_pos h]
def rA (r : List Int) : Int := r.getD 0 0
def rPL (r : List Int) : Int := r.getD 1 0
def rPH (r : List Int) : Int := r.getD 2 0
def rVL (k : Nat) (r : List Int) : Int := r.getD (3 + k * 2 + 0) 0
def rVH (k : Nat) (r : List Int) : Int := r.getD (3 + k * 2 + 1) 0
def bandOk (a b : Int) : Prop := -1073741824 ≤ a ∧ a ≤ b ∧ b ≤ 1073741824
instance bandDec (a b : Int) : Decidable (bandOk a b) := inferInstanceAs (Decidable (-1073741824 ≤ a ∧ a ≤ b ∧ b ≤ 1073741824))
def readOk (r : List Int) : Prop := 0 ≤ rA r ∧ rA r ≤ 1099511627776 ∧ bandOk (rPL r) (rPH r) ∧ ∀ k, k < 4 → bandOk (rVL k r) (rVH k r)
def rd (R : List (List Int)) (i : Nat) : List Int := R.getD i []
def stT (R : List (List Int)) : Int := rA (rd R 0)
def lastI (R : List (List Int)) : Int := rA (rd R (R.length - 1)) - stT R
structure ArgOk (R : List (List Int)) (D : List Int) : Prop where
  n2 : 2 ≤ R.length
  read : ∀ i, i < R.length → readOk (rd R i)
  asc : ∀ i, i + 1 < R.length → rA (rd R i) < rA (rd R (i + 1))
  span : lastI R ≤ 2000
  dr : ∀ k, k < 4 → 0 ≤ D.getD k 0 ∧ D.getD k 0 ≤ 1048576
def ab (x : Int) : Int := max x (-x)
def PL (t : Int) : List (List Int) → Int → Int
  | [], b => b
  | r :: l, b => PL t l (if rA r ≤ t then max b (rPL r) else b)
def PH (t : Int) : List (List Int) → Int → Int
  | [], b => b
  | r :: l, b => PH t l (if t ≤ rA r then min b (rPH r) else b)
def VL (d : Int) (k : Nat) (t : Int) : List (List Int) → Int → Int
  | [], b => b
  | r :: l, b => VL d k t l (max b (rVL k r - d * ab (rA r - t)))
def VH (d : Int) (k : Nat) (t : Int) : List (List Int) → Int → Int
  | [], b => b
  | r :: l, b => VH d k t l (min b (rVH k r + d * ab (rA r - t)))
def pl (R : List (List Int)) (m : Int) : Int := PL (stT R + m) R (-1099511627776)
def ph (R : List (List Int)) (m : Int) : Int := PH (stT R + m) R 1099511627776
def vl (R : List (List Int)) (D : List Int) (k : Nat) (m : Int) : Int := VL (D.getD k 0) k (stT R + m) R (-1125899906842624)
def vh (R : List (List Int)) (D : List Int) (k : Nat) (m : Int) : Int := VH (D.getD k 0) k (stT R + m) R 1125899906842624
def SumAt (R : List (List Int)) (D : List Int) (m : Int) : Prop := pl R m ≤ ph R m ∧ ∀ k, k < 4 → vl R D k m ≤ vh R D k m
def SumOk (R : List (List Int)) (D : List Int) : Prop := ∀ m : Int, 0 ≤ m → m ≤ lastI R → SumAt R D m
noncomputable def logE (R : List (List Int)) (D : List Int) : Int := if 64 < R.length then 6 else if ¬ ArgOk R D then 2 else if ¬ SumOk R D then 16 else 0
structure LogOk (R : List (List Int)) (D : List Int) : Prop where
  n64 : R.length ≤ 64
  arg : ArgOk R D
  sum : SumOk R D
theorem logE_zero {R D} : logE R D = 0 ↔ LogOk R D := by
  unfold logE
  constructor
  · intro h
    split at h
    · omega
    · split at h
      · omega
      · split at h
        · omega
        · rename_i h1 h2 h3
          exact ⟨by omega, Classical.not_not.1 h2, Classical.not_not.1 h3⟩
  · intro h
    rw [if_neg (by have := h.n64; omega), if_neg (by have := h.arg; simpa using this), if_neg (by have := h.sum; simpa using this)]
theorem PL_le {t x : Int} : ∀ {l : List (List Int)} {b : Int}, PL t l b ≤ x ↔ b ≤ x ∧ ∀ r ∈ l, rA r ≤ t → rPL r ≤ x
  | [], b => by simp [PL]
  | r :: l, b => by
    simp only [PL]
    rw [PL_le]
    simp only [List.mem_cons, forall_eq_or_imp]
    split
    · rename_i h; constructor
      · rintro ⟨h1, h2⟩; exact ⟨by omega, fun _ => by omega, h2⟩
      · rintro ⟨h1, h2, h3⟩; have := h2 h; exact ⟨by omega, h3⟩
    · rename_i h; constructor
      · rintro ⟨h1, h2⟩; exact ⟨h1, fun hh => absurd hh h, h2⟩
      · rintro ⟨h1, _, h3⟩; exact ⟨h1, h3⟩
theorem le_PH {t x : Int} : ∀ {l : List (List Int)} {b : Int}, x ≤ PH t l b ↔ x ≤ b ∧ ∀ r ∈ l, t ≤ rA r → x ≤ rPH r
  | [], b => by simp [PH]
  | r :: l, b => by
    simp only [PH]
    rw [le_PH]
    simp only [List.mem_cons, forall_eq_or_imp]
    split
    · rename_i h; constructor
      · rintro ⟨h1, h2⟩; exact ⟨by omega, fun _ => by omega, h2⟩
      · rintro ⟨h1, h2, h3⟩; have := h2 h; exact ⟨by omega, h3⟩
    · rename_i h; constructor
      · rintro ⟨h1, h2⟩; exact ⟨h1, fun hh => absurd hh h, h2⟩
      · rintro ⟨h1, _, h3⟩; exact ⟨h1, h3⟩
theorem p49_eq (k : Nat) (x a b : Int) : p49 k x a b = some (decide (a ≤ x ∧ x ≤ b)) := by
  unfold p49
  simp only [jn_v, lt_v, sp_d]
  repeat' split
  all_goals first | exact congrArg some (decide_eq_decide.2 (by omega)) | exact congrArg some (decide_eq_false (by omega)).symm
theorem p50_eq (k : Nat) (x a b : Int) : p50 k x a b = some (decide (a ≤ x ∧ x ≤ b)) := by
  unfold p50
  simp only [jn_v, lt_v, sp_d]
  repeat' split
  all_goals first | exact congrArg some (decide_eq_decide.2 (by omega)) | exact congrArg some (decide_eq_false (by omega)).symm
theorem p52_eq (k : Nat) (L : List Int) : p52 k L = some (decide (bandOk (L.getD 0 0) (L.getD 1 0))) := by
  unfold p52 bandOk
  simp only [jn_v, lt_v, sp_d]
  generalize L.getD 0 0 = a
  generalize L.getD 1 0 = b
  repeat' split
  all_goals first | exact congrArg some (decide_eq_decide.2 (by omega)) | exact congrArg some (decide_eq_false (by omega)).symm
theorem p61_eq (k : Nat) (L : List Int) : p61 k L = some (decide (bandOk (L.getD 0 0) (L.getD 1 0))) := by
  unfold p61 bandOk
  simp only [jn_v, lt_v, p49_eq, cl_v, sp_d]
  generalize L.getD 0 0 = a
  generalize L.getD 1 0 = b
  repeat' split
  all_goals first | exact congrArg some (decide_eq_decide.2 (by omega)) | exact congrArg some (decide_eq_false (by omega)).symm
def ClaimOk (u : List Int) : Prop :=
  -1073741824 ≤ u.getD 0 0 ∧ u.getD 0 0 ≤ u.getD 1 0 ∧ u.getD 1 0 ≤ 1073741824 ∧ 0 ≤ u.getD 2 0 ∧ u.getD 2 0 < 4 ∧ -1073741824 ≤ u.getD 3 0 ∧ u.getD 3 0 ≤ 1073741824 ∧
  0 ≤ u.getD 4 0 ∧ u.getD 4 0 ≤ u.getD 5 0 ∧ u.getD 5 0 ≤ 1099511627776 ∧ 0 ≤ u.getD 6 0 ∧ u.getD 6 0 ≤ 67108864
noncomputable def claimE (u : List Int) : Int := if ClaimOk u then 0 else 2
theorem claimE_zero {u} : claimE u = 0 ↔ ClaimOk u := by
  unfold claimE
  split
  · rename_i h; exact ⟨fun _ => h, fun _ => rfl⟩
  · rename_i h; exact ⟨fun hh => by omega, fun hh => absurd hh h⟩
theorem p32_eq (k : Nat) (u : List Int) : p32 k u = some (claimE u) := by
  unfold p32 claimE ClaimOk
  simp only [jn_v, lt_v, p49_eq, p61_eq, cl_v, sp_d, bandOk, List.getD_cons_zero, List.getD_cons_succ]
  generalize u.getD 0 0 = a0
  generalize u.getD 1 0 = a1
  generalize u.getD 2 0 = a2
  generalize u.getD 3 0 = a3
  generalize u.getD 4 0 = a4
  generalize u.getD 5 0 = a5
  generalize u.getD 6 0 = a6
  simp only [← decide_not, sp_tt, sp_ff, sp_d]
  repeat' split
  all_goals first | rfl | (exfalso; omega)
theorem p33_eq (k : Nat) (u : List Int) : p33 k u = some (claimE u) := by
  unfold p33 claimE ClaimOk
  simp only [jn_v, lt_v, p50_eq, cl_v, sp_d]
  generalize u.getD 0 0 = a0
  generalize u.getD 1 0 = a1
  generalize u.getD 2 0 = a2
  generalize u.getD 3 0 = a3
  generalize u.getD 4 0 = a4
  generalize u.getD 5 0 = a5
  generalize u.getD 6 0 = a6
  simp only [← decide_not, sp_tt, sp_ff, sp_d]
  repeat' split
  all_goals first | rfl | (exfalso; omega)
end Go.Proofs.Ythjkejbgknemgaa
namespace Go.Proofs.Ythjkejbgknemgaa
open Go.RowKit Classical
theorem drop_rd {R : List (List Int)} {i : Nat} (h : i < R.length) : R.drop i = rd R i :: R.drop (i + 1) := by
  rw [List.drop_eq_getElem_cons h]
  simp [rd, List.getD_eq_getElem?_getD, List.getElem?_eq_getElem h]
theorem rd_mem {R : List (List Int)} {i : Nat} (h : i < R.length) : rd R i ∈ R := by
  simp only [rd, List.getD_eq_getElem?_getD, List.getElem?_eq_getElem h, Option.getD_some]
  exact List.getElem_mem h
theorem asc_lt {R : List (List Int)} (ha : ∀ i, i + 1 < R.length → rA (rd R i) < rA (rd R (i + 1))) : ∀ {d i : Nat}, i + d + 1 < R.length → rA (rd R i) < rA (rd R (i + d + 1))
  | 0, i, h => ha i h
  | d + 1, i, h => by
    have h1 := asc_lt ha (d := d) (i := i) (by omega)
    have h2 := ha (i + d + 1) (by omega)
    have : i + (d + 1) + 1 = i + d + 1 + 1 := by omega
    rw [this]; omega
theorem asc_le {R : List (List Int)} (ha : ∀ i, i + 1 < R.length → rA (rd R i) < rA (rd R (i + 1))) {i j : Nat} (hij : i ≤ j) (hj : j < R.length) : rA (rd R i) ≤ rA (rd R j) := by
  rcases Nat.eq_or_lt_of_le hij with e | e
  · rw [e]; exact Int.le_refl _
  · have := asc_lt ha (d := j - i - 1) (i := i) (by omega)
    rw [show i + (j - i - 1) + 1 = j from by omega] at this
    omega
theorem ArgOk.range {R D} (h : ArgOk R D) {i : Nat} (hi : i < R.length) : stT R ≤ rA (rd R i) ∧ rA (rd R i) ≤ stT R + lastI R := by
  have := h.n2
  refine ⟨asc_le h.asc (Nat.zero_le _) hi, ?_⟩
  have := asc_le h.asc (i := i) (j := R.length - 1) (by omega) (by omega)
  unfold lastI
  omega
theorem ArgOk.st {R D} (h : ArgOk R D) : 0 ≤ stT R ∧ stT R ≤ 1099511627776 := by
  have := h.n2
  have := h.read 0 (by omega)
  exact ⟨this.1, this.2.1⟩
theorem ArgOk.last {R D} (h : ArgOk R D) : 1 ≤ lastI R := by
  have h2 := h.n2
  have := h.asc 0 (by omega)
  rw [Nat.zero_add] at this
  have h3 := asc_le h.asc (i := 1) (j := R.length - 1) (by omega) (by omega)
  unfold lastI stT
  omega
theorem p45_eq {k : Nat} {R : List (List Int)} {D : List Int} {m : Int} (h0 : 0 < R.length) (h1 : -9223372036854775808 ≤ stT R + m) (h2 : stT R + m ≤ 9223372036854775807) : p45 k R D m = some (stT R + m) := by
  unfold p45
  rw [gd_v (by omega)]
  simp only [lt_v]
  rw [show (R.getD 0 []).getD 0 0 + m = stT R + m from rfl, wr64 h1 h2]
theorem p53_eq {k : Nat} {R : List (List Int)} {D : List Int} (h0 : 0 < R.length) (hn : R.length ≤ 64) (h1 : -9223372036854775808 ≤ lastI R) (h2 : lastI R ≤ 9223372036854775807) : p53 k R D = some (lastI R) := by
  unfold p53
  simp only [lt_v]
  rw [wr64 (by omega) (by omega), gd_v (by omega), gd_v (by omega)]
  rw [show ((R.length : Int) - 1).toNat = R.length - 1 from by omega]
  rw [show (R.getD (R.length - 1) []).getD 0 0 - (R.getD 0 []).getD 0 0 = lastI R from rfl, wr64 h1 h2]
theorem p16_l1_eq {k : Nat} {R : List (List Int)} {D : List Int} {m t : Int} (hn : R.length ≤ 64) (ht : p45 k R D m = some t) (j : List Int → Option (List Int)) : ∀ (d i n : Nat) (a b : Int), i + d = R.length → d < n →
    p16_l1 k R D m j n (i : Int) [a, b] = j [PL t (R.drop i) a, PH t (R.drop i) b]
  | 0, i, n, a, b, h1, h2 => by
    obtain ⟨n, rfl⟩ : ∃ n', n = n' + 1 := ⟨n - 1, by omega⟩
    rw [p16_l1]
    simp only [lt_v, sp_d]
    rw [if_neg (by omega), List.drop_eq_nil_of_le (by omega)]
    rfl
  | d + 1, i, n, a, b, h1, h2 => by
    obtain ⟨n, rfl⟩ : ∃ n', n = n' + 1 := ⟨n - 1, by omega⟩
    rw [p16_l1]
    simp only [lt_v, sp_d, jn_v]
    rw [if_pos (by omega), gd_v (by omega)]
    simp only [ht, cl_v, mx_eq, mn_eq, Int.toNat_natCast]
    have hw : wr .i64 ((i : Int) + 1) = ((i + 1 : Nat) : Int) := by rw [wr64 (by omega) (by omega)]; omega
    rw [drop_rd (by omega : i < R.length)]
    simp only [PL, PH]
    have ih := fun a b => p16_l1_eq hn ht j d (i + 1) n a b (by omega) (by omega)
    show (if rA (rd R i) ≤ t then _ else _) = _
    have e1 : ∀ a b x : Int, List.set [a, b] 0 x = [x, b] := fun _ _ _ => rfl
    have e2 : ∀ a b x : Int, List.set [a, b] 1 x = [a, x] := fun _ _ _ => rfl
    simp only [e1, e2, List.getD_cons_zero, List.getD_cons_succ, hw, ih, ge_iff_le]
    show (if rA (rd R i) ≤ t then (if t ≤ rA (rd R i) then _ else _) else (if t ≤ rA (rd R i) then _ else _)) = _
    split <;> split <;> rfl
theorem p16_eq {k : Nat} (hk : 5000 ≤ k) {R : List (List Int)} {D : List Int} {m : Int} (h0 : 0 < R.length) (hn : R.length ≤ 64) (h1 : -9223372036854775808 ≤ stT R + m) (h2 : stT R + m ≤ 9223372036854775807) : p16 k R D m = some [pl R m, ph R m] := by
  unfold p16
  simp only [jn_v]
  have := p16_l1_eq hn (p45_eq (k := k) (D := D) h0 h1 h2) (fun L => some L) R.length 0 k (-1099511627776) 1099511627776 (by omega) (by omega)
  rw [List.drop_zero] at this
  exact this
theorem ab_mul {d x : Int} (h0 : 0 ≤ d) (h1 : d ≤ 1048576) (h2 : -2001 ≤ x) (h3 : x ≤ 2001) : 0 ≤ d * ab x ∧ d * ab x ≤ 2098200576 := by
  have : 0 ≤ ab x ∧ ab x ≤ 2001 := by unfold ab; omega
  constructor
  · exact Int.mul_nonneg h0 this.1
  · calc d * ab x ≤ 1048576 * 2001 := Int.mul_le_mul h1 this.2 this.1 (by omega)
      _ = 2098200576 := by rfl
theorem p17_l1_eq {k : Nat} {R : List (List Int)} {D : List Int} {m : Int} {kk : Nat} (hn : R.length ≤ 64) (ha : ArgOk R D) (hm0 : 0 ≤ m) (hm1 : m ≤ lastI R) (hk4 : kk < 4) (j : List Int → Option (List Int)) : ∀ (d i n : Nat) (a b : Int), i + d = R.length → d < n →
    p17_l1 k R D m (kk : Int) j n (i : Int) [a, b] = j [VL (D.getD kk 0) kk (stT R + m) (R.drop i) a, VH (D.getD kk 0) kk (stT R + m) (R.drop i) b]
  | 0, i, n, a, b, h1, h2 => by
    obtain ⟨n, rfl⟩ : ∃ n', n = n' + 1 := ⟨n - 1, by omega⟩
    rw [p17_l1]
    simp only [lt_v, sp_d]
    rw [if_neg (by omega), List.drop_eq_nil_of_le (by omega)]
    rfl
  | d + 1, i, n, a, b, h1, h2 => by
    obtain ⟨n, rfl⟩ : ∃ n', n = n' + 1 := ⟨n - 1, by omega⟩
    have hst := ha.st
    have hsp := ha.span
    have hrg := ha.range (i := i) (by omega)
    have hdr := ha.dr kk hk4
    have hrd := (ha.read i (by omega)).2.2.2 kk hk4
    have h45 : p45 k R D m = some (stT R + m) := p45_eq (by omega) (by omega) (by omega)
    have hmul := ab_mul hdr.1 hdr.2 (x := rA (rd R i) - (stT R + m)) (by omega) (by omega)
    have hw : wr .i64 ((i : Int) + 1) = ((i + 1 : Nat) : Int) := by rw [wr64 (by omega) (by omega)]; omega
    rw [p17_l1]
    simp only [lt_v, sp_d, h45, cl_v, Int.toNat_natCast]
    rw [if_pos (by omega), gd_v (by omega), gd_v (by omega), gd_v (by omega), gd_v (by omega), gd_v (by omega)]
    rw [show List.getD (List.getD R i []) 0 0 = rA (rd R i) from rfl]
    rw [wr64 (z := rA (rd R i) - (stT R + m)) (by omega) (by omega), wr64 (z := stT R + m - rA (rd R i)) (by omega) (by omega)]
    simp only [mx_eq, mn_eq]
    rw [show max (rA (rd R i) - (stT R + m)) (stT R + m - rA (rd R i)) = ab (rA (rd R i) - (stT R + m)) from by unfold ab; omega]
    rw [show D.getD (0 + kk * 1) 0 = D.getD kk 0 from by rw [Nat.zero_add, Nat.mul_one]]
    rw [wr64 (z := D.getD kk 0 * ab (rA (rd R i) - (stT R + m))) (by omega) (by omega)]
    rw [show List.getD (List.getD R i []) (3 + kk * 2 + 0) 0 = rVL kk (rd R i) from rfl, show List.getD (List.getD R i []) (3 + kk * 2 + 1) 0 = rVH kk (rd R i) from rfl]
    unfold bandOk at hrd
    rw [wr64 (z := rVL kk (rd R i) - _) (by omega) (by omega), wr64 (z := rVH kk (rd R i) + _) (by omega) (by omega), hw]
    have e1 : ∀ a b x : Int, List.set [a, b] 0 x = [x, b] := fun _ _ _ => rfl
    have e2 : ∀ a b x : Int, List.set [a, b] 1 x = [a, x] := fun _ _ _ => rfl
    simp only [e1, e2, List.getD_cons_zero, List.getD_cons_succ]
    rw [p17_l1_eq hn ha hm0 hm1 hk4 j d (i + 1) n _ _ (by omega) (by omega), drop_rd (by omega : i < R.length)]
    rfl
theorem p17_eq {k : Nat} (hk : 5000 ≤ k) {R : List (List Int)} {D : List Int} {m : Int} {kk : Nat} (hn : R.length ≤ 64) (ha : ArgOk R D) (hm0 : 0 ≤ m) (hm1 : m ≤ lastI R) (hk4 : kk < 4) : p17 k R D m (kk : Int) = some [vl R D kk m, vh R D kk m] := by
  unfold p17
  simp only [jn_v]
  have := p17_l1_eq (k := k) hn ha hm0 hm1 hk4 (fun L => some L) R.length 0 k (-1125899906842624) 1125899906842624 (by omega) (by omega)
  rw [List.drop_zero] at this
  exact this
theorem if_all {α : Type} {P Q S : Prop} [Decidable P] [Decidable Q] [Decidable S] (h : P ↔ Q ∧ S) (x y : α) : (if P then x else y) = if Q then (if S then x else y) else y := by
  by_cases hq : Q <;> by_cases hs : S <;> simp [h, hq, hs]
theorem if_row {α : Type} {c1 c2 c3 c4 P : Prop} [Decidable c1] [Decidable c2] [Decidable c3] [Decidable c4] [Decidable P] (h : P ↔ c1 ∧ ¬ c3 ∧ c2 ∧ c4) (X Z : α) : (if c1 then (if c3 then Z else (if c2 then (if c4 then X else Z) else Z)) else Z) = if P then X else Z := by
  by_cases h1 : c1 <;> by_cases h2 : c2 <;> by_cases h3 : c3 <;> by_cases h4 : c4 <;> simp [h, h1, h2, h3, h4]
theorem if_row' {α : Type} {c1 c2 c3 c4 P : Prop} [Decidable c1] [Decidable c2] [Decidable c3] [Decidable c4] [Decidable P] (h : P ↔ c1 ∧ ¬ c3 ∧ c2 ∧ c4) (X Z : α) : (if c1 then (if c2 then (if c3 then Z else (if c4 then X else Z)) else Z) else Z) = if P then X else Z := by
  by_cases h1 : c1 <;> by_cases h2 : c2 <;> by_cases h3 : c3 <;> by_cases h4 : c4 <;> simp [h, h1, h2, h3, h4]
theorem if_row0 {α : Type} {c1 c2 c4 P : Prop} [Decidable c1] [Decidable c2] [Decidable c4] [Decidable P] (h : P ↔ c1 ∧ c2 ∧ c4) (X Z : α) : (if c1 then (if c2 then (if c4 then X else Z) else Z) else Z) = if P then X else Z := by
  by_cases h1 : c1 <;> by_cases h2 : c2 <;> by_cases h4 : c4 <;> simp [h, h1, h2, h4]
theorem p21_l2_eq {k : Nat} {j : Option Int} {L : List Int} : ∀ (d i n : Nat), i + d = 4 → d < n → p21_l2 k j L n (i : Int) = if ∀ q, i ≤ q → q < 4 → bandOk (rVL q L) (rVH q L) then j else some 2
  | 0, i, n, h1, h2 => by
    obtain ⟨n, rfl⟩ : ∃ n', n = n' + 1 := ⟨n - 1, by omega⟩
    rw [p21_l2]
    simp only [lt_v, sp_d]
    rw [if_neg (by omega), if_pos (fun q h3 h4 => by omega)]
  | d + 1, i, n, h1, h2 => by
    obtain ⟨n, rfl⟩ : ∃ n', n = n' + 1 := ⟨n - 1, by omega⟩
    rw [p21_l2]
    simp only [lt_v, sp_d, p52_eq, cl_v, Int.toNat_natCast]
    rw [if_pos (by omega), gd_v (by omega)]
    have hw : wr .i64 ((i : Int) + 1) = ((i + 1 : Nat) : Int) := by rw [wr64 (by omega) (by omega)]; omega
    rw [hw, p21_l2_eq d (i + 1) n (by omega) (by omega)]
    have e0 : (List.take 2 (List.drop (3 + i * 2) L)).getD 0 0 = rVL i L := by simp [rVL, List.getD_eq_getElem?_getD]
    have e1 : (List.take 2 (List.drop (3 + i * 2) L)).getD 1 0 = rVH i L := by simp [rVH, List.getD_eq_getElem?_getD]
    rw [e0, e1]
    rw [if_all (P := ∀ q, i ≤ q → q < 4 → bandOk (rVL q L) (rVH q L)) (Q := bandOk (rVL i L) (rVH i L)) (S := ∀ q, i + 1 ≤ q → q < 4 → bandOk (rVL q L) (rVH q L)) ?_]
    constructor
    · intro h; exact ⟨h i (by omega) (by omega), fun q h3 h4 => h q (by omega) h4⟩
    · rintro ⟨h3, h4⟩ q h5 h6
      rcases Nat.eq_or_lt_of_le h5 with e | e
      · subst e; exact h3
      · exact h4 q e h6
def rowOkAt (R : List (List Int)) (i : Nat) : Prop := readOk (rd R i) ∧ (0 < i → rA (rd R (i - 1)) < rA (rd R i))
theorem p21_l1_eq {k : Nat} (hk : 5000 ≤ k) {R : List (List Int)} (hn : R.length ≤ 64) {j : Option Int} : ∀ (d i n : Nat), i + d = R.length → d < n → p21_l1 k R j n (i : Int) = if ∀ q, i ≤ q → q < R.length → rowOkAt R q then j else some 2
  | 0, i, n, h1, h2 => by
    obtain ⟨n, rfl⟩ : ∃ n', n = n' + 1 := ⟨n - 1, by omega⟩
    rw [p21_l1]
    simp only [lt_v, sp_d]
    rw [if_neg (by omega), if_pos (fun q h3 h4 => by omega)]
  | d + 1, i, n, h1, h2 => by
    obtain ⟨n, rfl⟩ : ∃ n', n = n' + 1 := ⟨n - 1, by omega⟩
    rw [p21_l1]
    simp only [lt_v, sp_d, p52_eq, p50_eq, cl_v, jn_v, Int.toNat_natCast]
    rw [if_pos (by omega), gd_v (by omega)]
    have hw : wr .i64 ((i : Int) + 1) = ((i + 1 : Nat) : Int) := by rw [wr64 (by omega) (by omega)]; omega
    rw [hw, p21_l1_eq hk hn d (i + 1) n (by omega) (by omega)]
    have h2' := p21_l2_eq (k := k) (j := if ∀ q, i + 1 ≤ q → q < R.length → rowOkAt R q then j else some 2) (L := rd R i) 4 0 k (by omega) (by omega)
    have hl2 : p21_l2 k (if ∀ q, i + 1 ≤ q → q < R.length → rowOkAt R q then j else some 2) (R.getD i []) k 0 = _ := h2'
    rw [hl2]
    have e0 : (List.take 2 (List.drop 1 (R.getD i []))).getD 0 0 = rPL (rd R i) := by simp [rPL, rd, List.getD_eq_getElem?_getD]
    have e1 : (List.take 2 (List.drop 1 (R.getD i []))).getD 1 0 = rPH (rd R i) := by simp [rPH, rd, List.getD_eq_getElem?_getD]
    rw [e0, e1]
    rw [if_all (P := ∀ q, i ≤ q → q < R.length → rowOkAt R q) (Q := rowOkAt R i) (S := ∀ q, i + 1 ≤ q → q < R.length → rowOkAt R q) (by
      constructor
      · intro h; exact ⟨h i (by omega) (by omega), fun q h3 h4 => h q (by omega) h4⟩
      · rintro ⟨h3, h4⟩ q h5 h6
        rcases Nat.eq_or_lt_of_le h5 with e | e
        · subst e; exact h3
        · exact h4 q e h6)]
    generalize hX : (if ∀ q, i + 1 ≤ q → q < R.length → rowOkAt R q then j else some 2) = X
    have hA : List.getD (R.getD i []) 0 0 = rA (rd R i) := rfl
    rw [hA]
    by_cases hi : 0 < i
    · have hw2 : wr .i64 ((i : Int) - 1) = ((i - 1 : Nat) : Int) := by rw [wr64 (by omega) (by omega)]; omega
      rw [if_pos (show (i : Int) > 0 by omega), hw2, gd_v (by omega)]
      simp only [Int.toNat_natCast, sp_tt, sp_nd]
      refine if_row (c3 := rA (rd R i) ≤ rA (rd R (i - 1))) ?_ _ _
      unfold rowOkAt readOk
      constructor
      · rintro ⟨⟨a1, a2, a3, a4⟩, a5⟩
        exact ⟨⟨a1, a2⟩, by have := a5 hi; omega, a3, fun q _ hq => a4 q hq⟩
      · rintro ⟨⟨a1, a2⟩, a3, a4, a5⟩
        exact ⟨⟨a1, a2, a4, fun q hq => a5 q (Nat.zero_le _) hq⟩, fun _ => by omega⟩
    · rw [if_neg (show ¬ (i : Int) > 0 by omega)]
      simp only [sp_tt, sp_nd]
      refine if_row0 ?_ _ _
      unfold rowOkAt readOk
      constructor
      · rintro ⟨⟨a1, a2, a3, a4⟩, a5⟩
        exact ⟨⟨a1, a2⟩, a3, fun q _ hq => a4 q hq⟩
      · rintro ⟨⟨a1, a2⟩, a4, a5⟩
        exact ⟨⟨a1, a2, a4, fun q hq => a5 q (Nat.zero_le _) hq⟩, fun h => absurd h hi⟩
theorem p21_l3_eq {k : Nat} {D : List Int} {j : Option Int} : ∀ (d i n : Nat), i + d = 4 → d < n → p21_l3 k D j n (i : Int) = if ∀ q, i ≤ q → q < 4 → 0 ≤ D.getD q 0 ∧ D.getD q 0 ≤ 1048576 then j else some 2
  | 0, i, n, h1, h2 => by
    obtain ⟨n, rfl⟩ : ∃ n', n = n' + 1 := ⟨n - 1, by omega⟩
    rw [p21_l3]
    simp only [lt_v, sp_d]
    rw [if_neg (by omega), if_pos (fun q h3 h4 => by omega)]
  | d + 1, i, n, h1, h2 => by
    obtain ⟨n, rfl⟩ : ∃ n', n = n' + 1 := ⟨n - 1, by omega⟩
    rw [p21_l3]
    simp only [lt_v, sp_d, p50_eq, cl_v, Int.toNat_natCast]
    rw [if_pos (by omega), gd_v (by omega)]
    have hw : wr .i64 ((i : Int) + 1) = ((i + 1 : Nat) : Int) := by rw [wr64 (by omega) (by omega)]; omega
    rw [hw, p21_l3_eq d (i + 1) n (by omega) (by omega)]
    rw [if_all (P := ∀ q, i ≤ q → q < 4 → 0 ≤ D.getD q 0 ∧ D.getD q 0 ≤ 1048576) (Q := 0 ≤ D.getD i 0 ∧ D.getD i 0 ≤ 1048576) (S := ∀ q, i + 1 ≤ q → q < 4 → 0 ≤ D.getD q 0 ∧ D.getD q 0 ≤ 1048576) ?_]
    · simp only [Nat.zero_add, Nat.mul_one]
    constructor
    · intro h; exact ⟨h i (by omega) (by omega), fun q h3 h4 => h q (by omega) h4⟩
    · rintro ⟨h3, h4⟩ q h5 h6
      rcases Nat.eq_or_lt_of_le h5 with e | e
      · subst e; exact h3
      · exact h4 q e h6
theorem p21_l5_eq {k : Nat} (hk : 5000 ≤ k) {R : List (List Int)} {D : List Int} (hn : R.length ≤ 64) (ha : ArgOk R D) {m : Int} (hm0 : 0 ≤ m) (hm1 : m ≤ lastI R) {j : Option Int} : ∀ (d i n : Nat), i + d = 4 → d < n → p21_l5 k R D m j n (i : Int) = if ∀ q, i ≤ q → q < 4 → vl R D q m ≤ vh R D q m then j else some 16
  | 0, i, n, h1, h2 => by
    obtain ⟨n, rfl⟩ : ∃ n', n = n' + 1 := ⟨n - 1, by omega⟩
    rw [p21_l5]
    simp only [lt_v, sp_d]
    rw [if_neg (by omega), if_pos (fun q h3 h4 => by omega)]
  | d + 1, i, n, h1, h2 => by
    obtain ⟨n, rfl⟩ : ∃ n', n = n' + 1 := ⟨n - 1, by omega⟩
    rw [p21_l5]
    simp only [lt_v, sp_d, p17_eq hk hn ha hm0 hm1 (show i < 4 by omega), cl_v]
    rw [if_pos (by omega), gd_v (c := [_, _].length = 2) rfl]
    have hw : wr .i64 ((i : Int) + 1) = ((i + 1 : Nat) : Int) := by rw [wr64 (by omega) (by omega)]; omega
    rw [hw, p21_l5_eq hk hn ha hm0 hm1 d (i + 1) n (by omega) (by omega)]
    simp only [List.getD_cons_zero, List.getD_cons_succ]
    rw [if_all (P := ∀ q, i ≤ q → q < 4 → vl R D q m ≤ vh R D q m) (Q := vl R D i m ≤ vh R D i m) (S := ∀ q, i + 1 ≤ q → q < 4 → vl R D q m ≤ vh R D q m) ?_]
    · by_cases c : vl R D i m ≤ vh R D i m
      · rw [if_pos c, if_neg (by omega)]
      · rw [if_neg c, if_pos (by omega)]
    constructor
    · intro h; exact ⟨h i (by omega) (by omega), fun q h3 h4 => h q (by omega) h4⟩
    · rintro ⟨h3, h4⟩ q h5 h6
      rcases Nat.eq_or_lt_of_le h5 with e | e
      · subst e; exact h3
      · exact h4 q e h6
theorem p21_l4_eq {k : Nat} (hk : 5000 ≤ k) {R : List (List Int)} {D : List Int} (hn : R.length ≤ 64) (ha : ArgOk R D) {j : Option Int} : ∀ (d n : Nat) (m : Int), 0 ≤ m → m + d = lastI R + 1 → d < n → p21_l4 k R D j n m = if ∀ q, m ≤ q → q ≤ lastI R → SumAt R D q then j else some 16
  | 0, n, m, h0, h1, h2 => by
    obtain ⟨n, rfl⟩ : ∃ n', n = n' + 1 := ⟨n - 1, by omega⟩
    have := ha.last
    have := ha.span
    have := ha.n2
    rw [p21_l4]
    simp only [lt_v, sp_d, p53_eq (k := k) (D := D) (by omega) hn (by omega) (by omega), cl_v]
    rw [if_neg (by omega), if_pos (fun q h3 h4 => by omega)]
  | d + 1, n, m, h0, h1, h2 => by
    obtain ⟨n, rfl⟩ : ∃ n', n = n' + 1 := ⟨n - 1, by omega⟩
    have := ha.last
    have := ha.span
    have := ha.n2
    have := ha.st
    rw [p21_l4]
    simp only [lt_v, sp_d, jn_v, p53_eq (k := k) (D := D) (by omega) hn (by omega) (by omega), p16_eq (D := D) hk (by omega) hn (show -9223372036854775808 ≤ stT R + m by omega) (by omega), cl_v]
    rw [if_pos (by omega), gd_v (c := [_, _].length = 2) rfl, wr64 (by omega) (by omega), p21_l4_eq hk hn ha d n (m + 1) (by omega) (by omega) (by omega)]
    have h5 := p21_l5_eq hk hn ha h0 (show m ≤ lastI R by omega) (j := if ∀ q, m + 1 ≤ q → q ≤ lastI R → SumAt R D q then j else some 16) 4 0 k (by omega) (by omega)
    rw [show (0 : Int) = ((0 : Nat) : Int) from rfl, h5]
    simp only [List.getD_cons_zero, List.getD_cons_succ]
    rw [if_all (P := ∀ q, m ≤ q → q ≤ lastI R → SumAt R D q) (Q := SumAt R D m) (S := ∀ q, m + 1 ≤ q → q ≤ lastI R → SumAt R D q) ?_]
    · by_cases c : pl R m ≤ ph R m <;> by_cases c2 : ∀ q, q < 4 → vl R D q m ≤ vh R D q m
      · rw [if_neg (by omega), if_pos (fun q _ => c2 q), if_pos (show SumAt R D m from ⟨c, c2⟩)]
      · rw [if_neg (by omega), if_neg (fun h => c2 fun q => h q (Nat.zero_le _)), if_neg (fun h : SumAt R D m => c2 h.2)]
      · rw [if_pos (by omega), if_neg (fun h : SumAt R D m => c h.1)]
      · rw [if_pos (by omega), if_neg (fun h : SumAt R D m => c h.1)]
    constructor
    · intro h; exact ⟨h m (by omega) (by omega), fun q h3 h4 => h q (by omega) h4⟩
    · rintro ⟨h3, h4⟩ q h5 h6
      by_cases e : q = m
      · subst e; exact h3
      · exact h4 q (by omega) h6
theorem p21_l1_eq0 {k : Nat} (hk : 5000 ≤ k) {R : List (List Int)} (hn : R.length ≤ 64) {j : Option Int} : p21_l1 k R j k 0 = if ∀ q, q < R.length → rowOkAt R q then j else some 2 := by
  have := p21_l1_eq hk hn (j := j) R.length 0 k (by omega) (by omega)
  simpa using this
theorem p21_l3_eq0 {k : Nat} (hk : 5 ≤ k) {D : List Int} {j : Option Int} : p21_l3 k D j k 0 = if ∀ q, q < 4 → 0 ≤ D.getD q 0 ∧ D.getD q 0 ≤ 1048576 then j else some 2 := by
  have := p21_l3_eq (k := k) (D := D) (j := j) 4 0 k (by omega) (by omega)
  simpa using this
theorem p21_eq {k : Nat} (hk : 5000 ≤ k) {R : List (List Int)} {D : List Int} (hD : D.length = 4) (hb : ∀ r ∈ R, ∀ z ∈ r, -9223372036854775808 ≤ z ∧ z ≤ 9223372036854775807) : p21 k R D = some (logE R D) := by
  unfold p21 logE
  simp only [lt_v, sp_d, jn_v]
  by_cases hn : 64 < R.length
  · rw [if_pos (by omega), if_pos hn]
  · rw [if_neg (by omega), if_neg hn]
    have hn' : R.length ≤ 64 := by omega
    by_cases h2 : R.length < 2
    · rw [if_pos (by omega), if_pos (fun h => by have := h.n2; omega)]
    · rw [if_neg (by omega)]
      rw [p21_l1_eq0 hk hn']
      by_cases hrow : ∀ q, q < R.length → rowOkAt R q
      · rw [if_pos hrow]
        have hasc : ∀ i, i + 1 < R.length → rA (rd R i) < rA (rd R (i + 1)) := fun i hi => by
          have := (hrow (i + 1) hi).2 (by omega)
          simpa using this
        have r0 := (hrow 0 (by omega)).1
        have r1 := (hrow (R.length - 1) (by omega)).1
        unfold readOk at r0 r1
        have hla : lastI R = rA (rd R (R.length - 1)) - rA (rd R 0) := rfl
        rw [wr64 (z := (R.length : Int) - 1) (by omega) (by omega), gd_v (by omega), gd_v (by omega), show ((R.length : Int) - 1).toNat = R.length - 1 from by omega]
        rw [show (R.getD (R.length - 1) []).getD 0 0 - (R.getD 0 []).getD 0 0 = lastI R from rfl, wr64 (z := lastI R) (by omega) (by omega)]
        by_cases hs : lastI R ≤ 2000
        · rw [if_neg (by omega), p21_l3_eq0 (by omega)]
          by_cases hd : ∀ q, q < 4 → 0 ≤ D.getD q 0 ∧ D.getD q 0 ≤ 1048576
          · have ha : ArgOk R D := ⟨by omega, fun i hi => (hrow i hi).1, hasc, hs, hd⟩
            rw [if_pos hd, if_neg (fun h => h ha)]
            have hla1 := ha.last
            rw [p21_l4_eq hk hn' ha (lastI R + 1).toNat k 0 (by omega) (by omega) (by omega)]
            by_cases hq : ∀ q, 0 ≤ q → q ≤ lastI R → SumAt R D q
            · rw [if_pos hq, if_neg (fun h : ¬ SumOk R D => h hq)]
            · rw [if_neg hq, if_pos (show ¬ SumOk R D from hq)]
          · rw [if_neg hd, if_pos (fun h => hd h.dr)]
        · rw [if_pos (by omega), if_pos (fun h => hs h.span)]
      · rw [if_neg hrow, if_pos]
        intro h
        refine hrow fun q hq => ⟨h.read q hq, fun h0 => ?_⟩
        have := h.asc (q - 1) (by omega)
        rw [show q - 1 + 1 = q from by omega] at this
        exact this
end Go.Proofs.Ythjkejbgknemgaa
namespace Go.Proofs.Ythjkejbgknemgaa
open Go.RowKit Classical
def ML : List (List Int) → Int → Int
  | [], a => a
  | r :: l, a => ML l (max a (r.getD 0 0))
def MH : List (List Int) → Int → Int
  | [], b => b
  | r :: l, b => MH l (min b (r.getD 1 0))
theorem p83_l1_eq {k : Nat} {P : List (List Int)} (hn : P.length ≤ 1000) (j : List Int → Option (List Int)) : ∀ (d i n : Nat) (a b : Int), i + d = P.length → d < n →
    p83_l1 k j P n (i : Int) [a, b] = j [ML (P.drop i) a, MH (P.drop i) b]
  | 0, i, n, a, b, h1, h2 => by
    obtain ⟨n, rfl⟩ : ∃ n', n = n' + 1 := ⟨n - 1, by omega⟩
    rw [p83_l1]
    simp only [lt_v, sp_d]
    rw [if_neg (by omega), List.drop_eq_nil_of_le (by omega)]
    rfl
  | d + 1, i, n, a, b, h1, h2 => by
    obtain ⟨n, rfl⟩ : ∃ n', n = n' + 1 := ⟨n - 1, by omega⟩
    rw [p83_l1]
    simp only [lt_v, sp_d, mx_eq, mn_eq, Int.toNat_natCast]
    have hw : wr .i64 ((i : Int) + 1) = ((i + 1 : Nat) : Int) := by rw [wr64 (by omega) (by omega)]; omega
    rw [if_pos (by omega), gd_v (by omega), hw]
    have e1 : ∀ a b x : Int, List.set [a, b] 0 x = [x, b] := fun _ _ _ => rfl
    have e2 : ∀ a b x : Int, List.set [a, b] 1 x = [a, x] := fun _ _ _ => rfl
    simp only [e1, e2, List.getD_cons_zero, List.getD_cons_succ]
    rw [p83_l1_eq hn j d (i + 1) n _ _ (by omega) (by omega), drop_rd (by omega : i < P.length)]
    rfl
theorem p83_eq {k : Nat} (hk : 5000 ≤ k) {a b : Int} {P : List (List Int)} (hn : P.length ≤ 100) : p83 k ([a, b] :: P) = some [ML P a, MH P b] := by
  unfold p83
  simp only [jn_v, lt_v]
  rw [gd_v (by simp), gd_v (by simp)]
  have hp : part ([a, b] :: P) ((1 : Int)).toNat ([a, b] :: P).length = P := by
    have : ((1 : Int)).toNat = 1 := rfl
    simp [part, this]
  rw [hp]
  have := p83_l1_eq (k := k) (P := P) (by omega) (fun L5 => some L5) P.length 0 k a b (by omega) (by omega)
  rw [List.drop_zero] at this
  exact this
theorem p83_two {k : Nat} (hk : 5000 ≤ k) {a b c d : Int} : p83 k [[a, b], [c, d]] = some [max a c, min b d] := by
  rw [p83_eq hk (by simp)]
  rfl
theorem PL_base {t b b' : Int} {l : List (List Int)} {r : List Int} (hr : r ∈ l) (ht : rA r ≤ t) (h1 : b ≤ rPL r) (h2 : b' ≤ rPL r) : PL t l b = PL t l b' := by
  have h3 : PL t l b ≤ PL t l b' := PL_le.2 ⟨Int.le_trans h1 ((PL_le.1 (Int.le_refl _)).2 r hr ht), fun q hq hqt => (PL_le.1 (Int.le_refl (PL t l b'))).2 q hq hqt⟩
  have h4 : PL t l b' ≤ PL t l b := PL_le.2 ⟨Int.le_trans h2 ((PL_le.1 (Int.le_refl _)).2 r hr ht), fun q hq hqt => (PL_le.1 (Int.le_refl (PL t l b))).2 q hq hqt⟩
  omega
theorem PH_base {t b b' : Int} {l : List (List Int)} {r : List Int} (hr : r ∈ l) (ht : t ≤ rA r) (h1 : rPH r ≤ b) (h2 : rPH r ≤ b') : PH t l b = PH t l b' := by
  have h3 : PH t l b ≤ PH t l b' := le_PH.2 ⟨Int.le_trans ((le_PH.1 (Int.le_refl _)).2 r hr ht) h2, fun q hq hqt => (le_PH.1 (Int.le_refl (PH t l b))).2 q hq hqt⟩
  have h4 : PH t l b' ≤ PH t l b := le_PH.2 ⟨Int.le_trans ((le_PH.1 (Int.le_refl _)).2 r hr ht) h1, fun q hq hqt => (le_PH.1 (Int.le_refl (PH t l b'))).2 q hq hqt⟩
  omega
theorem p73_l1_eq {k : Nat} (hk : 5000 ≤ k) {R : List (List Int)} {t : Int} (hn : R.length ≤ 64) (j : List Int → Option (List Int)) (hr : ∀ i, i < R.length → readOk (rd R i)) : ∀ (d i n : Nat) (a b : Int), i + d = R.length → d < n → -1073741824 ≤ a → b ≤ 1073741824 →
    p73_l1 k R t j n (i : Int) [a, b] = j [PL t (R.drop i) a, PH t (R.drop i) b]
  | 0, i, n, a, b, h1, h2, ha, hb => by
    obtain ⟨n, rfl⟩ : ∃ n', n = n' + 1 := ⟨n - 1, by omega⟩
    rw [p73_l1]
    simp only [lt_v, sp_d]
    rw [if_neg (by omega), List.drop_eq_nil_of_le (by omega)]
    rfl
  | d + 1, i, n, a, b, h1, h2, ha, hb => by
    obtain ⟨n, rfl⟩ : ∃ n', n = n' + 1 := ⟨n - 1, by omega⟩
    have hri := (hr i (by omega)).2.2.1
    unfold bandOk at hri
    rw [p73_l1]
    simp only [lt_v, sp_d, jn_v, Int.toNat_natCast]
    have hw : wr .i64 ((i : Int) + 1) = ((i + 1 : Nat) : Int) := by rw [wr64 (by omega) (by omega)]; omega
    rw [if_pos (by omega), gd_v (by omega), hw]
    rw [drop_rd (by omega : i < R.length)]
    simp only [PL, PH]
    have hg : ∀ (a b : Int) (x : Option (List Int)), gd ([a, b].length = 2) x = x := fun _ _ _ => rfl
    have ih := fun a b ha hb => p73_l1_eq (t := t) hk hn j hr d (i + 1) n a b (by omega) (by omega) ha hb
    simp only [p83_two hk, cl_v, hg, ge_iff_le]
    show (if rA (rd R i) ≤ t then (if t ≤ rA (rd R i) then p73_l1 k R t j n ((i + 1 : Nat) : Int) [max (max a (rPL (rd R i))) (-1073741824), min (min b 1073741824) (rPH (rd R i))] else p73_l1 k R t j n ((i + 1 : Nat) : Int) [max a (rPL (rd R i)), min b 1073741824]) else
      (if t ≤ rA (rd R i) then p73_l1 k R t j n ((i + 1 : Nat) : Int) [max a (-1073741824), min b (rPH (rd R i))] else p73_l1 k R t j n ((i + 1 : Nat) : Int) [a, b])) = _
    split <;> split
    · rw [show max (max a (rPL (rd R i))) (-1073741824) = max a (rPL (rd R i)) from by omega, show min (min b 1073741824) (rPH (rd R i)) = min b (rPH (rd R i)) from by omega]
      exact ih _ _ (by omega) (by omega)
    · rw [show min b 1073741824 = b from by omega]
      exact ih _ _ (by omega) (by omega)
    · rw [show max a (-1073741824) = a from by omega]
      exact ih _ _ (by omega) (by omega)
    · exact ih _ _ (by omega) (by omega)
theorem pl_base {R : List (List Int)} {D : List Int} (ha : ArgOk R D) {m : Int} (h0 : 0 ≤ m) : PL (stT R + m) R (-1073741824) = pl R m := by
  have h2 := ha.n2
  have hb := (ha.read 0 (by omega)).2.2.1
  unfold bandOk at hb
  exact PL_base (rd_mem (i := 0) (by omega)) (by have : stT R = rA (rd R 0) := rfl; omega) (by omega) (by omega)
theorem ph_base {R : List (List Int)} {D : List Int} (ha : ArgOk R D) {m : Int} (h1 : m ≤ lastI R) : PH (stT R + m) R 1073741824 = ph R m := by
  have h2 := ha.n2
  have hb := (ha.read (R.length - 1) (by omega)).2.2.1
  unfold bandOk at hb
  exact PH_base (rd_mem (i := R.length - 1) (by omega)) (by have : lastI R = rA (rd R (R.length - 1)) - stT R := rfl; omega) (by omega) (by omega)
theorem p73_eq {k : Nat} (hk : 5000 ≤ k) {R : List (List Int)} {D D' : List Int} {st : Int} {P V} (hn : R.length ≤ 64) (ha : ArgOk R D) {m : Int} (h0 : 0 ≤ m) (h1 : m ≤ lastI R) : p73 k R D' st P V (stT R + m) = some [pl R m, ph R m] := by
  unfold p73
  simp only [jn_v]
  have := p73_l1_eq hk (t := stT R + m) hn (fun L => some L) ha.read R.length 0 k (-1073741824) 1073741824 (by omega) (by omega) (by omega) (by omega)
  rw [List.drop_zero, pl_base ha h0, ph_base ha h1] at this
  exact this
def vrow (d : Int) (kk : Nat) (t : Int) (r : List Int) : List Int := [rVL kk r - d * ab (rA r - t), rVH kk r + d * ab (rA r - t)]
theorem p84_l1_eq {k : Nat} {R : List (List Int)} {D : List Int} {m : Int} {kk : Nat} (hn : R.length ≤ 64) (ha : ArgOk R D) (hm0 : 0 ≤ m) (hm1 : m ≤ lastI R) (hk4 : kk < 4) (j : List (List Int) → Option (List Int)) : ∀ (d i n : Nat) (W : List (List Int)), i + d = R.length → d < n → W.length = i →
    p84_l1 k (stT R + m) R D (kk : Int) j n (i : Int) W = j (W ++ (R.drop i).map (vrow (D.getD kk 0) kk (stT R + m)))
  | 0, i, n, W, h1, h2, hW => by
    obtain ⟨n, rfl⟩ : ∃ n', n = n' + 1 := ⟨n - 1, by omega⟩
    rw [p84_l1]
    simp only [lt_v, sp_d]
    rw [if_neg (by omega), List.drop_eq_nil_of_le (by omega)]
    simp
  | d + 1, i, n, W, h1, h2, hW => by
    obtain ⟨n, rfl⟩ : ∃ n', n = n' + 1 := ⟨n - 1, by omega⟩
    have hst := ha.st
    have hsp := ha.span
    have hrg := ha.range (i := i) (by omega)
    have hdr := ha.dr kk hk4
    have hrd := (ha.read i (by omega)).2.2.2 kk hk4
    have hmul := ab_mul hdr.1 hdr.2 (x := rA (rd R i) - (stT R + m)) (by omega) (by omega)
    have hw : wr .i64 ((i : Int) + 1) = ((i + 1 : Nat) : Int) := by rw [wr64 (by omega) (by omega)]; omega
    unfold bandOk at hrd
    rw [p84_l1]
    simp only [lt_v, sp_d, Int.toNat_natCast]
    rw [if_pos (by omega), gd_v (by omega), gd_v (by omega), gd_v (by omega), gd_v (by omega)]
    rw [show List.getD (List.getD R i []) 0 0 = rA (rd R i) from rfl]
    rw [wr64 (z := rA (rd R i) - (stT R + m)) (by omega) (by omega), wr64 (z := stT R + m - rA (rd R i)) (by omega) (by omega)]
    simp only [mx_eq]
    rw [show max (rA (rd R i) - (stT R + m)) (stT R + m - rA (rd R i)) = ab (rA (rd R i) - (stT R + m)) from by unfold ab; omega]
    rw [show D.getD (kk * 1) 0 = D.getD kk 0 from by rw [Nat.mul_one]]
    rw [wr64 (z := D.getD kk 0 * ab (rA (rd R i) - (stT R + m))) (by omega) (by omega)]
    rw [show List.getD (List.getD R i []) (3 + kk * 2 + 0) 0 = rVL kk (rd R i) from rfl, show List.getD (List.getD R i []) (3 + kk * 2 + 1) 0 = rVH kk (rd R i) from rfl]
    rw [wr64 (z := rVL kk (rd R i) - _) (by omega) (by omega), wr64 (z := rVH kk (rd R i) + _) (by omega) (by omega), hw]
    rw [gd_v (by simp; omega)]
    rw [p84_l1_eq hn ha hm0 hm1 hk4 j d (i + 1) n _ (by omega) (by omega) (by simp [hW]), drop_rd (by omega : i < R.length)]
    simp [vrow]
theorem ML_vrow {d t : Int} {kk : Nat} : ∀ {l : List (List Int)} {a : Int}, ML (l.map (vrow d kk t)) a = VL d kk t l a
  | [], a => rfl
  | r :: l, a => by
    simp only [List.map_cons, ML, VL]
    rw [ML_vrow]
    rfl
theorem MH_vrow {d t : Int} {kk : Nat} : ∀ {l : List (List Int)} {a : Int}, MH (l.map (vrow d kk t)) a = VH d kk t l a
  | [], a => rfl
  | r :: l, a => by
    simp only [List.map_cons, MH, VH]
    rw [MH_vrow]
    rfl
theorem p84_eq {k : Nat} (hk : 5000 ≤ k) {R : List (List Int)} {D : List Int} {st : Int} {P V} {m : Int} {kk : Nat} (hn : R.length ≤ 64) (ha : ArgOk R D) (hm0 : 0 ≤ m) (hm1 : m ≤ lastI R) (hk4 : kk < 4) : p84 k (stT R + m) R D st P V (kk : Int) = some [vl R D kk m, vh R D kk m] := by
  unfold p84
  simp only [jn_v]
  have := p84_l1_eq (k := k) hn ha hm0 hm1 hk4 (fun R2 => cl (p83 k R2) fun v30 => gd ((v30).length = 2) <| some v30) R.length 0 k [] (by omega) (by omega) rfl
  rw [show ((0 : Nat) : Int) = 0 from rfl] at this
  rw [this, List.drop_zero, List.nil_append]
  have h2 := ha.n2
  obtain ⟨r, l, rfl⟩ : ∃ r l, R = r :: l := by
    cases R with
    | nil => simp at h2
    | cons r l => exact ⟨r, l, rfl⟩
  have hst := ha.st
  have hsp := ha.span
  have hrg := ha.range (i := 0) (by simp)
  have hdr := ha.dr kk hk4
  have hrd := (ha.read 0 (by simp)).2.2.2 kk hk4
  have hmul := ab_mul hdr.1 hdr.2 (x := rA (rd (r :: l) 0) - (stT (r :: l) + m)) (by omega) (by omega)
  have hr0 : rd (r :: l) 0 = r := rfl
  rw [hr0] at hrd hmul
  unfold bandOk at hrd
  simp only [List.map_cons]
  rw [show vrow (D.getD kk 0) kk (stT (r :: l) + m) r = [rVL kk r - D.getD kk 0 * ab (rA r - (stT (r :: l) + m)), rVH kk r + D.getD kk 0 * ab (rA r - (stT (r :: l) + m))] from rfl]
  rw [p83_eq hk (by simp at hn ⊢; omega), cl_v, ML_vrow, MH_vrow]
  simp only [vl, vh, VL, VH]
  rw [show max (-1125899906842624) (rVL kk r - D.getD kk 0 * ab (rA r - (stT (r :: l) + m))) = rVL kk r - D.getD kk 0 * ab (rA r - (stT (r :: l) + m)) from by omega]
  rw [show min 1125899906842624 (rVH kk r + D.getD kk 0 * ab (rA r - (stT (r :: l) + m))) = rVH kk r + D.getD kk 0 * ab (rA r - (stT (r :: l) + m)) from by omega]
  rfl
end Go.Proofs.Ythjkejbgknemgaa
namespace Go.Proofs.Ythjkejbgknemgaa
open Go.RowKit Classical
theorem set_fill {α : Type} (g : Nat → α) (z : α) (i d : Nat) (x : α) (hx : x = g i) : ((List.range i).map g ++ List.replicate (d + 1) z).set i x = (List.range (i + 1)).map g ++ List.replicate d z := by
  subst hx
  rw [List.set_append_right _ _ (by simp)]
  simp [List.range_succ, List.replicate_succ]
theorem getD_fill {α : Type} (g : Nat → α) (z y : α) (i d : Nat) : ((List.range (i + 1)).map g ++ List.replicate d z).getD i y = g i := by
  simp [List.getD_eq_getElem?_getD, List.getElem?_append_left]
def pls (R : List (List Int)) (N : Nat) : List (List Int) := (List.range N).map fun m : Nat => [pl R (m : Int), ph R (m : Int)]
def vls (R : List (List Int)) (D : List Int) (kk N : Nat) : List (List Int) := (List.range N).map fun m : Nat => [vl R D kk (m : Int), vh R D kk (m : Int)]
theorem p72a_l1_eq {k : Nat} (hk : 5000 ≤ k) {R : List (List Int)} {D D' : List Int} {P V} (hn : R.length ≤ 64) (ha : ArgOk R D) {N : Nat} (hN : (N : Int) = lastI R + 1) (j : List (List Int) → Option (List (List Int) × Bool)) : ∀ (d i n : Nat), i + d = N → d < n →
    p72a_l1 k R D' (stT R) P V (N : Int) j n (i : Int) ((List.range i).map (fun m : Nat => [pl R (m : Int), ph R (m : Int)]) ++ List.replicate d [0, 0]) = if ∀ q : Nat, i ≤ q → q < N → pl R q ≤ ph R q then j (pls R N) else some ([], false)
  | 0, i, n, h1, h2 => by
    obtain ⟨n, rfl⟩ : ∃ n', n = n' + 1 := ⟨n - 1, by omega⟩
    rw [p72a_l1]
    simp only [lt_v, sp_d]
    rw [if_neg (by omega), if_pos (fun q h3 h4 => by omega), show i = N from by omega]
    simp [pls]
  | d + 1, i, n, h1, h2 => by
    obtain ⟨n, rfl⟩ : ∃ n', n = n' + 1 := ⟨n - 1, by omega⟩
    have hst := ha.st
    have hsp := ha.span
    have hw : wr .i64 ((i : Int) + 1) = ((i + 1 : Nat) : Int) := by rw [wr64 (by omega) (by omega)]; omega
    rw [p72a_l1]
    simp only [lt_v, sp_d, Int.toNat_natCast]
    rw [if_pos (by omega), wr64 (z := stT R + (i : Int)) (by omega) (by omega), p73_eq hk hn ha (by omega) (by omega), cl_v]
    rw [gd_v (c := [_, _].length = 2) rfl, gd_v (by simp; omega), set_fill (fun m : Nat => [pl R (m : Int), ph R (m : Int)]) [0, 0] i d _ rfl]
    rw [gd_v (by simp; omega), gd_v (by simp; omega), getD_fill (fun m : Nat => [pl R (m : Int), ph R (m : Int)]), hw]
    simp only [List.getD_cons_zero, List.getD_cons_succ]
    rw [p72a_l1_eq hk hn ha hN j d (i + 1) n (by omega) (by omega)]
    rw [if_all (P := ∀ q : Nat, i ≤ q → q < N → pl R q ≤ ph R q) (Q := pl R i ≤ ph R i) (S := ∀ q : Nat, i + 1 ≤ q → q < N → pl R q ≤ ph R q) ?_]
    · by_cases c : pl R i ≤ ph R i
      · rw [if_pos c, if_neg (by omega)]
      · rw [if_neg c, if_pos (by omega)]
    constructor
    · intro h; exact ⟨h i (by omega) (by omega), fun q h3 h4 => h q (by omega) h4⟩
    · rintro ⟨h3, h4⟩ q h5 h6
      rcases Nat.eq_or_lt_of_le h5 with e | e
      · subst e; exact h3
      · exact h4 q e h6
theorem p72a_eq {k : Nat} (hk : 5000 ≤ k) {R : List (List Int)} {D D' : List Int} {P V} (hn : R.length ≤ 64) (ha : ArgOk R D) {N : Nat} (hN : (N : Int) = lastI R + 1) : p72a k R D' (stT R) P V (N : Int) = if ∀ q : Nat, q < N → pl R q ≤ ph R q then some (pls R N, true) else some ([], false) := by
  have hsp := ha.span
  unfold p72a
  simp only [lt_v, jn_v, Int.toNat_natCast]
  rw [gd_v (by omega)]
  have := p72a_l1_eq (k := k) hk hn ha hN (D' := D') (P := P) (V := V) (fun R5 => some (R5, true)) N 0 k (by omega) (by omega)
  simpa using this
theorem p72b_l1_eq {k : Nat} (hk : 5000 ≤ k) {R : List (List Int)} {D : List Int} {P V} {kk : Nat} (hk4 : kk < 4) (hn : R.length ≤ 64) (ha : ArgOk R D) {N : Nat} (hN : (N : Int) = lastI R + 1) (j : List (List Int) → Option (List (List Int) × Bool)) : ∀ (d i n : Nat), i + d = N → d < n →
    p72b_l1 k R D (stT R) P V (N : Int) (kk : Int) j n (i : Int) ((List.range i).map (fun m : Nat => [vl R D kk (m : Int), vh R D kk (m : Int)]) ++ List.replicate d [0, 0]) = if ∀ q : Nat, i ≤ q → q < N → vl R D kk q ≤ vh R D kk q then j (vls R D kk N) else some ([], false)
  | 0, i, n, h1, h2 => by
    obtain ⟨n, rfl⟩ : ∃ n', n = n' + 1 := ⟨n - 1, by omega⟩
    rw [p72b_l1]
    simp only [lt_v, sp_d]
    rw [if_neg (by omega), if_pos (fun q h3 h4 => by omega), show i = N from by omega]
    simp [vls]
  | d + 1, i, n, h1, h2 => by
    obtain ⟨n, rfl⟩ : ∃ n', n = n' + 1 := ⟨n - 1, by omega⟩
    have hst := ha.st
    have hsp := ha.span
    have hw : wr .i64 ((i : Int) + 1) = ((i + 1 : Nat) : Int) := by rw [wr64 (by omega) (by omega)]; omega
    rw [p72b_l1]
    simp only [lt_v, sp_d, Int.toNat_natCast]
    rw [if_pos (by omega), wr64 (z := stT R + (i : Int)) (by omega) (by omega), p84_eq hk hn ha (by omega) (by omega) hk4, cl_v]
    rw [gd_v (c := [_, _].length = 2) rfl, gd_v (by simp; omega), set_fill (fun m : Nat => [vl R D kk (m : Int), vh R D kk (m : Int)]) [0, 0] i d _ rfl]
    rw [gd_v (by simp; omega), gd_v (by simp; omega), getD_fill (fun m : Nat => [vl R D kk (m : Int), vh R D kk (m : Int)]), hw]
    simp only [List.getD_cons_zero, List.getD_cons_succ]
    rw [p72b_l1_eq hk hk4 hn ha hN j d (i + 1) n (by omega) (by omega)]
    rw [if_all (P := ∀ q : Nat, i ≤ q → q < N → vl R D kk q ≤ vh R D kk q) (Q := vl R D kk i ≤ vh R D kk i) (S := ∀ q : Nat, i + 1 ≤ q → q < N → vl R D kk q ≤ vh R D kk q) ?_]
    · by_cases c : vl R D kk i ≤ vh R D kk i
      · rw [if_pos c, if_neg (by omega)]
      · rw [if_neg c, if_pos (by omega)]
    constructor
    · intro h; exact ⟨h i (by omega) (by omega), fun q h3 h4 => h q (by omega) h4⟩
    · rintro ⟨h3, h4⟩ q h5 h6
      rcases Nat.eq_or_lt_of_le h5 with e | e
      · subst e; exact h3
      · exact h4 q e h6
theorem p72b_eq {k : Nat} (hk : 5000 ≤ k) {R : List (List Int)} {D : List Int} {P V} {kk : Nat} (hk4 : kk < 4) (hn : R.length ≤ 64) (ha : ArgOk R D) {N : Nat} (hN : (N : Int) = lastI R + 1) : p72b k R D (stT R) P V (N : Int) (kk : Int) = if ∀ q : Nat, q < N → vl R D kk q ≤ vh R D kk q then some (vls R D kk N, true) else some ([], false) := by
  have hsp := ha.span
  unfold p72b
  simp only [lt_v, jn_v, Int.toNat_natCast]
  rw [gd_v (by omega)]
  have := p72b_l1_eq (k := k) hk hk4 hn ha hN (P := P) (V := V) (fun R5 => some (R5, true)) N 0 k (by omega) (by omega)
  simpa using this
theorem p81_l1_eq {k : Nat} {L : List Int} {j : Int} (hL : L.length ≤ 1000) (hj : j < 0) : ∀ (d i n : Nat), i + d = L.length → d < n → ∃ v, p81_l1 k L (some j) n (i : Int) = some v ∧ (0 ≤ v ↔ ∃ q, i ≤ q ∧ q < L.length ∧ ¬ (0 ≤ L.getD q 0 ∧ L.getD q 0 ≤ 1048576))
  | 0, i, n, h1, h2 => by
    obtain ⟨n, rfl⟩ : ∃ n', n = n' + 1 := ⟨n - 1, by omega⟩
    refine ⟨j, ?_, fun h => by omega, fun ⟨q, h3, h4, _⟩ => by omega⟩
    rw [p81_l1]
    simp only [lt_v, sp_d]
    rw [if_neg (by omega)]
  | d + 1, i, n, h1, h2 => by
    obtain ⟨n, rfl⟩ : ∃ n', n = n' + 1 := ⟨n - 1, by omega⟩
    rw [p81_l1]
    simp only [lt_v, sp_d, p69, p49_eq, cl_v, sp_nd, Int.toNat_natCast]
    have hw : wr .i64 ((i : Int) + 1) = ((i + 1 : Nat) : Int) := by rw [wr64 (by omega) (by omega)]; omega
    rw [if_pos (by omega), gd_v (by omega), hw]
    obtain ⟨v, h3, h4⟩ := p81_l1_eq (k := k) hL hj d (i + 1) n (by omega) (by omega)
    by_cases c : 0 ≤ L.getD i 0 ∧ L.getD i 0 ≤ 1048576
    · rw [if_pos c]
      refine ⟨v, h3, h4.trans ⟨fun ⟨q, a1, a2, a3⟩ => ⟨q, by omega, a2, a3⟩, fun ⟨q, a1, a2, a3⟩ => ⟨q, ?_, a2, a3⟩⟩⟩
      rcases Nat.eq_or_lt_of_le a1 with e | e
      · subst e; exact absurd c a3
      · exact e
    · rw [if_neg c]
      exact ⟨(i : Int), rfl, fun _ => ⟨i, Nat.le_refl _, by omega, c⟩, fun _ => by omega⟩
theorem p68_eq {k : Nat} (hk : 5000 ≤ k) {L : List Int} (hL : L.length ≤ 1000) : p68 k L = some (decide (∃ q, q < L.length ∧ ¬ (0 ≤ L.getD q 0 ∧ L.getD q 0 ≤ 1048576))) := by
  unfold p68 p81
  simp only [jn_v, lt_v]
  obtain ⟨v, h1, h2⟩ := p81_l1_eq (k := k) hL (show (-1 : Int) < 0 by omega) L.length 0 k (by omega) (by omega)
  rw [show ((0 : Nat) : Int) = 0 from rfl] at h1
  rw [h1, cl_v]
  refine congrArg some (decide_eq_decide.2 (h2.trans ?_))
  simp
theorem p82_l1_eq {k : Nat} {L : List (List Int)} {j : Int} (hL : L.length ≤ 1000) (hj : j < 0) : ∀ (d i n : Nat), i + d = L.length → d < n → ∃ v, p82_l1 k L (some j) n (i : Int) = some v ∧ (0 ≤ v ↔ ∃ q, i ≤ q ∧ q < L.length ∧ ¬ bandOk ((L.getD q []).getD 0 0) ((L.getD q []).getD 1 0))
  | 0, i, n, h1, h2 => by
    obtain ⟨n, rfl⟩ : ∃ n', n = n' + 1 := ⟨n - 1, by omega⟩
    refine ⟨j, ?_, fun h => by omega, fun ⟨q, h3, h4, _⟩ => by omega⟩
    rw [p82_l1]
    simp only [lt_v, sp_d]
    rw [if_neg (by omega)]
  | d + 1, i, n, h1, h2 => by
    obtain ⟨n, rfl⟩ : ∃ n', n = n' + 1 := ⟨n - 1, by omega⟩
    rw [p82_l1]
    simp only [lt_v, sp_d, p71, p61_eq, cl_v, sp_nd, Int.toNat_natCast]
    have hw : wr .i64 ((i : Int) + 1) = ((i + 1 : Nat) : Int) := by rw [wr64 (by omega) (by omega)]; omega
    rw [if_pos (by omega), gd_v (by omega), hw]
    obtain ⟨v, h3, h4⟩ := p82_l1_eq (k := k) hL hj d (i + 1) n (by omega) (by omega)
    by_cases c : bandOk ((L.getD i []).getD 0 0) ((L.getD i []).getD 1 0)
    · rw [if_pos c]
      refine ⟨v, h3, h4.trans ⟨fun ⟨q, a1, a2, a3⟩ => ⟨q, by omega, a2, a3⟩, fun ⟨q, a1, a2, a3⟩ => ⟨q, ?_, a2, a3⟩⟩⟩
      rcases Nat.eq_or_lt_of_le a1 with e | e
      · subst e; exact absurd c a3
      · exact e
    · rw [if_neg c]
      exact ⟨(i : Int), rfl, fun _ => ⟨i, Nat.le_refl _, by omega, c⟩, fun _ => by omega⟩
theorem p70_eq {k : Nat} (hk : 5000 ≤ k) {L : List (List Int)} (hL : L.length ≤ 1000) : p70 k L = some (decide (∃ q, q < L.length ∧ ¬ bandOk ((L.getD q []).getD 0 0) ((L.getD q []).getD 1 0))) := by
  unfold p70 p82
  simp only [jn_v, lt_v]
  obtain ⟨v, h1, h2⟩ := p82_l1_eq (k := k) hL (show (-1 : Int) < 0 by omega) L.length 0 k (by omega) (by omega)
  rw [show ((0 : Nat) : Int) = 0 from rfl] at h1
  rw [h1, cl_v]
  refine congrArg some (decide_eq_decide.2 (h2.trans ?_))
  simp
theorem bands4_get (L : List Int) : ∀ q, q < 4 → ((bands4 L).getD q []).getD 0 0 = rVL q L ∧ ((bands4 L).getD q []).getD 1 0 = rVH q L
  | 0, _ => by simp [bands4, rVL, rVH, List.getD_eq_getElem?_getD]
  | 1, _ => by simp [bands4, rVL, rVH, List.getD_eq_getElem?_getD]
  | 2, _ => by simp [bands4, rVL, rVH, List.getD_eq_getElem?_getD]
  | 3, _ => by simp [bands4, rVL, rVH, List.getD_eq_getElem?_getD]
  | q + 4, h => by omega
def valsOk (L : List Int) : Prop := ∀ q, q < 4 → bandOk (rVL q L) (rVH q L)
theorem p70_bands {k : Nat} (hk : 5000 ≤ k) (L : List Int) : p70 k (bands4 L) = some (!decide (valsOk L)) := by
  rw [p70_eq hk (show (bands4 L).length ≤ 1000 from (by show 4 ≤ 1000; omega)), ← decide_not]
  refine congrArg some (decide_eq_decide.2 ?_)
  unfold valsOk
  rw [Classical.not_forall]
  constructor
  · rintro ⟨q, h1, h2⟩
    have h1' : q < 4 := h1
    rw [(bands4_get L q h1').1, (bands4_get L q h1').2] at h2
    exact ⟨q, fun h => h2 (h h1')⟩
  · rintro ⟨q, h1⟩
    rw [Classical.not_imp] at h1
    refine ⟨q, h1.1, ?_⟩
    rw [(bands4_get L q h1.1).1, (bands4_get L q h1.1).2]
    exact h1.2
theorem p46_l1_eq {k : Nat} (hk : 5000 ≤ k) {R : List (List Int)} (hn : R.length ≤ 64) {j : Option (Option CT × Int)} : ∀ (d i n : Nat), i + d = R.length → d < n → p46_l1 k R j n (i : Int) = if ∀ q, i ≤ q → q < R.length → rowOkAt R q then j else some (none, 2)
  | 0, i, n, h1, h2 => by
    obtain ⟨n, rfl⟩ : ∃ n', n = n' + 1 := ⟨n - 1, by omega⟩
    rw [p46_l1]
    simp only [lt_v, sp_d]
    rw [if_neg (by omega), if_pos (fun q h3 h4 => by omega)]
  | d + 1, i, n, h1, h2 => by
    obtain ⟨n, rfl⟩ : ∃ n', n = n' + 1 := ⟨n - 1, by omega⟩
    have e0 : (List.take 2 (List.drop 1 (R.getD i []))).getD 0 0 = rPL (rd R i) := by simp [rPL, rd, List.getD_eq_getElem?_getD]
    have e1 : (List.take 2 (List.drop 1 (R.getD i []))).getD 1 0 = rPH (rd R i) := by simp [rPH, rd, List.getD_eq_getElem?_getD]
    have hA : List.getD (R.getD i []) 0 0 = rA (rd R i) := rfl
    have hw : wr .i64 ((i : Int) + 1) = ((i + 1 : Nat) : Int) := by rw [wr64 (by omega) (by omega)]; omega
    rw [p46_l1]
    simp only [lt_v, sp_d, p61_eq, p49_eq, p70_bands hk, cl_v, jn_v, sp_tt, sp_ff, sp_nd, Int.toNat_natCast, e0, e1, hA, hw]
    rw [if_pos (by omega), gd_v (by omega)]
    rw [p46_l1_eq hk hn d (i + 1) n (by omega) (by omega)]
    rw [if_all (P := ∀ q, i ≤ q → q < R.length → rowOkAt R q) (Q := rowOkAt R i) (S := ∀ q, i + 1 ≤ q → q < R.length → rowOkAt R q) (by
      constructor
      · intro h; exact ⟨h i (by omega) (by omega), fun q h3 h4 => h q (by omega) h4⟩
      · rintro ⟨h3, h4⟩ q h5 h6
        rcases Nat.eq_or_lt_of_le h5 with e | e
        · subst e; exact h3
        · exact h4 q e h6)]
    generalize hX : (if ∀ q, i + 1 ≤ q → q < R.length → rowOkAt R q then j else some (none, 2)) = X
    have hrd : R.getD i [] = rd R i := rfl
    rw [hrd]
    by_cases hi : 0 < i
    · have hw2 : wr .i64 ((i : Int) - 1) = ((i - 1 : Nat) : Int) := by rw [wr64 (by omega) (by omega)]; omega
      rw [if_pos (show (i : Int) > 0 by omega), hw2, gd_v (by omega)]
      simp only [Int.toNat_natCast]
      refine @if_row' _ _ _ (rA (rd R i) ≤ rA (rd R (i - 1))) _ _ _ _ _ _ _ ?_ _ _
      unfold rowOkAt readOk valsOk
      constructor
      · rintro ⟨⟨a1, a2, a3, a4⟩, a5⟩
        exact ⟨⟨a1, a2⟩, by have := a5 hi; omega, a3, a4⟩
      · rintro ⟨⟨a1, a2⟩, a3, a4, a5⟩
        exact ⟨⟨a1, a2, a4, a5⟩, fun _ => by omega⟩
    · rw [if_neg (show ¬ (i : Int) > 0 by omega)]
      refine @if_row0 _ _ _ _ _ _ _ _ _ ?_ _ _
      unfold rowOkAt readOk valsOk
      constructor
      · rintro ⟨⟨a1, a2, a3, a4⟩, a5⟩
        exact ⟨⟨a1, a2⟩, a3, a4⟩
      · rintro ⟨⟨a1, a2⟩, a4, a5⟩
        exact ⟨⟨a1, a2, a4, a5⟩, fun h => absurd h hi⟩
theorem p46_l1_eq0 {k : Nat} (hk : 5000 ≤ k) {R : List (List Int)} (hn : R.length ≤ 64) {j : Option (Option CT × Int)} : p46_l1 k R j k 0 = if ∀ q, q < R.length → rowOkAt R q then j else some (none, 2) := by
  have := p46_l1_eq hk hn (j := j) R.length 0 k (by omega) (by omega)
  simpa using this
def lastN (R : List (List Int)) : Nat := (lastI R).toNat
def crs (R : List (List Int)) (D : List Int) : CT := (R, D, stT R, pls R (lastN R + 1), [vls R D 0 (lastN R + 1), vls R D 1 (lastN R + 1), vls R D 2 (lastN R + 1), vls R D 3 (lastN R + 1)])
theorem p46_eq {k : Nat} (hk : 5000 ≤ k) {R : List (List Int)} {D : List Int} (hD : D.length = 4) : p46 k R D = some (if logE R D = 0 then some (crs R D) else none, logE R D) := by
  have hb : ∀ {x : Int} {y : Option CT}, logE R D = x → x ≠ 0 → some ((none : Option CT), x) = some (if logE R D = 0 then y else none, logE R D) := fun h h0 => by rw [h, if_neg h0]
  unfold p46
  simp only [lt_v, sp_d, jn_v]
  by_cases hn : 64 < R.length
  · rw [if_pos (by omega)]
    exact hb (by unfold logE; rw [if_pos hn]) (by omega)
  · rw [if_neg (by omega)]
    have hn' : R.length ≤ 64 := by omega
    by_cases h2 : R.length < 2
    · rw [if_pos (by omega)]
      exact hb (by unfold logE; rw [if_neg hn, if_pos (fun h => by have := h.n2; omega)]) (by omega)
    · rw [if_neg (by omega), p68_eq hk (by omega), cl_v, sp_d]
      by_cases hd : ∃ q, q < D.length ∧ ¬ (0 ≤ D.getD q 0 ∧ D.getD q 0 ≤ 1048576)
      · rw [if_pos hd]
        obtain ⟨q, q1, q2⟩ := hd
        exact hb (by unfold logE; rw [if_neg hn, if_pos (fun h => q2 (h.dr q (by omega)))]) (by omega)
      · rw [if_neg hd]
        have hdr : ∀ q, q < 4 → 0 ≤ D.getD q 0 ∧ D.getD q 0 ≤ 1048576 := fun q hq => Classical.byContradiction fun h => hd ⟨q, by omega, h⟩
        rw [p46_l1_eq0 hk hn']
        by_cases hrow : ∀ q, q < R.length → rowOkAt R q
        · rw [if_pos hrow]
          have hasc : ∀ i, i + 1 < R.length → rA (rd R i) < rA (rd R (i + 1)) := fun i hi => by
            have := (hrow (i + 1) hi).2 (by omega)
            simpa using this
          have r0 := (hrow 0 (by omega)).1
          have r1 := (hrow (R.length - 1) (by omega)).1
          unfold readOk at r0 r1
          have hla : lastI R = rA (rd R (R.length - 1)) - rA (rd R 0) := rfl
          rw [wr64 (z := (R.length : Int) - 1) (by omega) (by omega), gd_v (by omega), gd_v (by omega), show ((R.length : Int) - 1).toNat = R.length - 1 from by omega]
          rw [show (R.getD (R.length - 1) []).getD 0 0 - (R.getD 0 []).getD 0 0 = lastI R from rfl, wr64 (z := lastI R) (by omega) (by omega)]
          by_cases hs : lastI R ≤ 2000
          · have ha : ArgOk R D := ⟨by omega, fun i hi => (hrow i hi).1, hasc, hs, hdr⟩
            have hla1 := ha.last
            have hN : ((lastN R + 1 : Nat) : Int) = lastI R + 1 := by unfold lastN; omega
            rw [if_neg (by omega), wr64 (z := lastI R + 1) (by omega) (by omega), ← hN, show (R.getD 0 []).getD 0 0 = stT R from rfl]
            have hsum : ∀ {e : Int}, ¬ SumOk R D → logE R D = 16 := fun h => by unfold logE; rw [if_neg hn, if_neg (fun h => h ha), if_pos h]
            have hno : ¬ SumOk R D → some ((none : Option CT), (16 : Int)) = some (if logE R D = 0 then some (crs R D) else none, logE R D) := fun h => hb (hsum (e := 0) h) (by omega)
            have hin : ∀ q : Nat, q < lastN R + 1 → (0 : Int) ≤ q ∧ (q : Int) ≤ lastI R := fun q hq => by unfold lastN at hq; omega
            rw [p72a_eq hk hn' ha hN]
            by_cases c : ∀ q : Nat, q < lastN R + 1 → pl R q ≤ ph R q
            · rw [if_pos c, cl2_v, sp_tt]
              have key : ∀ kk, kk < 4 → ¬ (∀ q : Nat, q < lastN R + 1 → vl R D kk q ≤ vh R D kk q) → ¬ SumOk R D := fun kk hkk h hs => h fun q hq => (hs q (hin q hq).1 (hin q hq).2).2 kk hkk
              have b0 := fun P V => p72b_eq (k := k) (P := P) (V := V) hk (show 0 < 4 by omega) hn' ha hN
              have b1 := fun P V => p72b_eq (k := k) (P := P) (V := V) hk (show 1 < 4 by omega) hn' ha hN
              have b2 := fun P V => p72b_eq (k := k) (P := P) (V := V) hk (show 2 < 4 by omega) hn' ha hN
              have b3 := fun P V => p72b_eq (k := k) (P := P) (V := V) hk (show 3 < 4 by omega) hn' ha hN
              simp only [show ((0 : Nat) : Int) = 0 from rfl, show ((1 : Nat) : Int) = 1 from rfl, show ((2 : Nat) : Int) = 2 from rfl, show ((3 : Nat) : Int) = 3 from rfl] at b0 b1 b2 b3
              rw [b0]
              by_cases c0 : ∀ q : Nat, q < lastN R + 1 → vl R D 0 q ≤ vh R D 0 q
              · rw [if_pos c0, cl2_v, sp_tt, b1]
                by_cases c1 : ∀ q : Nat, q < lastN R + 1 → vl R D 1 q ≤ vh R D 1 q
                · rw [if_pos c1, cl2_v, sp_tt, b2]
                  by_cases c2 : ∀ q : Nat, q < lastN R + 1 → vl R D 2 q ≤ vh R D 2 q
                  · rw [if_pos c2, cl2_v, sp_tt, b3]
                    by_cases c3 : ∀ q : Nat, q < lastN R + 1 → vl R D 3 q ≤ vh R D 3 q
                    · rw [if_pos c3, cl2_v, sp_tt]
                      have hso : SumOk R D := fun m h0 h1 => by
                        obtain ⟨q, rfl⟩ : ∃ q : Nat, m = q := ⟨m.toNat, by omega⟩
                        have hq : q < lastN R + 1 := by unfold lastN; omega
                        refine ⟨c q hq, fun kk hkk => ?_⟩
                        match kk, hkk with
                        | 0, _ => exact c0 q hq
                        | 1, _ => exact c1 q hq
                        | 2, _ => exact c2 q hq
                        | 3, _ => exact c3 q hq
                      rw [show logE R D = 0 from logE_zero.2 ⟨hn', ha, hso⟩, if_pos rfl]
                      rfl
                    · rw [if_neg c3, cl2_v, sp_ff]; exact hno (key 3 (by omega) c3)
                  · rw [if_neg c2, cl2_v, sp_ff]; exact hno (key 2 (by omega) c2)
                · rw [if_neg c1, cl2_v, sp_ff]; exact hno (key 1 (by omega) c1)
              · rw [if_neg c0, cl2_v, sp_ff]; exact hno (key 0 (by omega) c0)
            · rw [if_neg c, cl2_v, sp_ff]
              exact hno fun hs => c fun q hq => (hs q (hin q hq).1 (hin q hq).2).1
          · rw [if_pos (by omega)]
            exact hb (by unfold logE; rw [if_neg hn, if_pos (fun h => hs h.span)]) (by omega)
        · rw [if_neg hrow]
          refine hb ?_ (by omega)
          unfold logE
          rw [if_neg hn, if_pos]
          intro h
          refine hrow fun q hq => ⟨h.read q hq, fun h0 => ?_⟩
          have := h.asc (q - 1) (by omega)
          rw [show q - 1 + 1 = q from by omega] at this
          exact this
end Go.Proofs.Ythjkejbgknemgaa
namespace Go.Proofs.Ythjkejbgknemgaa
open Go.RowKit Classical
theorem LogOk.N {R D} (h : LogOk R D) : ((lastN R + 1 : Nat) : Int) = lastI R + 1 := by
  have := h.arg.last
  unfold lastN; omega
theorem getD_map_range {α : Type} (f : Nat → α) (N i : Nat) (y : α) (h : i < N) : ((List.range N).map f).getD i y = f i := by
  simp [List.getD_eq_getElem?_getD, h]
theorem pls_get {R : List (List Int)} {N : Nat} {x : Int} (h0 : 0 ≤ x) (h1 : x < N) : (pls R N).getD x.toNat [] = [pl R x, ph R x] := by
  unfold pls
  rw [getD_map_range _ _ _ _ (by omega), show ((x.toNat : Nat) : Int) = x from by omega]
theorem vls_get {R : List (List Int)} {D : List Int} {kk N : Nat} {x : Int} (h0 : 0 ≤ x) (h1 : x < N) : (vls R D kk N).getD x.toNat [] = [vl R D kk x, vh R D kk x] := by
  unfold vls
  rw [getD_map_range _ _ _ _ (by omega), show ((x.toNat : Nat) : Int) = x from by omega]
theorem pls_len (R : List (List Int)) (N : Nat) : (pls R N).length = N := by simp [pls]
theorem vls_len (R : List (List Int)) (D : List Int) (kk N : Nat) : (vls R D kk N).length = N := by simp [vls]
theorem crsV_get (R : List (List Int)) (D : List Int) : ∀ kk, kk < 4 → ([vls R D 0 (lastN R + 1), vls R D 1 (lastN R + 1), vls R D 2 (lastN R + 1), vls R D 3 (lastN R + 1)]).getD kk [] = vls R D kk (lastN R + 1)
  | 0, _ => rfl
  | 1, _ => rfl
  | 2, _ => rfl
  | 3, _ => rfl
  | q + 4, h => by omega
def inC (R : List (List Int)) (u : List Int) (x : Int) : Prop := u.getD 4 0 ≤ stT R + x ∧ stT R + x + 1 ≤ u.getD 5 0
noncomputable def stepsFrom (R : List (List Int)) (u : List Int) (i d : Nat) : List Int := ((List.range' i d).map fun q : Nat => (q : Int)).filter fun x => decide (inC R u x)
noncomputable def steps (R : List (List Int)) (u : List Int) : List Int := stepsFrom R u 0 (lastN R)
theorem steps_mem {R u x} : x ∈ steps R u ↔ 0 ≤ x ∧ x < (lastN R : Int) ∧ inC R u x := by
  unfold steps stepsFrom
  rw [List.mem_filter, List.mem_map]
  simp only [List.mem_range'_1, decide_eq_true_eq]
  constructor
  · rintro ⟨⟨q, ⟨_, hq⟩, rfl⟩, h⟩; exact ⟨by omega, by omega, h⟩
  · rintro ⟨h0, h1, h2⟩; exact ⟨⟨x.toNat, ⟨by omega, by omega⟩, by omega⟩, h2⟩
theorem p85_eq {R : List (List Int)} {D : List Int} {u : List Int} (h : LogOk R D) : ∀ (d i f : Nat), i + d = lastN R → d < f → p85_l (stT R) (u.getD 4 0) (u.getD 5 0) (lastN R : Int) f (i : Int) = some (stepsFrom R u i d)
  | 0, i, f, h1, h2 => by
    obtain ⟨f, rfl⟩ : ∃ f', f = f' + 1 := ⟨f - 1, by omega⟩
    rw [p85_l, sp_d, if_neg (by omega)]
    rfl
  | d + 1, i, f, h1, h2 => by
    obtain ⟨f, rfl⟩ : ∃ f', f = f' + 1 := ⟨f - 1, by omega⟩
    have hst := h.arg.st
    have hsp := h.arg.span
    have hN := h.N
    have hw : wr .i64 ((i : Int) + 1) = ((i + 1 : Nat) : Int) := by rw [wr64 (by omega) (by omega)]; omega
    rw [p85_l]
    simp only [sp_d, lt_v]
    rw [if_pos (by omega), wr64 (z := stT R + (i : Int)) (by omega) (by omega), wr64 (z := stT R + (i : Int) + 1) (by omega) (by omega), hw, p85_eq h d (i + 1) f (by omega) (by omega), cl_v]
    have e : stepsFrom R u i (d + 1) = if inC R u i then (i : Int) :: stepsFrom R u (i + 1) d else stepsFrom R u (i + 1) d := by
      unfold stepsFrom
      rw [List.range'_succ, List.map_cons, List.filter_cons]
      simp only [decide_eq_true_eq]
    rw [e]
    unfold inC
    by_cases c1 : u.getD 4 0 ≤ stT R + i <;> by_cases c2 : stT R + i + 1 ≤ u.getD 5 0
    · rw [if_pos (by omega), if_pos c2, if_pos ⟨c1, c2⟩]
    · rw [if_pos (by omega), if_neg c2, if_neg (fun h => c2 h.2)]
    · rw [if_neg (by omega), if_neg (fun h => c1 h.1)]
    · rw [if_neg (by omega), if_neg (fun h => c1 h.1)]
theorem p77_eq {k : Nat} (hk : 5000 ≤ k) {R : List (List Int)} {D : List Int} {u : List Int} {V} (h : LogOk R D) : p77 k R D (stT R) (pls R (lastN R + 1)) V u = some (steps R u) := by
  have hsp := h.arg.span
  have hN := h.N
  unfold p77 p86
  rw [pls_len]
  simp only [lt_v]
  rw [wr64 (by omega) (by omega), cl_v, show ((lastN R + 1 : Nat) : Int) - 1 = (lastN R : Int) from by omega]
  exact p85_eq h (lastN R) 0 k (by omega) (by omega)
def mustP (R : List (List Int)) (D : List Int) (u : List Int) (x : Int) : Prop := u.getD 3 0 < max (vl R D (u.getD 2 0).toNat x) (vl R D (u.getD 2 0).toNat (x + 1))
noncomputable def must (R : List (List Int)) (D : List Int) (u : List Int) : List Int := (steps R u).filter fun x => decide (mustP R D u x)
theorem p56_r1_eq {k : Nat} {R : List (List Int)} {D : List Int} {u : List Int} {j : List Int → Option (List Int)} (hl : lastN R ≤ 2000) : ∀ (S W : List Int), (∀ x ∈ S, 0 ≤ x ∧ x < (lastN R : Int)) → W.length + S.length ≤ 100000 →
    p56_r1 k j u (vls R D (u.getD 2 0).toNat (lastN R + 1)) S W = j (W ++ S.filter fun x => decide (mustP R D u x))
  | [], W, _, _ => by rw [p56_r1]; simp
  | x :: S, W, hS, hW => by
    obtain ⟨h0, h1⟩ := hS x (List.mem_cons_self ..)
    simp only [List.length_cons] at hW
    rw [p56_r1]
    simp only [lt_v, sp_d, vls_len, mx_eq]
    rw [gd_v (by omega), wr64 (z := x + 1) (by omega) (by omega), gd_v (by omega), vls_get h0 (by omega), vls_get (by omega) (by omega)]
    simp only [List.getD_cons_zero]
    have ih := fun W hW => p56_r1_eq (k := k) (D := D) (u := u) (j := j) hl S W (fun y hy => hS y (List.mem_cons_of_mem _ hy)) hW
    rw [List.filter_cons]
    simp only [decide_eq_true_eq]
    unfold mustP at ih ⊢
    by_cases c : u.getD 3 0 < max (vl R D (u.getD 2 0).toNat x) (vl R D (u.getD 2 0).toNat (x + 1))
    · rw [if_pos c, if_pos c, gd_v (by simp; omega), ih _ (by simp; omega)]
      simp
    · rw [if_neg c, if_neg c, ih _ (by omega)]
theorem steps_len (R u) : (steps R u).length ≤ lastN R := by
  unfold steps stepsFrom
  refine Nat.le_trans (List.length_filter_le _ _) ?_
  simp
theorem p56_eq {k : Nat} (hk : 5000 ≤ k) {R : List (List Int)} {D : List Int} {u : List Int} (h : LogOk R D) (hu : ClaimOk u) : p56 k R D (stT R) (pls R (lastN R + 1)) (crs R D).2.2.2.2 u = some (must R D u) := by
  have hsp := h.arg.span
  have hN := h.N
  have hk1 := hu.2.2.2.1
  have hk2 := hu.2.2.2.2.1
  unfold p56
  simp only [lt_v, jn_v]
  rw [gd_v (by omega), p77_eq hk h, cl_v]
  rw [show (crs R D).2.2.2.2 = [vls R D 0 (lastN R + 1), vls R D 1 (lastN R + 1), vls R D 2 (lastN R + 1), vls R D 3 (lastN R + 1)] from rfl, Nat.mul_one, crsV_get R D _ (by omega)]
  have hl := steps_len R u
  rw [p56_r1_eq (by omega) (steps R u) [] (fun x hx => ⟨(steps_mem.1 hx).1, (steps_mem.1 hx).2.1⟩) (by simp; omega)]
  rfl
theorem must_mem {R D u x} : x ∈ must R D u ↔ 0 ≤ x ∧ x < (lastN R : Int) ∧ inC R u x ∧ mustP R D u x := by
  unfold must
  rw [List.mem_filter, steps_mem, decide_eq_true_eq]
  exact ⟨fun ⟨⟨a, b, c⟩, d⟩ => ⟨a, b, c, d⟩, fun ⟨a, b, c, d⟩ => ⟨⟨a, b, c⟩, d⟩⟩
theorem must_len (R D u) : (must R D u).length ≤ lastN R := Nat.le_trans (List.length_filter_le _ _) (steps_len R u)
theorem asc_steps (R u) : (steps R u).Pairwise (· < ·) := by
  unfold steps stepsFrom
  refine List.Pairwise.filter _ ?_
  rw [List.pairwise_map]
  refine List.Pairwise.imp ?_ (List.pairwise_lt_range' (s := 0) (n := lastN R))
  intro a b hab; omega
theorem asc_must (R D u) : (must R D u).Pairwise (· < ·) := List.Pairwise.filter _ (asc_steps R u)
def canP (R : List (List Int)) (D : List Int) (u : List Int) (x : Int) : Prop := u.getD 3 0 < max (vh R D (u.getD 2 0).toNat x) (vh R D (u.getD 2 0).toNat (x + 1)) ∧ pl R x ≤ u.getD 1 0 ∧ u.getD 0 0 ≤ ph R (x + 1)
noncomputable def firstOr (p : Int → Prop) : List Int → Int
  | [] => -1
  | x :: l => if p x then x else firstOr p l
theorem firstOr_cons (p : Int → Prop) (x : Int) (l : List Int) : firstOr p (x :: l) = if p x then x else firstOr p l := by rw [firstOr]
noncomputable def canI (R : List (List Int)) (D : List Int) (u : List Int) : Int := firstOr (canP R D u) (steps R u)
theorem p65_r1_eq {k : Nat} {R : List (List Int)} {D : List Int} {u : List Int} (hl : lastN R ≤ 2000) : ∀ (S : List Int), (∀ x ∈ S, 0 ≤ x ∧ x < (lastN R : Int)) →
    p65_r1 k (some (-1)) (fun x => some x) (pls R (lastN R + 1)) u (vls R D (u.getD 2 0).toNat (lastN R + 1)) S = some (firstOr (canP R D u) S)
  | [], _ => by rw [p65_r1]; rfl
  | x :: S, hS => by
    obtain ⟨h0, h1⟩ := hS x (List.mem_cons_self ..)
    rw [p65_r1]
    simp only [lt_v, jn_v, sp_d, sp_ff, vls_len, pls_len, mx_eq]
    rw [gd_v (by omega), wr64 (z := x + 1) (by omega) (by omega), gd_v (by omega), vls_get h0 (by omega), vls_get (by omega) (by omega), gd_v (by omega), gd_v (by omega), pls_get h0 (by omega), pls_get (by omega) (by omega)]
    simp only [List.getD_cons_zero, List.getD_cons_succ]
    rw [p65_r1_eq hl S (fun y hy => hS y (List.mem_cons_of_mem _ hy))]
    rw [firstOr_cons]
    by_cases c1 : u.getD 3 0 < max (vh R D (u.getD 2 0).toNat x) (vh R D (u.getD 2 0).toNat (x + 1)) <;> by_cases c2 : pl R x ≤ u.getD 1 0 <;> by_cases c3 : u.getD 0 0 ≤ ph R (x + 1)
    · rw [if_pos c1, if_pos c2, if_pos c3, if_pos (show canP R D u x from ⟨c1, c2, c3⟩)]
    · rw [if_pos c1, if_pos c2, if_neg c3, if_neg (fun h : canP R D u x => c3 h.2.2)]
    · rw [if_pos c1, if_neg c2, if_neg (fun h : canP R D u x => c2 h.2.1)]
    · rw [if_pos c1, if_neg c2, if_neg (fun h : canP R D u x => c2 h.2.1)]
    · rw [if_neg c1, if_neg (fun h : canP R D u x => c1 h.1)]
    · rw [if_neg c1, if_neg (fun h : canP R D u x => c1 h.1)]
    · rw [if_neg c1, if_neg (fun h : canP R D u x => c1 h.1)]
    · rw [if_neg c1, if_neg (fun h : canP R D u x => c1 h.1)]
theorem p65_eq {k : Nat} (hk : 5000 ≤ k) {R : List (List Int)} {D : List Int} {u : List Int} (h : LogOk R D) (hu : ClaimOk u) : p65 k R D (stT R) (pls R (lastN R + 1)) (crs R D).2.2.2.2 u = some (canI R D u) := by
  have hsp := h.arg.span
  have hN := h.N
  have hk1 := hu.2.2.2.1
  have hk2 := hu.2.2.2.2.1
  unfold p65
  simp only [lt_v, jn_v]
  rw [gd_v (by omega), p77_eq hk h, cl_v]
  rw [show (crs R D).2.2.2.2 = [vls R D 0 (lastN R + 1), vls R D 1 (lastN R + 1), vls R D 2 (lastN R + 1), vls R D 3 (lastN R + 1)] from rfl, Nat.mul_one, crsV_get R D _ (by omega)]
  exact p65_r1_eq (by omega) (steps R u) (fun x hx => ⟨(steps_mem.1 hx).1, (steps_mem.1 hx).2.1⟩)
def pastAt (R : List (List Int)) (u S : List Int) (i : Nat) : Prop :=
  (i = 0 ∨ pl R (S.getD (i - 1) 0 + 1) < u.getD 0 0) ∧ (i = S.length ∨ u.getD 1 0 < ph R (S.getD i 0)) ∧ (i = 0 ∨ i = S.length ∨ S.getD (i - 1) 0 + 1 < S.getD i 0)
noncomputable def pastFrom (R : List (List Int)) (u S : List Int) (i d : Nat) : Int := firstOr (fun x => pastAt R u S x.toNat) ((List.range' i d).map fun q : Nat => (q : Int))
noncomputable def pastI (R : List (List Int)) (u S : List Int) : Int := pastFrom R u S 0 (S.length + 1)
theorem pastFrom_succ (R u S i d) : pastFrom R u S i (d + 1) = if pastAt R u S i then (i : Int) else pastFrom R u S (i + 1) d := by
  unfold pastFrom
  rw [List.range'_succ, List.map_cons]
  simp only [firstOr, Int.toNat_natCast]
theorem p58_l1_eq {k : Nat} {R : List (List Int)} {u S : List Int} (hl : lastN R ≤ 2000) (hS : ∀ x ∈ S, 0 ≤ x ∧ x < (lastN R : Int)) (hL : S.length ≤ 100000) : ∀ (d i n : Nat), i + d = S.length + 1 → d < n →
    p58_l1 k (pls R (lastN R + 1)) u S (some (-1)) ((S.length : Int) + 1) n (i : Int) = some (pastFrom R u S i d)
  | 0, i, n, h1, h2 => by
    obtain ⟨n, rfl⟩ : ∃ n', n = n' + 1 := ⟨n - 1, by omega⟩
    rw [p58_l1]
    simp only [lt_v, sp_d]
    rw [if_neg (by omega)]
    rfl
  | d + 1, i, n, h1, h2 => by
    obtain ⟨n, rfl⟩ : ∃ n', n = n' + 1 := ⟨n - 1, by omega⟩
    have hw : wr .i64 ((i : Int) + 1) = ((i + 1 : Nat) : Int) := by rw [wr64 (by omega) (by omega)]; omega
    have hin : ∀ q, q < S.length → 0 ≤ S.getD q 0 ∧ S.getD q 0 < (lastN R : Int) := fun q hq => by
      have : S.getD q 0 ∈ S := by simp [List.getD_eq_getElem?_getD, List.getElem?_eq_getElem hq]
      exact hS _ this
    rw [p58_l1, pastFrom_succ]
    simp only [lt_v, jn_v, sp_tt, sp_ff, sp_d, Int.toNat_natCast, pls_len]
    rw [if_pos (by omega), hw, p58_l1_eq hl hS hL d (i + 1) n (by omega) (by omega)]
    have e0 : ((i : Int) == 0) = decide (i = 0) := by by_cases h : i = 0 <;> simp [h]
    have e1 : ((i : Int) == (S.length : Int)) = decide (i = S.length) := by by_cases h : i = S.length <;> simp [h]; omega
    simp only [e0, e1, sp_d]
    generalize hX : some (pastFrom R u S (i + 1) d) = X
    have fin : ∀ {P : Prop} {y : Option Int}, (P → y = some (i : Int)) → (¬ P → y = X) → (P ↔ pastAt R u S i) → y = some (if pastAt R u S i then (i : Int) else pastFrom R u S (i + 1) d) := by
      intro P y h3 h4 h5
      by_cases hP : P
      · rw [if_pos (h5.1 hP)]; exact h3 hP
      · rw [if_neg (fun h => hP (h5.2 h)), hX]; exact h4 hP
    by_cases c0 : i = 0
    · by_cases c1 : i = S.length
      · refine fin (P := True) (fun _ => ?_) (fun h => absurd trivial h) ⟨fun _ => ⟨.inl c0, .inl c1, .inl c0⟩, fun _ => trivial⟩
        simp only [if_pos c0, if_pos c1]
      · have hi := hin i (by omega)
        simp only [if_pos c0, if_neg c1]
        rw [gd_v (by omega), gd_v (by omega), pls_get hi.1 (by omega)]
        simp only [List.getD_cons_zero, List.getD_cons_succ]
        by_cases a2 : u.getD 1 0 < ph R (S.getD i 0)
        · refine fin (P := True) (fun _ => ?_) (fun h => absurd trivial h) ⟨fun _ => ⟨.inl c0, .inr a2, .inl c0⟩, fun _ => trivial⟩
          rw [if_pos a2]
        · refine fin (P := False) (fun h => h.elim) (fun _ => ?_) ⟨fun h => h.elim, fun h => h.2.1.elim c1 a2⟩
          rw [if_neg a2]
    · have hw2 : wr .i64 ((i : Int) - 1) = ((i - 1 : Nat) : Int) := by rw [wr64 (by omega) (by omega)]; omega
      have hi1 := hin (i - 1) (by omega)
      simp only [if_neg c0, hw2]
      rw [gd_v (by omega)]
      have hw3 : wr .i64 (S.getD (i - 1) 0 + 1) = S.getD (i - 1) 0 + 1 := wr64 (by omega) (by omega)
      have hp1 : (pls R (lastN R + 1)).getD (S.getD (i - 1) 0 + 1).toNat [] = [pl R (S.getD (i - 1) 0 + 1), ph R (S.getD (i - 1) 0 + 1)] := pls_get (by omega) (by omega)
      simp only [Int.toNat_natCast, hw3, hp1, List.getD_cons_zero]
      rw [gd_v (by omega)]
      by_cases c1 : i = S.length
      · by_cases a1 : pl R (S.getD (i - 1) 0 + 1) < u.getD 0 0
        · refine fin (P := True) (fun _ => ?_) (fun h => absurd trivial h) ⟨fun _ => ⟨.inr a1, .inl c1, .inr (.inl c1)⟩, fun _ => trivial⟩
          simp only [if_pos a1, if_pos c1]
        · refine fin (P := False) (fun h => h.elim) (fun _ => ?_) ⟨fun h => h.elim, fun h => h.1.elim c0 a1⟩
          simp only [if_neg a1, if_pos c1, ite_self]
      · have hi := hin i (by omega)
        have hp2 : (pls R (lastN R + 1)).getD (S.getD i 0).toNat [] = [pl R (S.getD i 0), ph R (S.getD i 0)] := pls_get hi.1 (by omega)
        simp only [if_neg c1, hp2, List.getD_cons_zero, List.getD_cons_succ]
        rw [gd_v (by omega), gd_v (by omega), gd_v (by omega), gd_v (by omega)]
        by_cases a1 : pl R (S.getD (i - 1) 0 + 1) < u.getD 0 0 <;> by_cases a2 : u.getD 1 0 < ph R (S.getD i 0) <;> by_cases a3 : S.getD (i - 1) 0 + 1 < S.getD i 0
        · refine fin (P := True) (fun _ => ?_) (fun h => absurd trivial h) ⟨fun _ => ⟨.inr a1, .inr a2, .inr (.inr a3)⟩, fun _ => trivial⟩
          rw [if_pos a1, if_pos a2, if_pos a3]
        all_goals
          refine fin (P := False) (fun h => h.elim) (fun _ => ?_) ⟨fun h => h.elim, fun h => ?_⟩
        all_goals first
          | (rcases h with ⟨h1 | h1, h2 | h2, h3 | h3 | h3⟩ <;> first | exact c0 h1 | exact c1 h2 | exact c0 h3 | exact c1 h3 | exact a1 h1 | exact a2 h2 | exact a3 h3)
          | (simp only [a1, a2, a3, if_true, if_false, gt_iff_lt]; done)
          | (simp only [a1, a2, a3, if_true, if_false, gt_iff_lt, sp_tt, sp_ff, ite_self]; done)
theorem p58_eq {k : Nat} (hk : 5000 ≤ k) {R : List (List Int)} {D : List Int} {u S : List Int} {st V} (h : LogOk R D) (hS : ∀ x ∈ S, 0 ≤ x ∧ x < (lastN R : Int)) (hL : S.length ≤ 4000) : p58 k R D st (pls R (lastN R + 1)) V u S = some (pastI R u S) := by
  have hsp := h.arg.span
  have hN := h.N
  unfold p58
  simp only [lt_v, jn_v]
  rw [wr64 (by omega) (by omega)]
  exact p58_l1_eq (by omega) hS (by omega) (S.length + 1) 0 k (by omega) (by omega)
noncomputable def vdI (R : List (List Int)) (D u : List Int) : Int := if pastI R u (must R D u) < 0 then 1 else if canI R D u < 0 then 2 else 0
theorem p44_eq {k : Nat} (hk : 5000 ≤ k) {R : List (List Int)} {D : List Int} {u : List Int} (h : LogOk R D) (hu : ClaimOk u) : p44 k R D (stT R) (pls R (lastN R + 1)) (crs R D).2.2.2.2 u = some (vdI R D u) := by
  have hsp := h.arg.span
  have hN := h.N
  have hl := must_len R D u
  unfold p44 vdI
  rw [p56_eq hk h hu, cl_v, p58_eq hk h (fun x hx => ⟨(must_mem.1 hx).1, (must_mem.1 hx).2.1⟩) (by omega), cl_v, p65_eq hk h hu]
  simp only [lt_v, sp_d, cl_v]
  split
  · rfl
  · split <;> rfl
theorem ne_zero_b (x : Int) : (x != 0) = !decide (x = 0) := by by_cases h : x = 0 <;> simp [h]
theorem eq_zero_b (x y : Int) : (x == y) = decide (x = y) := by by_cases h : x = y <;> simp [h]
theorem p12_eq {k : Nat} (hk : 5000 ≤ k) : p12 k = some true := by
  obtain ⟨j, rfl⟩ : ∃ j, k = j + 5000 := ⟨k - 5000, by omega⟩
  kernel_rfl
end Go.Proofs.Ythjkejbgknemgaa
namespace Go.Proofs.Ythjkejbgknemgaa
open Go.RowKit Classical
def PastP (R : List (List Int)) (u : List Int) (S : List Int) : Prop := ∃ a : Int, (∀ s ∈ S, s < a → pl R (s + 1) < u.getD 0 0) ∧ (∀ s ∈ S, a ≤ s → u.getD 1 0 < ph R s) ∧ ¬ (a - 1 ∈ S ∧ a ∈ S)
theorem getD_mem' {S : List Int} {i : Nat} (h : i < S.length) : S.getD i 0 ∈ S := by simp [List.getD_eq_getElem?_getD, List.getElem?_eq_getElem h]
theorem asc_getD {S : List Int} (h : S.Pairwise (· < ·)) {i j : Nat} (hij : i < j) (hj : j < S.length) : S.getD i 0 < S.getD j 0 := by
  have := List.pairwise_iff_getElem.1 h i j (by omega) hj hij
  simpa [List.getD_eq_getElem?_getD, List.getElem?_eq_getElem hj, List.getElem?_eq_getElem (show i < S.length by omega)] using this
theorem PastP.sub {R R' : List (List Int)} {u u' S S' : List Int} (h : PastP R' u' S') (hS : ∀ x ∈ S, x ∈ S') (h1 : ∀ x ∈ S, pl R (x + 1) ≤ pl R' (x + 1)) (h2 : ∀ x ∈ S, ph R' x ≤ ph R x) (h3 : u'.getD 0 0 ≤ u.getD 0 0) (h4 : u.getD 1 0 ≤ u'.getD 1 0) : PastP R u S := by
  obtain ⟨a, a1, a2, a3⟩ := h
  refine ⟨a, fun s hs hl => ?_, fun s hs hl => ?_, fun ⟨h5, h6⟩ => a3 ⟨hS _ h5, hS _ h6⟩⟩
  · have := a1 s (hS s hs) hl
    have := h1 s hs
    omega
  · have := a2 s (hS s hs) hl
    have := h2 s hs
    omega
theorem vd_range (R : List (List Int)) (D u : List Int) : vdI R D u = 0 ∨ vdI R D u = 1 ∨ vdI R D u = 2 := by
  unfold vdI
  split
  · exact .inr (.inl rfl)
  · split
    · exact .inr (.inr rfl)
    · exact .inl rfl
theorem p18_some {k : Nat} {R : List (List Int)} {D : List Int} : ∃ b, p18 k R D = some b := by
  unfold p18
  simp only [jn_v, lt_v, sp_d]
  have tail : ∀ b : Bool, R.length ≤ 100 → ∃ c, sp b (some true) (if (R.length : Int) > 1 then gd ((0 : Int) ≤ wr .i64 ((R.length : Int) - 1) ∧ wr .i64 ((R.length : Int) - 1) < (R.length : Int)) (gd ((0 : Int) ≤ 0 ∧ (0 : Int) < (R.length : Int)) (if (R.getD (wr .i64 ((R.length : Int) - 1)).toNat []).getD 0 0 > (R.getD 0 []).getD 0 0 then gd ((0 : Int) ≤ wr .i64 ((R.length : Int) - 1) ∧ wr .i64 ((R.length : Int) - 1) < (R.length : Int)) (gd ((0 : Int) ≤ 0 ∧ (0 : Int) < (R.length : Int)) (if wr .i64 ((R.getD (wr .i64 ((R.length : Int) - 1)).toNat []).getD 0 0 - (R.getD 0 []).getD 0 0) > 120 then gd ((0 : Int) ≤ wr .i64 ((R.length : Int) - 1) ∧ wr .i64 ((R.length : Int) - 1) < (R.length : Int)) (gd ((0 : Int) ≤ 0 ∧ (0 : Int) < (R.length : Int)) (some (decide (wr .i64 ((R.getD (wr .i64 ((R.length : Int) - 1)).toNat []).getD 0 0 - (R.getD 0 []).getD 0 0) ≤ 2000)))) else some false)) else some false)) else some false) = some c := by
    intro b hb
    cases b with
    | true => exact ⟨true, rfl⟩
    | false =>
      rw [sp_ff]
      split
      · rename_i h1
        rw [wr64 (z := (R.length : Int) - 1) (by omega) (by omega), gd_v (by omega), gd_v (by omega)]
        split
        · rw [gd_v (by omega), gd_v (by omega)]
          split
          · rw [gd_v (by omega), gd_v (by omega)]; exact ⟨_, rfl⟩
          · exact ⟨_, rfl⟩
        · exact ⟨_, rfl⟩
      · exact ⟨_, rfl⟩
  by_cases h1 : (R.length : Int) > 100
  · rw [if_pos h1]; exact ⟨true, rfl⟩
  · rw [if_neg h1]
    by_cases h2 : (R.length : Int) > 20
    · rw [if_pos h2]
      by_cases h3 : (R.length : Int) ≤ 64
      · rw [if_pos h3]; exact ⟨true, rfl⟩
      · rw [if_neg h3]; exact tail false (by omega)
    · rw [if_neg h2]; exact tail false (by omega)
def Wf64 (R : List (List Int)) : Prop := ∀ r ∈ R, ∀ z ∈ r, -9223372036854775808 ≤ z ∧ z ≤ 9223372036854775807
end Go.Proofs.Ythjkejbgknemgaa
namespace Go.Proofs.Ythjkejbgknemgaa
open Go.RowKit Classical
theorem p80_eq {k : Nat} {R : List (List Int)} {D u : List Int} (h : LogOk R D) {m : Int} (h0 : 0 ≤ m) (h1 : m < lastI R) : p80 k R D u m = some (decide (inC R u m)) := by
  have hst := h.arg.st
  have hsp := h.arg.span
  have hn := h.arg.n2
  unfold p80
  simp only [jn_v, lt_v]
  rw [p45_eq (by omega) (by omega) (by omega), cl_v, wr64 (z := m + 1) (by omega) (by omega), p45_eq (by omega) (by omega) (by omega)]
  simp only [cl_v, sp_d]
  by_cases c1 : u.getD 4 0 ≤ stT R + m
  · rw [if_pos c1]
    exact congrArg some (decide_eq_decide.2 ⟨fun h => ⟨c1, by omega⟩, fun h => by have := h.2; omega⟩)
  · rw [if_neg c1]
    exact congrArg some (decide_eq_false (fun h => c1 h.1)).symm
theorem firstOr_filter {p q : Int → Prop} : ∀ (l : List Int), firstOr p (l.filter fun x => decide (q x)) = firstOr (fun x => q x ∧ p x) l
  | [] => rfl
  | x :: l => by
    rw [List.filter_cons, firstOr_cons]
    by_cases hq : q x
    · rw [if_pos (by simpa using hq), firstOr_cons, firstOr_filter l]
      by_cases hp : p x
      · rw [if_pos hp, if_pos ⟨hq, hp⟩]
      · rw [if_neg hp, if_neg (fun h => hp h.2)]
    · rw [if_neg (by simpa using hq), firstOr_filter l, if_neg (fun h => hq h.1)]
theorem p76_l1_eq {k : Nat} (hk : 5000 ≤ k) {R : List (List Int)} {D u : List Int} (h : LogOk R D) (hu : ClaimOk u) : ∀ (d i n : Nat), i + d = lastN R → d < n → p76_l1 k R D u (some (-1)) n (i : Int) = some (firstOr (fun x => inC R u x ∧ canP R D u x) ((List.range' i d).map fun q : Nat => (q : Int)))
  | 0, i, n, h1, h2 => by
    obtain ⟨n, rfl⟩ : ∃ n', n = n' + 1 := ⟨n - 1, by omega⟩
    have hN := h.N
    have hsp := h.arg.span
    have hn := h.arg.n2
    rw [p76_l1, p53_eq (by omega) h.n64 (by omega) (by omega), cl_v]
    simp only [lt_v, sp_d]
    rw [if_neg (by omega)]
    rfl
  | d + 1, i, n, h1, h2 => by
    obtain ⟨n, rfl⟩ : ∃ n', n = n' + 1 := ⟨n - 1, by omega⟩
    have hN := h.N
    have hsp := h.arg.span
    have hst := h.arg.st
    have hn := h.arg.n2
    have hk1 := hu.2.2.2.1
    have hk2 := hu.2.2.2.2.1
    have hw : wr .i64 ((i : Int) + 1) = ((i + 1 : Nat) : Int) := by rw [wr64 (by omega) (by omega)]; omega
    have hkk : u.getD 2 0 = (((u.getD 2 0).toNat : Nat) : Int) := by omega
    have e0 := p17_eq hk h.n64 h.arg (m := (i : Int)) (kk := (u.getD 2 0).toNat) (by omega) (by omega) (by omega)
    have e1 := p17_eq hk h.n64 h.arg (m := ((i + 1 : Nat) : Int)) (kk := (u.getD 2 0).toNat) (by omega) (by omega) (by omega)
    rw [← hkk] at e0 e1
    have e2 := p16_eq hk (R := R) (D := D) (m := (i : Int)) (by omega) h.n64 (by omega) (by omega)
    have e3 := p16_eq hk (R := R) (D := D) (m := ((i + 1 : Nat) : Int)) (by omega) h.n64 (by omega) (by omega)
    have hg : ∀ (a b : Int) (x : Option Int), gd ([a, b].length = 2) x = x := fun _ _ _ => rfl
    rw [p76_l1, p53_eq (by omega) h.n64 (by omega) (by omega), cl_v]
    simp only [lt_v, sp_d, jn_v, e0, e1, e2, e3, cl_v, hg, hw, List.getD_cons_zero, List.getD_cons_succ, mx_eq, sp_ff]
    rw [if_pos (by omega), p80_eq h (by omega) (by omega), cl_v, sp_d, p76_l1_eq hk h hu d (i + 1) n (by omega) (by omega), List.range'_succ, List.map_cons, firstOr_cons]
    have hc : ((i + 1 : Nat) : Int) = (i : Int) + 1 := by omega
    rw [hc]
    by_cases c0 : inC R u i
    · rw [if_pos c0]
      by_cases c1 : u.getD 3 0 < max (vh R D (u.getD 2 0).toNat i) (vh R D (u.getD 2 0).toNat (i + 1)) <;> by_cases c2 : pl R i ≤ u.getD 1 0 <;> by_cases c3 : u.getD 0 0 ≤ ph R (i + 1)
      · rw [if_pos c1, if_pos c2, if_pos c3, if_pos (show inC R u i ∧ canP R D u i from ⟨c0, c1, c2, c3⟩)]
      all_goals
        rw [if_neg (show ¬ (inC R u i ∧ canP R D u i) from fun h => by
          obtain ⟨_, h5, h6, h7⟩ := h
          first | exact c1 h5 | exact c2 h6 | exact c3 h7)]
      · rw [if_pos c1, if_pos c2, if_neg c3]
      · rw [if_pos c1, if_neg c2]
      · rw [if_pos c1, if_neg c2]
      · rw [if_neg c1]
      · rw [if_neg c1]
      · rw [if_neg c1]
      · rw [if_neg c1]
    · rw [if_neg c0, if_neg (fun h => c0 h.1)]
theorem p76_eq {k : Nat} (hk : 5000 ≤ k) {R : List (List Int)} {D u : List Int} (h : LogOk R D) (hu : ClaimOk u) : p76 k R D u = some (canI R D u) := by
  have hN := h.N
  have hsp := h.arg.span
  unfold p76 canI steps stepsFrom
  rw [firstOr_filter]
  simp only [jn_v]
  exact p76_l1_eq hk h hu (lastN R) 0 k (by omega) (by omega)
theorem p59_l1_eq {k : Nat} (hk : 5000 ≤ k) {R : List (List Int)} {D u : List Int} (h : LogOk R D) (hu : ClaimOk u) (j : List Int → Option (List Int)) : ∀ (d i n : Nat) (W : List Int), i + d = lastN R → d < n → W.length ≤ i → p59_l1 k R D u j n (i : Int) W = j (W ++ (stepsFrom R u i d).filter fun x => decide (mustP R D u x))
  | 0, i, n, W, h1, h2, hW => by
    obtain ⟨n, rfl⟩ : ∃ n', n = n' + 1 := ⟨n - 1, by omega⟩
    have hN := h.N
    have hsp := h.arg.span
    have hn := h.arg.n2
    rw [p59_l1, p53_eq (by omega) h.n64 (by omega) (by omega), cl_v]
    simp only [lt_v, sp_d]
    rw [if_neg (by omega)]
    simp [stepsFrom]
  | d + 1, i, n, W, h1, h2, hW => by
    obtain ⟨n, rfl⟩ : ∃ n', n = n' + 1 := ⟨n - 1, by omega⟩
    have hN := h.N
    have hsp := h.arg.span
    have hst := h.arg.st
    have hn := h.arg.n2
    have hk1 := hu.2.2.2.1
    have hk2 := hu.2.2.2.2.1
    have hw : wr .i64 ((i : Int) + 1) = ((i + 1 : Nat) : Int) := by rw [wr64 (by omega) (by omega)]; omega
    have hkk : u.getD 2 0 = (((u.getD 2 0).toNat : Nat) : Int) := by omega
    have e0 := p17_eq hk h.n64 h.arg (m := (i : Int)) (kk := (u.getD 2 0).toNat) (by omega) (by omega) (by omega)
    have e1 := p17_eq hk h.n64 h.arg (m := ((i + 1 : Nat) : Int)) (kk := (u.getD 2 0).toNat) (by omega) (by omega) (by omega)
    rw [← hkk] at e0 e1
    have hg : ∀ (a b : Int) (x : Option (List Int)), gd ([a, b].length = 2) x = x := fun _ _ _ => rfl
    rw [p59_l1, p53_eq (by omega) h.n64 (by omega) (by omega), cl_v]
    simp only [lt_v, sp_d, jn_v, e0, e1, cl_v, hg, hw, List.getD_cons_zero, mx_eq, sp_ff]
    rw [if_pos (by omega), p80_eq h (by omega) (by omega), cl_v, sp_d]
    have hc : ((i + 1 : Nat) : Int) = (i : Int) + 1 := by omega
    have e : stepsFrom R u i (d + 1) = if inC R u i then (i : Int) :: stepsFrom R u (i + 1) d else stepsFrom R u (i + 1) d := by
      unfold stepsFrom
      rw [List.range'_succ, List.map_cons, List.filter_cons]
      simp only [decide_eq_true_eq]
    have ih := fun W hW => p59_l1_eq hk h hu j d (i + 1) n W (by omega) (by omega) hW
    rw [e]
    by_cases c0 : inC R u i
    · rw [if_pos c0, if_pos c0, List.filter_cons]
      simp only [decide_eq_true_eq]
      by_cases c1 : mustP R D u i
      · rw [if_pos c1, if_pos (by unfold mustP at c1; rw [hc]; exact c1), gd_v (by simp; omega), ih _ (by simp; omega)]
        simp
      · rw [if_neg c1, if_neg (by unfold mustP at c1; rw [hc]; exact c1), ih _ (by omega)]
    · rw [if_neg c0, if_neg c0, ih _ (by omega)]
theorem p59_eq {k : Nat} (hk : 5000 ≤ k) {R : List (List Int)} {D u : List Int} (h : LogOk R D) (hu : ClaimOk u) : p59 k R D u = some (must R D u) := by
  have hN := h.N
  have hsp := h.arg.span
  unfold p59
  simp only [jn_v]
  exact p59_l1_eq hk h hu (fun L => some L) (lastN R) 0 k [] (by omega) (by omega) (Nat.le_refl _)
theorem p60_l1_eq {k : Nat} (hk : 5000 ≤ k) {R : List (List Int)} {D u S : List Int} (h : LogOk R D) (hS : ∀ x ∈ S, 0 ≤ x ∧ x < (lastN R : Int)) (hasc : S.Pairwise (· < ·)) (hL : S.length ≤ 100000) : ∀ (d i n : Nat), i + d = S.length + 1 → d < n →
    p60_l1 k R D u S (some (-1)) n (i : Int) = some (pastFrom R u S i d)
  | 0, i, n, h1, h2 => by
    obtain ⟨n, rfl⟩ : ∃ n', n = n' + 1 := ⟨n - 1, by omega⟩
    rw [p60_l1]
    simp only [lt_v, sp_d]
    rw [if_neg (by omega)]
    rfl
  | d + 1, i, n, h1, h2 => by
    obtain ⟨n, rfl⟩ : ∃ n', n = n' + 1 := ⟨n - 1, by omega⟩
    have hN := h.N
    have hsp := h.arg.span
    have hst := h.arg.st
    have hn := h.arg.n2
    have hw : wr .i64 ((i : Int) + 1) = ((i + 1 : Nat) : Int) := by rw [wr64 (by omega) (by omega)]; omega
    have hin : ∀ q, q < S.length → 0 ≤ S.getD q 0 ∧ S.getD q 0 < (lastN R : Int) := fun q hq => hS _ (getD_mem' hq)
    have fin : ∀ {P : Prop} {y : Option Int}, (P → y = some (i : Int)) → (¬ P → y = some (pastFrom R u S (i + 1) d)) → (P ↔ pastAt R u S i) → y = some (if pastAt R u S i then (i : Int) else pastFrom R u S (i + 1) d) := by
      intro P y h3 h4 h5
      by_cases hP : P
      · rw [if_pos (h5.1 hP)]; exact h3 hP
      · rw [if_neg (fun h => hP (h5.2 h))]; exact h4 hP
    have hg : ∀ (a b : Int) (x : Option Int), gd ([a, b].length = 2) x = x := fun _ _ _ => rfl
    have hp : ∀ {m : Int}, 0 ≤ m → m ≤ lastI R → p16 k R D m = some [pl R m, ph R m] := fun h0 h1 => p16_eq hk (by omega) h.n64 (by omega) (by omega)
    rw [p60_l1, pastFrom_succ]
    simp only [lt_v, jn_v, sp_tt, sp_ff, sp_d, Int.toNat_natCast, hw, eq_zero_b]
    rw [if_pos (by omega), p60_l1_eq hk h hS hasc hL d (i + 1) n (by omega) (by omega)]
    by_cases c0 : i = 0
    · have c0' : ¬ ((i : Int) > 0) := by omega
      simp only [if_neg c0']
      by_cases c1 : i = S.length
      · have c1' : ¬ ((i : Int) < (S.length : Int)) := by omega
        simp only [if_neg c1']
        exact fin (P := True) (fun _ => rfl) (fun h => absurd trivial h) ⟨fun _ => ⟨.inl c0, .inl c1, .inl c0⟩, fun _ => trivial⟩
      · have c1' : (i : Int) < (S.length : Int) := by omega
        have hi := hin i (by omega)
        simp only [if_pos c1']
        rw [gd_v (by omega), hp hi.1 (by omega), cl_v, hg]
        simp only [List.getD_cons_succ, List.getD_cons_zero]
        by_cases a2 : u.getD 1 0 < ph R (S.getD i 0)
        · refine fin (P := True) (fun _ => ?_) (fun h => absurd trivial h) ⟨fun _ => ⟨.inl c0, .inr a2, .inl c0⟩, fun _ => trivial⟩
          rw [if_neg (by omega)]
        · refine fin (P := False) (fun h => h.elim) (fun _ => ?_) ⟨fun h => h.elim, fun h => h.2.1.elim c1 a2⟩
          rw [if_pos (by omega)]
    · have c0' : (i : Int) > 0 := by omega
      have hw2 : wr .i64 ((i : Int) - 1) = ((i - 1 : Nat) : Int) := by rw [wr64 (by omega) (by omega)]; omega
      have hi1 := hin (i - 1) (by omega)
      have hw3 : wr .i64 (S.getD (i - 1) 0 + 1) = S.getD (i - 1) 0 + 1 := wr64 (by omega) (by omega)
      simp only [if_pos c0', hw2, Int.toNat_natCast, hw3]
      rw [gd_v (by omega), hp (by omega) (by omega), cl_v, hg]
      simp only [List.getD_cons_zero]
      by_cases c1 : i = S.length
      · have c1' : ¬ ((i : Int) < (S.length : Int)) := by omega
        simp only [if_neg c1']
        by_cases a1 : pl R (S.getD (i - 1) 0 + 1) < u.getD 0 0
        · refine fin (P := True) (fun _ => ?_) (fun h => absurd trivial h) ⟨fun _ => ⟨.inr a1, .inl c1, .inr (.inl c1)⟩, fun _ => trivial⟩
          rw [if_neg (by omega)]
        · refine fin (P := False) (fun h => h.elim) (fun _ => ?_) ⟨fun h => h.elim, fun h => h.1.elim c0 a1⟩
          rw [if_pos (by omega)]
      · have c1' : (i : Int) < (S.length : Int) := by omega
        have hi := hin i (by omega)
        have hlt := asc_getD hasc (i := i - 1) (j := i) (by omega) (by omega)
        simp only [if_pos c1']
        by_cases a1 : pl R (S.getD (i - 1) 0 + 1) < u.getD 0 0
        · rw [if_neg (by omega), gd_v (by omega), hp hi.1 (by omega), cl_v, hg]
          simp only [List.getD_cons_succ, List.getD_cons_zero]
          by_cases a2 : u.getD 1 0 < ph R (S.getD i 0)
          · rw [if_neg (by omega), gd_v (by omega), gd_v (by omega)]
            by_cases a3 : S.getD (i - 1) 0 + 1 < S.getD i 0
            · refine fin (P := True) (fun _ => ?_) (fun h => absurd trivial h) ⟨fun _ => ⟨.inr a1, .inr a2, .inr (.inr a3)⟩, fun _ => trivial⟩
              rw [if_neg (by omega)]
            · refine fin (P := False) (fun h => h.elim) (fun _ => ?_) ⟨fun h => h.elim, fun h => h.2.2.elim c0 (fun h => h.elim c1 a3)⟩
              rw [if_pos (by omega)]
          · refine fin (P := False) (fun h => h.elim) (fun _ => ?_) ⟨fun h => h.elim, fun h => h.2.1.elim c1 a2⟩
            rw [if_pos (by omega)]
        · refine fin (P := False) (fun h => h.elim) (fun _ => ?_) ⟨fun h => h.elim, fun h => h.1.elim c0 a1⟩
          rw [if_pos (by omega)]
theorem p60_eq {k : Nat} (hk : 5000 ≤ k) {R : List (List Int)} {D u S : List Int} (h : LogOk R D) (hS : ∀ x ∈ S, 0 ≤ x ∧ x < (lastN R : Int)) (hasc : S.Pairwise (· < ·)) (hL : S.length ≤ 4000) : p60 k R D u S = some (pastI R u S) := by
  unfold p60
  simp only [jn_v]
  exact p60_l1_eq hk h hS hasc (by omega) (S.length + 1) 0 k (by omega) (by omega)
theorem p51_eq {k : Nat} (hk : 5000 ≤ k) {R : List (List Int)} {D u : List Int} (h : LogOk R D) (hu : ClaimOk u) : p51 k R D u = some (vdI R D u) := by
  have hsp := h.arg.span
  have hN := h.N
  have hl := must_len R D u
  unfold p51 vdI
  rw [p59_eq hk h hu, cl_v, p60_eq hk h (fun x hx => ⟨(must_mem.1 hx).1, (must_mem.1 hx).2.1⟩) (asc_must R D u) (by omega), cl_v, p76_eq hk h hu]
  simp only [lt_v, sp_d, cl_v]
  split
  · rfl
  · split <;> rfl
end Go.Proofs.Ythjkejbgknemgaa
namespace Go.Proofs.Ythjkejbgknemgaa
open Go.RowKit Classical
def sumTo (g : Nat → Int) : Nat → Int
  | 0 => 0
  | n + 1 => sumTo g n + g n
theorem sumTo_bound {g : Nat → Int} {B : Int} (h : ∀ q, 0 ≤ g q ∧ g q ≤ B) (hB : 0 ≤ B) : ∀ n, 0 ≤ sumTo g n ∧ sumTo g n ≤ B * n
  | 0 => by simp [sumTo]
  | n + 1 => by
    have := sumTo_bound h hB n
    have h2 := h n
    simp only [sumTo]
    have : B * ((n + 1 : Nat) : Int) = B * n + B := by rw [show ((n + 1 : Nat) : Int) = (n : Int) + 1 from by omega, Int.mul_add, Int.mul_one]
    omega
noncomputable def dist (g h : Nat → Int) : Int → Nat → Nat → List Int
  | _, _, 0 => []
  | left, i, d + 1 => if 0 < left ∧ h i < g i then (h i + 1) :: dist g h (left - 1) (i + 1) d else h i :: dist g h left (i + 1) d
theorem dist_len (g h : Nat → Int) : ∀ (left : Int) (i d : Nat), (dist g h left i d).length = d
  | _, _, 0 => rfl
  | left, i, d + 1 => by
    unfold dist
    split <;> simp [dist_len]
theorem dist_none (g h : Nat → Int) : ∀ {left : Int} {i d : Nat}, left ≤ 0 → dist g h left i d = (List.range' i d).map h
  | _, _, 0, _ => rfl
  | left, i, d + 1, hl => by
    unfold dist
    rw [if_neg (by omega), dist_none g h hl, List.range'_succ]
    rfl
noncomputable def dueI (R : List (List Int)) (D : List Int) (part : Int) (u : List Int) : Int := if vdI R D u = 1 then u.getD 6 0 else if vdI R D u = 0 then Int.tdiv (u.getD 6 0 * part) 1000 else 0
theorem dueI_bound {R D part u} (hu : ClaimOk u) (h0 : 0 ≤ part) (h1 : part ≤ 1000) : 0 ≤ dueI R D part u ∧ dueI R D part u ≤ u.getD 6 0 ∧ u.getD 6 0 ≤ 67108864 := by
  have ha := hu.2.2.2.2.2.2.2.2.2.2
  have hm0 : 0 ≤ u.getD 6 0 * part := Int.mul_nonneg ha.1 h0
  have hm1 : u.getD 6 0 * part ≤ u.getD 6 0 * 1000 := Int.mul_le_mul_of_nonneg_left h1 ha.1
  unfold dueI
  split
  · omega
  · split
    · rw [Int.tdiv_eq_ediv_of_nonneg hm0]
      omega
    · omega
theorem due_impl {R D part u} (hu : ClaimOk u) (h0 : 0 ≤ part) (h1 : part ≤ 1000) : Int.tdiv (u.getD 6 0 * ([part, 1000, 0] : List Int).getD (0 + (vdI R D u).toNat * 1) 0) 1000 = dueI R D part u := by
  have ha := hu.2.2.2.2.2.2.2.2.2.2
  unfold dueI
  rcases vd_range R D u with e | e | e
  · rw [e, if_neg (by omega), if_pos rfl]; rfl
  · rw [e, if_pos rfl]
    show Int.tdiv (u.getD 6 0 * 1000) 1000 = _
    rw [Int.tdiv_eq_ediv_of_nonneg (by omega)]
    omega
  · rw [e, if_neg (by omega), if_neg (by omega)]
    show Int.tdiv (u.getD 6 0 * 0) 1000 = _
    rw [Int.mul_zero]; rfl
section
variable {R : List (List Int)} {D : List Int} {C : List (List Int)} {part most : Int}
noncomputable def dueG (R : List (List Int)) (D : List Int) (part : Int) (C : List (List Int)) (q : Nat) : Int := if q < C.length then dueI R D part (C.getD q []) else 0
def ClaimsOk (C : List (List Int)) : Prop := ∀ q, q < C.length → ClaimOk (C.getD q [])
theorem dueG_bound (hC : ClaimsOk C) (h0 : 0 ≤ part) (h1 : part ≤ 1000) (q : Nat) : 0 ≤ dueG R D part C q ∧ dueG R D part C q ≤ 67108864 := by
  unfold dueG
  split
  · rename_i hq
    have := dueI_bound (R := R) (D := D) (hC q hq) h0 h1
    omega
  · omega
theorem p19_l1_eq {k : Nat} (hk : 5000 ≤ k) (h : LogOk R D) (hC : ClaimsOk C) (hn : C.length ≤ 64) (h0 : 0 ≤ part) (h1 : part ≤ 1000) (j : Int → List Int → Option (List Int × Int)) : ∀ (d i n : Nat), i + d = C.length → d < n →
    p19_l1 k C part j (crs R D) n (sumTo (dueG R D part C) i) (i : Int) ((List.range i).map (dueG R D part C) ++ List.replicate d 0) = j (sumTo (dueG R D part C) C.length) ((List.range C.length).map (dueG R D part C))
  | 0, i, n, e1, e2 => by
    obtain ⟨n, rfl⟩ : ∃ n', n = n' + 1 := ⟨n - 1, by omega⟩
    rw [p19_l1]
    simp only [lt_v, sp_d]
    rw [if_neg (by omega), show i = C.length from by omega]
    simp
  | d + 1, i, n, e1, e2 => by
    obtain ⟨n, rfl⟩ : ∃ n', n = n' + 1 := ⟨n - 1, by omega⟩
    have hu := hC i (by omega)
    have hb := dueI_bound (R := R) (D := D) hu h0 h1
    have hg : dueG R D part C i = dueI R D part (C.getD i []) := by unfold dueG; rw [if_pos (by omega)]
    have hs := sumTo_bound (dueG_bound (R := R) (D := D) hC h0 h1) (by omega) i
    have hw : wr .i64 ((i : Int) + 1) = ((i + 1 : Nat) : Int) := by rw [wr64 (by omega) (by omega)]; omega
    have ha := hu.2.2.2.2.2.2.2.2.2.2
    have hm : ∀ y : Int, 0 ≤ y → y ≤ 1000 → 0 ≤ (C.getD i []).getD 6 0 * y ∧ (C.getD i []).getD 6 0 * y ≤ 67108864 * 1000 := fun y y0 y1 => ⟨Int.mul_nonneg ha.1 y0, Int.mul_le_mul ha.2 y1 y0 (by omega)⟩
    have hv := vd_range R D (C.getD i [])
    have hsh : 0 ≤ ([part, 1000, 0] : List Int).getD (0 + (vdI R D (C.getD i [])).toNat * 1) 0 ∧ ([part, 1000, 0] : List Int).getD (0 + (vdI R D (C.getD i [])).toNat * 1) 0 ≤ 1000 := by
      rcases hv with e | e | e <;> rw [e]
      · exact ⟨h0, h1⟩
      · exact ⟨show (0 : Int) ≤ 1000 by omega, show (1000 : Int) ≤ 1000 by omega⟩
      · exact ⟨show (0 : Int) ≤ 0 by omega, show (0 : Int) ≤ 1000 by omega⟩
    have hmm := hm _ hsh.1 hsh.2
    rw [p19_l1]
    simp only [lt_v, sp_d, Int.toNat_natCast]
    rw [if_pos (by omega), gd_v (by omega)]
    rw [show p44 k (crs R D).1 (crs R D).2.1 (crs R D).2.2.1 (crs R D).2.2.2.1 (crs R D).2.2.2.2 (C.getD i []) = some (vdI R D (C.getD i [])) from p44_eq hk h hu, cl_v]
    rw [gd_v (by rcases hv with e | e | e <;> rw [e] <;> omega), wr64 (z := (C.getD i []).getD 6 0 * _) (by omega) (by omega), due_impl hu h0 h1, wr64 (z := dueI R D part (C.getD i [])) (by omega) (by omega), ← hg]
    rw [gd_v (by simp; omega), set_fill (dueG R D part C) 0 i d _ rfl, gd_v (by simp; omega), getD_fill (dueG R D part C)]
    rw [wr64 (z := sumTo (dueG R D part C) i + dueG R D part C i) (by omega) (by omega), hw]
    exact p19_l1_eq hk h hC hn h0 h1 j d (i + 1) n (by omega) (by omega)
def flo (g : Nat → Int) (most sum : Int) (q : Nat) : Int := Int.tdiv (g q * most) sum
theorem flo_bound {g : Nat → Int} {most sum : Int} (hg : ∀ q, 0 ≤ g q ∧ g q ≤ 67108864) (h0 : 0 ≤ most) (h1 : most < sum) (q : Nat) : 0 ≤ flo g most sum q ∧ flo g most sum q ≤ g q ∧ g q * most = flo g most sum q * sum + (g q * most) % sum ∧ 0 ≤ (g q * most) % sum ∧ (g q * most) % sum < sum ∧ (0 < (g q * most) % sum → flo g most sum q < g q) := by
  have hm : 0 ≤ g q * most := Int.mul_nonneg (hg q).1 h0
  have hdm := Int.mul_ediv_add_emod (g q * most) sum
  have hr0 := Int.emod_nonneg (g q * most) (show sum ≠ 0 by omega)
  have hr1 := Int.emod_lt_of_pos (g q * most) (show 0 < sum by omega)
  have hle : g q * most ≤ g q * sum := Int.mul_le_mul_of_nonneg_left (by omega) (hg q).1
  unfold flo
  rw [Int.tdiv_eq_ediv_of_nonneg hm]
  have hq0 : 0 ≤ g q * most / sum := Int.ediv_nonneg hm (by omega)
  have hq1 : g q * most / sum ≤ g q := Int.ediv_le_of_le_mul (by omega) hle
  refine ⟨hq0, hq1, by rw [Int.mul_comm (g q * most / sum) sum]; omega, hr0, hr1, fun hr => ?_⟩
  refine Classical.byContradiction fun hn => ?_
  have e : g q * most / sum = g q := by omega
  rw [e, Int.mul_comm sum] at hdm
  omega
theorem p19_l2_eq {k : Nat} {g : Nat → Int} {sum : Int} {N : Nat} (hN : N ≤ 64) (hg : ∀ q, 0 ≤ g q ∧ g q ≤ 67108864) (h0 : 0 ≤ most) (h1 : most < sum) (h2 : sum ≤ 4294967296) (j : Int → List Int → Option (List Int × Int)) : ∀ (d i n : Nat), i + d = N → d < n →
    p19_l2 k most sum ((List.range N).map g) j n (most - sumTo (flo g most sum) i) (i : Int) ((List.range i).map (flo g most sum) ++ List.replicate d 0) = j (most - sumTo (flo g most sum) N) ((List.range N).map (flo g most sum))
  | 0, i, n, e1, e2 => by
    obtain ⟨n, rfl⟩ : ∃ n', n = n' + 1 := ⟨n - 1, by omega⟩
    rw [p19_l2]
    simp only [lt_v, sp_d]
    rw [if_neg (by simp; omega), show i = N from by omega]
    simp
  | d + 1, i, n, e1, e2 => by
    obtain ⟨n, rfl⟩ : ∃ n', n = n' + 1 := ⟨n - 1, by omega⟩
    have hw : wr .i64 ((i : Int) + 1) = ((i + 1 : Nat) : Int) := by rw [wr64 (by omega) (by omega)]; omega
    have hgi := hg i
    have hf := flo_bound hg h0 h1 i
    have hm : 0 ≤ g i * most ∧ g i * most ≤ 67108864 * 4294967296 := ⟨Int.mul_nonneg hgi.1 h0, Int.mul_le_mul hgi.2 (by omega) h0 (by omega)⟩
    have hs := sumTo_bound (g := flo g most sum) (B := 67108864) (fun q => by have := flo_bound hg h0 h1 q; have := hg q; omega) (by omega) i
    rw [p19_l2]
    simp only [lt_v, sp_d, Int.toNat_natCast]
    rw [if_pos (by simp; omega), gd_v (by simp; omega), getD_map_range _ _ _ _ (by omega), wr64 (z := g i * most) (by omega) (by omega), gd_v (by omega)]
    rw [show Int.tdiv (g i * most) sum = flo g most sum i from rfl, wr64 (z := flo g most sum i) (by omega) (by omega)]
    rw [gd_v (by simp; omega), set_fill (flo g most sum) 0 i d _ rfl, gd_v (by simp; omega), getD_fill (flo g most sum)]
    rw [wr64 (z := most - sumTo (flo g most sum) i - flo g most sum i) (by omega) (by omega), hw]
    have := p19_l2_eq (k := k) hN hg h0 h1 h2 j d (i + 1) n (by omega) (by omega)
    rw [show most - sumTo (flo g most sum) i - flo g most sum i = most - sumTo (flo g most sum) (i + 1) from by simp only [sumTo]; omega]
    exact this
theorem set_mid {W : List Int} {x y : Int} {T : List Int} {i : Nat} (h : W.length = i) : (W ++ x :: T).set i y = W ++ y :: T := by
  rw [List.set_append_right _ _ (by omega), show i - W.length = 0 from by omega]; rfl
theorem getD_mid {W : List Int} {x : Int} {T : List Int} {i : Nat} (h : W.length = i) : (W ++ x :: T).getD i 0 = x := by
  simp [List.getD_eq_getElem?_getD, ← h]
theorem p19_l3_eq {k : Nat} {g h : Nat → Int} {N : Nat} {L46 : List Int} (hN : N ≤ 64) (hL : L46.length = N) (hh : ∀ q, 0 ≤ h q ∧ h q ≤ 67108864) (j : List Int → Option (List Int × Int)) : ∀ (d i n : Nat) (left : Int) (W : List Int), i + d = N → d < n → W.length = i → -4611686018427387904 ≤ left → left ≤ 4611686018427387904 →
    p19_l3 k ((List.range N).map g) L46 j n left (i : Int) (W ++ (List.range' i d).map h) = j (W ++ dist g h left i d)
  | 0, i, n, left, W, e1, e2, hW, b1, b2 => by
    obtain ⟨n, rfl⟩ : ∃ n', n = n' + 1 := ⟨n - 1, by omega⟩
    rw [p19_l3]
    simp only [lt_v, sp_d]
    rw [if_neg (by omega)]
    rfl
  | d + 1, i, n, left, W, e1, e2, hW, b1, b2 => by
    obtain ⟨n, rfl⟩ : ∃ n', n = n' + 1 := ⟨n - 1, by omega⟩
    have hw : wr .i64 ((i : Int) + 1) = ((i + 1 : Nat) : Int) := by rw [wr64 (by omega) (by omega)]; omega
    have hhi := hh i
    have ih := fun left W hW b1 b2 => p19_l3_eq (k := k) (g := g) (h := h) hN hL hh j d (i + 1) n left W (by omega) (by omega) hW b1 b2
    have happ : ∀ x, W ++ x :: (List.range' (i + 1) d).map h = (W ++ [x]) ++ (List.range' (i + 1) d).map h := fun x => by simp
    rw [p19_l3]
    simp only [lt_v, jn_v, sp_d, sp_ff, Int.toNat_natCast, hw]
    rw [if_pos (by omega), List.range'_succ, List.map_cons, dist]
    by_cases c1 : 0 < left
    · rw [if_pos (by omega), gd_v (by simp; omega), gd_v (by simp; omega), getD_mid hW, getD_map_range _ _ _ _ (by omega)]
      by_cases c2 : h i < g i
      · rw [if_pos c2, if_pos ⟨c1, c2⟩, gd_v (by simp; omega), gd_v (by simp; omega), wr64 (z := h i + 1) (by omega) (by omega), set_mid hW, wr64 (z := left - 1) (by omega) (by omega), happ, ih _ _ (by simp [hW]) (by omega) (by omega)]
        simp
      · rw [if_neg c2, if_neg (fun hh => c2 hh.2), happ, ih _ _ (by simp [hW]) b1 b2]
        simp
    · rw [if_neg (by omega), if_neg (fun hh => c1 hh.1), happ, ih _ _ (by simp [hW]) b1 b2]
      simp
theorem p75_l1_eq {k : Nat} {L : List (List Int)} {j : Int} (hL : L.length ≤ 1000) (hj : j < 0) : ∀ (d i n : Nat), i + d = L.length → d < n → ∃ v, p75_l1 k L (some j) n (i : Int) = some v ∧ (0 ≤ v ↔ ∃ q, i ≤ q ∧ q < L.length ∧ ¬ ClaimOk (L.getD q []))
  | 0, i, n, h1, h2 => by
    obtain ⟨n, rfl⟩ : ∃ n', n = n' + 1 := ⟨n - 1, by omega⟩
    refine ⟨j, ?_, fun h => by omega, fun ⟨q, h3, h4, _⟩ => by omega⟩
    rw [p75_l1]
    simp only [lt_v, sp_d]
    rw [if_neg (by omega)]
  | d + 1, i, n, h1, h2 => by
    obtain ⟨n, rfl⟩ : ∃ n', n = n' + 1 := ⟨n - 1, by omega⟩
    rw [p75_l1]
    simp only [lt_v, sp_d, p48, p32_eq, cl_v, ne_zero_b, sp_nd, Int.toNat_natCast]
    have hw : wr .i64 ((i : Int) + 1) = ((i + 1 : Nat) : Int) := by rw [wr64 (by omega) (by omega)]; omega
    rw [if_pos (by omega), gd_v (by omega), hw]
    obtain ⟨v, h3, h4⟩ := p75_l1_eq (k := k) hL hj d (i + 1) n (by omega) (by omega)
    by_cases c : ClaimOk (L.getD i [])
    · rw [if_pos (claimE_zero.2 c)]
      refine ⟨v, h3, h4.trans ⟨fun ⟨q, a1, a2, a3⟩ => ⟨q, by omega, a2, a3⟩, fun ⟨q, a1, a2, a3⟩ => ⟨q, ?_, a2, a3⟩⟩⟩
      rcases Nat.eq_or_lt_of_le a1 with e | e
      · subst e; exact absurd c a3
      · exact e
    · rw [if_neg (fun h => c (claimE_zero.1 h))]
      exact ⟨(i : Int), rfl, fun _ => ⟨i, Nat.le_refl _, by omega, c⟩, fun _ => by omega⟩
theorem p47_eq {k : Nat} (hk : 5000 ≤ k) {L : List (List Int)} (hL : L.length ≤ 1000) : p47 k L = some (!decide (ClaimsOk L)) := by
  unfold p47 p75
  simp only [jn_v, lt_v]
  obtain ⟨v, h1, h2⟩ := p75_l1_eq (k := k) hL (show (-1 : Int) < 0 by omega) L.length 0 k (by omega) (by omega)
  rw [show ((0 : Nat) : Int) = 0 from rfl] at h1
  rw [h1, cl_v, ← decide_not]
  refine congrArg some (decide_eq_decide.2 (h2.trans ?_))
  unfold ClaimsOk
  constructor
  · rintro ⟨q, _, a2, a3⟩ h; exact a3 (h q a2)
  · intro h
    refine Classical.byContradiction fun hn => h fun q hq => Classical.byContradiction fun hc => hn ⟨q, Nat.zero_le _, hq, hc⟩
noncomputable def stE (R : List (List Int)) (D : List Int) (C : List (List Int)) (part most : Int) : Int :=
  if logE R D ≠ 0 then logE R D else if 32 < C.length then 6 else if ClaimsOk C ∧ (0 ≤ part ∧ part ≤ 1000) ∧ 0 ≤ most ∧ most ≤ 1099511627776 then 0 else 2
noncomputable def dueS (R : List (List Int)) (D : List Int) (C : List (List Int)) (part : Int) : Int := sumTo (dueG R D part C) C.length
noncomputable def stL (R : List (List Int)) (D : List Int) (C : List (List Int)) (part most : Int) : List Int :=
  if dueS R D C part ≤ most then (List.range C.length).map (dueG R D part C) else dist (dueG R D part C) (flo (dueG R D part C) most (dueS R D C part)) (most - sumTo (flo (dueG R D part C) most (dueS R D C part)) C.length) 0 C.length
theorem p19_eq {k : Nat} (hk : 5000 ≤ k) (hD : D.length = 4) (hn : C.length ≤ 64) : p19 k R D C part most = some (if stE R D C part most = 0 then stL R D C part most else [], stE R D C part most) := by
  have hb : ∀ {x : Int} {y : List Int}, stE R D C part most = x → x ≠ 0 → some (([] : List Int), x) = some (if stE R D C part most = 0 then y else [], stE R D C part most) := fun h h0 => by rw [h, if_neg h0]
  unfold p19
  rw [p46_eq hk hD, cl2_v]
  simp only [lt_v, jn_v, ne_zero_b, sp_nd, sp_d]
  by_cases h : logE R D = 0
  · rw [if_pos h, if_pos h]
    by_cases h32 : 32 < C.length
    · rw [if_pos (by omega)]
      exact hb (by unfold stE; rw [if_neg (fun hh => hh h), if_pos h32]) (by omega)
    · rw [if_neg (by omega), p47_eq hk (by omega), cl_v, sp_nd]
      have bad : ¬ (ClaimsOk C ∧ (0 ≤ part ∧ part ≤ 1000) ∧ 0 ≤ most ∧ most ≤ 1099511627776) → some (([] : List Int), (2 : Int)) = some (if stE R D C part most = 0 then stL R D C part most else [], stE R D C part most) := fun hc => hb (by unfold stE; rw [if_neg (fun hh => hh h), if_neg h32, if_neg hc]) (by omega)
      by_cases hC : ClaimsOk C
      · rw [if_pos hC, p49_eq, cl_v, sp_d]
        by_cases hp : 0 ≤ part ∧ part ≤ 1000
        · rw [if_pos hp, p49_eq, cl_v, sp_nd]
          by_cases hm : 0 ≤ most ∧ most ≤ 1099511627776
          · rw [if_pos hm]
            have e0 : stE R D C part most = 0 := by unfold stE; rw [if_neg (fun hh => hh h), if_neg h32, if_pos ⟨hC, hp, hm⟩]
            rw [if_pos e0, e0]
            rw [gd_v (by omega), cl_v, show ((C.length : Int)).toNat = C.length from by omega]
            have hlog := logE_zero.1 h
            have hgb := dueG_bound (R := R) (D := D) hC hp.1 hp.2
            have := p19_l1_eq hk hlog hC hn hp.1 hp.2 (fun (x17 : Int) (L18 : List Int) => if x17 ≤ most then some (L18, (0 : Int)) else gd ((0 : Int) ≤ (List.length L18 : Int) ∧ 8 * ((List.length L18 : Int)).toNat ≤ 281474976710656) (p19_l2 k most x17 L18 (fun (x45 : Int) (L46 : List Int) => p19_l3 k L18 L46 (fun (L64 : List Int) => some (L64, (0 : Int))) k x45 (0 : Int) L46) k most (0 : Int) (List.replicate ((List.length L18 : Int)).toNat (0 : Int)))) C.length 0 k (by omega) (by omega)
            simp only [List.range_zero, List.map_nil, List.nil_append, sumTo, show ((0 : Nat) : Int) = 0 from rfl] at this
            refine this.trans ?_
            have hsb := sumTo_bound hgb (by omega) C.length
            unfold stL dueS
            by_cases hs : sumTo (dueG R D part C) C.length ≤ most
            · rw [if_pos hs, if_pos hs]
            · rw [if_neg hs, if_neg hs, gd_v (by simp; omega)]
              have h2 := p19_l2_eq (k := k) (most := most) (sum := sumTo (dueG R D part C) C.length) hn hgb hm.1 (by omega) (by omega) (fun (x45 : Int) (L46 : List Int) => p19_l3 k ((List.range C.length).map (dueG R D part C)) L46 (fun (L64 : List Int) => some (L64, (0 : Int))) k x45 (0 : Int) L46) C.length 0 k (by omega) (by omega)
              simp only [List.range_zero, List.map_nil, List.nil_append, sumTo, show ((0 : Nat) : Int) = 0 from rfl, Int.sub_zero] at h2
              have hlen : ((((List.range C.length).map (dueG R D part C)).length : Nat) : Int).toNat = C.length := by simp
              rw [hlen]
              refine h2.trans ?_
              have hfb : ∀ q, 0 ≤ flo (dueG R D part C) most (sumTo (dueG R D part C) C.length) q ∧ flo (dueG R D part C) most (sumTo (dueG R D part C) C.length) q ≤ 67108864 := fun q => by
                have := flo_bound hgb hm.1 (show most < sumTo (dueG R D part C) C.length by omega) q
                have := hgb q
                omega
              have hfs := sumTo_bound hfb (by omega) C.length
              have h3 := p19_l3_eq (k := k) (g := dueG R D part C) (h := flo (dueG R D part C) most (sumTo (dueG R D part C) C.length)) (N := C.length) (L46 := (List.range C.length).map (flo (dueG R D part C) most (sumTo (dueG R D part C) C.length))) hn (by simp) hfb (fun (L64 : List Int) => some (L64, (0 : Int))) C.length 0 k (most - sumTo (flo (dueG R D part C) most (sumTo (dueG R D part C) C.length)) C.length) [] (by omega) (by omega) rfl (by omega) (by omega)
              rw [List.range_eq_range'] at h3 ⊢
              exact h3
          · rw [if_neg hm]; exact bad (fun hh => hm hh.2.2)
        · rw [if_neg hp]; exact bad (fun hh => hp hh.2.1)
      · rw [if_neg hC]; exact bad (fun hh => hC hh.1)
  · rw [if_neg h]
    exact hb (by unfold stE; rw [if_pos h]) h
end
end Go.Proofs.Ythjkejbgknemgaa
namespace Go.Proofs.Ythjkejbgknemgaa
open Go.RowKit Classical
section
variable {R : List (List Int)} {D : List Int} {C : List (List Int)} {part most : Int}
theorem p20_l1_eq {k : Nat} {j : Option (List Int × Int)} (hL : C.length ≤ 1000) : ∀ (d i n : Nat), i + d = C.length → d < n → p20_l1 k C j n (i : Int) = if ∀ q, i ≤ q → q < C.length → ClaimOk (C.getD q []) then j else some ([], 2)
  | 0, i, n, h1, h2 => by
    obtain ⟨n, rfl⟩ : ∃ n', n = n' + 1 := ⟨n - 1, by omega⟩
    rw [p20_l1]
    simp only [lt_v, sp_d]
    rw [if_neg (by omega), if_pos (fun q h3 h4 => by omega)]
  | d + 1, i, n, h1, h2 => by
    obtain ⟨n, rfl⟩ : ∃ n', n = n' + 1 := ⟨n - 1, by omega⟩
    have hw : wr .i64 ((i : Int) + 1) = ((i + 1 : Nat) : Int) := by rw [wr64 (by omega) (by omega)]; omega
    rw [p20_l1]
    simp only [lt_v, sp_d, p33_eq, cl_v, ne_zero_b, sp_nd, Int.toNat_natCast]
    rw [if_pos (by omega), gd_v (by omega), hw, p20_l1_eq hL d (i + 1) n (by omega) (by omega)]
    rw [if_all (P := ∀ q, i ≤ q → q < C.length → ClaimOk (C.getD q [])) (Q := ClaimOk (C.getD i [])) (S := ∀ q, i + 1 ≤ q → q < C.length → ClaimOk (C.getD q [])) ?_]
    · by_cases c : ClaimOk (C.getD i [])
      · rw [if_pos c, if_pos (claimE_zero.2 c)]
      · rw [if_neg c, if_neg (fun h => c (claimE_zero.1 h))]
    constructor
    · intro h; exact ⟨h i (by omega) (by omega), fun q h3 h4 => h q (by omega) h4⟩
    · rintro ⟨h3, h4⟩ q h5 h6
      rcases Nat.eq_or_lt_of_le h5 with e | e
      · subst e; exact h3
      · exact h4 q e h6
theorem range_snoc (g : Nat → Int) (i : Nat) : (List.range i).map g ++ [g i] = (List.range (i + 1)).map g := by simp [List.range_succ]
theorem p20_l2_eq {k : Nat} (hk : 5000 ≤ k) (h : LogOk R D) (hC : ClaimsOk C) (hn : C.length ≤ 64) (h0 : 0 ≤ part) (h1 : part ≤ 1000) (j : Int → List Int → Option (List Int × Int)) : ∀ (d i n : Nat), i + d = C.length → d < n →
    p20_l2 k R D C part j n (sumTo (dueG R D part C) i) (i : Int) ((List.range i).map (dueG R D part C)) = j (sumTo (dueG R D part C) C.length) ((List.range C.length).map (dueG R D part C))
  | 0, i, n, e1, e2 => by
    obtain ⟨n, rfl⟩ : ∃ n', n = n' + 1 := ⟨n - 1, by omega⟩
    rw [p20_l2]
    simp only [lt_v, sp_d]
    rw [if_neg (by omega), show i = C.length from by omega]
  | d + 1, i, n, e1, e2 => by
    obtain ⟨n, rfl⟩ : ∃ n', n = n' + 1 := ⟨n - 1, by omega⟩
    have hu := hC i (by omega)
    have hb := dueI_bound (R := R) (D := D) hu h0 h1
    have hg : dueG R D part C i = dueI R D part (C.getD i []) := by unfold dueG; rw [if_pos (by omega)]
    have hs := sumTo_bound (dueG_bound (R := R) (D := D) hC h0 h1) (by omega) i
    have hw : wr .i64 ((i : Int) + 1) = ((i + 1 : Nat) : Int) := by rw [wr64 (by omega) (by omega)]; omega
    have ha := hu.2.2.2.2.2.2.2.2.2.2
    have hm : 0 ≤ (C.getD i []).getD 6 0 * part ∧ (C.getD i []).getD 6 0 * part ≤ 67108864 * 1000 := ⟨Int.mul_nonneg ha.1 h0, Int.mul_le_mul ha.2 h1 h0 (by omega)⟩
    have ht : 0 ≤ Int.tdiv ((C.getD i []).getD 6 0 * part) 1000 ∧ Int.tdiv ((C.getD i []).getD 6 0 * part) 1000 ≤ 67108864 := by
      rw [Int.tdiv_eq_ediv_of_nonneg hm.1]; omega
    have step : ∀ x : Int, x = dueG R D part C i → gd ((List.length ((List.range i).map (dueG R D part C)) + List.length [x]) * 8 ≤ 140737488355328) (p20_l2 k R D C part j n (wr .i64 (sumTo (dueG R D part C) i + x)) ((i + 1 : Nat) : Int) ((List.range i).map (dueG R D part C) ++ [x])) = j (sumTo (dueG R D part C) C.length) ((List.range C.length).map (dueG R D part C)) := by
      rintro x rfl
      rw [gd_v (by simp; omega), wr64 (by omega) (by omega), range_snoc]
      exact p20_l2_eq hk h hC hn h0 h1 j d (i + 1) n (by omega) (by omega)
    rw [p20_l2]
    simp only [lt_v, jn_v, sp_d, Int.toNat_natCast, hw]
    rw [if_pos (by omega), gd_v (by omega), p51_eq hk h hu, cl_v]
    simp only [eq_zero_b, sp_d]
    rw [wr64 (z := (C.getD i []).getD 6 0 * part) (by omega) (by omega), wr64 (z := Int.tdiv ((C.getD i []).getD 6 0 * part) 1000) (by omega) (by omega)]
    have hd : dueG R D part C i = if vdI R D (C.getD i []) = 1 then (C.getD i []).getD 6 0 else if vdI R D (C.getD i []) = 0 then Int.tdiv ((C.getD i []).getD 6 0 * part) 1000 else 0 := hg
    by_cases c1 : vdI R D (C.getD i []) = 1
    · rw [if_pos c1] at hd ⊢
      rw [gd_v (by omega)]
      exact step _ hd.symm
    · rw [if_neg c1] at hd ⊢
      by_cases c2 : vdI R D (C.getD i []) = 0
      · rw [if_pos c2] at hd ⊢
        rw [gd_v (by omega)]
        exact step _ hd.symm
      · rw [if_neg c2] at hd ⊢
        exact step _ hd.symm
theorem p20_l3_eq {k : Nat} {g : Nat → Int} {sum : Int} {N : Nat} (hN : N ≤ 64) (hg : ∀ q, 0 ≤ g q ∧ g q ≤ 67108864) (h0 : 0 ≤ most) (h1 : most < sum) (h2 : sum ≤ 4294967296) (j : Int → List Int → Option (List Int × Int)) : ∀ (d i n : Nat), i + d = N → d < n →
    p20_l3 k most sum ((List.range N).map g) j n (most - sumTo (flo g most sum) i) (i : Int) ((List.range i).map (flo g most sum)) = j (most - sumTo (flo g most sum) N) ((List.range N).map (flo g most sum))
  | 0, i, n, e1, e2 => by
    obtain ⟨n, rfl⟩ : ∃ n', n = n' + 1 := ⟨n - 1, by omega⟩
    rw [p20_l3]
    simp only [lt_v, sp_d]
    rw [if_neg (by simp; omega), show i = N from by omega]
  | d + 1, i, n, e1, e2 => by
    obtain ⟨n, rfl⟩ : ∃ n', n = n' + 1 := ⟨n - 1, by omega⟩
    have hw : wr .i64 ((i : Int) + 1) = ((i + 1 : Nat) : Int) := by rw [wr64 (by omega) (by omega)]; omega
    have hgi := hg i
    have hf := flo_bound hg h0 h1 i
    have hm : 0 ≤ g i * most ∧ g i * most ≤ 67108864 * 4294967296 := ⟨Int.mul_nonneg hgi.1 h0, Int.mul_le_mul hgi.2 (by omega) h0 (by omega)⟩
    have hs := sumTo_bound (g := flo g most sum) (B := 67108864) (fun q => by have := flo_bound hg h0 h1 q; have := hg q; omega) (by omega) i
    rw [p20_l3]
    simp only [lt_v, sp_d, Int.toNat_natCast]
    rw [if_pos (by simp; omega), gd_v (by simp; omega), getD_map_range _ _ _ _ (by omega), wr64 (z := g i * most) (by omega) (by omega), gd_v (by omega)]
    rw [show Int.tdiv (g i * most) sum = flo g most sum i from rfl, wr64 (z := flo g most sum i) (by omega) (by omega)]
    rw [gd_v (by simp; omega), range_snoc]
    rw [wr64 (z := most - sumTo (flo g most sum) i - flo g most sum i) (by omega) (by omega), hw]
    have := p20_l3_eq (k := k) hN hg h0 h1 h2 j d (i + 1) n (by omega) (by omega)
    rw [show most - sumTo (flo g most sum) i - flo g most sum i = most - sumTo (flo g most sum) (i + 1) from by simp only [sumTo]; omega]
    exact this
theorem p20_l4_eq {k : Nat} {g h : Nat → Int} {N : Nat} (hN : N ≤ 64) (hh : ∀ q, 0 ≤ h q ∧ h q ≤ 67108864) (j : List Int → Option (List Int × Int)) : ∀ (d i n : Nat) (left : Int) (W : List Int), i + d = N → d < n → W.length = i → -4611686018427387904 ≤ left → left ≤ 4611686018427387904 →
    p20_l4 k ((List.range N).map g) j n left (i : Int) (W ++ (List.range' i d).map h) = j (W ++ dist g h left i d)
  | 0, i, n, left, W, e1, e2, hW, b1, b2 => by
    obtain ⟨n, rfl⟩ : ∃ n', n = n' + 1 := ⟨n - 1, by omega⟩
    rw [p20_l4]
    simp only [lt_v, jn_v, sp_d, sp_ff]
    rw [if_neg (by simp; omega)]
    rfl
  | d + 1, i, n, left, W, e1, e2, hW, b1, b2 => by
    obtain ⟨n, rfl⟩ : ∃ n', n = n' + 1 := ⟨n - 1, by omega⟩
    have hw : wr .i64 ((i : Int) + 1) = ((i + 1 : Nat) : Int) := by rw [wr64 (by omega) (by omega)]; omega
    have hhi := hh i
    have ih := fun left W hW b1 b2 => p20_l4_eq (k := k) (g := g) (h := h) hN hh j d (i + 1) n left W (by omega) (by omega) hW b1 b2
    have happ : ∀ x, W ++ x :: (List.range' (i + 1) d).map h = (W ++ [x]) ++ (List.range' (i + 1) d).map h := fun x => by simp
    rw [p20_l4]
    simp only [lt_v, jn_v, sp_d, sp_ff, Int.toNat_natCast, hw]
    rw [if_pos (by simp; omega)]
    by_cases c1 : 0 < left
    · rw [if_pos (by omega), List.range'_succ, List.map_cons, dist, gd_v (by simp; omega), gd_v (by simp; omega), getD_mid hW, getD_map_range _ _ _ _ (by omega)]
      by_cases c2 : h i < g i
      · rw [if_pos (by omega), if_pos ⟨c1, c2⟩, gd_v (by simp; omega), gd_v (by simp; omega), wr64 (z := h i + 1) (by omega) (by omega), set_mid hW, wr64 (z := left - 1) (by omega) (by omega), happ, ih _ _ (by simp [hW]) (by omega) (by omega)]
        simp
      · rw [if_neg (by omega), if_neg (fun hh => c2 hh.2), happ, ih _ _ (by simp [hW]) b1 b2]
        simp
    · rw [if_neg (by omega), dist_none g h (by omega)]
theorem p20_eq {k : Nat} (hk : 5000 ≤ k) (hD : D.length = 4) (hb64 : Wf64 R) (hn : C.length ≤ 64) : p20 k R D C part most = some (if stE R D C part most = 0 then stL R D C part most else [], stE R D C part most) := by
  have hb : ∀ {x : Int} {y : List Int}, stE R D C part most = x → x ≠ 0 → some (([] : List Int), x) = some (if stE R D C part most = 0 then y else [], stE R D C part most) := fun h h0 => by rw [h, if_neg h0]
  unfold p20
  rw [p21_eq hk hD hb64, cl_v]
  simp only [lt_v, jn_v, ne_zero_b, sp_nd, sp_d]
  by_cases h : logE R D = 0
  · rw [if_pos h]
    by_cases h32 : 32 < C.length
    · rw [if_pos (by omega)]
      exact hb (by unfold stE; rw [if_neg (fun hh => hh h), if_pos h32]) (by omega)
    · rw [if_neg (by omega)]
      have h1 := fun j => p20_l1_eq (k := k) (C := C) (j := j) (by omega) C.length 0 k (by omega) (by omega)
      rw [show ((0 : Nat) : Int) = 0 from rfl] at h1
      rw [h1]
      have bad : ¬ (ClaimsOk C ∧ (0 ≤ part ∧ part ≤ 1000) ∧ 0 ≤ most ∧ most ≤ 1099511627776) → some (([] : List Int), (2 : Int)) = some (if stE R D C part most = 0 then stL R D C part most else [], stE R D C part most) := fun hc => hb (by unfold stE; rw [if_neg (fun hh => hh h), if_neg h32, if_neg hc]) (by omega)
      by_cases hC : ClaimsOk C
      · rw [if_pos (fun q _ hq => hC q hq), p50_eq, cl_v, sp_d]
        by_cases hp : 0 ≤ part ∧ part ≤ 1000
        · rw [if_pos hp, p50_eq, cl_v, sp_nd]
          by_cases hm : 0 ≤ most ∧ most ≤ 1099511627776
          · rw [if_pos hm]
            have e0 : stE R D C part most = 0 := by unfold stE; rw [if_neg (fun hh => hh h), if_neg h32, if_pos ⟨hC, hp, hm⟩]
            rw [if_pos e0, e0]
            have hlog := logE_zero.1 h
            have hgb := dueG_bound (R := R) (D := D) hC hp.1 hp.2
            have := p20_l2_eq hk hlog hC hn hp.1 hp.2 (fun (x36 : Int) (L37 : List Int) => if x36 ≤ most then some (L37, (0 : Int)) else p20_l3 k most x36 L37 (fun (x66 : Int) (L67 : List Int) => p20_l4 k L37 (fun (L83 : List Int) => some (L83, (0 : Int))) k x66 (0 : Int) L67) k most (0 : Int) ([] : List Int)) C.length 0 k (by omega) (by omega)
            simp only [List.range_zero, List.map_nil, sumTo, show ((0 : Nat) : Int) = 0 from rfl] at this
            refine this.trans ?_
            have hsb := sumTo_bound hgb (by omega) C.length
            unfold stL dueS
            by_cases hs : sumTo (dueG R D part C) C.length ≤ most
            · rw [if_pos hs, if_pos hs]
            · rw [if_neg hs, if_neg hs]
              have h2 := p20_l3_eq (k := k) (most := most) (sum := sumTo (dueG R D part C) C.length) hn hgb hm.1 (by omega) (by omega) (fun (x66 : Int) (L67 : List Int) => p20_l4 k ((List.range C.length).map (dueG R D part C)) (fun (L83 : List Int) => some (L83, (0 : Int))) k x66 (0 : Int) L67) C.length 0 k (by omega) (by omega)
              simp only [List.range_zero, List.map_nil, sumTo, show ((0 : Nat) : Int) = 0 from rfl, Int.sub_zero] at h2
              refine h2.trans ?_
              have hfb : ∀ q, 0 ≤ flo (dueG R D part C) most (sumTo (dueG R D part C) C.length) q ∧ flo (dueG R D part C) most (sumTo (dueG R D part C) C.length) q ≤ 67108864 := fun q => by
                have := flo_bound hgb hm.1 (show most < sumTo (dueG R D part C) C.length by omega) q
                have := hgb q
                omega
              have hfs := sumTo_bound hfb (by omega) C.length
              have h3 := p20_l4_eq (k := k) (g := dueG R D part C) (h := flo (dueG R D part C) most (sumTo (dueG R D part C) C.length)) (N := C.length) hn hfb (fun (L64 : List Int) => some (L64, (0 : Int))) C.length 0 k (most - sumTo (flo (dueG R D part C) most (sumTo (dueG R D part C) C.length)) C.length) [] (by omega) (by omega) rfl (by omega) (by omega)
              rw [List.range_eq_range'] at h3 ⊢
              exact h3
          · rw [if_neg hm]; exact bad (fun hh => hm hh.2.2)
        · rw [if_neg hp]; exact bad (fun hh => hp hh.2.1)
      · rw [if_neg (fun hh => hC fun q hq => hh q (Nat.zero_le _) hq)]; exact bad (fun hh => hC hh.1)
  · rw [if_neg h]
    exact hb (by unfold stE; rw [if_pos h]) h
end
end Go.Proofs.Ythjkejbgknemgaa
namespace Go.Proofs.Ythjkejbgknemgaa
open Go.ChangeShapes Go.WideShapes Go.ChangeAt Go.RowKit
def PlainClaimSettles : Prop := ∀ (u0_0 : List (List Int)) (u0_1 : List Int) (u1 : List (List Int)) (u2 : Int) (u3 : Int), u0_0.length ≤ maxLen → (∀ r ∈ u0_0, r.length = 11) → (∀ r ∈ u0_0, ∀ z ∈ r, Wfi .i64 z) → u0_1.length = 4 → (∀ z ∈ u0_1, Wfi .i64 z) → u1.length ≤ maxLen → (∀ r ∈ u1, r.length = 7) → (∀ r ∈ u1, ∀ z ∈ r, Wfi .i64 z) → Wfi .i64 u2 → Wfi .i64 u3 → ∃ k, p5 k u0_0 u0_1 u1 u2 u3 = some true
theorem own5 : ownKnob Try.prog.godebug = none := by kernel_rfl
theorem laid5 : laidOutB Try.prog = true := by kernel_rfl
set_option maxRecDepth 100000 in
theorem lifted5 (plain : PlainClaimSettles) (os : Os) (started : os.Started) (H : Type) (enc : TypeId × Value → H) :
    ReturnsInHanded {} Try.checked os 5 .any (Rows.claimSettlesSpec.pre6 enc Try.prog Try.f5 Rows.claimSettlesRow.domain false) (Rows.claimSettlesSpec.post enc Try.prog Try.f5 false true false false) := by
  refine returnsInHanded_of_change (C := Try.checked) own5 started (by kernel_rfl) Try.func5
    (ChangeSpec.witness6 (enc := enc) (C := Try.checked) false ⟨#[], #[.agg #[.slice none 0 0, .int .i64 0, .int .i64 0, .int .i64 0, .int .i64 0], .slice none 0 0, .int .i64 0, .int .i64 0], []⟩ 12 (by kernel_rfl) (by kernel_rfl) (by kernel_rfl) (by kernel_rfl)) ?_
  intro W base args ds gs before hval0 hW hcnd _
  have hval : ∀ (j : Nat) t v, Try.f5.params[j]? = some t → args[j]? = some v → Value.okWide Try.prog W .any base t v := hval0
  have hW' := hW
  obtain ⟨p, q, hA0, hV, rfl, hfz, hnd⟩ := hW
  have hA : DataW.TrodAll enc Try.prog W 0 (fun _ => true) true Try.f5.params.toList args.toList ds p := hA0
  rw [Try.params5] at hA hval
  obtain ⟨v0, vs0, d0, ds0, p0, q0, hargs, rfl, rfl, h0, r0⟩ := trodAll_cons hA
  obtain ⟨v1, vs1, d1, ds1, p1, q1, rfl, rfl, rfl, h1, r1⟩ := trodAll_cons r0
  obtain ⟨v2, vs2, d2, ds2, p2, q2, rfl, rfl, rfl, h2, r2⟩ := trodAll_cons r1
  obtain ⟨v3, vs3, d3, ds3, p3, q3, rfl, rfl, rfl, h3, r3⟩ := trodAll_cons r2
  obtain ⟨rfl, rfl, rfl⟩ := trodAll_nil r3
  obtain rfl : args = #[v0, v1, v2, v3] := by cases args; simp_all
  obtain ⟨rfl, rfl⟩ := trodVars_none hV
  have k0 := h0
  have lt0 : ∀ x ∈ p0, x.block < W.heap.size := by obtain ⟨m, hm⟩ := k0; exact DataW.trod_lt m _ _ _ hm
  obtain ⟨cs0, fu0, rfl, hx0⟩ := open_agg Try.underlying25 rfl (hval 0 25 v0 rfl rfl) h0
  obtain ⟨c0a, c0b, fv0, y0a, y0b, rfl, hx0a, hx0b⟩ := open_two Try.underlying25 rfl (by kernel_rfl) (by kernel_rfl) hx0
  obtain ⟨Au0_0, u0_0, cu0_0, rfl, su0_0, mu0_0, zu0_0⟩ := open_rows (k := .i64) (d := 8) (m := 11) Try.underlying22 (by kernel_rfl) rfl (by kernel_rfl) hx0a
  obtain ⟨u0_1, rfl, lu0_1, zu0_1⟩ := open_ints' (k := .i64) (d := 8) (n := 4) (by kernel_rfl) hx0b
  have k1 := h1
  have lt1 : ∀ x ∈ p1, x.block < W.heap.size := by obtain ⟨m, hm⟩ := k1; exact DataW.trod_lt m _ _ _ hm
  obtain ⟨cs1, fu1, hcs1, hx1⟩ := open_slice Try.underlying50 (hval 1 50 v1 rfl rfl) h1
  obtain ⟨Au1, u1, cu1, rfl, su1, mu1, zu1⟩ := open_rows (k := .i64) (d := 8) (m := 7) Try.underlying50 (by kernel_rfl) rfl (by kernel_rfl) hx1
  injection hcs1 with hcs1 _
  subst hcs1
  obtain ⟨u2, rfl, rfl, rfl, wu2⟩ := open_int Try.underlying2 (hval 2 2 v2 rfl rfl) h2
  obtain ⟨u3, rfl, rfl, rfl, wu3⟩ := open_int Try.underlying2 (hval 3 2 v3 rfl rfl) h3
  obtain ⟨k, hp⟩ := plain u0_0 u0_1 u1 u2 u3 mu0_0 su0_0.1 zu0_0 lu0_1 zu0_1 mu1 su1.1 zu1 wu2 wu3
  have hc := Fn.calls (Mem.le_refl _) ((w5 k su0_0 lu0_1 su1 hp).mono (R' := fun x _ => rval x = .bool true) (by rintro x M' _ rfl; rfl))
  clear hA0 hval0
  have hc2 : Calls Try.prog 5 #[.agg ([Value.slice Au0_0 (List.length u0_0) cu0_0] ++ ints .i64 u0_1).toArray, .slice Au1 (List.length u1) cu1, .int .i64 u2, .int .i64 u3] W fun e w' => e = .returned (.bool true) ∧ Below W.heap.size W w' := by
    simpa [rval, SV.val, sgCells, Sg.cells, Lf.val] using hc
  refine hc2.mono fun e W' ⟨he, bel⟩ => ?_
  subst he
  exact ⟨_, rfl, _, _, _, [], _, [], hW', trodAll_mk1 (shut_bool Try.underlying4 _), (trodAll_cons_mk (Below.trod laid5 (by kernel_rfl) (of_decide_eq_true (by kernel_rfl)) k0 bel lt0) (trodAll_cons_mk (Below.trod laid5 (by kernel_rfl) (of_decide_eq_true (by kernel_rfl)) k1 bel lt1) (trodAll_cons_mk (shut_int Try.underlying2 wu2) (trodAll_cons_mk (shut_int Try.underlying2 wu3) trodAll_mk0)))), rfl, bel.frame _, fun h => by cases h⟩
theorem claimSettles_of (plain : PlainClaimSettles) : Rows.ClaimSettlesSaid :=
  OpenClaim.holds_of_wide 5 Try.f5 rfl rfl rfl rfl rfl rfl rfl ⟨rfl, rfl, rfl, rfl, rfl⟩ rfl rfl rfl rfl rfl (by kernel_rfl) Try.func5 (by kernel_rfl)
    (of_decide_eq_true (by kernel_rfl)) (by unfold Func.isWrapper; first | (rw [if_pos (by decide +kernel)]; kernel_rfl) | (rw [if_neg (by decide +kernel)]; exact ⟨rfl, rfl⟩))
    (fun os started H enc _ => lifted5 plain os started H enc)
end Go.Proofs.Ythjkejbgknemgaa
namespace Go.Proofs.Ythjkejbgknemgaa
open Go.RowKit Classical
theorem p5_l1_eq {k : Nat} {L : List Int} {j : Option Bool} (hL : L.length ≤ 100000) : ∀ (d i n : Nat), i + d = L.length → d < n → p5_l1 k j L L n (i : Int) = j
  | 0, i, n, h1, h2 => by
    obtain ⟨n, rfl⟩ : ∃ n', n = n' + 1 := ⟨n - 1, by omega⟩
    rw [p5_l1]
    simp only [lt_v, sp_d]
    rw [if_neg (by omega)]
  | d + 1, i, n, h1, h2 => by
    obtain ⟨n, rfl⟩ : ∃ n', n = n' + 1 := ⟨n - 1, by omega⟩
    have hw : wr .i64 ((i : Int) + 1) = ((i + 1 : Nat) : Int) := by rw [wr64 (by omega) (by omega)]; omega
    rw [p5_l1]
    simp only [lt_v, sp_d, Int.toNat_natCast, hw]
    rw [if_pos (by omega), gd_v (by omega), gd_v (by omega)]
    have : (L.getD i 0 != L.getD i 0) = false := by simp
    rw [this, sp_ff]
    exact p5_l1_eq hL d (i + 1) n (by omega) (by omega)
theorem stL_len (R : List (List Int)) (D : List Int) (C : List (List Int)) (part most : Int) : (stL R D C part most).length = C.length := by
  unfold stL
  split
  · simp
  · rw [dist_len]
theorem plain5 : PlainClaimSettles := by
  intro R D C part most hlen hrow hR hD hDz hClen hCrow hCz hp hm
  obtain ⟨k, hk⟩ : ∃ k, 5000 ≤ k := ⟨5000, Nat.le_refl _⟩
  refine ⟨k, ?_⟩
  have hb : Wf64 R := fun r hr z hz => bounds_i64 (hR r hr z hz)
  unfold p5
  obtain ⟨g, hg⟩ := p18_some (k := k) (R := R) (D := D)
  simp only [jn_v, lt_v, hg, cl_v, p12_eq hk, sp_d]
  cases g with
  | true => rfl
  | false =>
    rw [sp_ff]
    have main : C.length ≤ 60 → (cl2 (p19 k R D C part most) fun v9 v10 => cl2 (p20 k R D C part most) fun v14 v15 => sp (v10 != v15) (sp true (some false) (p5_l1 k (some true) v9 v14 k 0)) (sp ((v9.length : Int) != (v14.length : Int)) (some false) (p5_l1 k (some true) v9 v14 k 0))) = some true := by
      intro hC
      rw [p19_eq hk hD (by omega), p20_eq hk hD hb (by omega), cl2_v, cl2_v]
      have e1 : ∀ x : Int, (x != x) = false := fun x => by simp
      rw [e1, e1, sp_ff, sp_ff]
      have hl : (if stE R D C part most = 0 then stL R D C part most else []).length ≤ 60 := by
        split
        · rw [stL_len]; exact hC
        · simp
      exact p5_l1_eq (by omega) (if stE R D C part most = 0 then stL R D C part most else []).length 0 k (by omega) (by omega)
    by_cases h8 : (C.length : Int) > 8
    · rw [if_pos h8]
      by_cases h32 : (C.length : Int) ≤ 32
      · rw [if_pos h32]; rfl
      · rw [if_neg h32]
        by_cases h60 : (C.length : Int) > 60
        · rw [if_pos h60]
        · rw [if_neg h60]; exact main (by omega)
    · rw [if_neg h8]
      by_cases h60 : (C.length : Int) > 60
      · omega
      · rw [if_neg h60]; exact main (by omega)
theorem claimSettles_holds : Rows.ClaimSettlesSaid := claimSettles_of plain5
end Go.Proofs.Ythjkejbgknemgaa
