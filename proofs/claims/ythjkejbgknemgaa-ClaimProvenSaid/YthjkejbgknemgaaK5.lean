/- Lemmas and walks for the law ClaimProven (part 5). No condition: every theorem names its own hypotheses. -/
import Derived.Test.YthjkejbgknemgaaK4
import Derived.Test.YthjkejbgknemgaaProg
set_option linter.unusedVariables false
set_option linter.unusedSimpArgs false
set_option maxHeartbeats 4000000
namespace Go.Proofs.Ythjkejbgknemgaa
open Go.RowKit
def p43 (k : Nat) (u0_0 : List (List Int)) (u0_1 : List Int) (u1 : List Int) : Option (Option CT × Int) :=
 cl2 (p46 k u0_0 u0_1) fun v2 v3 => lt' (v3 != (0 : Int)) fun b6 => sp b6 (some (none,v3)) (cl (p32 k u1) fun v7 => some (v2,v7))
theorem hf43 : Try.prog.funcs[43]? = some Try.f43 := by kernel_rfl
theorem w43 (k : Nat) {M : Mem} {Au0_0 : Option Addr} {cu0_0 : Nat} {u0_0 : List (List Int)} {u0_1 : List Int} {u1 : List Int} (hu0_0 : SlR M Au0_0 cu0_0 .i64 11 u0_0) (hu0_1 : u0_1.length = 4) (hu1 : u1.length = 7) {r} (h : p43 k u0_0 u0_1 u1 = some r) :
  Fn Try.prog 43 [rval (.agg [.one (.v (.slice Au0_0 (u0_0.length) cu0_0)),.arr .i64 4 u0_1]),rval (.agg [.arr .i64 7 u1])] M (fun x M' => ∃ (q1 : Value),x = .tup [(some (.v q1),[]),(some (.v (.int .i64 r.2)),[])] ∧ PtrR M' q1 r.1) := by
 unfold p43 at h
 refine Fn_of (P:=Try.prog) (fn:=Try.f43) (c:=bodyOf Try.f43) [.agg [.one (.v (.slice Au0_0 (u0_0.length) cu0_0)),.arr .i64 4 u0_1],.agg [.arr .i64 7 u1]] hf43 (by kernel_rfl) (Nat.le_of_ble_eq_true (by kernel_rfl)) (args_ok (by kernel_rfl) ⟨⟨rfl,⟨hu0_1,trivial⟩⟩,⟨⟨hu1,trivial⟩,trivial⟩⟩) fun w => ?_
 change T _ _ _ (endQ _ _ _)
 refine T_seq (c1:=(sub [0] Bd43)) (c2:=(sub [1] Bd43)) (by kernel_rfl) ?_
 refine T_region (id:=0) (by kernel_rfl) ?_
 refine TI_segK (i:=0) (j:=4) (s':={ σ := [(2,.lf (.own 2 0)),(3,.lf (.own 3 0))],H := [(2,[.one (.v (.slice Au0_0 (u0_0.length) cu0_0)),.arr .i64 4 u0_1]),(3,[.arr .i64 7 u1])],V := [],M := M,ds := [] }) [2,3] [2,3] [] (by kernel_rfl) (by kernel_rfl) ?_
 refine TI_end (by kernel_rfl) ?_
 refine thenQ_n ?_
 refine T_sq (by kernel_rfl) ?_
 refine T_region (id:=1) (by kernel_rfl) ?_
 refine TI_segK (i:=0) (j:=1) (s':={ σ := [(3,.lf (.own 3 0)),(9,.agg [.one (.v (.slice Au0_0 (u0_0.length) cu0_0)),.arr .i64 4 u0_1])],H := [(3,[.arr .i64 7 u1])],V := [],M := M,ds := [] }) [3,9] [3] [] (by kernel_rfl) (by kernel_rfl) ?_
 obtain ⟨v2,v3,c_v2,h⟩ := cl2_some h
 refine TI_of (i:=1) (by kernel_rfl) (TE_callR (d:=10) (f:=46) (args:=[rval (.agg [.one (.v (.slice Au0_0 (u0_0.length) cu0_0)),.arr .i64 4 u0_1])]) (by kernel_rfl) (by kernel_rfl) (w46 k hu0_0 hu0_1 c_v2) ?_)
 rintro _ M5 _ hM5 _ ⟨q4,rfl,fq4⟩
 refine TI_segK (i:=2) (j:=7) (s':={ σ := [(3,.lf (.own 3 0)),(6,.lf (.v q4)),(7,vi v3)],H := [(3,[.arr .i64 7 u1])],V := [],M := M5,ds := [] }) [3,6,7] [3] [] (by kernel_rfl) (by kernel_rfl) ?_
 refine TI_end (by kernel_rfl) ?_
 refine thenQ_n ?_
 refine T_sq (by kernel_rfl) ?_
 refine T_sq (by kernel_rfl) ?_
 refine T_region (id:=2) (by kernel_rfl) ?_
 obtain ⟨b6,e_b6,h⟩ := lt_some h
 refine TI_segS (i:=0) (j:=2) [(3,.lf (.own 3 0)),(6,.lf (.v q4)),(7,vi v3),(14,vb b6)] (by subst e_b6;kernel_rfl) (by kernel_rfl) ?_
 refine TI_end (by kernel_rfl) ?_
 refine thenQ_n ?_
 cases b6 with
 | true =>
  replace h := sp_t h
  refine T_condT (x:=(.tmp 14)) (c1:=(sub [1,1,0,1,0] Bd43)) (c2:=(sub [1,1,0,1,1] Bd43)) (by kernel_rfl) (by kernel_rfl) ?_
  refine T_keep (s':={ σ := [(7,vi v3)],H := [],V := [],M := M5,ds := [] }) [7] [] [] (by kernel_rfl) ?_
  refine T_sq (by kernel_rfl) ?_
  refine T_region (id:=3) (by kernel_rfl) ?_
  refine TI_segS (i:=0) (j:=3) [(4,.lf (.v (.pointer none))),(5,vi v3)] (by kernel_rfl) (by kernel_rfl) ?_
  refine TI_end (by kernel_rfl) ?_
  refine thenQ_n ?_
  refine T_ret (by kernel_rfl) ?_
  refine thenQ_r ?_
  have h := Option.some.inj h
  subst h
  refine fin_ret (.tup [(some (.v (.pointer none)),[]),(some (.v (.int .i64 v3)),[])]) (by kernel_rfl) (by kernel_rfl) rfl ?_
  exact ⟨(.pointer none),rfl,rfl⟩
 | false =>
  replace h := sp_f h
  refine T_condF (x:=(.tmp 14)) (c1:=(sub [1,1,0,1,0] Bd43)) (c2:=(sub [1,1,0,1,1] Bd43)) (by kernel_rfl) (by kernel_rfl) ?_
  refine T_keepS [(3,.lf (.own 3 0)),(6,.lf (.v q4))] (by kernel_rfl) ?_
  refine T_skip (by kernel_rfl) ?_
  refine thenQ_n ?_
  refine T_sq (by kernel_rfl) ?_
  refine T_region (id:=4) (by kernel_rfl) ?_
  refine TI_segK (i:=0) (j:=2) (s':={ σ := [(16,.lf (.v q4)),(17,.agg [.arr .i64 7 u1])],H := [],V := [],M := M5,ds := [] }) [16,17] [] [] (by kernel_rfl) (by kernel_rfl) ?_
  obtain ⟨v7,c_v7,h⟩ := cl_some h
  refine TI_at (i:=2) (d:=18) (x:=vi v7) (At_call (d:=18) (f:=32) (args:=[rval (.agg [.arr .i64 7 u1])]) (x:=vi v7) (by kernel_rfl) (w32 k hu1 c_v7)) (by kernel_rfl) trivial ?_
  refine TI_segK (i:=3) (j:=5) (s':={ σ := [(4,.lf (.v q4)),(5,vi v7)],H := [],V := [],M := M5,ds := [] }) [4,5] [] [] (by kernel_rfl) (by kernel_rfl) ?_
  refine TI_end (by kernel_rfl) ?_
  refine thenQ_n ?_
  refine T_ret (by kernel_rfl) ?_
  have h := Option.some.inj h
  subst h
  refine fin_ret (.tup [(some (.v q4),[]),(some (.v (.int .i64 v7)),[])]) (by kernel_rfl) (by kernel_rfl) rfl ?_
  exact ⟨q4,rfl,fq4⟩
def p23 (k : Nat) (u0_0 : List (List Int)) (u0_1 : List Int) : Option (Int × Int) :=
 cl2 (p46 k u0_0 u0_1) fun v1 v2 => lt' (v2 != (0 : Int)) fun b5 => sp b5 (some ((0 : Int),v2)) (cl v1 fun C6 => some ((List.length C6.2.2.2.1 : Int),(0 : Int)))
theorem hf23 : Try.prog.funcs[23]? = some Try.f23 := by kernel_rfl
theorem w23 (k : Nat) {M : Mem} {Au0_0 : Option Addr} {cu0_0 : Nat} {u0_0 : List (List Int)} {u0_1 : List Int} (hu0_0 : SlR M Au0_0 cu0_0 .i64 11 u0_0) (hu0_1 : u0_1.length = 4) {r} (h : p23 k u0_0 u0_1 = some r) :
  Fn Try.prog 23 [rval (.agg [.one (.v (.slice Au0_0 (u0_0.length) cu0_0)),.arr .i64 4 u0_1])] M (fun x _ => x = .tup [(some (.v (.int .i64 r.1)),[]),(some (.v (.int .i64 r.2)),[])]) := by
 unfold p23 at h
 refine Fn_of (P:=Try.prog) (fn:=Try.f23) (c:=bodyOf Try.f23) [.agg [.one (.v (.slice Au0_0 (u0_0.length) cu0_0)),.arr .i64 4 u0_1]] hf23 (by kernel_rfl) (Nat.le_of_ble_eq_true (by kernel_rfl)) (args_ok (by kernel_rfl) ⟨⟨rfl,⟨hu0_1,trivial⟩⟩,trivial⟩) fun w => ?_
 change T _ _ _ (endQ _ _ _)
 refine T_seq (c1:=(sub [0] Bd23)) (c2:=(sub [1] Bd23)) (by kernel_rfl) ?_
 refine T_region (id:=0) (by kernel_rfl) ?_
 refine TI_segK (i:=0) (j:=3) (s':={ σ := [(1,.lf (.own 1 0))],H := [(1,[.one (.v (.slice Au0_0 (u0_0.length) cu0_0)),.arr .i64 4 u0_1])],V := [],M := M,ds := [] }) [1] [1] [] (by kernel_rfl) (by kernel_rfl) ?_
 refine TI_end (by kernel_rfl) ?_
 refine thenQ_n ?_
 refine T_sq (by kernel_rfl) ?_
 refine T_region (id:=1) (by kernel_rfl) ?_
 refine TI_segK (i:=0) (j:=1) (s':={ σ := [(7,.agg [.one (.v (.slice Au0_0 (u0_0.length) cu0_0)),.arr .i64 4 u0_1])],H := [],V := [],M := M,ds := [] }) [7] [] [] (by kernel_rfl) (by kernel_rfl) ?_
 obtain ⟨v1,v2,c_v1,h⟩ := cl2_some h
 refine TI_of (i:=1) (by kernel_rfl) (TE_callR (d:=8) (f:=46) (args:=[rval (.agg [.one (.v (.slice Au0_0 (u0_0.length) cu0_0)),.arr .i64 4 u0_1])]) (by kernel_rfl) (by kernel_rfl) (w46 k hu0_0 hu0_1 c_v1) ?_)
 rintro _ M4 _ hM4 _ ⟨q3,rfl,fq3⟩
 refine TI_segK (i:=2) (j:=7) (s':={ σ := [(4,.lf (.v q3)),(5,vi v2)],H := [],V := [],M := M4,ds := [] }) [4,5] [] [] (by kernel_rfl) (by kernel_rfl) ?_
 refine TI_end (by kernel_rfl) ?_
 refine thenQ_n ?_
 refine T_sq (by kernel_rfl) ?_
 refine T_sq (by kernel_rfl) ?_
 refine T_region (id:=2) (by kernel_rfl) ?_
 obtain ⟨b5,e_b5,h⟩ := lt_some h
 refine TI_segS (i:=0) (j:=2) [(4,.lf (.v q3)),(5,vi v2),(12,vb b5)] (by subst e_b5;kernel_rfl) (by kernel_rfl) ?_
 refine TI_end (by kernel_rfl) ?_
 refine thenQ_n ?_
 cases b5 with
 | true =>
  replace h := sp_t h
  refine T_condT (x:=(.tmp 12)) (c1:=(sub [1,1,0,1,0] Bd23)) (c2:=(sub [1,1,0,1,1] Bd23)) (by kernel_rfl) (by kernel_rfl) ?_
  refine T_keepS [(5,vi v2)] (by kernel_rfl) ?_
  refine T_sq (by kernel_rfl) ?_
  refine T_region (id:=3) (by kernel_rfl) ?_
  refine TI_segS (i:=0) (j:=3) [(2,vi (0 : Int)),(3,vi v2)] (by kernel_rfl) (by kernel_rfl) ?_
  refine TI_end (by kernel_rfl) ?_
  refine thenQ_n ?_
  refine T_ret (by kernel_rfl) ?_
  refine thenQ_r ?_
  have h := Option.some.inj h
  subst h
  refine fin_ret (.tup [(some (.v (.int .i64 (0 : Int))),[]),(some (.v (.int .i64 v2)),[])]) (by kernel_rfl) (by kernel_rfl) rfl ?_
  rfl
 | false =>
  replace h := sp_f h
  refine T_condF (x:=(.tmp 12)) (c1:=(sub [1,1,0,1,0] Bd23)) (c2:=(sub [1,1,0,1,1] Bd23)) (by kernel_rfl) (by kernel_rfl) ?_
  refine T_keepS [(4,.lf (.v q3))] (by kernel_rfl) ?_
  refine T_skip (by kernel_rfl) ?_
  refine thenQ_n ?_
  obtain ⟨C6,e_C6,h⟩ := cl_some h
  have hC6 := fq3
  rw [e_C6] at hC6
  obtain ⟨C6b,C6A,C6c,C6AP,C6cP,C6AV,C6cV,rfl,hC6⟩ := hC6
  refine T_sq (by kernel_rfl) ?_
  refine T_region (id:=4) (by kernel_rfl) ?_
  refine TI_segK (i:=0) (j:=3) (s':={ σ := [(16,.lf (.v (.pointer (some ⟨C6b,6,none⟩))))],H := [],V := [],M := M4,ds := [] }) [16] [] [] (by kernel_rfl) (by kernel_rfl) ?_
  refine TI_at (i:=3) (d:=17) (x:=.lf (.v (.slice C6AP (List.length C6.2.2.2.1) C6cP))) (by exact At_ldP (d:=17) (b:=C6b) (off:=6) (m:=1) (v:=(.slice C6AP (List.length C6.2.2.2.1) C6cP)) (by kernel_rfl) (hC6).plc) (by kernel_rfl) trivial ?_
  refine TI_segK (i:=4) (j:=7) (s':={ σ := [(2,vi (List.length C6.2.2.2.1 : Int)),(3,vi (0 : Int))],H := [],V := [],M := M4,ds := [] }) [2,3] [] [] (by kernel_rfl) (by kernel_rfl) ?_
  refine TI_end (by kernel_rfl) ?_
  refine thenQ_n ?_
  refine T_ret (by kernel_rfl) ?_
  have h := Option.some.inj h
  subst h
  refine fin_ret (.tup [(some (.v (.int .i64 (List.length C6.2.2.2.1 : Int))),[]),(some (.v (.int .i64 (0 : Int))),[])]) (by kernel_rfl) (by kernel_rfl) rfl ?_
  rfl
def p22_l2 (k : Nat) (u0_1 : List Int) (u1_1 : List (List Int)) (x9 : Int) (j28 : Option (Bool × Int)) (C6 : CT) (L27 : List Int) : Nat → Int → Option (Bool × Int)
 | 0,_ => none
 | n30 + 1,x29 => lt' (decide (x29 < (4 : Int))) fun b31 => sp b31 (gd ((0 : Int) ≤ x29 ∧ x29 < ((4 : Nat) : Int)) <| lt' (List.getD L27 (x29).toNat 0) fun x33 => gd ((0 : Int) ≤ x29 ∧ x29 < ((4 : Nat) : Int)) <| lt' (List.getD C6.2.2.2.2 ((x29).toNat * 1) []) fun R35 => gd ((0 : Int) ≤ x9 ∧ x9 < (R35.length : Int)) <| lt' (List.getD R35 ((x9).toNat) []) fun L37 => lt' (List.getD L37 0 0) fun x38 => lt' (List.getD L37 1 0) fun x39 => cl (p49 k x33 x38 x39) fun v40 => sp v40 (jn (fun (b41 : Bool) => sp b41 (some (false,(0 : Int))) (lt' (wr .i64 (x29 + (1 : Int))) fun x59 => p22_l2 k u0_1 u1_1 x9 j28 C6 L27 n30 x59)) fun j42 => lt' (decide (x9 > (0 : Int))) fun b43 => sp b43 (lt' (wr .i64 (x9 - (1 : Int))) fun x44 => gd ((0 : Int) ≤ x44 ∧ x44 < (u1_1.length : Int)) <| gd ((0 : Int) ≤ x29 ∧ x29 < ((4 : Nat) : Int)) <| lt' (List.getD (List.getD u1_1 ((x44).toNat) []) (0 + (x29).toNat * 1) 0) fun x47 => gd ((0 : Int) ≤ x29 ∧ x29 < ((4 : Nat) : Int)) <| lt' (List.getD u0_1 (0 + (x29).toNat * 1) 0) fun x49 => lt' (wr .i64 (x47 - x49)) fun x50 => lt' (wr .i64 (x9 - (1 : Int))) fun x51 => gd ((0 : Int) ≤ x51 ∧ x51 < (u1_1.length : Int)) <| gd ((0 : Int) ≤ x29 ∧ x29 < ((4 : Nat) : Int)) <| lt' (List.getD (List.getD u1_1 ((x51).toNat) []) (0 + (x29).toNat * 1) 0) fun x54 => gd ((0 : Int) ≤ x29 ∧ x29 < ((4 : Nat) : Int)) <| lt' (List.getD u0_1 (0 + (x29).toNat * 1) 0) fun x56 => lt' (wr .i64 (x54 + x56)) fun x57 => cl (p49 k x33 x50 x57) fun v58 => j42 (!v58)) (j42 false)) (some (false,(0 : Int)))) (j28)
def p22_l1 (k : Nat) (u0_1 : List Int) (u1_0 : List Int) (u1_1 : List (List Int)) (j8 : Option (Bool × Int)) (C6 : CT) : Nat → Int → Option (Bool × Int)
 | 0,_ => none
 | n10 + 1,x9 => lt' (decide (x9 < (u1_0.length : Int))) fun b11 => sp b11 (gd ((0 : Int) ≤ x9 ∧ x9 < (u1_0.length : Int)) <| lt' (List.getD u1_0 ((x9).toNat) 0) fun x13 => jn (fun (b14 : Bool) => sp b14 (some (false,(0 : Int))) (gd ((0 : Int) ≤ x9 ∧ x9 < (u1_1.length : Int)) <| lt' (List.getD u1_1 ((x9).toNat) []) fun L27 => jn (lt' (wr .i64 (x9 + (1 : Int))) fun x60 => p22_l1 k u0_1 u1_0 u1_1 j8 C6 n10 x60) fun j28 => p22_l2 k u0_1 u1_1 x9 j28 C6 L27 k (0 : Int))) fun j15 => gd ((0 : Int) ≤ x9 ∧ x9 < (List.length C6.2.2.2.1 : Int)) <| lt' (List.getD (List.getD C6.2.2.2.1 ((x9).toNat) []) 0 0) fun x17 => gd ((0 : Int) ≤ x9 ∧ x9 < (List.length C6.2.2.2.1 : Int)) <| lt' (List.getD (List.getD C6.2.2.2.1 ((x9).toNat) []) 1 0) fun x19 => cl (p49 k x13 x17 x19) fun v20 => sp v20 (lt' (decide (x9 > (0 : Int))) fun b21 => sp b21 (lt' (wr .i64 (x9 - (1 : Int))) fun x22 => gd ((0 : Int) ≤ x22 ∧ x22 < (u1_0.length : Int)) <| lt' (List.getD u1_0 ((x22).toNat) 0) fun x24 => lt' (decide (x13 < x24)) fun b25 => j15 b25) (j15 false)) (j15 true)) (j8)
def p22 (k : Nat) (u0_0 : List (List Int)) (u0_1 : List Int) (u1_0 : List Int) (u1_1 : List (List Int)) : Option (Bool × Int) :=
 cl2 (p46 k u0_0 u0_1) fun v1 v2 => lt' (v2 != (0 : Int)) fun b5 => sp b5 (some (false,v2)) (cl v1 fun C6 => cl (p54 k C6.1 C6.2.1 C6.2.2.1 C6.2.2.2.1 C6.2.2.2.2 u1_0 u1_1) fun v7 => sp v7 (jn (some (true,(0 : Int))) fun j8 => p22_l1 k u0_1 u1_0 u1_1 j8 C6 k (0 : Int)) (some (false,(0 : Int))))
theorem hf22 : Try.prog.funcs[22]? = some Try.f22 := by kernel_rfl
theorem w22 (k : Nat) {M : Mem} {Au0_0 : Option Addr} {cu0_0 : Nat} {Au1_0 : Option Addr} {cu1_0 : Nat} {Au1_1 : Option Addr} {cu1_1 : Nat} {u0_0 : List (List Int)} {u0_1 : List Int} {u1_0 : List Int} {u1_1 : List (List Int)} (hu0_0 : SlR M Au0_0 cu0_0 .i64 11 u0_0) (hu0_1 : u0_1.length = 4) (hu1_0 : SlI M Au1_0 cu1_0 .i64 u1_0) (hu1_1 : SlR M Au1_1 cu1_1 .i64 4 u1_1) {r} (h : p22 k u0_0 u0_1 u1_0 u1_1 = some r) :
  Fn Try.prog 22 [rval (.agg [.one (.v (.slice Au0_0 (u0_0.length) cu0_0)),.arr .i64 4 u0_1]),rval (.agg [.one (.v (.slice Au1_0 (u1_0.length) cu1_0)),.one (.v (.slice Au1_1 (u1_1.length) cu1_1))])] M (fun x _ => x = .tup [(some (.v (.bool r.1)),[]),(some (.v (.int .i64 r.2)),[])]) := by
 unfold p22 at h
 refine Fn_of (P:=Try.prog) (fn:=Try.f22) (c:=bodyOf Try.f22) [.agg [.one (.v (.slice Au0_0 (u0_0.length) cu0_0)),.arr .i64 4 u0_1],.agg [.one (.v (.slice Au1_0 (u1_0.length) cu1_0)),.one (.v (.slice Au1_1 (u1_1.length) cu1_1))]] hf22 (by kernel_rfl) (Nat.le_of_ble_eq_true (by kernel_rfl)) (args_ok (by kernel_rfl) ⟨⟨rfl,⟨hu0_1,trivial⟩⟩,⟨⟨rfl,⟨rfl,trivial⟩⟩,trivial⟩⟩) fun w => ?_
 change T _ _ _ (endQ _ _ _)
 refine T_seq (c1:=(sub [0] Bd22)) (c2:=(sub [1] Bd22)) (by kernel_rfl) ?_
 refine T_region (id:=0) (by kernel_rfl) ?_
 refine TI_segK (i:=0) (j:=4) (s':={ σ := [(2,.lf (.own 2 0)),(3,.lf (.own 3 0))],H := [(2,[.one (.v (.slice Au0_0 (u0_0.length) cu0_0)),.arr .i64 4 u0_1]),(3,[.one (.v (.slice Au1_0 (u1_0.length) cu1_0)),.one (.v (.slice Au1_1 (u1_1.length) cu1_1))])],V := [],M := M,ds := [] }) [2,3] [2,3] [] (by kernel_rfl) (by kernel_rfl) ?_
 refine TI_end (by kernel_rfl) ?_
 refine thenQ_n ?_
 refine T_sq (by kernel_rfl) ?_
 refine T_region (id:=1) (by kernel_rfl) ?_
 refine TI_segS (i:=0) (j:=1) [(2,.lf (.own 2 0)),(3,.lf (.own 3 0)),(14,.agg [.one (.v (.slice Au0_0 (u0_0.length) cu0_0)),.arr .i64 4 u0_1])] (by kernel_rfl) (by kernel_rfl) ?_
 obtain ⟨v1,v2,c_v1,h⟩ := cl2_some h
 refine TI_of (i:=1) (by kernel_rfl) (TE_callR (d:=15) (f:=46) (args:=[rval (.agg [.one (.v (.slice Au0_0 (u0_0.length) cu0_0)),.arr .i64 4 u0_1])]) (by kernel_rfl) (by kernel_rfl) (w46 k hu0_0 hu0_1 c_v1) ?_)
 rintro _ M4 _ hM4 _ ⟨q3,rfl,fq3⟩
 refine TI_segK (i:=2) (j:=7) (s':={ σ := [(2,.lf (.own 2 0)),(3,.lf (.own 3 0)),(6,.lf (.v q3)),(7,vi v2)],H := [(2,[.one (.v (.slice Au0_0 (u0_0.length) cu0_0)),.arr .i64 4 u0_1]),(3,[.one (.v (.slice Au1_0 (u1_0.length) cu1_0)),.one (.v (.slice Au1_1 (u1_1.length) cu1_1))])],V := [],M := M4,ds := [] }) [2,3,6,7] [2,3] [] (by kernel_rfl) (by kernel_rfl) ?_
 refine TI_end (by kernel_rfl) ?_
 refine thenQ_n ?_
 refine T_sq (by kernel_rfl) ?_
 refine T_sq (by kernel_rfl) ?_
 refine T_region (id:=2) (by kernel_rfl) ?_
 obtain ⟨b5,e_b5,h⟩ := lt_some h
 refine TI_segS (i:=0) (j:=2) [(2,.lf (.own 2 0)),(3,.lf (.own 3 0)),(6,.lf (.v q3)),(7,vi v2),(19,vb b5)] (by subst e_b5;kernel_rfl) (by kernel_rfl) ?_
 refine TI_end (by kernel_rfl) ?_
 refine thenQ_n ?_
 cases b5 with
 | true =>
  replace h := sp_t h
  refine T_condT (x:=(.tmp 19)) (c1:=(sub [1,1,0,1,0] Bd22)) (c2:=(sub [1,1,0,1,1] Bd22)) (by kernel_rfl) (by kernel_rfl) ?_
  refine T_keep (s':={ σ := [(7,vi v2)],H := [],V := [],M := M4,ds := [] }) [7] [] [] (by kernel_rfl) ?_
  refine T_sq (by kernel_rfl) ?_
  refine T_region (id:=3) (by kernel_rfl) ?_
  refine TI_segS (i:=0) (j:=3) [(4,vb false),(5,vi v2)] (by kernel_rfl) (by kernel_rfl) ?_
  refine TI_end (by kernel_rfl) ?_
  refine thenQ_n ?_
  refine T_ret (by kernel_rfl) ?_
  refine thenQ_r ?_
  have h := Option.some.inj h
  subst h
  refine fin_ret (.tup [(some (.v (.bool false)),[]),(some (.v (.int .i64 v2)),[])]) (by kernel_rfl) (by kernel_rfl) rfl ?_
  rfl
 | false =>
  replace h := sp_f h
  refine T_condF (x:=(.tmp 19)) (c1:=(sub [1,1,0,1,0] Bd22)) (c2:=(sub [1,1,0,1,1] Bd22)) (by kernel_rfl) (by kernel_rfl) ?_
  refine T_keepS [(2,.lf (.own 2 0)),(3,.lf (.own 3 0)),(6,.lf (.v q3))] (by kernel_rfl) ?_
  refine T_skip (by kernel_rfl) ?_
  refine thenQ_n ?_
  obtain ⟨C6,e_C6,h⟩ := cl_some h
  have hC6 := fq3
  rw [e_C6] at hC6
  obtain ⟨C6b,C6A,C6c,C6AP,C6cP,C6AV,C6cV,rfl,hC6⟩ := hC6
  refine T_sq (by kernel_rfl) ?_
  refine T_sq (by kernel_rfl) ?_
  refine T_region (id:=4) (by kernel_rfl) ?_
  refine TI_segK (i:=0) (j:=2) (s':={ σ := [(2,.lf (.own 2 0)),(3,.lf (.own 3 0)),(6,.lf (.v (.pointer (some ⟨C6b,0,none⟩)))),(21,.lf (.v (.pointer (some ⟨C6b,0,none⟩)))),(22,.agg [.one (.v (.slice Au1_0 (u1_0.length) cu1_0)),.one (.v (.slice Au1_1 (u1_1.length) cu1_1))])],H := [(2,[.one (.v (.slice Au0_0 (u0_0.length) cu0_0)),.arr .i64 4 u0_1]),(3,[.one (.v (.slice Au1_0 (u1_0.length) cu1_0)),.one (.v (.slice Au1_1 (u1_1.length) cu1_1))])],V := [],M := M4,ds := [] }) [2,3,6,21,22] [2,3] [] (by kernel_rfl) (by kernel_rfl) ?_
  obtain ⟨v7,c_v7,h⟩ := cl_some h
  refine TI_at (i:=2) (d:=23) (x:=vb v7) (At_call (d:=23) (f:=54) (args:=[rval (.lf (.v (.pointer (some ⟨C6b,0,none⟩)))),rval (.agg [.one (.v (.slice Au1_0 (u1_0.length) cu1_0)),.one (.v (.slice Au1_1 (u1_1.length) cu1_1))])]) (x:=vb v7) (by kernel_rfl) (w54 k hC6 (hu1_0.le hM4) (hu1_1.le hM4) c_v7)) (by kernel_rfl) trivial ?_
  refine TI_segK (i:=3) (j:=4) (s':={ σ := [(2,.lf (.own 2 0)),(3,.lf (.own 3 0)),(6,.lf (.v (.pointer (some ⟨C6b,0,none⟩)))),(24,vb (!v7))],H := [(2,[.one (.v (.slice Au0_0 (u0_0.length) cu0_0)),.arr .i64 4 u0_1]),(3,[.one (.v (.slice Au1_0 (u1_0.length) cu1_0)),.one (.v (.slice Au1_1 (u1_1.length) cu1_1))])],V := [],M := M4,ds := [] }) [2,3,6,24] [2,3] [] (by kernel_rfl) (by kernel_rfl) ?_
  refine TI_end (by kernel_rfl) ?_
  refine thenQ_n ?_
  cases v7 with
  | true =>
   replace h := sp_t h
   refine T_condF (x:=(.tmp 24)) (c1:=(sub [1,1,1,0,1,0] Bd22)) (c2:=(sub [1,1,1,0,1,1] Bd22)) (by kernel_rfl) (by kernel_rfl) ?_
   refine T_keepS [(2,.lf (.own 2 0)),(3,.lf (.own 3 0)),(6,.lf (.v (.pointer (some ⟨C6b,0,none⟩))))] (by kernel_rfl) ?_
   refine T_skip (by kernel_rfl) ?_
   refine thenQ_n ?_
   refine T_sq (by kernel_rfl) ?_
   refine T_sq (by kernel_rfl) ?_
   refine T_region (id:=6) (by kernel_rfl) ?_
   refine TI_segS (i:=0) (j:=4) [(2,.lf (.own 2 0)),(3,.lf (.own 3 0)),(6,.lf (.v (.pointer (some ⟨C6b,0,none⟩)))),(26,.lf (.v (.slice Au1_0 (u1_0.length) cu1_0))),(27,vi (u1_0.length : Int)),(28,vi (0 : Int))] (by kernel_rfl) (by kernel_rfl) ?_
   refine TI_end (by kernel_rfl) ?_
   refine thenQ_n ?_
   obtain ⟨j8,e_j8,h⟩ := jn_some h
   refine T_bcut (id:=0) (c1:=(sub [1,1,1,1,0,1,0] Bd22)) (fun s' => Sub { σ := [],H := [],V := [],M := M4,ds := [] } s' ∧ j8 = some r) (by kernel_rfl) ?_ ?_
   ·refine T_loop (c1:=(sub [1,1,1,1,0,1,0,0] Bd22)) (by kernel_rfl) (fun n10 s' => ∃ (x9 : Int),Sub { σ := [(2,.lf (.own 2 0)),(3,.lf (.own 3 0)),(6,.lf (.v (.pointer (some ⟨C6b,0,none⟩)))),(26,.lf (.v (.slice Au1_0 (u1_0.length) cu1_0))),(27,vi (u1_0.length : Int)),(28,vi x9)],H := [(2,[.one (.v (.slice Au0_0 (u0_0.length) cu0_0)),.arr .i64 4 u0_1]),(3,[.one (.v (.slice Au1_0 (u1_0.length) cu1_0)),.one (.v (.slice Au1_1 (u1_1.length) cu1_1))])],V := [],M := M4,ds := [] } s' ∧ p22_l1 k u0_1 u1_0 u1_1 j8 C6 n10 x9 = some r) (k:=k) ⟨(0 : Int),keep_sub (ts:=[2,3,6,26,27,28]) (hs:=[2,3]) (vs:=[]) (by kernel_rfl),h⟩ ?_
    rintro n10 s' ⟨x9,hsub,h⟩
    cases n10 with
    | zero => rw [p22_l1] at h;cases h
    | succ n10 =>
     rw [p22_l1] at h
     refine T_sub hsub ?_
     refine T_sq (by kernel_rfl) ?_
     refine T_region (id:=7) (by kernel_rfl) ?_
     obtain ⟨b11,e_b11,h⟩ := lt_some h
     refine TI_segK (i:=0) (j:=1) (s':={ σ := [(2,.lf (.own 2 0)),(3,.lf (.own 3 0)),(6,.lf (.v (.pointer (some ⟨C6b,0,none⟩)))),(26,.lf (.v (.slice Au1_0 (u1_0.length) cu1_0))),(27,vi (u1_0.length : Int)),(28,vi x9),(29,vb b11)],H := [(2,[.one (.v (.slice Au0_0 (u0_0.length) cu0_0)),.arr .i64 4 u0_1]),(3,[.one (.v (.slice Au1_0 (u1_0.length) cu1_0)),.one (.v (.slice Au1_1 (u1_1.length) cu1_1))])],V := [],M := M4,ds := [] }) [2,3,6,26,27,28,29] [2,3] [] (by subst e_b11;kernel_rfl) (by kernel_rfl) ?_
     refine TI_end (by kernel_rfl) ?_
     refine thenQ_n ?_
     refine T_sq (by kernel_rfl) ?_
     cases b11 with
     | true =>
      replace h := sp_t h
      refine T_condT (x:=(.tmp 29)) (c1:=(sub [1,1,1,1,0,1,0,0,1,0,0] Bd22)) (c2:=(sub [1,1,1,1,0,1,0,0,1,0,1] Bd22)) (by kernel_rfl) (by kernel_rfl) ?_
      refine T_keepS [(2,.lf (.own 2 0)),(3,.lf (.own 3 0)),(6,.lf (.v (.pointer (some ⟨C6b,0,none⟩)))),(26,.lf (.v (.slice Au1_0 (u1_0.length) cu1_0))),(27,vi (u1_0.length : Int)),(28,vi x9)] (by kernel_rfl) ?_
      refine T_skip (by kernel_rfl) ?_
      refine thenQ_n ?_
      refine T_sq (by kernel_rfl) ?_
      refine T_block (id:=1) (c1:=(sub [1,1,1,1,0,1,0,0,1,1,0,0] Bd22)) (by kernel_rfl) ?_
      refine T_sq (by kernel_rfl) ?_
      refine T_region (id:=8) (by kernel_rfl) ?_
      refine TI_segS (i:=0) (j:=1) [(2,.lf (.own 2 0)),(3,.lf (.own 3 0)),(6,.lf (.v (.pointer (some ⟨C6b,0,none⟩)))),(26,.lf (.v (.slice Au1_0 (u1_0.length) cu1_0))),(27,vi (u1_0.length : Int)),(28,vi x9),(30,vi x9)] (by kernel_rfl) (by kernel_rfl) ?_
      obtain ⟨g12,h⟩ := gd_some h
      refine TI_at (i:=1) (d:=31) (x:=.lf (.ep (.slice Au1_0 (u1_0.length) cu1_0) 1 ((x9).toNat) 0)) (by exact At_idxI (d:=31) (z:=x9) (by kernel_rfl) g12 (hu1_0.le hM4)) (by kernel_rfl) trivial ?_
      obtain ⟨x13,e_x13,h⟩ := lt_some h
      refine TI_at (i:=2) (d:=32) (x:=vi x13) (by rw [e_x13]; exact At_ldI (d:=32) (q:=(x9).toNat) (by subst e_x13; kernel_rfl) (toNat_lt g12) (hu1_0.le hM4)) (by kernel_rfl) trivial ?_
      refine TI_segK (i:=3) (j:=5) (s':={ σ := [(2,.lf (.own 2 0)),(3,.lf (.own 3 0)),(6,.lf (.v (.pointer (some ⟨C6b,0,none⟩)))),(8,vi x9),(9,vi x13),(26,.lf (.v (.slice Au1_0 (u1_0.length) cu1_0))),(27,vi (u1_0.length : Int)),(28,vi x9)],H := [(2,[.one (.v (.slice Au0_0 (u0_0.length) cu0_0)),.arr .i64 4 u0_1]),(3,[.one (.v (.slice Au1_0 (u1_0.length) cu1_0)),.one (.v (.slice Au1_1 (u1_1.length) cu1_1))])],V := [],M := M4,ds := [] }) [2,3,6,8,9,26,27,28] [2,3] [] (by kernel_rfl) (by kernel_rfl) ?_
      refine TI_end (by kernel_rfl) ?_
      refine thenQ_n ?_
      refine T_sq (by kernel_rfl) ?_
      obtain ⟨j15,e_j15,h⟩ := jn_some h
      refine T_cut (c1:=(sub [1,1,1,1,0,1,0,0,1,1,0,0,1,0,0] Bd22)) (c2:=(sub [1,1,1,1,0,1,0,0,1,1,0,0,1,0,1] Bd22)) (fun s' => ∃ (b14 : Bool),Sub { σ := [(2,.lf (.own 2 0)),(3,.lf (.own 3 0)),(6,.lf (.v (.pointer (some ⟨C6b,0,none⟩)))),(8,vi x9),(26,.lf (.v (.slice Au1_0 (u1_0.length) cu1_0))),(27,vi (u1_0.length : Int)),(28,vi x9),(65,vb b14)],H := [(2,[.one (.v (.slice Au0_0 (u0_0.length) cu0_0)),.arr .i64 4 u0_1]),(3,[.one (.v (.slice Au1_0 (u1_0.length) cu1_0)),.one (.v (.slice Au1_1 (u1_1.length) cu1_1))])],V := [],M := M4,ds := [] } s' ∧ j15 b14 = some r) (by kernel_rfl) ?_ ?_
      ·obtain ⟨g16,h⟩ := gd_some h
       obtain ⟨x17,e_x17,h⟩ := lt_some h
       obtain ⟨g18,h⟩ := gd_some h
       obtain ⟨x19,e_x19,h⟩ := lt_some h
       obtain ⟨v20,c_v20,h⟩ := cl_some h
       cases v20 with
       | true =>
        replace h := sp_t h
        obtain ⟨b21,e_b21,h⟩ := lt_some h
        cases b21 with
        | true =>
         replace h := sp_t h
         obtain ⟨x22,e_x22,h⟩ := lt_some h
         obtain ⟨g23,h⟩ := gd_some h
         obtain ⟨x24,e_x24,h⟩ := lt_some h
         obtain ⟨b25,e_b25,h⟩ := lt_some h
         refine T_draw' (id:=9) [] [0,0,0,0,0,0,0,0,0,0,0,0,0,0,0,0,0,0,0,0,0,0,0,0,0,0,0,0,0,0,0,0,0] (by kernel_rfl) (by kernel_rfl) (by kernel_rfl) (by kernel_rfl) ((33,vi x13)::(34,.lf (.v (.pointer (some ⟨C6b,0,none⟩))))::(35,.lf (.v (.pointer (some ⟨C6b,0,none⟩))))::(36,.lf (.v (.pointer (some ⟨C6b,6,none⟩))))::(37,.lf (.v (.slice C6AP (List.length C6.2.2.2.1) C6cP)))::(38,vi x9)::(39,.lf (.ep (.slice C6AP (List.length C6.2.2.2.1) C6cP) 2 ((x9).toNat) 0))::(40,.lf (.ep (.slice C6AP (List.length C6.2.2.2.1) C6cP) 2 ((x9).toNat) 0))::(41,vi x17)::(42,.lf (.v (.pointer (some ⟨C6b,0,none⟩))))::(43,.lf (.v (.pointer (some ⟨C6b,0,none⟩))))::(44,.lf (.v (.pointer (some ⟨C6b,6,none⟩))))::(45,.lf (.v (.slice C6AP (List.length C6.2.2.2.1) C6cP)))::(46,vi x9)::(47,.lf (.ep (.slice C6AP (List.length C6.2.2.2.1) C6cP) 2 ((x9).toNat) 0))::(48,.lf (.ep (.slice C6AP (List.length C6.2.2.2.1) C6cP) 2 ((x9).toNat) 1))::(49,vi x19)::(50,vb true)::(51,vb false)::(52,vb false)::(53,vi x9)::(54,vb true)::(55,vb true)::(56,vi x13)::(57,.lf (.own 3 0))::(58,.lf (.v (.slice Au1_0 (u1_0.length) cu1_0)))::(59,vi x9)::(60,vi x22)::(61,.lf (.ep (.slice Au1_0 (u1_0.length) cu1_0) 1 ((x22).toNat) 0))::(62,vi x24)::(63,vb b25)::(64,vb b25)::(65,vb b25)::[]) (by kernel_rfl) (wfs_lf _ (by kernel_rfl)) ?_
         refine Stage_nil (stage_all' [0,1,2,3,5,7,9,10,11,13,15,18,19,20,22,23,24,25,26,27,30,31,32] [4,6,8,12,14,16,17,21,28,29] (by kernel_rfl) (by subst_vars; kernel_rfl) (by kernel_rfl) ⟨QF_at (i:=4) (d:=37) (x:=.lf (.v (.slice C6AP (List.length C6.2.2.2.1) C6cP))) (show OpAt _ _ _ 4 37 _ from by exact At_ldP (d:=37) (b:=C6b) (off:=6) (m:=1) (v:=(.slice C6AP (List.length C6.2.2.2.1) C6cP)) (by subst_vars; kernel_rfl) (hC6).plc) (by kernel_rfl) (by subst_vars; kernel_rfl),⟨QF_at (i:=6) (d:=39) (x:=.lf (.ep (.slice C6AP (List.length C6.2.2.2.1) C6cP) 2 ((x9).toNat) 0)) (show OpAt _ _ _ 6 39 _ from by exact At_idxR (d:=39) (z:=x9) (by subst_vars; kernel_rfl) g16 (hC6).lP) (by kernel_rfl) (by subst_vars; kernel_rfl),⟨QF_at (i:=8) (d:=41) (x:=vi x17) (show OpAt _ _ _ 8 41 _ from by rw [e_x17]; exact At_ldR1 (d:=41) (q:=(x9).toNat) (j:=0) (by subst_vars; kernel_rfl) rfl (toNat_lt g16) (hC6).lP) (by kernel_rfl) (by subst_vars; kernel_rfl),⟨QF_at (i:=12) (d:=45) (x:=.lf (.v (.slice C6AP (List.length C6.2.2.2.1) C6cP))) (show OpAt _ _ _ 12 45 _ from by exact At_ldP (d:=45) (b:=C6b) (off:=6) (m:=1) (v:=(.slice C6AP (List.length C6.2.2.2.1) C6cP)) (by subst_vars; kernel_rfl) (hC6).plc) (by kernel_rfl) (by subst_vars; kernel_rfl),⟨QF_at (i:=14) (d:=47) (x:=.lf (.ep (.slice C6AP (List.length C6.2.2.2.1) C6cP) 2 ((x9).toNat) 0)) (show OpAt _ _ _ 14 47 _ from by exact At_idxR (d:=47) (z:=x9) (by subst_vars; kernel_rfl) g18 (hC6).lP) (by kernel_rfl) (by subst_vars; kernel_rfl),⟨QF_at (i:=16) (d:=49) (x:=vi x19) (show OpAt _ _ _ 16 49 _ from by rw [e_x19]; exact At_ldR1 (d:=49) (q:=(x9).toNat) (j:=1) (by subst_vars; kernel_rfl) rfl (toNat_lt g18) (hC6).lP) (by kernel_rfl) (by subst_vars; kernel_rfl),⟨QF_at (i:=17) (d:=50) (x:=vb true) (show OpAt _ _ _ 17 50 _ from by exact At_call (d:=50) (f:=49) (args:=[rval (vi x13),rval (vi x17),rval (vi x19)]) (x:=vb true) (by subst_vars; kernel_rfl) (w49 k  c_v20)) (by kernel_rfl) (by subst_vars; kernel_rfl),⟨QF_at (i:=21) (d:=54) (x:=vb true) (show OpAt _ _ _ 21 54 _ from by exact At_bin (d:=54) (b:=.gtr) (u:=.int .i64 x9) (v:=.int .i64 (0 : Int)) (w':=.bool true) (by subst_vars; kernel_rfl) (by rw [show exBin .gtr (.int .i64 x9) (.int .i64 (0 : Int)) = some (.bool (decide (x9 > (0 : Int)))) from by kernel_rfl,← e_b21])) (by kernel_rfl) (by subst_vars; kernel_rfl),⟨QF_at (i:=28) (d:=61) (x:=.lf (.ep (.slice Au1_0 (u1_0.length) cu1_0) 1 ((x22).toNat) 0)) (show OpAt _ _ _ 28 61 _ from by exact At_idxI (d:=61) (z:=x22) (by subst_vars; kernel_rfl) g23 (hu1_0.le hM4)) (by kernel_rfl) (by subst_vars; kernel_rfl),⟨QF_at (i:=29) (d:=62) (x:=vi x24) (show OpAt _ _ _ 29 62 _ from by rw [e_x24]; exact At_ldI (d:=62) (q:=(x22).toNat) (by subst_vars; kernel_rfl) (toNat_lt g23) (hu1_0.le hM4)) (by kernel_rfl) (by subst_vars; kernel_rfl),trivial⟩⟩⟩⟩⟩⟩⟩⟩⟩⟩) ?_
         refine thenQ_n ?_
         exact ⟨b25,keep_sub (ts:=[2,3,6,8,26,27,28,65]) (hs:=[2,3]) (vs:=[]) (by subst_vars;kernel_rfl),h⟩
        | false =>
         replace h := sp_f h
         refine T_draw' (id:=9) [] [0,0,0,0,0,0,0,0,0,0,0,0,0,0,0,0,0,0,0,0,0,0,0,0,0,0,0,0,0,0,0,0,0] (by kernel_rfl) (by kernel_rfl) (by kernel_rfl) (by kernel_rfl) ((33,vi x13)::(34,.lf (.v (.pointer (some ⟨C6b,0,none⟩))))::(35,.lf (.v (.pointer (some ⟨C6b,0,none⟩))))::(36,.lf (.v (.pointer (some ⟨C6b,6,none⟩))))::(37,.lf (.v (.slice C6AP (List.length C6.2.2.2.1) C6cP)))::(38,vi x9)::(39,.lf (.ep (.slice C6AP (List.length C6.2.2.2.1) C6cP) 2 ((x9).toNat) 0))::(40,.lf (.ep (.slice C6AP (List.length C6.2.2.2.1) C6cP) 2 ((x9).toNat) 0))::(41,vi x17)::(42,.lf (.v (.pointer (some ⟨C6b,0,none⟩))))::(43,.lf (.v (.pointer (some ⟨C6b,0,none⟩))))::(44,.lf (.v (.pointer (some ⟨C6b,6,none⟩))))::(45,.lf (.v (.slice C6AP (List.length C6.2.2.2.1) C6cP)))::(46,vi x9)::(47,.lf (.ep (.slice C6AP (List.length C6.2.2.2.1) C6cP) 2 ((x9).toNat) 0))::(48,.lf (.ep (.slice C6AP (List.length C6.2.2.2.1) C6cP) 2 ((x9).toNat) 1))::(49,vi x19)::(50,vb true)::(51,vb false)::(52,vb false)::(53,vi x9)::(54,vb false)::(55,vb false)::(56,.tup [])::(57,.tup [])::(58,.tup [])::(59,.tup [])::(60,.tup [])::(61,.tup [])::(62,.tup [])::(63,.tup [])::(64,vb false)::(65,vb false)::[]) (by kernel_rfl) ⟨trivial,⟨trivial,⟨trivial,⟨trivial,⟨trivial,⟨trivial,⟨trivial,⟨trivial,⟨trivial,⟨trivial,⟨trivial,⟨trivial,⟨trivial,⟨trivial,⟨trivial,⟨trivial,⟨trivial,⟨trivial,⟨trivial,⟨trivial,⟨trivial,⟨trivial,⟨trivial,⟨(by intro y hy;cases hy),⟨(by intro y hy;cases hy),⟨(by intro y hy;cases hy),⟨(by intro y hy;cases hy),⟨(by intro y hy;cases hy),⟨(by intro y hy;cases hy),⟨(by intro y hy;cases hy),⟨(by intro y hy;cases hy),⟨trivial,⟨trivial,trivial⟩⟩⟩⟩⟩⟩⟩⟩⟩⟩⟩⟩⟩⟩⟩⟩⟩⟩⟩⟩⟩⟩⟩⟩⟩⟩⟩⟩⟩⟩⟩⟩⟩ ?_
         refine Stage_nil (stage_all' [0,1,2,3,5,7,9,10,11,13,15,18,19,20,22,23,24,25,26,27,28,29,30,31,32] [4,6,8,12,14,16,17,21] (by kernel_rfl) (by subst e_x19 e_x17; kernel_rfl) (by kernel_rfl) ⟨QF_at (i:=4) (d:=37) (x:=.lf (.v (.slice C6AP (List.length C6.2.2.2.1) C6cP))) (show OpAt _ _ _ 4 37 _ from by exact At_ldP (d:=37) (b:=C6b) (off:=6) (m:=1) (v:=(.slice C6AP (List.length C6.2.2.2.1) C6cP)) (by subst e_x19 e_x17; kernel_rfl) (hC6).plc) (by kernel_rfl) (by subst e_x19 e_x17; kernel_rfl),⟨QF_at (i:=6) (d:=39) (x:=.lf (.ep (.slice C6AP (List.length C6.2.2.2.1) C6cP) 2 ((x9).toNat) 0)) (show OpAt _ _ _ 6 39 _ from by exact At_idxR (d:=39) (z:=x9) (by subst e_x19 e_x17; kernel_rfl) g16 (hC6).lP) (by kernel_rfl) (by subst e_x19 e_x17; kernel_rfl),⟨QF_at (i:=8) (d:=41) (x:=vi x17) (show OpAt _ _ _ 8 41 _ from by rw [e_x17]; exact At_ldR1 (d:=41) (q:=(x9).toNat) (j:=0) (by subst e_x19 e_x17; kernel_rfl) rfl (toNat_lt g16) (hC6).lP) (by kernel_rfl) (by subst e_x19 e_x17; kernel_rfl),⟨QF_at (i:=12) (d:=45) (x:=.lf (.v (.slice C6AP (List.length C6.2.2.2.1) C6cP))) (show OpAt _ _ _ 12 45 _ from by exact At_ldP (d:=45) (b:=C6b) (off:=6) (m:=1) (v:=(.slice C6AP (List.length C6.2.2.2.1) C6cP)) (by subst e_x19 e_x17; kernel_rfl) (hC6).plc) (by kernel_rfl) (by subst e_x19 e_x17; kernel_rfl),⟨QF_at (i:=14) (d:=47) (x:=.lf (.ep (.slice C6AP (List.length C6.2.2.2.1) C6cP) 2 ((x9).toNat) 0)) (show OpAt _ _ _ 14 47 _ from by exact At_idxR (d:=47) (z:=x9) (by subst e_x19 e_x17; kernel_rfl) g18 (hC6).lP) (by kernel_rfl) (by subst e_x19 e_x17; kernel_rfl),⟨QF_at (i:=16) (d:=49) (x:=vi x19) (show OpAt _ _ _ 16 49 _ from by rw [e_x19]; exact At_ldR1 (d:=49) (q:=(x9).toNat) (j:=1) (by subst e_x19 e_x17; kernel_rfl) rfl (toNat_lt g18) (hC6).lP) (by kernel_rfl) (by subst e_x19 e_x17; kernel_rfl),⟨QF_at (i:=17) (d:=50) (x:=vb true) (show OpAt _ _ _ 17 50 _ from by exact At_call (d:=50) (f:=49) (args:=[rval (vi x13),rval (vi x17),rval (vi x19)]) (x:=vb true) (by subst e_x19 e_x17; kernel_rfl) (w49 k  c_v20)) (by kernel_rfl) (by subst e_x19 e_x17; kernel_rfl),⟨QF_at (i:=21) (d:=54) (x:=vb false) (show OpAt _ _ _ 21 54 _ from by exact At_bin (d:=54) (b:=.gtr) (u:=.int .i64 x9) (v:=.int .i64 (0 : Int)) (w':=.bool false) (by subst e_x19 e_x17; kernel_rfl) (by rw [show exBin .gtr (.int .i64 x9) (.int .i64 (0 : Int)) = some (.bool (decide (x9 > (0 : Int)))) from by kernel_rfl,← e_b21])) (by kernel_rfl) (by subst e_x19 e_x17; kernel_rfl),trivial⟩⟩⟩⟩⟩⟩⟩⟩) ?_
         refine thenQ_n ?_
         exact ⟨false,keep_sub (ts:=[2,3,6,8,26,27,28,65]) (hs:=[2,3]) (vs:=[]) (by subst e_x19 e_x17;kernel_rfl),h⟩
       | false =>
        replace h := sp_f h
        refine T_draw' (id:=9) [] [0,0,0,0,0,0,0,0,0,0,0,0,0,0,0,0,0,0,0,0,0,0,0,0,0,0,0,0,0,0,0,0,0] (by kernel_rfl) (by kernel_rfl) (by kernel_rfl) (by kernel_rfl) ((33,vi x13)::(34,.lf (.v (.pointer (some ⟨C6b,0,none⟩))))::(35,.lf (.v (.pointer (some ⟨C6b,0,none⟩))))::(36,.lf (.v (.pointer (some ⟨C6b,6,none⟩))))::(37,.lf (.v (.slice C6AP (List.length C6.2.2.2.1) C6cP)))::(38,vi x9)::(39,.lf (.ep (.slice C6AP (List.length C6.2.2.2.1) C6cP) 2 ((x9).toNat) 0))::(40,.lf (.ep (.slice C6AP (List.length C6.2.2.2.1) C6cP) 2 ((x9).toNat) 0))::(41,vi x17)::(42,.lf (.v (.pointer (some ⟨C6b,0,none⟩))))::(43,.lf (.v (.pointer (some ⟨C6b,0,none⟩))))::(44,.lf (.v (.pointer (some ⟨C6b,6,none⟩))))::(45,.lf (.v (.slice C6AP (List.length C6.2.2.2.1) C6cP)))::(46,vi x9)::(47,.lf (.ep (.slice C6AP (List.length C6.2.2.2.1) C6cP) 2 ((x9).toNat) 0))::(48,.lf (.ep (.slice C6AP (List.length C6.2.2.2.1) C6cP) 2 ((x9).toNat) 1))::(49,vi x19)::(50,vb false)::(51,vb true)::(52,vb true)::(53,.tup [])::(54,.tup [])::(55,.tup [])::(56,.tup [])::(57,.tup [])::(58,.tup [])::(59,.tup [])::(60,.tup [])::(61,.tup [])::(62,.tup [])::(63,.tup [])::(64,.tup [])::(65,vb true)::[]) (by kernel_rfl) ⟨trivial,⟨trivial,⟨trivial,⟨trivial,⟨trivial,⟨trivial,⟨trivial,⟨trivial,⟨trivial,⟨trivial,⟨trivial,⟨trivial,⟨trivial,⟨trivial,⟨trivial,⟨trivial,⟨trivial,⟨trivial,⟨trivial,⟨trivial,⟨(by intro y hy;cases hy),⟨(by intro y hy;cases hy),⟨(by intro y hy;cases hy),⟨(by intro y hy;cases hy),⟨(by intro y hy;cases hy),⟨(by intro y hy;cases hy),⟨(by intro y hy;cases hy),⟨(by intro y hy;cases hy),⟨(by intro y hy;cases hy),⟨(by intro y hy;cases hy),⟨(by intro y hy;cases hy),⟨(by intro y hy;cases hy),⟨trivial,trivial⟩⟩⟩⟩⟩⟩⟩⟩⟩⟩⟩⟩⟩⟩⟩⟩⟩⟩⟩⟩⟩⟩⟩⟩⟩⟩⟩⟩⟩⟩⟩⟩⟩ ?_
        refine Stage_nil (stage_all' [0,1,2,3,5,7,9,10,11,13,15,18,19,20,21,22,23,24,25,26,27,28,29,30,31,32] [4,6,8,12,14,16,17] (by kernel_rfl) (by subst e_x19 e_x17; kernel_rfl) (by kernel_rfl) ⟨QF_at (i:=4) (d:=37) (x:=.lf (.v (.slice C6AP (List.length C6.2.2.2.1) C6cP))) (show OpAt _ _ _ 4 37 _ from by exact At_ldP (d:=37) (b:=C6b) (off:=6) (m:=1) (v:=(.slice C6AP (List.length C6.2.2.2.1) C6cP)) (by subst e_x19 e_x17; kernel_rfl) (hC6).plc) (by kernel_rfl) (by subst e_x19 e_x17; kernel_rfl),⟨QF_at (i:=6) (d:=39) (x:=.lf (.ep (.slice C6AP (List.length C6.2.2.2.1) C6cP) 2 ((x9).toNat) 0)) (show OpAt _ _ _ 6 39 _ from by exact At_idxR (d:=39) (z:=x9) (by subst e_x19 e_x17; kernel_rfl) g16 (hC6).lP) (by kernel_rfl) (by subst e_x19 e_x17; kernel_rfl),⟨QF_at (i:=8) (d:=41) (x:=vi x17) (show OpAt _ _ _ 8 41 _ from by rw [e_x17]; exact At_ldR1 (d:=41) (q:=(x9).toNat) (j:=0) (by subst e_x19 e_x17; kernel_rfl) rfl (toNat_lt g16) (hC6).lP) (by kernel_rfl) (by subst e_x19 e_x17; kernel_rfl),⟨QF_at (i:=12) (d:=45) (x:=.lf (.v (.slice C6AP (List.length C6.2.2.2.1) C6cP))) (show OpAt _ _ _ 12 45 _ from by exact At_ldP (d:=45) (b:=C6b) (off:=6) (m:=1) (v:=(.slice C6AP (List.length C6.2.2.2.1) C6cP)) (by subst e_x19 e_x17; kernel_rfl) (hC6).plc) (by kernel_rfl) (by subst e_x19 e_x17; kernel_rfl),⟨QF_at (i:=14) (d:=47) (x:=.lf (.ep (.slice C6AP (List.length C6.2.2.2.1) C6cP) 2 ((x9).toNat) 0)) (show OpAt _ _ _ 14 47 _ from by exact At_idxR (d:=47) (z:=x9) (by subst e_x19 e_x17; kernel_rfl) g18 (hC6).lP) (by kernel_rfl) (by subst e_x19 e_x17; kernel_rfl),⟨QF_at (i:=16) (d:=49) (x:=vi x19) (show OpAt _ _ _ 16 49 _ from by rw [e_x19]; exact At_ldR1 (d:=49) (q:=(x9).toNat) (j:=1) (by subst e_x19 e_x17; kernel_rfl) rfl (toNat_lt g18) (hC6).lP) (by kernel_rfl) (by subst e_x19 e_x17; kernel_rfl),⟨QF_at (i:=17) (d:=50) (x:=vb false) (show OpAt _ _ _ 17 50 _ from by exact At_call (d:=50) (f:=49) (args:=[rval (vi x13),rval (vi x17),rval (vi x19)]) (x:=vb false) (by subst e_x19 e_x17; kernel_rfl) (w49 k  c_v20)) (by kernel_rfl) (by subst e_x19 e_x17; kernel_rfl),trivial⟩⟩⟩⟩⟩⟩⟩) ?_
        refine thenQ_n ?_
        exact ⟨true,keep_sub (ts:=[2,3,6,8,26,27,28,65]) (hs:=[2,3]) (vs:=[]) (by subst e_x19 e_x17;kernel_rfl),h⟩
      ·rintro s' ⟨b14,hsub,h⟩
       subst e_j15
       refine T_sub hsub ?_
       cases b14 with
       | true =>
        replace h := sp_t h
        refine T_condT (x:=(.tmp 65)) (c1:=(sub [1,1,1,1,0,1,0,0,1,1,0,0,1,0,1,0] Bd22)) (c2:=(sub [1,1,1,1,0,1,0,0,1,1,0,0,1,0,1,1] Bd22)) (by kernel_rfl) (by kernel_rfl) ?_
        refine T_keep (s':={ σ := [],H := [],V := [],M := M4,ds := [] }) [] [] [] (by kernel_rfl) ?_
        refine T_sq (by kernel_rfl) ?_
        refine T_region (id:=10) (by kernel_rfl) ?_
        refine TI_segS (i:=0) (j:=2) [(4,vb false),(5,vi (0 : Int))] (by kernel_rfl) (by kernel_rfl) ?_
        refine TI_end (by kernel_rfl) ?_
        refine thenQ_n ?_
        refine T_ret (by kernel_rfl) ?_
        refine thenQ_r ?_
        refine blockQ_r ?_
        refine thenQ_r ?_
        refine thenQ_r ?_
        refine blockQ_r ?_
        refine thenQ_r ?_
        refine thenQ_r ?_
        have h := Option.some.inj h
        subst h
        refine fin_ret (.tup [(some (.v (.bool false)),[]),(some (.v (.int .i64 (0 : Int))),[])]) (by kernel_rfl) (by kernel_rfl) rfl ?_
        rfl
       | false =>
        replace h := sp_f h
        refine T_condF (x:=(.tmp 65)) (c1:=(sub [1,1,1,1,0,1,0,0,1,1,0,0,1,0,1,0] Bd22)) (c2:=(sub [1,1,1,1,0,1,0,0,1,1,0,0,1,0,1,1] Bd22)) (by kernel_rfl) (by kernel_rfl) ?_
        refine T_keep (s':={ σ := [(2,.lf (.own 2 0)),(3,.lf (.own 3 0)),(6,.lf (.v (.pointer (some ⟨C6b,0,none⟩)))),(8,vi x9),(26,.lf (.v (.slice Au1_0 (u1_0.length) cu1_0))),(27,vi (u1_0.length : Int)),(28,vi x9)],H := [(2,[.one (.v (.slice Au0_0 (u0_0.length) cu0_0)),.arr .i64 4 u0_1]),(3,[.one (.v (.slice Au1_0 (u1_0.length) cu1_0)),.one (.v (.slice Au1_1 (u1_1.length) cu1_1))])],V := [],M := M4,ds := [] }) [2,3,6,8,26,27,28] [2,3] [] (by kernel_rfl) ?_
        refine T_skip (by kernel_rfl) ?_
        refine thenQ_n ?_
        refine T_sq (by kernel_rfl) ?_
        refine T_region (id:=11) (by kernel_rfl) ?_
        refine TI_segS (i:=0) (j:=3) [(2,.lf (.own 2 0)),(3,.lf (.own 3 0)),(6,.lf (.v (.pointer (some ⟨C6b,0,none⟩)))),(8,vi x9),(26,.lf (.v (.slice Au1_0 (u1_0.length) cu1_0))),(27,vi (u1_0.length : Int)),(28,vi x9),(67,.lf (.v (.slice Au1_1 (u1_1.length) cu1_1))),(68,vi x9)] (by kernel_rfl) (by kernel_rfl) ?_
        obtain ⟨g26,h⟩ := gd_some h
        refine TI_at (i:=3) (d:=69) (x:=.lf (.ep (.slice Au1_1 (u1_1.length) cu1_1) 4 ((x9).toNat) 0)) (by exact At_idxR (d:=69) (z:=x9) (by kernel_rfl) g26 (hu1_1.le hM4)) (by kernel_rfl) trivial ?_
        obtain ⟨L27,e_L27,h⟩ := lt_some h
        have l_L27 : (L27).length = 4 := by rw [e_L27]; exact SlR_row (hu1_1.le hM4) (toNat_lt g26)
        refine TI_at (i:=4) (d:=70) (x:=.agg [.arr .i64 4 L27]) (by rw [e_L27]; exact At_ldRow (d:=70) (q:=(x9).toNat) (by subst e_L27; kernel_rfl) (toNat_lt g26) (hu1_1.le hM4)) (by kernel_rfl) ⟨l_L27,trivial⟩ ?_
        refine TI_segK (i:=5) (j:=6) (s':={ σ := [(2,.lf (.own 2 0)),(3,.lf (.own 3 0)),(6,.lf (.v (.pointer (some ⟨C6b,0,none⟩)))),(8,vi x9),(26,.lf (.v (.slice Au1_0 (u1_0.length) cu1_0))),(27,vi (u1_0.length : Int)),(28,vi x9),(70,.agg [.arr .i64 4 L27]),(71,vi (0 : Int))],H := [(2,[.one (.v (.slice Au0_0 (u0_0.length) cu0_0)),.arr .i64 4 u0_1]),(3,[.one (.v (.slice Au1_0 (u1_0.length) cu1_0)),.one (.v (.slice Au1_1 (u1_1.length) cu1_1))])],V := [],M := M4,ds := [] }) [2,3,6,8,26,27,28,70,71] [2,3] [] (by kernel_rfl) (by kernel_rfl) ?_
        refine TI_end (by kernel_rfl) ?_
        refine thenQ_n ?_
        obtain ⟨j28,e_j28,h⟩ := jn_some h
        refine T_bcut (id:=2) (c1:=(sub [1,1,1,1,0,1,0,0,1,1,0,0,1,1,1,0] Bd22)) (fun s' => Sub { σ := [(2,.lf (.own 2 0)),(3,.lf (.own 3 0)),(6,.lf (.v (.pointer (some ⟨C6b,0,none⟩)))),(26,.lf (.v (.slice Au1_0 (u1_0.length) cu1_0))),(27,vi (u1_0.length : Int)),(28,vi x9)],H := [(2,[.one (.v (.slice Au0_0 (u0_0.length) cu0_0)),.arr .i64 4 u0_1]),(3,[.one (.v (.slice Au1_0 (u1_0.length) cu1_0)),.one (.v (.slice Au1_1 (u1_1.length) cu1_1))])],V := [],M := M4,ds := [] } s' ∧ j28 = some r) (by kernel_rfl) ?_ ?_
        ·refine T_loop (c1:=(sub [1,1,1,1,0,1,0,0,1,1,0,0,1,1,1,0,0] Bd22)) (by kernel_rfl) (fun n30 s' => ∃ (x29 : Int),Sub { σ := [(2,.lf (.own 2 0)),(3,.lf (.own 3 0)),(6,.lf (.v (.pointer (some ⟨C6b,0,none⟩)))),(8,vi x9),(26,.lf (.v (.slice Au1_0 (u1_0.length) cu1_0))),(27,vi (u1_0.length : Int)),(28,vi x9),(70,.agg [.arr .i64 4 L27]),(71,vi x29)],H := [(2,[.one (.v (.slice Au0_0 (u0_0.length) cu0_0)),.arr .i64 4 u0_1]),(3,[.one (.v (.slice Au1_0 (u1_0.length) cu1_0)),.one (.v (.slice Au1_1 (u1_1.length) cu1_1))])],V := [],M := M4,ds := [] } s' ∧ p22_l2 k u0_1 u1_1 x9 j28 C6 L27 n30 x29 = some r) (k:=k) ⟨(0 : Int),keep_sub (ts:=[2,3,6,8,26,27,28,70,71]) (hs:=[2,3]) (vs:=[]) (by kernel_rfl),h⟩ ?_
         rintro n30 s' ⟨x29,hsub,h⟩
         cases n30 with
         | zero => rw [p22_l2] at h;cases h
         | succ n30 =>
          rw [p22_l2] at h
          refine T_sub hsub ?_
          refine T_sq (by kernel_rfl) ?_
          refine T_region (id:=12) (by kernel_rfl) ?_
          obtain ⟨b31,e_b31,h⟩ := lt_some h
          refine TI_segK (i:=0) (j:=1) (s':={ σ := [(2,.lf (.own 2 0)),(3,.lf (.own 3 0)),(6,.lf (.v (.pointer (some ⟨C6b,0,none⟩)))),(8,vi x9),(26,.lf (.v (.slice Au1_0 (u1_0.length) cu1_0))),(27,vi (u1_0.length : Int)),(28,vi x9),(70,.agg [.arr .i64 4 L27]),(71,vi x29),(72,vb b31)],H := [(2,[.one (.v (.slice Au0_0 (u0_0.length) cu0_0)),.arr .i64 4 u0_1]),(3,[.one (.v (.slice Au1_0 (u1_0.length) cu1_0)),.one (.v (.slice Au1_1 (u1_1.length) cu1_1))])],V := [],M := M4,ds := [] }) [2,3,6,8,26,27,28,70,71,72] [2,3] [] (by subst e_b31;kernel_rfl) (by kernel_rfl) ?_
          refine TI_end (by kernel_rfl) ?_
          refine thenQ_n ?_
          refine T_sq (by kernel_rfl) ?_
          cases b31 with
          | true =>
           replace h := sp_t h
           refine T_condT (x:=(.tmp 72)) (c1:=(sub [1,1,1,1,0,1,0,0,1,1,0,0,1,1,1,0,0,1,0,0] Bd22)) (c2:=(sub [1,1,1,1,0,1,0,0,1,1,0,0,1,1,1,0,0,1,0,1] Bd22)) (by kernel_rfl) (by kernel_rfl) ?_
           refine T_keepS [(2,.lf (.own 2 0)),(3,.lf (.own 3 0)),(6,.lf (.v (.pointer (some ⟨C6b,0,none⟩)))),(8,vi x9),(26,.lf (.v (.slice Au1_0 (u1_0.length) cu1_0))),(27,vi (u1_0.length : Int)),(28,vi x9),(70,.agg [.arr .i64 4 L27]),(71,vi x29)] (by kernel_rfl) ?_
           refine T_skip (by kernel_rfl) ?_
           refine thenQ_n ?_
           refine T_sq (by kernel_rfl) ?_
           refine T_block (id:=3) (c1:=(sub [1,1,1,1,0,1,0,0,1,1,0,0,1,1,1,0,0,1,1,0,0] Bd22)) (by kernel_rfl) ?_
           refine T_sq (by kernel_rfl) ?_
           refine T_region (id:=13) (by kernel_rfl) ?_
           refine TI_segS (i:=0) (j:=1) [(2,.lf (.own 2 0)),(3,.lf (.own 3 0)),(6,.lf (.v (.pointer (some ⟨C6b,0,none⟩)))),(8,vi x9),(26,.lf (.v (.slice Au1_0 (u1_0.length) cu1_0))),(27,vi (u1_0.length : Int)),(28,vi x9),(70,.agg [.arr .i64 4 L27]),(71,vi x29),(73,vi x29)] (by kernel_rfl) (by kernel_rfl) ?_
           obtain ⟨g32,h⟩ := gd_some h
           obtain ⟨x33,e_x33,h⟩ := lt_some h
           refine TI_at (i:=1) (d:=74) (x:=vi x33) (by rw [e_x33]; exact At_index (d:=74) (z:=x29) (k:=.i64) (n:=4) (L:=L27) (by subst e_x33; kernel_rfl) l_L27 g32) (by kernel_rfl) trivial ?_
           refine TI_segK (i:=2) (j:=4) (s':={ σ := [(2,.lf (.own 2 0)),(3,.lf (.own 3 0)),(6,.lf (.v (.pointer (some ⟨C6b,0,none⟩)))),(8,vi x9),(10,vi x29),(11,vi x33),(26,.lf (.v (.slice Au1_0 (u1_0.length) cu1_0))),(27,vi (u1_0.length : Int)),(28,vi x9),(70,.agg [.arr .i64 4 L27]),(71,vi x29)],H := [(2,[.one (.v (.slice Au0_0 (u0_0.length) cu0_0)),.arr .i64 4 u0_1]),(3,[.one (.v (.slice Au1_0 (u1_0.length) cu1_0)),.one (.v (.slice Au1_1 (u1_1.length) cu1_1))])],V := [],M := M4,ds := [] }) [2,3,6,8,10,11,26,27,28,70,71] [2,3] [] (by kernel_rfl) (by kernel_rfl) ?_
           refine TI_end (by kernel_rfl) ?_
           refine thenQ_n ?_
           refine T_sq (by kernel_rfl) ?_
           refine T_sq (by kernel_rfl) ?_
           refine T_region (id:=14) (by kernel_rfl) ?_
           refine TI_segS (i:=0) (j:=4) [(2,.lf (.own 2 0)),(3,.lf (.own 3 0)),(6,.lf (.v (.pointer (some ⟨C6b,0,none⟩)))),(8,vi x9),(10,vi x29),(11,vi x33),(26,.lf (.v (.slice Au1_0 (u1_0.length) cu1_0))),(27,vi (u1_0.length : Int)),(28,vi x9),(70,.agg [.arr .i64 4 L27]),(71,vi x29),(76,vi x29),(78,.lf (.v (.pointer (some ⟨C6b,7,none⟩))))] (by kernel_rfl) (by kernel_rfl) ?_
           obtain ⟨g34,h⟩ := gd_some h
           refine TI_at (i:=4) (d:=79) (x:=.lf (.v (.pointer (some ⟨C6b,7 + (x29).toNat * 1,none⟩)))) (by exact At_idxP (d:=79) (z:=x29) (b:=C6b) (off:=7) (sz:=1) (n:=4) (by kernel_rfl) g34) (by kernel_rfl) trivial ?_
           obtain ⟨R35,e_R35,h⟩ := lt_some h
           have f_R35 : SlR M4 (C6AV ((x29).toNat * 1)) (C6cV ((x29).toNat * 1)) .i64 2 R35 := by rw [e_R35]; exact ((hC6).val ((x29).toNat * 1) (by omega)).2
           refine TI_at (i:=5) (d:=80) (x:=.lf (.v (.slice (C6AV ((x29).toNat * 1)) (R35.length) (C6cV ((x29).toNat * 1))))) (by rw [e_R35]; exact At_ldP (d:=80) (b:=C6b) (off:=7 + (x29).toNat * 1) (m:=1) (by subst e_R35; kernel_rfl) ((hC6).val ((x29).toNat * 1) (by omega)).1) (by kernel_rfl) trivial ?_
           refine TI_segK (i:=6) (j:=7) (s':={ σ := [(2,.lf (.own 2 0)),(3,.lf (.own 3 0)),(6,.lf (.v (.pointer (some ⟨C6b,0,none⟩)))),(8,vi x9),(10,vi x29),(11,vi x33),(26,.lf (.v (.slice Au1_0 (u1_0.length) cu1_0))),(27,vi (u1_0.length : Int)),(28,vi x9),(70,.agg [.arr .i64 4 L27]),(71,vi x29),(80,.lf (.v (.slice (C6AV ((x29).toNat * 1)) (R35.length) (C6cV ((x29).toNat * 1))))),(81,vi x9)],H := [(2,[.one (.v (.slice Au0_0 (u0_0.length) cu0_0)),.arr .i64 4 u0_1]),(3,[.one (.v (.slice Au1_0 (u1_0.length) cu1_0)),.one (.v (.slice Au1_1 (u1_1.length) cu1_1))])],V := [],M := M4,ds := [] }) [2,3,6,8,10,11,26,27,28,70,71,80,81] [2,3] [] (by kernel_rfl) (by kernel_rfl) ?_
           obtain ⟨g36,h⟩ := gd_some h
           refine TI_at (i:=7) (d:=82) (x:=.lf (.ep (.slice (C6AV ((x29).toNat * 1)) (R35.length) (C6cV ((x29).toNat * 1))) 2 ((x9).toNat) 0)) (by exact At_idxR (d:=82) (z:=x9) (by kernel_rfl) g36 f_R35) (by kernel_rfl) trivial ?_
           obtain ⟨L37,e_L37,h⟩ := lt_some h
           have l_L37 : (L37).length = 2 := by rw [e_L37]; exact SlR_row f_R35 (toNat_lt g36)
           refine TI_at (i:=8) (d:=83) (x:=.agg [.arr .i64 2 L37]) (by rw [e_L37]; exact At_ldRow (d:=83) (q:=(x9).toNat) (by subst e_L37; kernel_rfl) (toNat_lt g36) f_R35) (by kernel_rfl) ⟨l_L37,trivial⟩ ?_
           refine TI_segK (i:=9) (j:=11) (s':={ σ := [(2,.lf (.own 2 0)),(3,.lf (.own 3 0)),(6,.lf (.v (.pointer (some ⟨C6b,0,none⟩)))),(8,vi x9),(10,vi x29),(11,vi x33),(12,.lf (.own 12 0)),(26,.lf (.v (.slice Au1_0 (u1_0.length) cu1_0))),(27,vi (u1_0.length : Int)),(28,vi x9),(70,.agg [.arr .i64 4 L27]),(71,vi x29)],H := [(2,[.one (.v (.slice Au0_0 (u0_0.length) cu0_0)),.arr .i64 4 u0_1]),(3,[.one (.v (.slice Au1_0 (u1_0.length) cu1_0)),.one (.v (.slice Au1_1 (u1_1.length) cu1_1))]),(12,[.arr .i64 2 L37])],V := [],M := M4,ds := [] }) [2,3,6,8,10,11,12,26,27,28,70,71] [2,3,12] [] (by kernel_rfl) (by kernel_rfl) ?_
           refine TI_end (by kernel_rfl) ?_
           refine thenQ_n ?_
           refine T_sq (by kernel_rfl) ?_
           refine T_region (id:=15) (by kernel_rfl) ?_
           obtain ⟨x38,e_x38,h⟩ := lt_some h
           obtain ⟨x39,e_x39,h⟩ := lt_some h
           refine TI_segK (i:=0) (j:=5) (s':={ σ := [(2,.lf (.own 2 0)),(3,.lf (.own 3 0)),(6,.lf (.v (.pointer (some ⟨C6b,0,none⟩)))),(8,vi x9),(10,vi x29),(11,vi x33),(26,.lf (.v (.slice Au1_0 (u1_0.length) cu1_0))),(27,vi (u1_0.length : Int)),(28,vi x9),(70,.agg [.arr .i64 4 L27]),(71,vi x29),(84,vi x33),(86,vi x38),(88,vi x39)],H := [(2,[.one (.v (.slice Au0_0 (u0_0.length) cu0_0)),.arr .i64 4 u0_1]),(3,[.one (.v (.slice Au1_0 (u1_0.length) cu1_0)),.one (.v (.slice Au1_1 (u1_1.length) cu1_1))])],V := [],M := M4,ds := [] }) [2,3,6,8,10,11,26,27,28,70,71,84,86,88] [2,3] [] (by subst e_x39 e_x38;kernel_rfl) (by kernel_rfl) ?_
           obtain ⟨v40,c_v40,h⟩ := cl_some h
           refine TI_at (i:=5) (d:=89) (x:=vb v40) (At_call (d:=89) (f:=49) (args:=[rval (vi x33),rval (vi x38),rval (vi x39)]) (x:=vb v40) (by kernel_rfl) (w49 k  c_v40)) (by kernel_rfl) trivial ?_
           refine TI_segK (i:=6) (j:=7) (s':={ σ := [(2,.lf (.own 2 0)),(3,.lf (.own 3 0)),(6,.lf (.v (.pointer (some ⟨C6b,0,none⟩)))),(8,vi x9),(10,vi x29),(11,vi x33),(26,.lf (.v (.slice Au1_0 (u1_0.length) cu1_0))),(27,vi (u1_0.length : Int)),(28,vi x9),(70,.agg [.arr .i64 4 L27]),(71,vi x29),(90,vb (!v40))],H := [(2,[.one (.v (.slice Au0_0 (u0_0.length) cu0_0)),.arr .i64 4 u0_1]),(3,[.one (.v (.slice Au1_0 (u1_0.length) cu1_0)),.one (.v (.slice Au1_1 (u1_1.length) cu1_1))])],V := [],M := M4,ds := [] }) [2,3,6,8,10,11,26,27,28,70,71,90] [2,3] [] (by kernel_rfl) (by kernel_rfl) ?_
           refine TI_end (by kernel_rfl) ?_
           refine thenQ_n ?_
           cases v40 with
           | true =>
            replace h := sp_t h
            refine T_condF (x:=(.tmp 90)) (c1:=(sub [1,1,1,1,0,1,0,0,1,1,0,0,1,1,1,0,0,1,1,0,0,1,0,1,1,0] Bd22)) (c2:=(sub [1,1,1,1,0,1,0,0,1,1,0,0,1,1,1,0,0,1,1,0,0,1,0,1,1,1] Bd22)) (by kernel_rfl) (by kernel_rfl) ?_
            refine T_keepS [(2,.lf (.own 2 0)),(3,.lf (.own 3 0)),(6,.lf (.v (.pointer (some ⟨C6b,0,none⟩)))),(8,vi x9),(10,vi x29),(11,vi x33),(26,.lf (.v (.slice Au1_0 (u1_0.length) cu1_0))),(27,vi (u1_0.length : Int)),(28,vi x9),(70,.agg [.arr .i64 4 L27]),(71,vi x29)] (by kernel_rfl) ?_
            refine T_skip (by kernel_rfl) ?_
            refine thenQ_n ?_
            obtain ⟨j42,e_j42,h⟩ := jn_some h
            refine T_cut (c1:=(sub [1,1,1,1,0,1,0,0,1,1,0,0,1,1,1,0,0,1,1,0,0,1,1,0] Bd22)) (c2:=(sub [1,1,1,1,0,1,0,0,1,1,0,0,1,1,1,0,0,1,1,0,0,1,1,1] Bd22)) (fun s' => ∃ (b41 : Bool),Sub { σ := [(2,.lf (.own 2 0)),(3,.lf (.own 3 0)),(6,.lf (.v (.pointer (some ⟨C6b,0,none⟩)))),(8,vi x9),(26,.lf (.v (.slice Au1_0 (u1_0.length) cu1_0))),(27,vi (u1_0.length : Int)),(28,vi x9),(70,.agg [.arr .i64 4 L27]),(71,vi x29),(123,vb b41)],H := [(2,[.one (.v (.slice Au0_0 (u0_0.length) cu0_0)),.arr .i64 4 u0_1]),(3,[.one (.v (.slice Au1_0 (u1_0.length) cu1_0)),.one (.v (.slice Au1_1 (u1_1.length) cu1_1))])],V := [],M := M4,ds := [] } s' ∧ j42 b41 = some r) (by kernel_rfl) ?_ ?_
            ·obtain ⟨b43,e_b43,h⟩ := lt_some h
             cases b43 with
             | true =>
              replace h := sp_t h
              obtain ⟨x44,e_x44,h⟩ := lt_some h
              obtain ⟨g45,h⟩ := gd_some h
              obtain ⟨g46,h⟩ := gd_some h
              obtain ⟨x47,e_x47,h⟩ := lt_some h
              obtain ⟨g48,h⟩ := gd_some h
              obtain ⟨x49,e_x49,h⟩ := lt_some h
              obtain ⟨x50,e_x50,h⟩ := lt_some h
              obtain ⟨x51,e_x51,h⟩ := lt_some h
              obtain ⟨g52,h⟩ := gd_some h
              obtain ⟨g53,h⟩ := gd_some h
              obtain ⟨x54,e_x54,h⟩ := lt_some h
              obtain ⟨g55,h⟩ := gd_some h
              obtain ⟨x56,e_x56,h⟩ := lt_some h
              obtain ⟨x57,e_x57,h⟩ := lt_some h
              obtain ⟨v58,c_v58,h⟩ := cl_some h
              refine T_draw' (id:=17) [] [0,0,0,0,0,0,0,0,0,0,0,0,0,0,0,0,0,0,0,0,0,0,0,0,0,0,0,0,0,0,0,0,0] (by kernel_rfl) (by kernel_rfl) (by kernel_rfl) (by kernel_rfl) ((91,vi x9)::(92,vb true)::(93,vb true)::(94,vi x33)::(95,.lf (.own 3 1))::(96,.lf (.v (.slice Au1_1 (u1_1.length) cu1_1)))::(97,vi x9)::(98,vi x44)::(99,vi x29)::(100,.lf (.ep (.slice Au1_1 (u1_1.length) cu1_1) 4 ((x44).toNat) 0))::(101,.lf (.ep (.slice Au1_1 (u1_1.length) cu1_1) 4 ((x44).toNat) (0 + (x29).toNat * 1)))::(102,vi x47)::(103,vi x29)::(104,.lf (.own 2 1))::(105,.lf (.oel 2 (1 + (x29).toNat * 1)))::(106,vi x49)::(107,vi x50)::(108,.lf (.own 3 1))::(109,.lf (.v (.slice Au1_1 (u1_1.length) cu1_1)))::(110,vi x9)::(111,vi x51)::(112,vi x29)::(113,.lf (.ep (.slice Au1_1 (u1_1.length) cu1_1) 4 ((x51).toNat) 0))::(114,.lf (.ep (.slice Au1_1 (u1_1.length) cu1_1) 4 ((x51).toNat) (0 + (x29).toNat * 1)))::(115,vi x54)::(116,vi x29)::(117,.lf (.own 2 1))::(118,.lf (.oel 2 (1 + (x29).toNat * 1)))::(119,vi x56)::(120,vi x57)::(121,vb v58)::(122,vb (!v58))::(123,vb (!v58))::[]) (by kernel_rfl) (wfs_lf _ (by kernel_rfl)) ?_
              refine Stage_nil (stage_all' [0,2,3,4,5,6,7,8,12,13,16,17,18,19,20,21,25,26,29,31,32] [1,9,10,11,14,15,22,23,24,27,28,30] (by kernel_rfl) (by subst_vars; kernel_rfl) (by kernel_rfl) ⟨QF_at (i:=1) (d:=92) (x:=vb true) (show OpAt _ _ _ 1 92 _ from by exact At_bin (d:=92) (b:=.gtr) (u:=.int .i64 x9) (v:=.int .i64 (0 : Int)) (w':=.bool true) (by subst_vars; kernel_rfl) (by rw [show exBin .gtr (.int .i64 x9) (.int .i64 (0 : Int)) = some (.bool (decide (x9 > (0 : Int)))) from by kernel_rfl,← e_b43])) (by kernel_rfl) (by subst_vars; kernel_rfl),⟨QF_at (i:=9) (d:=100) (x:=.lf (.ep (.slice Au1_1 (u1_1.length) cu1_1) 4 ((x44).toNat) 0)) (show OpAt _ _ _ 9 100 _ from by exact At_idxR (d:=100) (z:=x44) (by subst_vars; kernel_rfl) g45 (hu1_1.le hM4)) (by kernel_rfl) (by subst_vars; kernel_rfl),⟨QF_at (i:=10) (d:=101) (x:=.lf (.ep (.slice Au1_1 (u1_1.length) cu1_1) 4 ((x44).toNat) (0 + (x29).toNat * 1))) (show OpAt _ _ _ 10 101 _ from by exact At_idxE (d:=101) (z:=x29) (A:=(.slice Au1_1 (u1_1.length) cu1_1)) (sz:=4) (q:=(x44).toNat) (j:=0) (es:=1) (n:=4) (by subst_vars; kernel_rfl) g46) (by kernel_rfl) (by subst_vars; kernel_rfl),⟨QF_at (i:=11) (d:=102) (x:=vi x47) (show OpAt _ _ _ 11 102 _ from by rw [e_x47]; exact At_ldR1' (d:=102) (q:=(x44).toNat) (j:=0 + (x29).toNat * 1) (by subst_vars; kernel_rfl) (by omega) (toNat_lt g45) (hu1_1.le hM4)) (by kernel_rfl) (by subst_vars; kernel_rfl),⟨QF_at (i:=14) (d:=105) (x:=.lf (.oel 2 (1 + (x29).toNat * 1))) (show OpAt _ _ _ 14 105 _ from by exact At_idxO (d:=105) (z:=x29) (b:=2) (off:=1) (sz:=1) (n:=4) (by subst_vars; kernel_rfl) g48) (by kernel_rfl) (by subst_vars; kernel_rfl),⟨QF_at (i:=15) (d:=106) (x:=vi x49) (show OpAt _ _ _ 15 106 _ from by rw [e_x49]; exact At_ldO1 (d:=106) (b:=2) (off:=1 + (x29).toNat * 1) (base:=1) (q:=0 + (x29).toNat * 1) (n:=4) (k:=.i64) (L:=u0_1) (by subst_vars; kernel_rfl) (by subst_vars; kernel_rfl) (by omega) (by omega)) (by kernel_rfl) (by subst_vars; kernel_rfl),⟨QF_at (i:=22) (d:=113) (x:=.lf (.ep (.slice Au1_1 (u1_1.length) cu1_1) 4 ((x51).toNat) 0)) (show OpAt _ _ _ 22 113 _ from by exact At_idxR (d:=113) (z:=x51) (by subst_vars; kernel_rfl) g52 (hu1_1.le hM4)) (by kernel_rfl) (by subst_vars; kernel_rfl),⟨QF_at (i:=23) (d:=114) (x:=.lf (.ep (.slice Au1_1 (u1_1.length) cu1_1) 4 ((x51).toNat) (0 + (x29).toNat * 1))) (show OpAt _ _ _ 23 114 _ from by exact At_idxE (d:=114) (z:=x29) (A:=(.slice Au1_1 (u1_1.length) cu1_1)) (sz:=4) (q:=(x51).toNat) (j:=0) (es:=1) (n:=4) (by subst_vars; kernel_rfl) g53) (by kernel_rfl) (by subst_vars; kernel_rfl),⟨QF_at (i:=24) (d:=115) (x:=vi x54) (show OpAt _ _ _ 24 115 _ from by rw [e_x54]; exact At_ldR1' (d:=115) (q:=(x51).toNat) (j:=0 + (x29).toNat * 1) (by subst_vars; kernel_rfl) (by omega) (toNat_lt g52) (hu1_1.le hM4)) (by kernel_rfl) (by subst_vars; kernel_rfl),⟨QF_at (i:=27) (d:=118) (x:=.lf (.oel 2 (1 + (x29).toNat * 1))) (show OpAt _ _ _ 27 118 _ from by exact At_idxO (d:=118) (z:=x29) (b:=2) (off:=1) (sz:=1) (n:=4) (by subst_vars; kernel_rfl) g55) (by kernel_rfl) (by subst_vars; kernel_rfl),⟨QF_at (i:=28) (d:=119) (x:=vi x56) (show OpAt _ _ _ 28 119 _ from by rw [e_x56]; exact At_ldO1 (d:=119) (b:=2) (off:=1 + (x29).toNat * 1) (base:=1) (q:=0 + (x29).toNat * 1) (n:=4) (k:=.i64) (L:=u0_1) (by subst_vars; kernel_rfl) (by subst_vars; kernel_rfl) (by omega) (by omega)) (by kernel_rfl) (by subst_vars; kernel_rfl),⟨QF_at (i:=30) (d:=121) (x:=vb v58) (show OpAt _ _ _ 30 121 _ from by exact At_call (d:=121) (f:=49) (args:=[rval (vi x33),rval (vi x50),rval (vi x57)]) (x:=vb v58) (by subst_vars; kernel_rfl) (w49 k  c_v58)) (by kernel_rfl) (by subst_vars; kernel_rfl),trivial⟩⟩⟩⟩⟩⟩⟩⟩⟩⟩⟩⟩) ?_
              refine thenQ_n ?_
              exact ⟨(!v58),keep_sub (ts:=[2,3,6,8,26,27,28,70,71,123]) (hs:=[2,3]) (vs:=[]) (by subst_vars;kernel_rfl),h⟩
             | false =>
              replace h := sp_f h
              refine T_draw' (id:=17) [] [0,0,0,0,0,0,0,0,0,0,0,0,0,0,0,0,0,0,0,0,0,0,0,0,0,0,0,0,0,0,0,0,0] (by kernel_rfl) (by kernel_rfl) (by kernel_rfl) (by kernel_rfl) ((91,vi x9)::(92,vb false)::(93,vb false)::(94,.tup [])::(95,.tup [])::(96,.tup [])::(97,.tup [])::(98,.tup [])::(99,.tup [])::(100,.tup [])::(101,.tup [])::(102,.tup [])::(103,.tup [])::(104,.tup [])::(105,.tup [])::(106,.tup [])::(107,.tup [])::(108,.tup [])::(109,.tup [])::(110,.tup [])::(111,.tup [])::(112,.tup [])::(113,.tup [])::(114,.tup [])::(115,.tup [])::(116,.tup [])::(117,.tup [])::(118,.tup [])::(119,.tup [])::(120,.tup [])::(121,.tup [])::(122,.tup [])::(123,vb false)::[]) (by kernel_rfl) ⟨trivial,⟨trivial,⟨trivial,⟨(by intro y hy;cases hy),⟨(by intro y hy;cases hy),⟨(by intro y hy;cases hy),⟨(by intro y hy;cases hy),⟨(by intro y hy;cases hy),⟨(by intro y hy;cases hy),⟨(by intro y hy;cases hy),⟨(by intro y hy;cases hy),⟨(by intro y hy;cases hy),⟨(by intro y hy;cases hy),⟨(by intro y hy;cases hy),⟨(by intro y hy;cases hy),⟨(by intro y hy;cases hy),⟨(by intro y hy;cases hy),⟨(by intro y hy;cases hy),⟨(by intro y hy;cases hy),⟨(by intro y hy;cases hy),⟨(by intro y hy;cases hy),⟨(by intro y hy;cases hy),⟨(by intro y hy;cases hy),⟨(by intro y hy;cases hy),⟨(by intro y hy;cases hy),⟨(by intro y hy;cases hy),⟨(by intro y hy;cases hy),⟨(by intro y hy;cases hy),⟨(by intro y hy;cases hy),⟨(by intro y hy;cases hy),⟨(by intro y hy;cases hy),⟨(by intro y hy;cases hy),⟨trivial,trivial⟩⟩⟩⟩⟩⟩⟩⟩⟩⟩⟩⟩⟩⟩⟩⟩⟩⟩⟩⟩⟩⟩⟩⟩⟩⟩⟩⟩⟩⟩⟩⟩⟩ ?_
              refine Stage_nil (stage_all' [0,2,3,4,5,6,7,8,9,10,11,12,13,14,15,16,17,18,19,20,21,22,23,24,25,26,27,28,29,30,31,32] [1] (by kernel_rfl) (by kernel_rfl) (by kernel_rfl) ⟨QF_at (i:=1) (d:=92) (x:=vb false) (show OpAt _ _ _ 1 92 _ from by exact At_bin (d:=92) (b:=.gtr) (u:=.int .i64 x9) (v:=.int .i64 (0 : Int)) (w':=.bool false) (by kernel_rfl) (by rw [show exBin .gtr (.int .i64 x9) (.int .i64 (0 : Int)) = some (.bool (decide (x9 > (0 : Int)))) from by kernel_rfl,← e_b43])) (by kernel_rfl) (by kernel_rfl),trivial⟩) ?_
              refine thenQ_n ?_
              exact ⟨false,keep_sub (ts:=[2,3,6,8,26,27,28,70,71,123]) (hs:=[2,3]) (vs:=[]) (by kernel_rfl),h⟩
            ·rintro s' ⟨b41,hsub,h⟩
             subst e_j42
             refine T_sub hsub ?_
             cases b41 with
             | true =>
              replace h := sp_t h
              refine T_condT (x:=(.tmp 123)) (c1:=(sub [1,1,1,1,0,1,0,0,1,1,0,0,1,1,1,0,0,1,1,0,0,1,1,1,0] Bd22)) (c2:=(sub [1,1,1,1,0,1,0,0,1,1,0,0,1,1,1,0,0,1,1,0,0,1,1,1,1] Bd22)) (by kernel_rfl) (by kernel_rfl) ?_
              refine T_keep (s':={ σ := [],H := [],V := [],M := M4,ds := [] }) [] [] [] (by kernel_rfl) ?_
              refine T_sq (by kernel_rfl) ?_
              refine T_region (id:=18) (by kernel_rfl) ?_
              refine TI_segS (i:=0) (j:=2) [(4,vb false),(5,vi (0 : Int))] (by kernel_rfl) (by kernel_rfl) ?_
              refine TI_end (by kernel_rfl) ?_
              refine thenQ_n ?_
              refine T_ret (by kernel_rfl) ?_
              refine blockQ_r ?_
              refine thenQ_r ?_
              refine thenQ_r ?_
              refine blockQ_r ?_
              refine thenQ_r ?_
              refine blockQ_r ?_
              refine thenQ_r ?_
              refine thenQ_r ?_
              refine blockQ_r ?_
              refine thenQ_r ?_
              refine thenQ_r ?_
              have h := Option.some.inj h
              subst h
              refine fin_ret (.tup [(some (.v (.bool false)),[]),(some (.v (.int .i64 (0 : Int))),[])]) (by kernel_rfl) (by kernel_rfl) rfl ?_
              rfl
             | false =>
              replace h := sp_f h
              refine T_condF (x:=(.tmp 123)) (c1:=(sub [1,1,1,1,0,1,0,0,1,1,0,0,1,1,1,0,0,1,1,0,0,1,1,1,0] Bd22)) (c2:=(sub [1,1,1,1,0,1,0,0,1,1,0,0,1,1,1,0,0,1,1,0,0,1,1,1,1] Bd22)) (by kernel_rfl) (by kernel_rfl) ?_
              refine T_keep (s':={ σ := [(2,.lf (.own 2 0)),(3,.lf (.own 3 0)),(6,.lf (.v (.pointer (some ⟨C6b,0,none⟩)))),(8,vi x9),(26,.lf (.v (.slice Au1_0 (u1_0.length) cu1_0))),(27,vi (u1_0.length : Int)),(28,vi x9),(70,.agg [.arr .i64 4 L27]),(71,vi x29)],H := [(2,[.one (.v (.slice Au0_0 (u0_0.length) cu0_0)),.arr .i64 4 u0_1]),(3,[.one (.v (.slice Au1_0 (u1_0.length) cu1_0)),.one (.v (.slice Au1_1 (u1_1.length) cu1_1))])],V := [],M := M4,ds := [] }) [2,3,6,8,26,27,28,70,71] [2,3] [] (by kernel_rfl) ?_
              refine T_skip (by kernel_rfl) ?_
              refine blockQ_n ?_
              refine thenQ_n ?_
              refine T_region (id:=19) (by kernel_rfl) ?_
              obtain ⟨x59,e_x59,h⟩ := lt_some h
              refine TI_segS (i:=0) (j:=2) [(2,.lf (.own 2 0)),(3,.lf (.own 3 0)),(6,.lf (.v (.pointer (some ⟨C6b,0,none⟩)))),(8,vi x9),(26,.lf (.v (.slice Au1_0 (u1_0.length) cu1_0))),(27,vi (u1_0.length : Int)),(28,vi x9),(70,.agg [.arr .i64 4 L27]),(71,vi x59)] (by subst e_x59;kernel_rfl) (by kernel_rfl) ?_
              refine TI_end (by kernel_rfl) ?_
              refine thenQ_n ?_
              exact ⟨n30,Nat.lt_succ_self _,x59,keep_sub (ts:=[2,3,6,8,26,27,28,70,71]) (hs:=[2,3]) (vs:=[]) (by kernel_rfl),h⟩
           | false =>
            replace h := sp_f h
            refine T_condT (x:=(.tmp 90)) (c1:=(sub [1,1,1,1,0,1,0,0,1,1,0,0,1,1,1,0,0,1,1,0,0,1,0,1,1,0] Bd22)) (c2:=(sub [1,1,1,1,0,1,0,0,1,1,0,0,1,1,1,0,0,1,1,0,0,1,0,1,1,1] Bd22)) (by kernel_rfl) (by kernel_rfl) ?_
            refine T_keep (s':={ σ := [],H := [],V := [],M := M4,ds := [] }) [] [] [] (by kernel_rfl) ?_
            refine T_sq (by kernel_rfl) ?_
            refine T_region (id:=16) (by kernel_rfl) ?_
            refine TI_segS (i:=0) (j:=2) [(4,vb false),(5,vi (0 : Int))] (by kernel_rfl) (by kernel_rfl) ?_
            refine TI_end (by kernel_rfl) ?_
            refine thenQ_n ?_
            refine T_ret (by kernel_rfl) ?_
            refine thenQ_r ?_
            refine blockQ_r ?_
            refine thenQ_r ?_
            refine thenQ_r ?_
            refine blockQ_r ?_
            refine thenQ_r ?_
            refine blockQ_r ?_
            refine thenQ_r ?_
            refine thenQ_r ?_
            refine blockQ_r ?_
            refine thenQ_r ?_
            refine thenQ_r ?_
            have h := Option.some.inj h
            subst h
            refine fin_ret (.tup [(some (.v (.bool false)),[]),(some (.v (.int .i64 (0 : Int))),[])]) (by kernel_rfl) (by kernel_rfl) rfl ?_
            rfl
          | false =>
           replace h := sp_f h
           refine T_condF (x:=(.tmp 72)) (c1:=(sub [1,1,1,1,0,1,0,0,1,1,0,0,1,1,1,0,0,1,0,0] Bd22)) (c2:=(sub [1,1,1,1,0,1,0,0,1,1,0,0,1,1,1,0,0,1,0,1] Bd22)) (by kernel_rfl) (by kernel_rfl) ?_
           refine T_keepS [(2,.lf (.own 2 0)),(3,.lf (.own 3 0)),(6,.lf (.v (.pointer (some ⟨C6b,0,none⟩)))),(26,.lf (.v (.slice Au1_0 (u1_0.length) cu1_0))),(27,vi (u1_0.length : Int)),(28,vi x9)] (by kernel_rfl) ?_
           refine T_exit (id:=2) (by kernel_rfl) ?_
           refine thenQ_x ?_
           refine thenQ_x ?_
           refine blockQ_x ?_
           refine thenQ_n ?_
           exact ⟨keep_sub (ts:=[2,3,6,26,27,28]) (hs:=[2,3]) (vs:=[]) (by kernel_rfl),h⟩
        ·rintro s' ⟨hsub,h⟩
         subst e_j28
         refine blockQ_n ?_
         refine thenQ_n ?_
         refine T_sub hsub ?_
         refine T_region (id:=20) (by kernel_rfl) ?_
         obtain ⟨x60,e_x60,h⟩ := lt_some h
         refine TI_segK (i:=0) (j:=2) (s':={ σ := [(2,.lf (.own 2 0)),(3,.lf (.own 3 0)),(6,.lf (.v (.pointer (some ⟨C6b,0,none⟩)))),(26,.lf (.v (.slice Au1_0 (u1_0.length) cu1_0))),(27,vi (u1_0.length : Int)),(28,vi x60)],H := [(2,[.one (.v (.slice Au0_0 (u0_0.length) cu0_0)),.arr .i64 4 u0_1]),(3,[.one (.v (.slice Au1_0 (u1_0.length) cu1_0)),.one (.v (.slice Au1_1 (u1_1.length) cu1_1))])],V := [],M := M4,ds := [] }) [2,3,6,26,27,28] [2,3] [] (by subst e_x60;kernel_rfl) (by kernel_rfl) ?_
         refine TI_end (by kernel_rfl) ?_
         refine thenQ_n ?_
         exact ⟨n10,Nat.lt_succ_self _,x60,keep_sub (ts:=[2,3,6,26,27,28]) (hs:=[2,3]) (vs:=[]) (by kernel_rfl),h⟩
     | false =>
      replace h := sp_f h
      refine T_condF (x:=(.tmp 29)) (c1:=(sub [1,1,1,1,0,1,0,0,1,0,0] Bd22)) (c2:=(sub [1,1,1,1,0,1,0,0,1,0,1] Bd22)) (by kernel_rfl) (by kernel_rfl) ?_
      refine T_keep (s':={ σ := [],H := [],V := [],M := M4,ds := [] }) [] [] [] (by kernel_rfl) ?_
      refine T_exit (id:=0) (by kernel_rfl) ?_
      refine thenQ_x ?_
      refine thenQ_x ?_
      refine blockQ_x ?_
      refine thenQ_n ?_
      exact ⟨keep_sub (ts:=[]) (hs:=[]) (vs:=[]) (by kernel_rfl),h⟩
   ·rintro s' ⟨hsub,h⟩
    subst e_j8
    refine thenQ_n ?_
    refine T_sub hsub ?_
    refine T_sq (by kernel_rfl) ?_
    refine T_region (id:=21) (by kernel_rfl) ?_
    refine TI_segK (i:=0) (j:=2) (s':={ σ := [(4,vb true),(5,vi (0 : Int))],H := [],V := [],M := M4,ds := [] }) [4,5] [] [] (by kernel_rfl) (by kernel_rfl) ?_
    refine TI_end (by kernel_rfl) ?_
    refine thenQ_n ?_
    refine T_ret (by kernel_rfl) ?_
    have h := Option.some.inj h
    subst h
    refine fin_ret (.tup [(some (.v (.bool true)),[]),(some (.v (.int .i64 (0 : Int))),[])]) (by kernel_rfl) (by kernel_rfl) rfl ?_
    rfl
  | false =>
   replace h := sp_f h
   refine T_condT (x:=(.tmp 24)) (c1:=(sub [1,1,1,0,1,0] Bd22)) (c2:=(sub [1,1,1,0,1,1] Bd22)) (by kernel_rfl) (by kernel_rfl) ?_
   refine T_keep (s':={ σ := [],H := [],V := [],M := M4,ds := [] }) [] [] [] (by kernel_rfl) ?_
   refine T_sq (by kernel_rfl) ?_
   refine T_region (id:=5) (by kernel_rfl) ?_
   refine TI_segS (i:=0) (j:=2) [(4,vb false),(5,vi (0 : Int))] (by kernel_rfl) (by kernel_rfl) ?_
   refine TI_end (by kernel_rfl) ?_
   refine thenQ_n ?_
   refine T_ret (by kernel_rfl) ?_
   refine thenQ_r ?_
   have h := Option.some.inj h
   subst h
   refine fin_ret (.tup [(some (.v (.bool false)),[]),(some (.v (.int .i64 (0 : Int))),[])]) (by kernel_rfl) (by kernel_rfl) rfl ?_
   rfl
def p14 (k : Nat) (u0_0 : List (List Int)) (u0_1 : List Int) (u1 : List Int) : Option (Int × Int) :=
 cl2 (p43 k u0_0 u0_1 u1) fun v1 v2 => lt' (v2 != (0 : Int)) fun b5 => sp b5 (some ((0 : Int),v2)) (cl v1 fun C6 => cl (p44 k C6.1 C6.2.1 C6.2.2.1 C6.2.2.2.1 C6.2.2.2.2 u1) fun v7 => some (v7,(0 : Int)))
theorem hf14 : Try.prog.funcs[14]? = some Try.f14 := by kernel_rfl
theorem w14 (k : Nat) {M : Mem} {Au0_0 : Option Addr} {cu0_0 : Nat} {u0_0 : List (List Int)} {u0_1 : List Int} {u1 : List Int} (hu0_0 : SlR M Au0_0 cu0_0 .i64 11 u0_0) (hu0_1 : u0_1.length = 4) (hu1 : u1.length = 7) {r} (h : p14 k u0_0 u0_1 u1 = some r) :
  Fn Try.prog 14 [rval (.agg [.one (.v (.slice Au0_0 (u0_0.length) cu0_0)),.arr .i64 4 u0_1]),rval (.agg [.arr .i64 7 u1])] M (fun x _ => x = .tup [(some (.v (.int .i64 r.1)),[]),(some (.v (.int .i64 r.2)),[])]) := by
 unfold p14 at h
 refine Fn_of (P:=Try.prog) (fn:=Try.f14) (c:=bodyOf Try.f14) [.agg [.one (.v (.slice Au0_0 (u0_0.length) cu0_0)),.arr .i64 4 u0_1],.agg [.arr .i64 7 u1]] hf14 (by kernel_rfl) (Nat.le_of_ble_eq_true (by kernel_rfl)) (args_ok (by kernel_rfl) ⟨⟨rfl,⟨hu0_1,trivial⟩⟩,⟨⟨hu1,trivial⟩,trivial⟩⟩) fun w => ?_
 change T _ _ _ (endQ _ _ _)
 refine T_seq (c1:=(sub [0] Bd14)) (c2:=(sub [1] Bd14)) (by kernel_rfl) ?_
 refine T_region (id:=0) (by kernel_rfl) ?_
 refine TI_segK (i:=0) (j:=4) (s':={ σ := [(2,.lf (.own 2 0)),(3,.lf (.own 3 0))],H := [(2,[.one (.v (.slice Au0_0 (u0_0.length) cu0_0)),.arr .i64 4 u0_1]),(3,[.arr .i64 7 u1])],V := [],M := M,ds := [] }) [2,3] [2,3] [] (by kernel_rfl) (by kernel_rfl) ?_
 refine TI_end (by kernel_rfl) ?_
 refine thenQ_n ?_
 refine T_sq (by kernel_rfl) ?_
 refine T_region (id:=1) (by kernel_rfl) ?_
 refine TI_segK (i:=0) (j:=2) (s':={ σ := [(3,.lf (.own 3 0)),(9,.agg [.one (.v (.slice Au0_0 (u0_0.length) cu0_0)),.arr .i64 4 u0_1]),(10,.agg [.arr .i64 7 u1])],H := [(3,[.arr .i64 7 u1])],V := [],M := M,ds := [] }) [3,9,10] [3] [] (by kernel_rfl) (by kernel_rfl) ?_
 obtain ⟨v1,v2,c_v1,h⟩ := cl2_some h
 refine TI_of (i:=2) (by kernel_rfl) (TE_callR (d:=11) (f:=43) (args:=[rval (.agg [.one (.v (.slice Au0_0 (u0_0.length) cu0_0)),.arr .i64 4 u0_1]),rval (.agg [.arr .i64 7 u1])]) (by kernel_rfl) (by kernel_rfl) (w43 k hu0_0 hu0_1 hu1 c_v1) ?_)
 rintro _ M4 _ hM4 _ ⟨q3,rfl,fq3⟩
 refine TI_segK (i:=3) (j:=8) (s':={ σ := [(3,.lf (.own 3 0)),(6,.lf (.v q3)),(7,vi v2)],H := [(3,[.arr .i64 7 u1])],V := [],M := M4,ds := [] }) [3,6,7] [3] [] (by kernel_rfl) (by kernel_rfl) ?_
 refine TI_end (by kernel_rfl) ?_
 refine thenQ_n ?_
 refine T_sq (by kernel_rfl) ?_
 refine T_sq (by kernel_rfl) ?_
 refine T_region (id:=2) (by kernel_rfl) ?_
 obtain ⟨b5,e_b5,h⟩ := lt_some h
 refine TI_segS (i:=0) (j:=2) [(3,.lf (.own 3 0)),(6,.lf (.v q3)),(7,vi v2),(15,vb b5)] (by subst e_b5;kernel_rfl) (by kernel_rfl) ?_
 refine TI_end (by kernel_rfl) ?_
 refine thenQ_n ?_
 cases b5 with
 | true =>
  replace h := sp_t h
  refine T_condT (x:=(.tmp 15)) (c1:=(sub [1,1,0,1,0] Bd14)) (c2:=(sub [1,1,0,1,1] Bd14)) (by kernel_rfl) (by kernel_rfl) ?_
  refine T_keep (s':={ σ := [(7,vi v2)],H := [],V := [],M := M4,ds := [] }) [7] [] [] (by kernel_rfl) ?_
  refine T_sq (by kernel_rfl) ?_
  refine T_region (id:=3) (by kernel_rfl) ?_
  refine TI_segS (i:=0) (j:=3) [(4,vi (0 : Int)),(5,vi v2)] (by kernel_rfl) (by kernel_rfl) ?_
  refine TI_end (by kernel_rfl) ?_
  refine thenQ_n ?_
  refine T_ret (by kernel_rfl) ?_
  refine thenQ_r ?_
  have h := Option.some.inj h
  subst h
  refine fin_ret (.tup [(some (.v (.int .i64 (0 : Int))),[]),(some (.v (.int .i64 v2)),[])]) (by kernel_rfl) (by kernel_rfl) rfl ?_
  rfl
 | false =>
  replace h := sp_f h
  refine T_condF (x:=(.tmp 15)) (c1:=(sub [1,1,0,1,0] Bd14)) (c2:=(sub [1,1,0,1,1] Bd14)) (by kernel_rfl) (by kernel_rfl) ?_
  refine T_keepS [(3,.lf (.own 3 0)),(6,.lf (.v q3))] (by kernel_rfl) ?_
  refine T_skip (by kernel_rfl) ?_
  refine thenQ_n ?_
  obtain ⟨C6,e_C6,h⟩ := cl_some h
  have hC6 := fq3
  rw [e_C6] at hC6
  obtain ⟨C6b,C6A,C6c,C6AP,C6cP,C6AV,C6cV,rfl,hC6⟩ := hC6
  refine T_sq (by kernel_rfl) ?_
  refine T_region (id:=4) (by kernel_rfl) ?_
  refine TI_segK (i:=0) (j:=2) (s':={ σ := [(17,.lf (.v (.pointer (some ⟨C6b,0,none⟩)))),(18,.agg [.arr .i64 7 u1])],H := [],V := [],M := M4,ds := [] }) [17,18] [] [] (by kernel_rfl) (by kernel_rfl) ?_
  obtain ⟨v7,c_v7,h⟩ := cl_some h
  refine TI_at (i:=2) (d:=19) (x:=vi v7) (At_call (d:=19) (f:=44) (args:=[rval (.lf (.v (.pointer (some ⟨C6b,0,none⟩)))),rval (.agg [.arr .i64 7 u1])]) (x:=vi v7) (by kernel_rfl) (w44 k hC6 hu1 c_v7)) (by kernel_rfl) trivial ?_
  refine TI_segK (i:=3) (j:=5) (s':={ σ := [(4,vi v7),(5,vi (0 : Int))],H := [],V := [],M := M4,ds := [] }) [4,5] [] [] (by kernel_rfl) (by kernel_rfl) ?_
  refine TI_end (by kernel_rfl) ?_
  refine thenQ_n ?_
  refine T_ret (by kernel_rfl) ?_
  have h := Option.some.inj h
  subst h
  refine fin_ret (.tup [(some (.v (.int .i64 v7)),[]),(some (.v (.int .i64 (0 : Int))),[])]) (by kernel_rfl) (by kernel_rfl) rfl ?_
  rfl
def p26_l1 (k : Nat) (u2 : List Int) (j12 : Option Int) (v8 : List Int) : Nat → Int → Int → Option Int
 | 0,_,_ => none
 | n15 + 1,x13,x14 => lt' (decide (x14 < (u2.length : Int))) fun b16 => sp b16 (gd ((0 : Int) ≤ x14 ∧ x14 < (u2.length : Int)) <| lt' (List.getD u2 ((x14).toNat) 0) fun x18 => cl2 (p57 k v8 x18) fun v19 v20 => jn (fun (b21 : Bool) => sp b21 (some (16 : Int)) (lt' (wr .i64 (x14 + (1 : Int))) fun x24 => p26_l1 k u2 j12 v8 n15 x18 x24)) fun j22 => sp v20 (lt' (decide (x18 ≤ x13)) fun b23 => j22 b23) (j22 true)) (j12)
def p26 (k : Nat) (u0_0 : List (List Int)) (u0_1 : List Int) (u1 : List Int) (u2 : List Int) : Option Int :=
 cl2 (p43 k u0_0 u0_1 u1) fun v1 v2 => lt' (v2 != (0 : Int)) fun b5 => sp b5 (some v2) (lt' (decide ((u2.length : Int) > (2000 : Int))) fun b6 => sp b6 (some (6 : Int)) (cl v1 fun C7 => cl (p56 k C7.1 C7.2.1 C7.2.2.1 C7.2.2.2.1 C7.2.2.2.2 u1) fun v8 => jn (cl (p58 k C7.1 C7.2.1 C7.2.2.1 C7.2.2.2.1 C7.2.2.2.2 u1 u2) fun v25 => lt' (decide (v25 ≥ (0 : Int))) fun b26 => sp b26 (some (16 : Int)) (some (0 : Int))) fun j12 => p26_l1 k u2 j12 v8 k (-1 : Int) (0 : Int)))
theorem hf26 : Try.prog.funcs[26]? = some Try.f26 := by kernel_rfl
theorem w26 (k : Nat) {M : Mem} {Au0_0 : Option Addr} {cu0_0 : Nat} {Au2 : Option Addr} {cu2 : Nat} {u0_0 : List (List Int)} {u0_1 : List Int} {u1 : List Int} {u2 : List Int} (hu0_0 : SlR M Au0_0 cu0_0 .i64 11 u0_0) (hu0_1 : u0_1.length = 4) (hu1 : u1.length = 7) (hu2 : SlI M Au2 cu2 .i64 u2) {r} (h : p26 k u0_0 u0_1 u1 u2 = some r) :
  Fn Try.prog 26 [rval (.agg [.one (.v (.slice Au0_0 (u0_0.length) cu0_0)),.arr .i64 4 u0_1]),rval (.agg [.arr .i64 7 u1]),rval (.lf (.v (.slice Au2 (u2.length) cu2)))] M (fun x _ => x = vi r) := by
 unfold p26 at h
 refine Fn_of (P:=Try.prog) (fn:=Try.f26) (c:=bodyOf Try.f26) [.agg [.one (.v (.slice Au0_0 (u0_0.length) cu0_0)),.arr .i64 4 u0_1],.agg [.arr .i64 7 u1],.lf (.v (.slice Au2 (u2.length) cu2))] hf26 (by kernel_rfl) (Nat.le_of_ble_eq_true (by kernel_rfl)) (args_ok (by kernel_rfl) ⟨⟨rfl,⟨hu0_1,trivial⟩⟩,⟨⟨hu1,trivial⟩,⟨trivial,trivial⟩⟩⟩) fun w => ?_
 change T _ _ _ (endQ _ _ _)
 refine T_seq (c1:=(sub [0] Bd26)) (c2:=(sub [1] Bd26)) (by kernel_rfl) ?_
 refine T_region (id:=0) (by kernel_rfl) ?_
 refine TI_segK (i:=0) (j:=3) (s':={ σ := [(2,.lf (.v (.slice Au2 (u2.length) cu2))),(3,.lf (.own 3 0)),(4,.lf (.own 4 0))],H := [(3,[.one (.v (.slice Au0_0 (u0_0.length) cu0_0)),.arr .i64 4 u0_1]),(4,[.arr .i64 7 u1])],V := [],M := M,ds := [] }) [2,3,4] [3,4] [] (by kernel_rfl) (by kernel_rfl) ?_
 refine TI_end (by kernel_rfl) ?_
 refine thenQ_n ?_
 refine T_sq (by kernel_rfl) ?_
 refine T_region (id:=1) (by kernel_rfl) ?_
 refine TI_segK (i:=0) (j:=2) (s':={ σ := [(2,.lf (.v (.slice Au2 (u2.length) cu2))),(4,.lf (.own 4 0)),(16,.agg [.one (.v (.slice Au0_0 (u0_0.length) cu0_0)),.arr .i64 4 u0_1]),(17,.agg [.arr .i64 7 u1])],H := [(4,[.arr .i64 7 u1])],V := [],M := M,ds := [] }) [2,4,16,17] [4] [] (by kernel_rfl) (by kernel_rfl) ?_
 obtain ⟨v1,v2,c_v1,h⟩ := cl2_some h
 refine TI_of (i:=2) (by kernel_rfl) (TE_callR (d:=18) (f:=43) (args:=[rval (.agg [.one (.v (.slice Au0_0 (u0_0.length) cu0_0)),.arr .i64 4 u0_1]),rval (.agg [.arr .i64 7 u1])]) (by kernel_rfl) (by kernel_rfl) (w43 k hu0_0 hu0_1 hu1 c_v1) ?_)
 rintro _ M4 _ hM4 _ ⟨q3,rfl,fq3⟩
 refine TI_segK (i:=3) (j:=8) (s':={ σ := [(2,.lf (.v (.slice Au2 (u2.length) cu2))),(4,.lf (.own 4 0)),(7,.lf (.v q3)),(8,vi v2)],H := [(4,[.arr .i64 7 u1])],V := [],M := M4,ds := [] }) [2,4,7,8] [4] [] (by kernel_rfl) (by kernel_rfl) ?_
 refine TI_end (by kernel_rfl) ?_
 refine thenQ_n ?_
 refine T_sq (by kernel_rfl) ?_
 refine T_sq (by kernel_rfl) ?_
 refine T_region (id:=2) (by kernel_rfl) ?_
 obtain ⟨b5,e_b5,h⟩ := lt_some h
 refine TI_segS (i:=0) (j:=2) [(2,.lf (.v (.slice Au2 (u2.length) cu2))),(4,.lf (.own 4 0)),(7,.lf (.v q3)),(8,vi v2),(22,vb b5)] (by subst e_b5;kernel_rfl) (by kernel_rfl) ?_
 refine TI_end (by kernel_rfl) ?_
 refine thenQ_n ?_
 cases b5 with
 | true =>
  replace h := sp_t h
  refine T_condT (x:=(.tmp 22)) (c1:=(sub [1,1,0,1,0] Bd26)) (c2:=(sub [1,1,0,1,1] Bd26)) (by kernel_rfl) (by kernel_rfl) ?_
  refine T_keep (s':={ σ := [(8,vi v2)],H := [],V := [],M := M4,ds := [] }) [8] [] [] (by kernel_rfl) ?_
  refine T_sq (by kernel_rfl) ?_
  refine T_region (id:=3) (by kernel_rfl) ?_
  refine TI_segS (i:=0) (j:=2) [(6,vi v2)] (by kernel_rfl) (by kernel_rfl) ?_
  refine TI_end (by kernel_rfl) ?_
  refine thenQ_n ?_
  refine T_ret (by kernel_rfl) ?_
  refine thenQ_r ?_
  have h := Option.some.inj h
  subst h
  refine fin_ret (vi v2) (by kernel_rfl) (by kernel_rfl) rfl ?_
  rfl
 | false =>
  replace h := sp_f h
  refine T_condF (x:=(.tmp 22)) (c1:=(sub [1,1,0,1,0] Bd26)) (c2:=(sub [1,1,0,1,1] Bd26)) (by kernel_rfl) (by kernel_rfl) ?_
  refine T_keepS [(2,.lf (.v (.slice Au2 (u2.length) cu2))),(4,.lf (.own 4 0)),(7,.lf (.v q3))] (by kernel_rfl) ?_
  refine T_skip (by kernel_rfl) ?_
  refine thenQ_n ?_
  refine T_sq (by kernel_rfl) ?_
  refine T_sq (by kernel_rfl) ?_
  refine T_region (id:=4) (by kernel_rfl) ?_
  obtain ⟨b6,e_b6,h⟩ := lt_some h
  refine TI_segS (i:=0) (j:=3) [(2,.lf (.v (.slice Au2 (u2.length) cu2))),(4,.lf (.own 4 0)),(7,.lf (.v q3)),(26,vb b6)] (by subst e_b6;kernel_rfl) (by kernel_rfl) ?_
  refine TI_end (by kernel_rfl) ?_
  refine thenQ_n ?_
  cases b6 with
  | true =>
   replace h := sp_t h
   refine T_condT (x:=(.tmp 26)) (c1:=(sub [1,1,1,0,1,0] Bd26)) (c2:=(sub [1,1,1,0,1,1] Bd26)) (by kernel_rfl) (by kernel_rfl) ?_
   refine T_keep (s':={ σ := [],H := [],V := [],M := M4,ds := [] }) [] [] [] (by kernel_rfl) ?_
   refine T_sq (by kernel_rfl) ?_
   refine T_region (id:=5) (by kernel_rfl) ?_
   refine TI_segS (i:=0) (j:=1) [(6,vi (6 : Int))] (by kernel_rfl) (by kernel_rfl) ?_
   refine TI_end (by kernel_rfl) ?_
   refine thenQ_n ?_
   refine T_ret (by kernel_rfl) ?_
   refine thenQ_r ?_
   have h := Option.some.inj h
   subst h
   refine fin_ret (vi (6 : Int)) (by kernel_rfl) (by kernel_rfl) rfl ?_
   rfl
  | false =>
   replace h := sp_f h
   refine T_condF (x:=(.tmp 26)) (c1:=(sub [1,1,1,0,1,0] Bd26)) (c2:=(sub [1,1,1,0,1,1] Bd26)) (by kernel_rfl) (by kernel_rfl) ?_
   refine T_keepS [(2,.lf (.v (.slice Au2 (u2.length) cu2))),(4,.lf (.own 4 0)),(7,.lf (.v q3))] (by kernel_rfl) ?_
   refine T_skip (by kernel_rfl) ?_
   refine thenQ_n ?_
   obtain ⟨C7,e_C7,h⟩ := cl_some h
   have hC7 := fq3
   rw [e_C7] at hC7
   obtain ⟨C7b,C7A,C7c,C7AP,C7cP,C7AV,C7cV,rfl,hC7⟩ := hC7
   refine T_sq (by kernel_rfl) ?_
   refine T_region (id:=6) (by kernel_rfl) ?_
   refine TI_segK (i:=0) (j:=2) (s':={ σ := [(2,.lf (.v (.slice Au2 (u2.length) cu2))),(4,.lf (.own 4 0)),(7,.lf (.v (.pointer (some ⟨C7b,0,none⟩)))),(27,.lf (.v (.pointer (some ⟨C7b,0,none⟩)))),(28,.agg [.arr .i64 7 u1])],H := [(4,[.arr .i64 7 u1])],V := [],M := M4,ds := [] }) [2,4,7,27,28] [4] [] (by kernel_rfl) (by kernel_rfl) ?_
   obtain ⟨v8,c_v8,h⟩ := cl_some h
   refine TI_of (i:=2) (by kernel_rfl) (TE_callR (d:=29) (f:=56) (args:=[rval (.lf (.v (.pointer (some ⟨C7b,0,none⟩)))),rval (.agg [.arr .i64 7 u1])]) (by kernel_rfl) (by kernel_rfl) (w56 k hC7 hu1 c_v8) ?_)
   rintro _ M11 _ hM11 _ ⟨A9,c10,rfl,fA9⟩
   refine TI_segK (i:=3) (j:=4) (s':={ σ := [(2,.lf (.v (.slice Au2 (u2.length) cu2))),(4,.lf (.own 4 0)),(7,.lf (.v (.pointer (some ⟨C7b,0,none⟩)))),(9,.lf (.v (.slice A9 (v8.length) c10)))],H := [(4,[.arr .i64 7 u1])],V := [],M := M11,ds := [] }) [2,4,7,9] [4] [] (by kernel_rfl) (by kernel_rfl) ?_
   refine TI_end (by kernel_rfl) ?_
   refine thenQ_n ?_
   refine T_sq (by kernel_rfl) ?_
   refine T_region (id:=7) (by kernel_rfl) ?_
   refine TI_segS (i:=0) (j:=1) [(2,.lf (.v (.slice Au2 (u2.length) cu2))),(4,.lf (.own 4 0)),(7,.lf (.v (.pointer (some ⟨C7b,0,none⟩)))),(9,.lf (.v (.slice A9 (v8.length) c10))),(10,vi (-1 : Int))] (by kernel_rfl) (by kernel_rfl) ?_
   refine TI_end (by kernel_rfl) ?_
   refine thenQ_n ?_
   refine T_sq (by kernel_rfl) ?_
   refine T_sq (by kernel_rfl) ?_
   refine T_region (id:=8) (by kernel_rfl) ?_
   refine TI_segS (i:=0) (j:=3) [(2,.lf (.v (.slice Au2 (u2.length) cu2))),(4,.lf (.own 4 0)),(7,.lf (.v (.pointer (some ⟨C7b,0,none⟩)))),(9,.lf (.v (.slice A9 (v8.length) c10))),(10,vi (-1 : Int)),(30,.lf (.v (.slice Au2 (u2.length) cu2))),(31,vi (u2.length : Int)),(32,vi (0 : Int))] (by kernel_rfl) (by kernel_rfl) ?_
   refine TI_end (by kernel_rfl) ?_
   refine thenQ_n ?_
   obtain ⟨j12,e_j12,h⟩ := jn_some h
   refine T_bcut (id:=0) (c1:=(sub [1,1,1,1,1,1,0,1,0] Bd26)) (fun s' => Sub { σ := [(2,.lf (.v (.slice Au2 (u2.length) cu2))),(4,.lf (.own 4 0)),(7,.lf (.v (.pointer (some ⟨C7b,0,none⟩))))],H := [(4,[.arr .i64 7 u1])],V := [],M := M11,ds := [] } s' ∧ j12 = some r) (by kernel_rfl) ?_ ?_
   ·refine T_loop (c1:=(sub [1,1,1,1,1,1,0,1,0,0] Bd26)) (by kernel_rfl) (fun n15 s' => ∃ (x13 : Int) (x14 : Int),Sub { σ := [(2,.lf (.v (.slice Au2 (u2.length) cu2))),(4,.lf (.own 4 0)),(7,.lf (.v (.pointer (some ⟨C7b,0,none⟩)))),(9,.lf (.v (.slice A9 (v8.length) c10))),(10,vi x13),(30,.lf (.v (.slice Au2 (u2.length) cu2))),(31,vi (u2.length : Int)),(32,vi x14)],H := [(4,[.arr .i64 7 u1])],V := [],M := M11,ds := [] } s' ∧ p26_l1 k u2 j12 v8 n15 x13 x14 = some r) (k:=k) ⟨(-1 : Int),(0 : Int),keep_sub (ts:=[2,4,7,9,10,30,31,32]) (hs:=[4]) (vs:=[]) (by kernel_rfl),h⟩ ?_
    rintro n15 s' ⟨x13,x14,hsub,h⟩
    cases n15 with
    | zero => rw [p26_l1] at h;cases h
    | succ n15 =>
     rw [p26_l1] at h
     refine T_sub hsub ?_
     refine T_sq (by kernel_rfl) ?_
     refine T_region (id:=9) (by kernel_rfl) ?_
     obtain ⟨b16,e_b16,h⟩ := lt_some h
     refine TI_segK (i:=0) (j:=1) (s':={ σ := [(2,.lf (.v (.slice Au2 (u2.length) cu2))),(4,.lf (.own 4 0)),(7,.lf (.v (.pointer (some ⟨C7b,0,none⟩)))),(9,.lf (.v (.slice A9 (v8.length) c10))),(10,vi x13),(30,.lf (.v (.slice Au2 (u2.length) cu2))),(31,vi (u2.length : Int)),(32,vi x14),(33,vb b16)],H := [(4,[.arr .i64 7 u1])],V := [],M := M11,ds := [] }) [2,4,7,9,10,30,31,32,33] [4] [] (by subst e_b16;kernel_rfl) (by kernel_rfl) ?_
     refine TI_end (by kernel_rfl) ?_
     refine thenQ_n ?_
     refine T_sq (by kernel_rfl) ?_
     cases b16 with
     | true =>
      replace h := sp_t h
      refine T_condT (x:=(.tmp 33)) (c1:=(sub [1,1,1,1,1,1,0,1,0,0,1,0,0] Bd26)) (c2:=(sub [1,1,1,1,1,1,0,1,0,0,1,0,1] Bd26)) (by kernel_rfl) (by kernel_rfl) ?_
      refine T_keepS [(2,.lf (.v (.slice Au2 (u2.length) cu2))),(4,.lf (.own 4 0)),(7,.lf (.v (.pointer (some ⟨C7b,0,none⟩)))),(9,.lf (.v (.slice A9 (v8.length) c10))),(10,vi x13),(30,.lf (.v (.slice Au2 (u2.length) cu2))),(31,vi (u2.length : Int)),(32,vi x14)] (by kernel_rfl) ?_
      refine T_skip (by kernel_rfl) ?_
      refine thenQ_n ?_
      refine T_sq (by kernel_rfl) ?_
      refine T_block (id:=1) (c1:=(sub [1,1,1,1,1,1,0,1,0,0,1,1,0,0] Bd26)) (by kernel_rfl) ?_
      refine T_sq (by kernel_rfl) ?_
      refine T_region (id:=10) (by kernel_rfl) ?_
      obtain ⟨g17,h⟩ := gd_some h
      refine TI_at (i:=0) (d:=34) (x:=.lf (.ep (.slice Au2 (u2.length) cu2) 1 ((x14).toNat) 0)) (by exact At_idxI (d:=34) (z:=x14) (by kernel_rfl) g17 ((hu2.le hM4).le hM11)) (by kernel_rfl) trivial ?_
      obtain ⟨x18,e_x18,h⟩ := lt_some h
      refine TI_at (i:=1) (d:=35) (x:=vi x18) (by rw [e_x18]; exact At_ldI (d:=35) (q:=(x14).toNat) (by subst e_x18; kernel_rfl) (toNat_lt g17) ((hu2.le hM4).le hM11)) (by kernel_rfl) trivial ?_
      refine TI_segK (i:=2) (j:=3) (s':={ σ := [(2,.lf (.v (.slice Au2 (u2.length) cu2))),(4,.lf (.own 4 0)),(7,.lf (.v (.pointer (some ⟨C7b,0,none⟩)))),(9,.lf (.v (.slice A9 (v8.length) c10))),(10,vi x13),(12,vi x18),(30,.lf (.v (.slice Au2 (u2.length) cu2))),(31,vi (u2.length : Int)),(32,vi x14)],H := [(4,[.arr .i64 7 u1])],V := [],M := M11,ds := [] }) [2,4,7,9,10,12,30,31,32] [4] [] (by kernel_rfl) (by kernel_rfl) ?_
      refine TI_end (by kernel_rfl) ?_
      refine thenQ_n ?_
      refine T_sq (by kernel_rfl) ?_
      refine T_sq (by kernel_rfl) ?_
      refine T_region (id:=11) (by kernel_rfl) ?_
      refine TI_segS (i:=0) (j:=2) [(2,.lf (.v (.slice Au2 (u2.length) cu2))),(4,.lf (.own 4 0)),(7,.lf (.v (.pointer (some ⟨C7b,0,none⟩)))),(9,.lf (.v (.slice A9 (v8.length) c10))),(10,vi x13),(12,vi x18),(30,.lf (.v (.slice Au2 (u2.length) cu2))),(31,vi (u2.length : Int)),(32,vi x14),(37,.lf (.v (.slice A9 (v8.length) c10))),(38,vi x18)] (by kernel_rfl) (by kernel_rfl) ?_
      obtain ⟨v19,v20,c_v19,h⟩ := cl2_some h
      refine TI_at (i:=2) (d:=39) (x:=.tup [(some (.v (.int .i64 v19)),[]),(some (.v (.bool v20)),[])]) (At_call (d:=39) (f:=57) (args:=[rval (.lf (.v (.slice A9 (v8.length) c10))),rval (vi x18)]) (x:=.tup [(some (.v (.int .i64 v19)),[]),(some (.v (.bool v20)),[])]) (by kernel_rfl) (w57 k fA9 c_v19)) (by kernel_rfl) (by intro y hy; simp only [List.mem_cons,List.mem_nil_iff,or_false] at hy; rcases hy with rfl | rfl <;> exact trivial) ?_
      refine TI_segK (i:=3) (j:=8) (s':={ σ := [(2,.lf (.v (.slice Au2 (u2.length) cu2))),(4,.lf (.own 4 0)),(7,.lf (.v (.pointer (some ⟨C7b,0,none⟩)))),(9,.lf (.v (.slice A9 (v8.length) c10))),(10,vi x13),(12,vi x18),(14,vb v20),(30,.lf (.v (.slice Au2 (u2.length) cu2))),(31,vi (u2.length : Int)),(32,vi x14)],H := [(4,[.arr .i64 7 u1])],V := [],M := M11,ds := [] }) [2,4,7,9,10,12,14,30,31,32] [4] [] (by kernel_rfl) (by kernel_rfl) ?_
      refine TI_end (by kernel_rfl) ?_
      refine thenQ_n ?_
      obtain ⟨j22,e_j22,h⟩ := jn_some h
      refine T_cut (c1:=(sub [1,1,1,1,1,1,0,1,0,0,1,1,0,0,1,0,1,0] Bd26)) (c2:=(sub [1,1,1,1,1,1,0,1,0,0,1,1,0,0,1,0,1,1] Bd26)) (fun s' => ∃ (b21 : Bool),Sub { σ := [(2,.lf (.v (.slice Au2 (u2.length) cu2))),(4,.lf (.own 4 0)),(7,.lf (.v (.pointer (some ⟨C7b,0,none⟩)))),(9,.lf (.v (.slice A9 (v8.length) c10))),(12,vi x18),(30,.lf (.v (.slice Au2 (u2.length) cu2))),(31,vi (u2.length : Int)),(32,vi x14),(48,vb b21)],H := [(4,[.arr .i64 7 u1])],V := [],M := M11,ds := [] } s' ∧ j22 b21 = some r) (by kernel_rfl) ?_ ?_
      ·refine T_region (id:=12) (by kernel_rfl) ?_
       refine TI_segK (i:=0) (j:=3) (s':={ σ := [(2,.lf (.v (.slice Au2 (u2.length) cu2))),(4,.lf (.own 4 0)),(7,.lf (.v (.pointer (some ⟨C7b,0,none⟩)))),(9,.lf (.v (.slice A9 (v8.length) c10))),(10,vi x13),(12,vi x18),(30,.lf (.v (.slice Au2 (u2.length) cu2))),(31,vi (u2.length : Int)),(32,vi x14),(44,vb (!v20))],H := [(4,[.arr .i64 7 u1])],V := [],M := M11,ds := [] }) [2,4,7,9,10,12,30,31,32,44] [4] [] (by kernel_rfl) (by kernel_rfl) ?_
       cases v20 with
       | true =>
        replace h := sp_t h
        obtain ⟨b23,e_b23,h⟩ := lt_some h
        refine TI_segS (i:=3) (j:=7) [(2,.lf (.v (.slice Au2 (u2.length) cu2))),(4,.lf (.own 4 0)),(7,.lf (.v (.pointer (some ⟨C7b,0,none⟩)))),(9,.lf (.v (.slice A9 (v8.length) c10))),(12,vi x18),(30,.lf (.v (.slice Au2 (u2.length) cu2))),(31,vi (u2.length : Int)),(32,vi x14),(48,vb b23)] (by subst e_b23;kernel_rfl) (by kernel_rfl) ?_
        refine TI_end (by kernel_rfl) ?_
        refine thenQ_n ?_
        exact ⟨b23,keep_sub (ts:=[2,4,7,9,12,30,31,32,48]) (hs:=[4]) (vs:=[]) (by kernel_rfl),h⟩
       | false =>
        replace h := sp_f h
        refine TI_segS (i:=3) (j:=7) [(2,.lf (.v (.slice Au2 (u2.length) cu2))),(4,.lf (.own 4 0)),(7,.lf (.v (.pointer (some ⟨C7b,0,none⟩)))),(9,.lf (.v (.slice A9 (v8.length) c10))),(12,vi x18),(30,.lf (.v (.slice Au2 (u2.length) cu2))),(31,vi (u2.length : Int)),(32,vi x14),(48,vb true)] (by kernel_rfl) (by kernel_rfl) ?_
        refine TI_end (by kernel_rfl) ?_
        refine thenQ_n ?_
        exact ⟨true,keep_sub (ts:=[2,4,7,9,12,30,31,32,48]) (hs:=[4]) (vs:=[]) (by kernel_rfl),h⟩
      ·rintro s' ⟨b21,hsub,h⟩
       subst e_j22
       refine T_sub hsub ?_
       cases b21 with
       | true =>
        replace h := sp_t h
        refine T_condT (x:=(.tmp 48)) (c1:=(sub [1,1,1,1,1,1,0,1,0,0,1,1,0,0,1,0,1,1,0] Bd26)) (c2:=(sub [1,1,1,1,1,1,0,1,0,0,1,1,0,0,1,0,1,1,1] Bd26)) (by kernel_rfl) (by kernel_rfl) ?_
        refine T_keep (s':={ σ := [],H := [],V := [],M := M11,ds := [] }) [] [] [] (by kernel_rfl) ?_
        refine T_sq (by kernel_rfl) ?_
        refine T_region (id:=13) (by kernel_rfl) ?_
        refine TI_segS (i:=0) (j:=1) [(6,vi (16 : Int))] (by kernel_rfl) (by kernel_rfl) ?_
        refine TI_end (by kernel_rfl) ?_
        refine thenQ_n ?_
        refine T_ret (by kernel_rfl) ?_
        refine thenQ_r ?_
        refine blockQ_r ?_
        refine thenQ_r ?_
        refine thenQ_r ?_
        refine blockQ_r ?_
        refine thenQ_r ?_
        refine thenQ_r ?_
        have h := Option.some.inj h
        subst h
        refine fin_ret (vi (16 : Int)) (by kernel_rfl) (by kernel_rfl) rfl ?_
        rfl
       | false =>
        replace h := sp_f h
        refine T_condF (x:=(.tmp 48)) (c1:=(sub [1,1,1,1,1,1,0,1,0,0,1,1,0,0,1,0,1,1,0] Bd26)) (c2:=(sub [1,1,1,1,1,1,0,1,0,0,1,1,0,0,1,0,1,1,1] Bd26)) (by kernel_rfl) (by kernel_rfl) ?_
        refine T_keep (s':={ σ := [(2,.lf (.v (.slice Au2 (u2.length) cu2))),(4,.lf (.own 4 0)),(7,.lf (.v (.pointer (some ⟨C7b,0,none⟩)))),(9,.lf (.v (.slice A9 (v8.length) c10))),(12,vi x18),(30,.lf (.v (.slice Au2 (u2.length) cu2))),(31,vi (u2.length : Int)),(32,vi x14)],H := [(4,[.arr .i64 7 u1])],V := [],M := M11,ds := [] }) [2,4,7,9,12,30,31,32] [4] [] (by kernel_rfl) ?_
        refine T_skip (by kernel_rfl) ?_
        refine thenQ_n ?_
        refine T_region (id:=14) (by kernel_rfl) ?_
        refine TI_segS (i:=0) (j:=2) [(2,.lf (.v (.slice Au2 (u2.length) cu2))),(4,.lf (.own 4 0)),(7,.lf (.v (.pointer (some ⟨C7b,0,none⟩)))),(9,.lf (.v (.slice A9 (v8.length) c10))),(10,vi x18),(30,.lf (.v (.slice Au2 (u2.length) cu2))),(31,vi (u2.length : Int)),(32,vi x14)] (by kernel_rfl) (by kernel_rfl) ?_
        refine TI_end (by kernel_rfl) ?_
        refine blockQ_n ?_
        refine thenQ_n ?_
        refine T_region (id:=15) (by kernel_rfl) ?_
        obtain ⟨x24,e_x24,h⟩ := lt_some h
        refine TI_segS (i:=0) (j:=2) [(2,.lf (.v (.slice Au2 (u2.length) cu2))),(4,.lf (.own 4 0)),(7,.lf (.v (.pointer (some ⟨C7b,0,none⟩)))),(9,.lf (.v (.slice A9 (v8.length) c10))),(10,vi x18),(30,.lf (.v (.slice Au2 (u2.length) cu2))),(31,vi (u2.length : Int)),(32,vi x24)] (by subst e_x24;kernel_rfl) (by kernel_rfl) ?_
        refine TI_end (by kernel_rfl) ?_
        refine thenQ_n ?_
        exact ⟨n15,Nat.lt_succ_self _,x18,x24,keep_sub (ts:=[2,4,7,9,10,30,31,32]) (hs:=[4]) (vs:=[]) (by kernel_rfl),h⟩
     | false =>
      replace h := sp_f h
      refine T_condF (x:=(.tmp 33)) (c1:=(sub [1,1,1,1,1,1,0,1,0,0,1,0,0] Bd26)) (c2:=(sub [1,1,1,1,1,1,0,1,0,0,1,0,1] Bd26)) (by kernel_rfl) (by kernel_rfl) ?_
      refine T_keepS [(2,.lf (.v (.slice Au2 (u2.length) cu2))),(4,.lf (.own 4 0)),(7,.lf (.v (.pointer (some ⟨C7b,0,none⟩))))] (by kernel_rfl) ?_
      refine T_exit (id:=0) (by kernel_rfl) ?_
      refine thenQ_x ?_
      refine thenQ_x ?_
      refine blockQ_x ?_
      refine thenQ_n ?_
      exact ⟨keep_sub (ts:=[2,4,7]) (hs:=[4]) (vs:=[]) (by kernel_rfl),h⟩
   ·rintro s' ⟨hsub,h⟩
    subst e_j12
    refine thenQ_n ?_
    refine T_sub hsub ?_
    refine T_sq (by kernel_rfl) ?_
    refine T_sq (by kernel_rfl) ?_
    refine T_region (id:=16) (by kernel_rfl) ?_
    refine TI_segK (i:=0) (j:=3) (s':={ σ := [(51,.lf (.v (.pointer (some ⟨C7b,0,none⟩)))),(52,.agg [.arr .i64 7 u1]),(53,.lf (.v (.slice Au2 (u2.length) cu2)))],H := [],V := [],M := M11,ds := [] }) [51,52,53] [] [] (by kernel_rfl) (by kernel_rfl) ?_
    obtain ⟨v25,c_v25,h⟩ := cl_some h
    refine TI_at (i:=3) (d:=54) (x:=vi v25) (At_call (d:=54) (f:=58) (args:=[rval (.lf (.v (.pointer (some ⟨C7b,0,none⟩)))),rval (.agg [.arr .i64 7 u1]),rval (.lf (.v (.slice Au2 (u2.length) cu2)))]) (x:=vi v25) (by kernel_rfl) (w58 k (hC7.le hM11) hu1 ((hu2.le hM4).le hM11) c_v25)) (by kernel_rfl) trivial ?_
    obtain ⟨b26,e_b26,h⟩ := lt_some h
    refine TI_segK (i:=4) (j:=5) (s':={ σ := [(55,vb b26)],H := [],V := [],M := M11,ds := [] }) [55] [] [] (by subst e_b26;kernel_rfl) (by kernel_rfl) ?_
    refine TI_end (by kernel_rfl) ?_
    refine thenQ_n ?_
    cases b26 with
    | true =>
     replace h := sp_t h
     refine T_condT (x:=(.tmp 55)) (c1:=(sub [1,1,1,1,1,1,1,0,1,0] Bd26)) (c2:=(sub [1,1,1,1,1,1,1,0,1,1] Bd26)) (by kernel_rfl) (by kernel_rfl) ?_
     refine T_keepS [] (by kernel_rfl) ?_
     refine T_sq (by kernel_rfl) ?_
     refine T_region (id:=17) (by kernel_rfl) ?_
     refine TI_segS (i:=0) (j:=1) [(6,vi (16 : Int))] (by kernel_rfl) (by kernel_rfl) ?_
     refine TI_end (by kernel_rfl) ?_
     refine thenQ_n ?_
     refine T_ret (by kernel_rfl) ?_
     refine thenQ_r ?_
     have h := Option.some.inj h
     subst h
     refine fin_ret (vi (16 : Int)) (by kernel_rfl) (by kernel_rfl) rfl ?_
     rfl
    | false =>
     replace h := sp_f h
     refine T_condF (x:=(.tmp 55)) (c1:=(sub [1,1,1,1,1,1,1,0,1,0] Bd26)) (c2:=(sub [1,1,1,1,1,1,1,0,1,1] Bd26)) (by kernel_rfl) (by kernel_rfl) ?_
     refine T_keepS [] (by kernel_rfl) ?_
     refine T_skip (by kernel_rfl) ?_
     refine thenQ_n ?_
     refine T_sq (by kernel_rfl) ?_
     refine T_region (id:=18) (by kernel_rfl) ?_
     refine TI_segS (i:=0) (j:=1) [(6,vi (0 : Int))] (by kernel_rfl) (by kernel_rfl) ?_
     refine TI_end (by kernel_rfl) ?_
     refine thenQ_n ?_
     refine T_ret (by kernel_rfl) ?_
     have h := Option.some.inj h
     subst h
     refine fin_ret (vi (0 : Int)) (by kernel_rfl) (by kernel_rfl) rfl ?_
     rfl
def p36 (k : Nat) (u0_0 : List (List Int)) (u0_1 : List Int) (u1 : List Int) (u2_0 : List Int) (u2_1 : List (List Int)) : Option (Bool × Int) :=
 cl2 (p43 k u0_0 u0_1 u1) fun v1 v2 => lt' (v2 != (0 : Int)) fun b5 => sp b5 (some (false,v2)) (cl v1 fun C6 => cl (p54 k C6.1 C6.2.1 C6.2.2.1 C6.2.2.2.1 C6.2.2.2.2 u2_0 u2_1) fun v7 => sp v7 (cl (p63 k C6.1 C6.2.1 C6.2.2.1 C6.2.2.2.1 C6.2.2.2.2 u1 u2_0 u2_1) fun v8 => some (v8,(0 : Int))) (some (false,(17 : Int))))
theorem hf36 : Try.prog.funcs[36]? = some Try.f36 := by kernel_rfl
theorem w36 (k : Nat) {M : Mem} {Au0_0 : Option Addr} {cu0_0 : Nat} {Au2_0 : Option Addr} {cu2_0 : Nat} {Au2_1 : Option Addr} {cu2_1 : Nat} {u0_0 : List (List Int)} {u0_1 : List Int} {u1 : List Int} {u2_0 : List Int} {u2_1 : List (List Int)} (hu0_0 : SlR M Au0_0 cu0_0 .i64 11 u0_0) (hu0_1 : u0_1.length = 4) (hu1 : u1.length = 7) (hu2_0 : SlI M Au2_0 cu2_0 .i64 u2_0) (hu2_1 : SlR M Au2_1 cu2_1 .i64 4 u2_1) {r} (h : p36 k u0_0 u0_1 u1 u2_0 u2_1 = some r) :
  Fn Try.prog 36 [rval (.agg [.one (.v (.slice Au0_0 (u0_0.length) cu0_0)),.arr .i64 4 u0_1]),rval (.agg [.arr .i64 7 u1]),rval (.agg [.one (.v (.slice Au2_0 (u2_0.length) cu2_0)),.one (.v (.slice Au2_1 (u2_1.length) cu2_1))])] M (fun x _ => x = .tup [(some (.v (.bool r.1)),[]),(some (.v (.int .i64 r.2)),[])]) := by
 unfold p36 at h
 refine Fn_of (P:=Try.prog) (fn:=Try.f36) (c:=bodyOf Try.f36) [.agg [.one (.v (.slice Au0_0 (u0_0.length) cu0_0)),.arr .i64 4 u0_1],.agg [.arr .i64 7 u1],.agg [.one (.v (.slice Au2_0 (u2_0.length) cu2_0)),.one (.v (.slice Au2_1 (u2_1.length) cu2_1))]] hf36 (by kernel_rfl) (Nat.le_of_ble_eq_true (by kernel_rfl)) (args_ok (by kernel_rfl) ⟨⟨rfl,⟨hu0_1,trivial⟩⟩,⟨⟨hu1,trivial⟩,⟨⟨rfl,⟨rfl,trivial⟩⟩,trivial⟩⟩⟩) fun w => ?_
 change T _ _ _ (endQ _ _ _)
 refine T_seq (c1:=(sub [0] Bd36)) (c2:=(sub [1] Bd36)) (by kernel_rfl) ?_
 refine T_region (id:=0) (by kernel_rfl) ?_
 refine TI_segK (i:=0) (j:=5) (s':={ σ := [(3,.lf (.own 3 0)),(4,.lf (.own 4 0)),(5,.lf (.own 5 0))],H := [(3,[.one (.v (.slice Au0_0 (u0_0.length) cu0_0)),.arr .i64 4 u0_1]),(4,[.arr .i64 7 u1]),(5,[.one (.v (.slice Au2_0 (u2_0.length) cu2_0)),.one (.v (.slice Au2_1 (u2_1.length) cu2_1))])],V := [],M := M,ds := [] }) [3,4,5] [3,4,5] [] (by kernel_rfl) (by kernel_rfl) ?_
 refine TI_end (by kernel_rfl) ?_
 refine thenQ_n ?_
 refine T_sq (by kernel_rfl) ?_
 refine T_region (id:=1) (by kernel_rfl) ?_
 refine TI_segK (i:=0) (j:=2) (s':={ σ := [(4,.lf (.own 4 0)),(5,.lf (.own 5 0)),(11,.agg [.one (.v (.slice Au0_0 (u0_0.length) cu0_0)),.arr .i64 4 u0_1]),(12,.agg [.arr .i64 7 u1])],H := [(4,[.arr .i64 7 u1]),(5,[.one (.v (.slice Au2_0 (u2_0.length) cu2_0)),.one (.v (.slice Au2_1 (u2_1.length) cu2_1))])],V := [],M := M,ds := [] }) [4,5,11,12] [4,5] [] (by kernel_rfl) (by kernel_rfl) ?_
 obtain ⟨v1,v2,c_v1,h⟩ := cl2_some h
 refine TI_of (i:=2) (by kernel_rfl) (TE_callR (d:=13) (f:=43) (args:=[rval (.agg [.one (.v (.slice Au0_0 (u0_0.length) cu0_0)),.arr .i64 4 u0_1]),rval (.agg [.arr .i64 7 u1])]) (by kernel_rfl) (by kernel_rfl) (w43 k hu0_0 hu0_1 hu1 c_v1) ?_)
 rintro _ M4 _ hM4 _ ⟨q3,rfl,fq3⟩
 refine TI_segK (i:=3) (j:=8) (s':={ σ := [(4,.lf (.own 4 0)),(5,.lf (.own 5 0)),(8,.lf (.v q3)),(9,vi v2)],H := [(4,[.arr .i64 7 u1]),(5,[.one (.v (.slice Au2_0 (u2_0.length) cu2_0)),.one (.v (.slice Au2_1 (u2_1.length) cu2_1))])],V := [],M := M4,ds := [] }) [4,5,8,9] [4,5] [] (by kernel_rfl) (by kernel_rfl) ?_
 refine TI_end (by kernel_rfl) ?_
 refine thenQ_n ?_
 refine T_sq (by kernel_rfl) ?_
 refine T_sq (by kernel_rfl) ?_
 refine T_region (id:=2) (by kernel_rfl) ?_
 obtain ⟨b5,e_b5,h⟩ := lt_some h
 refine TI_segS (i:=0) (j:=2) [(4,.lf (.own 4 0)),(5,.lf (.own 5 0)),(8,.lf (.v q3)),(9,vi v2),(17,vb b5)] (by subst e_b5;kernel_rfl) (by kernel_rfl) ?_
 refine TI_end (by kernel_rfl) ?_
 refine thenQ_n ?_
 cases b5 with
 | true =>
  replace h := sp_t h
  refine T_condT (x:=(.tmp 17)) (c1:=(sub [1,1,0,1,0] Bd36)) (c2:=(sub [1,1,0,1,1] Bd36)) (by kernel_rfl) (by kernel_rfl) ?_
  refine T_keep (s':={ σ := [(9,vi v2)],H := [],V := [],M := M4,ds := [] }) [9] [] [] (by kernel_rfl) ?_
  refine T_sq (by kernel_rfl) ?_
  refine T_region (id:=3) (by kernel_rfl) ?_
  refine TI_segS (i:=0) (j:=3) [(6,vb false),(7,vi v2)] (by kernel_rfl) (by kernel_rfl) ?_
  refine TI_end (by kernel_rfl) ?_
  refine thenQ_n ?_
  refine T_ret (by kernel_rfl) ?_
  refine thenQ_r ?_
  have h := Option.some.inj h
  subst h
  refine fin_ret (.tup [(some (.v (.bool false)),[]),(some (.v (.int .i64 v2)),[])]) (by kernel_rfl) (by kernel_rfl) rfl ?_
  rfl
 | false =>
  replace h := sp_f h
  refine T_condF (x:=(.tmp 17)) (c1:=(sub [1,1,0,1,0] Bd36)) (c2:=(sub [1,1,0,1,1] Bd36)) (by kernel_rfl) (by kernel_rfl) ?_
  refine T_keepS [(4,.lf (.own 4 0)),(5,.lf (.own 5 0)),(8,.lf (.v q3))] (by kernel_rfl) ?_
  refine T_skip (by kernel_rfl) ?_
  refine thenQ_n ?_
  obtain ⟨C6,e_C6,h⟩ := cl_some h
  have hC6 := fq3
  rw [e_C6] at hC6
  obtain ⟨C6b,C6A,C6c,C6AP,C6cP,C6AV,C6cV,rfl,hC6⟩ := hC6
  refine T_sq (by kernel_rfl) ?_
  refine T_sq (by kernel_rfl) ?_
  refine T_region (id:=4) (by kernel_rfl) ?_
  refine TI_segK (i:=0) (j:=2) (s':={ σ := [(4,.lf (.own 4 0)),(5,.lf (.own 5 0)),(8,.lf (.v (.pointer (some ⟨C6b,0,none⟩)))),(19,.lf (.v (.pointer (some ⟨C6b,0,none⟩)))),(20,.agg [.one (.v (.slice Au2_0 (u2_0.length) cu2_0)),.one (.v (.slice Au2_1 (u2_1.length) cu2_1))])],H := [(4,[.arr .i64 7 u1]),(5,[.one (.v (.slice Au2_0 (u2_0.length) cu2_0)),.one (.v (.slice Au2_1 (u2_1.length) cu2_1))])],V := [],M := M4,ds := [] }) [4,5,8,19,20] [4,5] [] (by kernel_rfl) (by kernel_rfl) ?_
  obtain ⟨v7,c_v7,h⟩ := cl_some h
  refine TI_at (i:=2) (d:=21) (x:=vb v7) (At_call (d:=21) (f:=54) (args:=[rval (.lf (.v (.pointer (some ⟨C6b,0,none⟩)))),rval (.agg [.one (.v (.slice Au2_0 (u2_0.length) cu2_0)),.one (.v (.slice Au2_1 (u2_1.length) cu2_1))])]) (x:=vb v7) (by kernel_rfl) (w54 k hC6 (hu2_0.le hM4) (hu2_1.le hM4) c_v7)) (by kernel_rfl) trivial ?_
  refine TI_segK (i:=3) (j:=4) (s':={ σ := [(4,.lf (.own 4 0)),(5,.lf (.own 5 0)),(8,.lf (.v (.pointer (some ⟨C6b,0,none⟩)))),(22,vb (!v7))],H := [(4,[.arr .i64 7 u1]),(5,[.one (.v (.slice Au2_0 (u2_0.length) cu2_0)),.one (.v (.slice Au2_1 (u2_1.length) cu2_1))])],V := [],M := M4,ds := [] }) [4,5,8,22] [4,5] [] (by kernel_rfl) (by kernel_rfl) ?_
  refine TI_end (by kernel_rfl) ?_
  refine thenQ_n ?_
  cases v7 with
  | true =>
   replace h := sp_t h
   refine T_condF (x:=(.tmp 22)) (c1:=(sub [1,1,1,0,1,0] Bd36)) (c2:=(sub [1,1,1,0,1,1] Bd36)) (by kernel_rfl) (by kernel_rfl) ?_
   refine T_keepS [(4,.lf (.own 4 0)),(5,.lf (.own 5 0)),(8,.lf (.v (.pointer (some ⟨C6b,0,none⟩))))] (by kernel_rfl) ?_
   refine T_skip (by kernel_rfl) ?_
   refine thenQ_n ?_
   refine T_sq (by kernel_rfl) ?_
   refine T_region (id:=6) (by kernel_rfl) ?_
   refine TI_segK (i:=0) (j:=3) (s':={ σ := [(23,.lf (.v (.pointer (some ⟨C6b,0,none⟩)))),(24,.agg [.arr .i64 7 u1]),(25,.agg [.one (.v (.slice Au2_0 (u2_0.length) cu2_0)),.one (.v (.slice Au2_1 (u2_1.length) cu2_1))])],H := [],V := [],M := M4,ds := [] }) [23,24,25] [] [] (by kernel_rfl) (by kernel_rfl) ?_
   obtain ⟨v8,c_v8,h⟩ := cl_some h
   refine TI_at (i:=3) (d:=26) (x:=vb v8) (At_call (d:=26) (f:=63) (args:=[rval (.lf (.v (.pointer (some ⟨C6b,0,none⟩)))),rval (.agg [.arr .i64 7 u1]),rval (.agg [.one (.v (.slice Au2_0 (u2_0.length) cu2_0)),.one (.v (.slice Au2_1 (u2_1.length) cu2_1))])]) (x:=vb v8) (by kernel_rfl) (w63 k hC6 hu1 (hu2_0.le hM4) (hu2_1.le hM4) c_v8)) (by kernel_rfl) trivial ?_
   refine TI_segK (i:=4) (j:=6) (s':={ σ := [(6,vb v8),(7,vi (0 : Int))],H := [],V := [],M := M4,ds := [] }) [6,7] [] [] (by kernel_rfl) (by kernel_rfl) ?_
   refine TI_end (by kernel_rfl) ?_
   refine thenQ_n ?_
   refine T_ret (by kernel_rfl) ?_
   have h := Option.some.inj h
   subst h
   refine fin_ret (.tup [(some (.v (.bool v8)),[]),(some (.v (.int .i64 (0 : Int))),[])]) (by kernel_rfl) (by kernel_rfl) rfl ?_
   rfl
  | false =>
   replace h := sp_f h
   refine T_condT (x:=(.tmp 22)) (c1:=(sub [1,1,1,0,1,0] Bd36)) (c2:=(sub [1,1,1,0,1,1] Bd36)) (by kernel_rfl) (by kernel_rfl) ?_
   refine T_keep (s':={ σ := [],H := [],V := [],M := M4,ds := [] }) [] [] [] (by kernel_rfl) ?_
   refine T_sq (by kernel_rfl) ?_
   refine T_region (id:=5) (by kernel_rfl) ?_
   refine TI_segS (i:=0) (j:=2) [(6,vb false),(7,vi (17 : Int))] (by kernel_rfl) (by kernel_rfl) ?_
   refine TI_end (by kernel_rfl) ?_
   refine thenQ_n ?_
   refine T_ret (by kernel_rfl) ?_
   refine thenQ_r ?_
   have h := Option.some.inj h
   subst h
   refine fin_ret (.tup [(some (.v (.bool false)),[]),(some (.v (.int .i64 (17 : Int))),[])]) (by kernel_rfl) (by kernel_rfl) rfl ?_
   rfl
def p12 (k : Nat) : Option Bool :=
 cl2 (p40 k ) fun v1 v2 => gd ((v2).length = 4) <| cl2 (p14 k v1 v2 ([(40 : Int),(50 : Int),(0 : Int),(4 : Int),(0 : Int),(1000 : Int),(0 : Int)])) fun v7 v8 => cl2 (p40 k ) fun v9 v10 => gd ((v10).length = 4) <| cl2 (p23 k v9 v10) fun v15 v16 => jn (fun (b17 : Bool) => some b17) fun j18 => lt' (v8 == (0 : Int)) fun b19 => sp b19 (lt' (v16 == (0 : Int)) fun b20 => sp b20 (lt' (v7 == (1 : Int)) fun b21 => sp b21 (lt' (v15 == (5 : Int)) fun b22 => j18 b22) (j18 false)) (j18 false)) (j18 false)
theorem hf12 : Try.prog.funcs[12]? = some Try.f12 := by kernel_rfl
theorem w12 (k : Nat) {M : Mem} {r} (h : p12 k = some r) :
  Fn Try.prog 12 [] M (fun x _ => x = vb r) := by
 unfold p12 at h
 refine Fn_of (P:=Try.prog) (fn:=Try.f12) (c:=bodyOf Try.f12) [] hf12 (by kernel_rfl) (Nat.le_of_ble_eq_true (by kernel_rfl)) (args_ok (by kernel_rfl) trivial) fun w => ?_
 change T _ _ _ (endQ _ _ _)
 refine T_seq (c1:=(sub [0] Bd12)) (c2:=(sub [1] Bd12)) (by kernel_rfl) ?_
 refine T_region (id:=0) (by kernel_rfl) ?_
 refine TI_segK (i:=0) (j:=1) (s':={ σ := [],H := [],V := [],M := M,ds := [] }) [] [] [] (by kernel_rfl) (by kernel_rfl) ?_
 refine TI_end (by kernel_rfl) ?_
 refine thenQ_n ?_
 refine T_sq (by kernel_rfl) ?_
 refine T_region (id:=1) (by kernel_rfl) ?_
 obtain ⟨v1,v2,c_v1,h⟩ := cl2_some h
 obtain ⟨g5,h⟩ := gd_some h
 refine TI_of (i:=0) (by kernel_rfl) (TE_callR (d:=6) (f:=40) (args:=[]) (by kernel_rfl) (by kernel_rfl) (w40 k  c_v1) ?_)
 rintro _ M6 _ hM6 _ ⟨A3,c4,rfl,fA3⟩
 refine TI_segK (i:=1) (j:=2) (s':={ σ := [(6,.agg [.one (.v (.slice A3 (v1.length) c4)),.arr .i64 4 v2]),(7,.agg [.arr .i64 7 [(40 : Int),(50 : Int),(0 : Int),(4 : Int),(0 : Int),(1000 : Int),(0 : Int)]])],H := [],V := [],M := M6,ds := [] }) [6,7] [] [] (by kernel_rfl) (by kernel_rfl) ?_
 obtain ⟨v7,v8,c_v7,h⟩ := cl2_some h
 refine TI_at (i:=2) (d:=8) (x:=.tup [(some (.v (.int .i64 v7)),[]),(some (.v (.int .i64 v8)),[])]) (At_call (d:=8) (f:=14) (args:=[rval (.agg [.one (.v (.slice A3 (v1.length) c4)),.arr .i64 4 v2]),rval (.agg [.arr .i64 7 [(40 : Int),(50 : Int),(0 : Int),(4 : Int),(0 : Int),(1000 : Int),(0 : Int)]])]) (x:=.tup [(some (.v (.int .i64 v7)),[]),(some (.v (.int .i64 v8)),[])]) (by kernel_rfl) (w14 k fA3 g5 rfl c_v7)) (by kernel_rfl) (by intro y hy; simp only [List.mem_cons,List.mem_nil_iff,or_false] at hy; rcases hy with rfl | rfl <;> exact trivial) ?_
 refine TI_segK (i:=3) (j:=8) (s':={ σ := [(1,vi v7),(2,vi v8)],H := [],V := [],M := M6,ds := [] }) [1,2] [] [] (by kernel_rfl) (by kernel_rfl) ?_
 refine TI_end (by kernel_rfl) ?_
 refine thenQ_n ?_
 refine T_sq (by kernel_rfl) ?_
 refine T_region (id:=2) (by kernel_rfl) ?_
 obtain ⟨v9,v10,c_v9,h⟩ := cl2_some h
 obtain ⟨g13,h⟩ := gd_some h
 refine TI_of (i:=0) (by kernel_rfl) (TE_callR (d:=12) (f:=40) (args:=[]) (by kernel_rfl) (by kernel_rfl) (w40 k  c_v9) ?_)
 rintro _ M14 _ hM14 _ ⟨A11,c12,rfl,fA11⟩
 obtain ⟨v15,v16,c_v15,h⟩ := cl2_some h
 refine TI_at (i:=1) (d:=13) (x:=.tup [(some (.v (.int .i64 v15)),[]),(some (.v (.int .i64 v16)),[])]) (At_call (d:=13) (f:=23) (args:=[rval (.agg [.one (.v (.slice A11 (v9.length) c12)),.arr .i64 4 v10])]) (x:=.tup [(some (.v (.int .i64 v15)),[]),(some (.v (.int .i64 v16)),[])]) (by kernel_rfl) (w23 k fA11 g13 c_v15)) (by kernel_rfl) (by intro y hy; simp only [List.mem_cons,List.mem_nil_iff,or_false] at hy; rcases hy with rfl | rfl <;> exact trivial) ?_
 refine TI_segK (i:=2) (j:=7) (s':={ σ := [(1,vi v7),(2,vi v8),(3,vi v15),(4,vi v16)],H := [],V := [],M := M14,ds := [] }) [1,2,3,4] [] [] (by kernel_rfl) (by kernel_rfl) ?_
 refine TI_end (by kernel_rfl) ?_
 refine thenQ_n ?_
 obtain ⟨j18,e_j18,h⟩ := jn_some h
 refine T_cut (c1:=(sub [1,1,1,0] Bd12)) (c2:=(sub [1,1,1,1] Bd12)) (fun s' => ∃ (b17 : Bool),Sub { σ := [(0,vb b17)],H := [],V := [],M := M14,ds := [] } s' ∧ j18 b17 = some r) (by kernel_rfl) ?_ ?_
 ·refine T_region (id:=3) (by kernel_rfl) ?_
  obtain ⟨b19,e_b19,h⟩ := lt_some h
  refine TI_segK (i:=0) (j:=3) (s':={ σ := [(1,vi v7),(3,vi v15),(4,vi v16),(18,vb b19)],H := [],V := [],M := M14,ds := [] }) [1,3,4,18] [] [] (by subst e_b19;kernel_rfl) (by kernel_rfl) ?_
  cases b19 with
  | true =>
   replace h := sp_t h
   obtain ⟨b20,e_b20,h⟩ := lt_some h
   refine TI_segS (i:=3) (j:=7) [(1,vi v7),(3,vi v15),(22,vb b20)] (by subst e_b20;kernel_rfl) (by kernel_rfl) ?_
   cases b20 with
   | true =>
    replace h := sp_t h
    obtain ⟨b21,e_b21,h⟩ := lt_some h
    refine TI_segS (i:=7) (j:=11) [(3,vi v15),(26,vb b21)] (by subst e_b21;kernel_rfl) (by kernel_rfl) ?_
    cases b21 with
    | true =>
     replace h := sp_t h
     obtain ⟨b22,e_b22,h⟩ := lt_some h
     refine TI_segS (i:=11) (j:=15) [(0,vb b22)] (by subst e_b22;kernel_rfl) (by kernel_rfl) ?_
     refine TI_end (by kernel_rfl) ?_
     refine thenQ_n ?_
     exact ⟨b22,keep_sub (ts:=[0]) (hs:=[]) (vs:=[]) (by kernel_rfl),h⟩
    | false =>
     replace h := sp_f h
     refine TI_segS (i:=11) (j:=15) [(0,vb false)] (by kernel_rfl) (by kernel_rfl) ?_
     refine TI_end (by kernel_rfl) ?_
     refine thenQ_n ?_
     exact ⟨false,keep_sub (ts:=[0]) (hs:=[]) (vs:=[]) (by kernel_rfl),h⟩
   | false =>
    replace h := sp_f h
    refine TI_segS (i:=7) (j:=15) [(0,vb false)] (by kernel_rfl) (by kernel_rfl) ?_
    refine TI_end (by kernel_rfl) ?_
    refine thenQ_n ?_
    exact ⟨false,keep_sub (ts:=[0]) (hs:=[]) (vs:=[]) (by kernel_rfl),h⟩
  | false =>
   replace h := sp_f h
   refine TI_segS (i:=3) (j:=15) [(0,vb false)] (by kernel_rfl) (by kernel_rfl) ?_
   refine TI_end (by kernel_rfl) ?_
   refine thenQ_n ?_
   exact ⟨false,keep_sub (ts:=[0]) (hs:=[]) (vs:=[]) (by kernel_rfl),h⟩
 ·rintro s' ⟨b17,hsub,h⟩
  subst e_j18
  refine T_sub hsub ?_
  refine T_ret (by kernel_rfl) ?_
  have h := Option.some.inj h
  subst h
  refine fin_ret (vb b17) (by kernel_rfl) (by kernel_rfl) rfl ?_
  rfl
end Go.Proofs.Ythjkejbgknemgaa
namespace Go.Proofs.Ythjkejbgknemgaa
open Go.RowKit
def p66a_l2 (k : Nat) (u0V : List (List (List Int))) (x13 : Int) (j20 : Bool → List Int → Option (List Int × List (List Int))) : Nat → Bool → Int → List Int → Option (List Int × List (List Int))
 | 0,_,_,_ => none
 | n24 + 1,b21,x22,L23 => lt' (decide (x22 < (4 : Int))) fun b25 => sp b25 (jn (fun (b26 : Bool) (L27 : List Int) => lt' (wr .i64 (x22 + (1 : Int))) fun x41 => p66a_l2 k u0V x13 j20 n24 b26 x41 L27) fun j28 => gd ((0 : Int) ≤ x22 ∧ x22 < ((4 : Nat) : Int)) <| lt' (List.getD u0V ((x22).toNat * 1) []) fun R30 => gd ((0 : Int) ≤ x13 ∧ x13 < (R30.length : Int)) <| lt' (List.getD (List.getD R30 ((x13).toNat) []) 0 0) fun x32 => gd ((0 : Int) ≤ x22 ∧ x22 < ((4 : Nat) : Int)) <| lt' (List.take (0 + (x22).toNat * 1) L23 ++ (x32::[]) ++ List.drop (0 + (x22).toNat * 1 + 1) L23) fun L34 => sp b21 (gd ((0 : Int) ≤ x22 ∧ x22 < ((4 : Nat) : Int)) <| lt' (List.getD u0V ((x22).toNat * 1) []) fun R36 => gd ((0 : Int) ≤ x13 ∧ x13 < (R36.length : Int)) <| lt' (List.getD (List.getD R36 ((x13).toNat) []) 1 0) fun x38 => gd ((0 : Int) ≤ x22 ∧ x22 < ((4 : Nat) : Int)) <| lt' (List.take (0 + (x22).toNat * 1) L34 ++ (x38::[]) ++ List.drop (0 + (x22).toNat * 1 + 1) L34) fun L40 => j28 true L40) (j28 false L34)) (j20 b21 L23)
def p66a_l1 (k : Nat) (u0R : List (List Int)) (u0D : List Int) (u0st : Int) (u0P : List (List Int)) (u0V : List (List (List Int))) (u1_0_1 : Int) (u1_0_2 : Int) (j11 : List Int → List (List Int) → Option (List Int × List (List Int))) : Nat → Bool → Int → List Int → List (List Int) → Option (List Int × List (List Int))
 | 0,_,_,_,_ => none
 | n16 + 1,b12,x13,L14,R15 => lt' (decide (x13 < (u0P.length : Int))) fun b17 => sp b17 (jn (fun (b18 : Bool) (L19 : List Int) => cl (p67 k u0R u0D u0st u0P u0V u1_0_1 u1_0_2 x13) fun v42 => gd ((L14.length + List.length ([v42])) * 8 ≤ 140737488355328) <| lt' (L14 ++ ([v42])) fun W44 => gd ((R15.length + List.length ([L19])) * 32 ≤ 140737488355328) <| lt' (R15 ++ ([L19])) fun W46 => lt' (wr .i64 (x13 + (1 : Int))) fun x47 => p66a_l1 k u0R u0D u0st u0P u0V u1_0_1 u1_0_2 j11 n16 b18 x47 W44 W46) fun j20 => p66a_l2 k u0V x13 j20 k b12 (0 : Int) ([(0 : Int),(0 : Int),(0 : Int),(0 : Int)])) (j11 L14 R15)
def p66a (k : Nat) (u0R : List (List Int)) (u0D : List Int) (u0st : Int) (u0P : List (List Int)) (u0V : List (List (List Int))) (u1_0_1 : Int) (u1_0_2 : Int) (u2 : Bool) : Option (List Int × List (List Int)) :=
 jn (fun (L9 : List Int) (R10 : List (List Int)) => some (L9,R10)) fun j11 => p66a_l1 k u0R u0D u0st u0P u0V u1_0_1 u1_0_2 j11 k u2 (0 : Int) ([] : List Int) ([] : List (List Int))
theorem hf66a : Try.prog.funcs[66]? = some Try.f66 := by kernel_rfl
theorem w66a (k : Nat) {M : Mem} {u0b : Nat} {u0A : Option Addr} {u0c : Nat} {u0AP : Option Addr} {u0cP : Nat} {u0AV : Nat → Option Addr} {u0cV : Nat → Nat} {u0R : List (List Int)} {u0D : List Int} {u0st : Int} {u0P : List (List Int)} {u0V : List (List (List Int))} {u1_0_1 : Int} {u1_0_2 : Int} {u2 : Bool} (hu0 : Crs M u0b u0A u0c u0AP u0cP u0AV u0cV u0R u0D u0st u0P u0V) {r} (h : p66a k u0R u0D u0st u0P u0V u1_0_1 u1_0_2 u2 = some r) :
  Fn Try.prog 66 [rval (.lf (.v (.pointer (some ⟨u0b,0,none⟩)))),rval (.lf (.v (.func (.func 67) #[(rval (.agg [.one (.v (.pointer (some ⟨u0b,0,none⟩))),.one (.v (.int .i64 u1_0_1)),.one (.v (.int .i64 u1_0_2))]))] #[]))),rval (vb u2)] M (fun x M' => ∃ (A1 : Option Addr) (c2 : Nat) (A3 : Option Addr) (c4 : Nat),x = .agg [.one (.v (.slice A1 (List.length r.1) c2)),.one (.v (.slice A3 (List.length r.2) c4))] ∧ SlI M' A1 c2 .i64 r.1 ∧ SlR M' A3 c4 .i64 4 r.2) := by
 unfold p66a at h
 refine Fn_of (P:=Try.prog) (fn:=Try.f66) (c:=bodyOf Try.f66) [.lf (.v (.pointer (some ⟨u0b,0,none⟩))),.lf (.v (.func (.func 67) #[(rval (.agg [.one (.v (.pointer (some ⟨u0b,0,none⟩))),.one (.v (.int .i64 u1_0_1)),.one (.v (.int .i64 u1_0_2))]))] #[])),vb u2] hf66a (by kernel_rfl) (Nat.le_of_ble_eq_true (by kernel_rfl)) (args_ok (by kernel_rfl) ⟨trivial,⟨trivial,⟨trivial,trivial⟩⟩⟩) fun w => ?_
 change T _ _ _ (endQ _ _ _)
 refine T_seq (c1:=(sub [0] Bd66)) (c2:=(sub [1] Bd66)) (by kernel_rfl) ?_
 refine T_region (id:=0) (by kernel_rfl) ?_
 refine TI_segK (i:=0) (j:=1) (s':={ σ := [(0,.lf (.v (.pointer (some ⟨u0b,0,none⟩)))),(1,.lf (.v (.func (.func 67) #[(rval (.agg [.one (.v (.pointer (some ⟨u0b,0,none⟩))),.one (.v (.int .i64 u1_0_1)),.one (.v (.int .i64 u1_0_2))]))] #[]))),(2,vb u2),(6,.lf (.own 6 0))],H := [(6,[.one (.v (.slice none (List.length ([] : List Int)) 0)),.one (.v (.slice none (List.length ([] : List (List Int))) 0))])],V := [],M := M,ds := [] }) [0,1,2,6] [6] [] (by kernel_rfl) (by kernel_rfl) ?_
 refine TI_end (by kernel_rfl) ?_
 refine thenQ_n ?_
 refine T_turn (turn_nil 5005 2 1 [(0,.lf (.v (.pointer (some ⟨u0b,0,none⟩)))),(1,.lf (.v (.func (.func 67) #[(rval (.agg [.one (.v (.pointer (some ⟨u0b,0,none⟩))),.one (.v (.int .i64 u1_0_1)),.one (.v (.int .i64 u1_0_2))]))] #[]))),(2,vb u2),(6,.lf (.own 6 0))] [(6,[.one (.vec 5005),.one (.v (.slice none (List.length ([] : List (List Int))) 0))])] (by kernel_rfl) (by kernel_rfl) (by kernel_rfl)) ?_
 rintro _ rfl
 refine T_turn (turn_nil 5006 23 4 [(0,.lf (.v (.pointer (some ⟨u0b,0,none⟩)))),(1,.lf (.v (.func (.func 67) #[(rval (.agg [.one (.v (.pointer (some ⟨u0b,0,none⟩))),.one (.v (.int .i64 u1_0_1)),.one (.v (.int .i64 u1_0_2))]))] #[]))),(2,vb u2),(6,.lf (.own 6 0))] [(6,[.one (.vec 5005),.one (.vec 5006)])] (by kernel_rfl) (by kernel_rfl) (by kernel_rfl)) ?_
 rintro _ rfl
 refine T_keep (s':={ σ := [(0,.lf (.v (.pointer (some ⟨u0b,0,none⟩)))),(1,.lf (.v (.func (.func 67) #[(rval (.agg [.one (.v (.pointer (some ⟨u0b,0,none⟩))),.one (.v (.int .i64 u1_0_1)),.one (.v (.int .i64 u1_0_2))]))] #[]))),(2,vb u2),(6,.lf (.own 6 0))],H := [(6,[.one (.vec 5005),.one (.vec 5006)])],V := [(5005,⟨2,1,List.length ([] : List Int),ints .i64 ([] : List Int)⟩),(5006,⟨23,4,List.length ([] : List (List Int)),rowsC .i64 ([] : List (List Int))⟩)],M := M,ds := [] }) [0,1,2,6] [6] [5005,5006] (by kernel_rfl) ?_
 refine T_sq (by kernel_rfl) ?_
 refine T_region (id:=1) (by kernel_rfl) ?_
 refine TI_segK (i:=0) (j:=1) (s':={ σ := [(0,.lf (.v (.pointer (some ⟨u0b,0,none⟩)))),(1,.lf (.v (.func (.func 67) #[(rval (.agg [.one (.v (.pointer (some ⟨u0b,0,none⟩))),.one (.v (.int .i64 u1_0_1)),.one (.v (.int .i64 u1_0_2))]))] #[]))),(2,vb u2),(6,.lf (.own 6 0)),(7,.lf (.own 7 0))],H := [(6,[.one (.vec 5005),.one (.vec 5006)]),(7,[.one (.v (.slice none (List.length ([] : List Int)) 0)),.one (.v (.slice none (List.length ([] : List (List Int))) 0))])],V := [(5005,⟨2,1,List.length ([] : List Int),ints .i64 ([] : List Int)⟩),(5006,⟨23,4,List.length ([] : List (List Int)),rowsC .i64 ([] : List (List Int))⟩)],M := M,ds := [] }) [0,1,2,6,7] [6,7] [5005,5006] (by kernel_rfl) (by kernel_rfl) ?_
 refine TI_end (by kernel_rfl) ?_
 refine thenQ_n ?_
 refine T_turn (turn_nil 5007 2 1 [(0,.lf (.v (.pointer (some ⟨u0b,0,none⟩)))),(1,.lf (.v (.func (.func 67) #[(rval (.agg [.one (.v (.pointer (some ⟨u0b,0,none⟩))),.one (.v (.int .i64 u1_0_1)),.one (.v (.int .i64 u1_0_2))]))] #[]))),(2,vb u2),(6,.lf (.own 6 0)),(7,.lf (.own 7 0))] [(6,[.one (.vec 5005),.one (.vec 5006)]),(7,[.one (.vec 5007),.one (.v (.slice none (List.length ([] : List (List Int))) 0))])] (by kernel_rfl) (by kernel_rfl) (by kernel_rfl)) ?_
 rintro _ rfl
 refine T_turn (turn_nil 5008 23 4 [(0,.lf (.v (.pointer (some ⟨u0b,0,none⟩)))),(1,.lf (.v (.func (.func 67) #[(rval (.agg [.one (.v (.pointer (some ⟨u0b,0,none⟩))),.one (.v (.int .i64 u1_0_1)),.one (.v (.int .i64 u1_0_2))]))] #[]))),(2,vb u2),(6,.lf (.own 6 0)),(7,.lf (.own 7 0))] [(6,[.one (.vec 5005),.one (.vec 5006)]),(7,[.one (.vec 5007),.one (.vec 5008)])] (by kernel_rfl) (by kernel_rfl) (by kernel_rfl)) ?_
 rintro _ rfl
 refine T_keep (s':={ σ := [(0,.lf (.v (.pointer (some ⟨u0b,0,none⟩)))),(1,.lf (.v (.func (.func 67) #[(rval (.agg [.one (.v (.pointer (some ⟨u0b,0,none⟩))),.one (.v (.int .i64 u1_0_1)),.one (.v (.int .i64 u1_0_2))]))] #[]))),(2,vb u2),(6,.lf (.own 6 0)),(7,.lf (.own 7 0))],H := [(6,[.one (.vec 5005),.one (.vec 5006)]),(7,[.one (.vec 5007),.one (.vec 5008)])],V := [(5005,⟨2,1,List.length ([] : List Int),ints .i64 ([] : List Int)⟩),(5006,⟨23,4,List.length ([] : List (List Int)),rowsC .i64 ([] : List (List Int))⟩),(5007,⟨2,1,List.length ([] : List Int),ints .i64 ([] : List Int)⟩),(5008,⟨23,4,List.length ([] : List (List Int)),rowsC .i64 ([] : List (List Int))⟩)],M := M,ds := [] }) [0,1,2,6,7] [6,7] [5005,5006,5007,5008] (by kernel_rfl) ?_
 refine T_sq (by kernel_rfl) ?_
 refine T_sq (by kernel_rfl) ?_
 refine T_region (id:=2) (by kernel_rfl) ?_
 refine TI_segS (i:=0) (j:=3) [(0,.lf (.v (.pointer (some ⟨u0b,0,none⟩)))),(1,.lf (.v (.func (.func 67) #[(rval (.agg [.one (.v (.pointer (some ⟨u0b,0,none⟩))),.one (.v (.int .i64 u1_0_1)),.one (.v (.int .i64 u1_0_2))]))] #[]))),(2,vb u2),(6,.lf (.own 6 0)),(7,.lf (.own 7 0)),(13,.lf (.v (.pointer (some ⟨u0b,6,none⟩))))] (by kernel_rfl) (by kernel_rfl) ?_
 refine TI_at (i:=3) (d:=14) (x:=.lf (.v (.slice u0AP (u0P.length) u0cP))) (by exact At_ldP (d:=14) (b:=u0b) (off:=6) (m:=1) (v:=(.slice u0AP (u0P.length) u0cP)) (by kernel_rfl) (hu0).plc) (by kernel_rfl) trivial ?_
 refine TI_segK (i:=4) (j:=6) (s':={ σ := [(0,.lf (.v (.pointer (some ⟨u0b,0,none⟩)))),(1,.lf (.v (.func (.func 67) #[(rval (.agg [.one (.v (.pointer (some ⟨u0b,0,none⟩))),.one (.v (.int .i64 u1_0_1)),.one (.v (.int .i64 u1_0_2))]))] #[]))),(2,vb u2),(6,.lf (.own 6 0)),(7,.lf (.own 7 0)),(15,vi (u0P.length : Int)),(16,vi (0 : Int))],H := [(6,[.one (.vec 5005),.one (.vec 5006)]),(7,[.one (.vec 5007),.one (.vec 5008)])],V := [(5005,⟨2,1,List.length ([] : List Int),ints .i64 ([] : List Int)⟩),(5006,⟨23,4,List.length ([] : List (List Int)),rowsC .i64 ([] : List (List Int))⟩),(5007,⟨2,1,List.length ([] : List Int),ints .i64 ([] : List Int)⟩),(5008,⟨23,4,List.length ([] : List (List Int)),rowsC .i64 ([] : List (List Int))⟩)],M := M,ds := [] }) [0,1,2,6,7,15,16] [6,7] [5005,5006,5007,5008] (by kernel_rfl) (by kernel_rfl) ?_
 refine TI_end (by kernel_rfl) ?_
 refine thenQ_n ?_
 obtain ⟨j11,e_j11,h⟩ := jn_some h
 refine T_bcut (id:=0) (c1:=(sub [1,1,0,1,0] Bd66)) (fun s' => ∃ (L9 : List Int) (R10 : List (List Int)),Sub { σ := [(6,.lf (.own 6 0)),(7,.lf (.own 7 0))],H := [(6,[.one (.vec 5005),.one (.vec 5006)]),(7,[.one (.vec 5007),.one (.vec 5008)])],V := [(5005,⟨2,1,List.length ([] : List Int),ints .i64 ([] : List Int)⟩),(5006,⟨23,4,List.length ([] : List (List Int)),rowsC .i64 ([] : List (List Int))⟩),(5007,⟨2,1,List.length L9,ints .i64 L9⟩),(5008,⟨23,4,List.length R10,rowsC .i64 R10⟩)],M := M,ds := [] } s' ∧ (∀ r ∈ R10,r.length = 4) ∧ j11 L9 R10 = some r) (by kernel_rfl) ?_ ?_
 ·refine T_loop (c1:=(sub [1,1,0,1,0,0] Bd66)) (by kernel_rfl) (fun n16 s' => ∃ (b12 : Bool) (x13 : Int) (L14 : List Int) (R15 : List (List Int)),Sub { σ := [(0,.lf (.v (.pointer (some ⟨u0b,0,none⟩)))),(1,.lf (.v (.func (.func 67) #[(rval (.agg [.one (.v (.pointer (some ⟨u0b,0,none⟩))),.one (.v (.int .i64 u1_0_1)),.one (.v (.int .i64 u1_0_2))]))] #[]))),(2,vb b12),(6,.lf (.own 6 0)),(7,.lf (.own 7 0)),(15,vi (u0P.length : Int)),(16,vi x13)],H := [(6,[.one (.vec 5005),.one (.vec 5006)]),(7,[.one (.vec 5007),.one (.vec 5008)])],V := [(5005,⟨2,1,List.length ([] : List Int),ints .i64 ([] : List Int)⟩),(5006,⟨23,4,List.length ([] : List (List Int)),rowsC .i64 ([] : List (List Int))⟩),(5007,⟨2,1,List.length L14,ints .i64 L14⟩),(5008,⟨23,4,List.length R15,rowsC .i64 R15⟩)],M := M,ds := [] } s' ∧ (∀ r ∈ R15,r.length = 4) ∧ p66a_l1 k u0R u0D u0st u0P u0V u1_0_1 u1_0_2 j11 n16 b12 x13 L14 R15 = some r) (k:=k) ⟨u2,(0 : Int),([] : List Int),([] : List (List Int)),keep_sub (ts:=[0,1,2,6,7,15,16]) (hs:=[6,7]) (vs:=[5005,5006,5007,5008]) (by kernel_rfl),rows_nil,h⟩ ?_
  rintro n16 s' ⟨b12,x13,L14,R15,hsub,r_R15,h⟩
  cases n16 with
  | zero => rw [p66a_l1] at h;cases h
  | succ n16 =>
   rw [p66a_l1] at h
   refine T_sub hsub ?_
   refine T_sq (by kernel_rfl) ?_
   refine T_region (id:=3) (by kernel_rfl) ?_
   obtain ⟨b17,e_b17,h⟩ := lt_some h
   refine TI_segK (i:=0) (j:=1) (s':={ σ := [(0,.lf (.v (.pointer (some ⟨u0b,0,none⟩)))),(1,.lf (.v (.func (.func 67) #[(rval (.agg [.one (.v (.pointer (some ⟨u0b,0,none⟩))),.one (.v (.int .i64 u1_0_1)),.one (.v (.int .i64 u1_0_2))]))] #[]))),(2,vb b12),(6,.lf (.own 6 0)),(7,.lf (.own 7 0)),(15,vi (u0P.length : Int)),(16,vi x13),(17,vb b17)],H := [(6,[.one (.vec 5005),.one (.vec 5006)]),(7,[.one (.vec 5007),.one (.vec 5008)])],V := [(5005,⟨2,1,List.length ([] : List Int),ints .i64 ([] : List Int)⟩),(5006,⟨23,4,List.length ([] : List (List Int)),rowsC .i64 ([] : List (List Int))⟩),(5007,⟨2,1,List.length L14,ints .i64 L14⟩),(5008,⟨23,4,List.length R15,rowsC .i64 R15⟩)],M := M,ds := [] }) [0,1,2,6,7,15,16,17] [6,7] [5005,5006,5007,5008] (by subst e_b17;kernel_rfl) (by kernel_rfl) ?_
   refine TI_end (by kernel_rfl) ?_
   refine thenQ_n ?_
   refine T_sq (by kernel_rfl) ?_
   cases b17 with
   | true =>
    replace h := sp_t h
    refine T_condT (x:=(.tmp 17)) (c1:=(sub [1,1,0,1,0,0,1,0,0] Bd66)) (c2:=(sub [1,1,0,1,0,0,1,0,1] Bd66)) (by kernel_rfl) (by kernel_rfl) ?_
    refine T_keepS [(0,.lf (.v (.pointer (some ⟨u0b,0,none⟩)))),(1,.lf (.v (.func (.func 67) #[(rval (.agg [.one (.v (.pointer (some ⟨u0b,0,none⟩))),.one (.v (.int .i64 u1_0_1)),.one (.v (.int .i64 u1_0_2))]))] #[]))),(2,vb b12),(6,.lf (.own 6 0)),(7,.lf (.own 7 0)),(15,vi (u0P.length : Int)),(16,vi x13)] (by kernel_rfl) ?_
    refine T_skip (by kernel_rfl) ?_
    refine thenQ_n ?_
    refine T_sq (by kernel_rfl) ?_
    refine T_block (id:=1) (c1:=(sub [1,1,0,1,0,0,1,1,0,0] Bd66)) (by kernel_rfl) ?_
    refine T_sq (by kernel_rfl) ?_
    refine T_region (id:=4) (by kernel_rfl) ?_
    refine TI_segS (i:=0) (j:=2) [(0,.lf (.v (.pointer (some ⟨u0b,0,none⟩)))),(1,.lf (.v (.func (.func 67) #[(rval (.agg [.one (.v (.pointer (some ⟨u0b,0,none⟩))),.one (.v (.int .i64 u1_0_1)),.one (.v (.int .i64 u1_0_2))]))] #[]))),(2,vb b12),(6,.lf (.own 6 0)),(7,.lf (.own 7 0)),(8,vi x13),(15,vi (u0P.length : Int)),(16,vi x13)] (by kernel_rfl) (by kernel_rfl) ?_
    refine TI_end (by kernel_rfl) ?_
    refine thenQ_n ?_
    refine T_sq (by kernel_rfl) ?_
    refine T_region (id:=5) (by kernel_rfl) ?_
    refine TI_segK (i:=0) (j:=1) (s':={ σ := [(0,.lf (.v (.pointer (some ⟨u0b,0,none⟩)))),(1,.lf (.v (.func (.func 67) #[(rval (.agg [.one (.v (.pointer (some ⟨u0b,0,none⟩))),.one (.v (.int .i64 u1_0_1)),.one (.v (.int .i64 u1_0_2))]))] #[]))),(2,vb b12),(6,.lf (.own 6 0)),(7,.lf (.own 7 0)),(8,vi x13),(9,.lf (.own 9 0)),(15,vi (u0P.length : Int)),(16,vi x13)],H := [(6,[.one (.vec 5005),.one (.vec 5006)]),(7,[.one (.vec 5007),.one (.vec 5008)]),(9,[.arr .i64 4 [(0 : Int),(0 : Int),(0 : Int),(0 : Int)]])],V := [(5005,⟨2,1,List.length ([] : List Int),ints .i64 ([] : List Int)⟩),(5006,⟨23,4,List.length ([] : List (List Int)),rowsC .i64 ([] : List (List Int))⟩),(5007,⟨2,1,List.length L14,ints .i64 L14⟩),(5008,⟨23,4,List.length R15,rowsC .i64 R15⟩)],M := M,ds := [] }) [0,1,2,6,7,8,9,15,16] [6,7,9] [5005,5006,5007,5008] (by kernel_rfl) (by kernel_rfl) ?_
    refine TI_end (by kernel_rfl) ?_
    refine thenQ_n ?_
    refine T_sq (by kernel_rfl) ?_
    refine T_sq (by kernel_rfl) ?_
    refine T_region (id:=6) (by kernel_rfl) ?_
    refine TI_segS (i:=0) (j:=1) [(0,.lf (.v (.pointer (some ⟨u0b,0,none⟩)))),(1,.lf (.v (.func (.func 67) #[(rval (.agg [.one (.v (.pointer (some ⟨u0b,0,none⟩))),.one (.v (.int .i64 u1_0_1)),.one (.v (.int .i64 u1_0_2))]))] #[]))),(2,vb b12),(6,.lf (.own 6 0)),(7,.lf (.own 7 0)),(8,vi x13),(9,.lf (.own 9 0)),(15,vi (u0P.length : Int)),(16,vi x13),(19,vi (0 : Int))] (by kernel_rfl) (by kernel_rfl) ?_
    refine TI_end (by kernel_rfl) ?_
    refine thenQ_n ?_
    obtain ⟨j20,e_j20,h⟩ := jn_some h
    refine T_bcut (id:=2) (c1:=(sub [1,1,0,1,0,0,1,1,0,0,1,1,0,1,0] Bd66)) (fun s' => ∃ (b18 : Bool) (L19 : List Int),Sub { σ := [(0,.lf (.v (.pointer (some ⟨u0b,0,none⟩)))),(1,.lf (.v (.func (.func 67) #[(rval (.agg [.one (.v (.pointer (some ⟨u0b,0,none⟩))),.one (.v (.int .i64 u1_0_1)),.one (.v (.int .i64 u1_0_2))]))] #[]))),(2,vb b18),(6,.lf (.own 6 0)),(7,.lf (.own 7 0)),(8,vi x13),(9,.lf (.own 9 0)),(15,vi (u0P.length : Int)),(16,vi x13)],H := [(6,[.one (.vec 5005),.one (.vec 5006)]),(7,[.one (.vec 5007),.one (.vec 5008)]),(9,[.arr .i64 4 L19])],V := [(5005,⟨2,1,List.length ([] : List Int),ints .i64 ([] : List Int)⟩),(5006,⟨23,4,List.length ([] : List (List Int)),rowsC .i64 ([] : List (List Int))⟩),(5007,⟨2,1,List.length L14,ints .i64 L14⟩),(5008,⟨23,4,List.length R15,rowsC .i64 R15⟩)],M := M,ds := [] } s' ∧ (L19).length = 4 ∧ j20 b18 L19 = some r) (by kernel_rfl) ?_ ?_
    ·refine T_loop (c1:=(sub [1,1,0,1,0,0,1,1,0,0,1,1,0,1,0,0] Bd66)) (by kernel_rfl) (fun n24 s' => ∃ (b21 : Bool) (x22 : Int) (L23 : List Int),Sub { σ := [(0,.lf (.v (.pointer (some ⟨u0b,0,none⟩)))),(1,.lf (.v (.func (.func 67) #[(rval (.agg [.one (.v (.pointer (some ⟨u0b,0,none⟩))),.one (.v (.int .i64 u1_0_1)),.one (.v (.int .i64 u1_0_2))]))] #[]))),(2,vb b21),(6,.lf (.own 6 0)),(7,.lf (.own 7 0)),(8,vi x13),(9,.lf (.own 9 0)),(15,vi (u0P.length : Int)),(16,vi x13),(19,vi x22)],H := [(6,[.one (.vec 5005),.one (.vec 5006)]),(7,[.one (.vec 5007),.one (.vec 5008)]),(9,[.arr .i64 4 L23])],V := [(5005,⟨2,1,List.length ([] : List Int),ints .i64 ([] : List Int)⟩),(5006,⟨23,4,List.length ([] : List (List Int)),rowsC .i64 ([] : List (List Int))⟩),(5007,⟨2,1,List.length L14,ints .i64 L14⟩),(5008,⟨23,4,List.length R15,rowsC .i64 R15⟩)],M := M,ds := [] } s' ∧ (L23).length = 4 ∧ p66a_l2 k u0V x13 j20 n24 b21 x22 L23 = some r) (k:=k) ⟨b12,(0 : Int),([(0 : Int),(0 : Int),(0 : Int),(0 : Int)]),keep_sub (ts:=[0,1,2,6,7,8,9,15,16,19]) (hs:=[6,7,9]) (vs:=[5005,5006,5007,5008]) (by kernel_rfl),rfl,h⟩ ?_
     rintro n24 s' ⟨b21,x22,L23,hsub,l_L23,h⟩
     cases n24 with
     | zero => rw [p66a_l2] at h;cases h
     | succ n24 =>
      rw [p66a_l2] at h
      refine T_sub hsub ?_
      refine T_sq (by kernel_rfl) ?_
      refine T_region (id:=7) (by kernel_rfl) ?_
      obtain ⟨b25,e_b25,h⟩ := lt_some h
      refine TI_segK (i:=0) (j:=1) (s':={ σ := [(0,.lf (.v (.pointer (some ⟨u0b,0,none⟩)))),(1,.lf (.v (.func (.func 67) #[(rval (.agg [.one (.v (.pointer (some ⟨u0b,0,none⟩))),.one (.v (.int .i64 u1_0_1)),.one (.v (.int .i64 u1_0_2))]))] #[]))),(2,vb b21),(6,.lf (.own 6 0)),(7,.lf (.own 7 0)),(8,vi x13),(9,.lf (.own 9 0)),(15,vi (u0P.length : Int)),(16,vi x13),(19,vi x22),(20,vb b25)],H := [(6,[.one (.vec 5005),.one (.vec 5006)]),(7,[.one (.vec 5007),.one (.vec 5008)]),(9,[.arr .i64 4 L23])],V := [(5005,⟨2,1,List.length ([] : List Int),ints .i64 ([] : List Int)⟩),(5006,⟨23,4,List.length ([] : List (List Int)),rowsC .i64 ([] : List (List Int))⟩),(5007,⟨2,1,List.length L14,ints .i64 L14⟩),(5008,⟨23,4,List.length R15,rowsC .i64 R15⟩)],M := M,ds := [] }) [0,1,2,6,7,8,9,15,16,19,20] [6,7,9] [5005,5006,5007,5008] (by subst e_b25;kernel_rfl) (by kernel_rfl) ?_
      refine TI_end (by kernel_rfl) ?_
      refine thenQ_n ?_
      refine T_sq (by kernel_rfl) ?_
      cases b25 with
      | true =>
       replace h := sp_t h
       refine T_condT (x:=(.tmp 20)) (c1:=(sub [1,1,0,1,0,0,1,1,0,0,1,1,0,1,0,0,1,0,0] Bd66)) (c2:=(sub [1,1,0,1,0,0,1,1,0,0,1,1,0,1,0,0,1,0,1] Bd66)) (by kernel_rfl) (by kernel_rfl) ?_
       refine T_keepS [(0,.lf (.v (.pointer (some ⟨u0b,0,none⟩)))),(1,.lf (.v (.func (.func 67) #[(rval (.agg [.one (.v (.pointer (some ⟨u0b,0,none⟩))),.one (.v (.int .i64 u1_0_1)),.one (.v (.int .i64 u1_0_2))]))] #[]))),(2,vb b21),(6,.lf (.own 6 0)),(7,.lf (.own 7 0)),(8,vi x13),(9,.lf (.own 9 0)),(15,vi (u0P.length : Int)),(16,vi x13),(19,vi x22)] (by kernel_rfl) ?_
       refine T_skip (by kernel_rfl) ?_
       refine thenQ_n ?_
       obtain ⟨j28,e_j28,h⟩ := jn_some h
       refine T_cut (c1:=(sub [1,1,0,1,0,0,1,1,0,0,1,1,0,1,0,0,1,1,0] Bd66)) (c2:=(sub [1,1,0,1,0,0,1,1,0,0,1,1,0,1,0,0,1,1,1] Bd66)) (fun s' => ∃ (b26 : Bool) (L27 : List Int),Sub { σ := [(0,.lf (.v (.pointer (some ⟨u0b,0,none⟩)))),(1,.lf (.v (.func (.func 67) #[(rval (.agg [.one (.v (.pointer (some ⟨u0b,0,none⟩))),.one (.v (.int .i64 u1_0_1)),.one (.v (.int .i64 u1_0_2))]))] #[]))),(2,vb b26),(6,.lf (.own 6 0)),(7,.lf (.own 7 0)),(8,vi x13),(9,.lf (.own 9 0)),(15,vi (u0P.length : Int)),(16,vi x13),(19,vi x22)],H := [(6,[.one (.vec 5005),.one (.vec 5006)]),(7,[.one (.vec 5007),.one (.vec 5008)]),(9,[.arr .i64 4 L27])],V := [(5005,⟨2,1,List.length ([] : List Int),ints .i64 ([] : List Int)⟩),(5006,⟨23,4,List.length ([] : List (List Int)),rowsC .i64 ([] : List (List Int))⟩),(5007,⟨2,1,List.length L14,ints .i64 L14⟩),(5008,⟨23,4,List.length R15,rowsC .i64 R15⟩)],M := M,ds := [] } s' ∧ (L27).length = 4 ∧ j28 b26 L27 = some r) (by kernel_rfl) ?_ ?_
       ·refine T_block (id:=3) (c1:=(sub [1,1,0,1,0,0,1,1,0,0,1,1,0,1,0,0,1,1,0,0] Bd66)) (by kernel_rfl) ?_
        refine T_sq (by kernel_rfl) ?_
        refine T_region (id:=8) (by kernel_rfl) ?_
        refine TI_segK (i:=0) (j:=2) (s':={ σ := [(0,.lf (.v (.pointer (some ⟨u0b,0,none⟩)))),(1,.lf (.v (.func (.func 67) #[(rval (.agg [.one (.v (.pointer (some ⟨u0b,0,none⟩))),.one (.v (.int .i64 u1_0_1)),.one (.v (.int .i64 u1_0_2))]))] #[]))),(2,vb b21),(6,.lf (.own 6 0)),(7,.lf (.own 7 0)),(8,vi x13),(9,.lf (.own 9 0)),(10,vi x22),(15,vi (u0P.length : Int)),(16,vi x13),(19,vi x22)],H := [(6,[.one (.vec 5005),.one (.vec 5006)]),(7,[.one (.vec 5007),.one (.vec 5008)]),(9,[.arr .i64 4 L23])],V := [(5005,⟨2,1,List.length ([] : List Int),ints .i64 ([] : List Int)⟩),(5006,⟨23,4,List.length ([] : List (List Int)),rowsC .i64 ([] : List (List Int))⟩),(5007,⟨2,1,List.length L14,ints .i64 L14⟩),(5008,⟨23,4,List.length R15,rowsC .i64 R15⟩)],M := M,ds := [] }) [0,1,2,6,7,8,9,10,15,16,19] [6,7,9] [5005,5006,5007,5008] (by kernel_rfl) (by kernel_rfl) ?_
        refine TI_end (by kernel_rfl) ?_
        refine thenQ_n ?_
        refine T_sq (by kernel_rfl) ?_
        refine T_region (id:=9) (by kernel_rfl) ?_
        refine TI_segS (i:=0) (j:=5) [(0,.lf (.v (.pointer (some ⟨u0b,0,none⟩)))),(1,.lf (.v (.func (.func 67) #[(rval (.agg [.one (.v (.pointer (some ⟨u0b,0,none⟩))),.one (.v (.int .i64 u1_0_1)),.one (.v (.int .i64 u1_0_2))]))] #[]))),(2,vb b21),(6,.lf (.own 6 0)),(7,.lf (.own 7 0)),(8,vi x13),(9,.lf (.own 9 0)),(10,vi x22),(15,vi (u0P.length : Int)),(16,vi x13),(19,vi x22),(22,vi x22),(24,vi x22),(26,.lf (.v (.pointer (some ⟨u0b,7,none⟩))))] (by kernel_rfl) (by kernel_rfl) ?_
        obtain ⟨g29,h⟩ := gd_some h
        refine TI_at (i:=5) (d:=27) (x:=.lf (.v (.pointer (some ⟨u0b,7 + (x22).toNat * 1,none⟩)))) (by exact At_idxP (d:=27) (z:=x22) (b:=u0b) (off:=7) (sz:=1) (n:=4) (by kernel_rfl) g29) (by kernel_rfl) trivial ?_
        obtain ⟨R30,e_R30,h⟩ := lt_some h
        have f_R30 : SlR M (u0AV ((x22).toNat * 1)) (u0cV ((x22).toNat * 1)) .i64 2 R30 := by rw [e_R30]; exact ((hu0).val ((x22).toNat * 1) (by omega)).2
        refine TI_at (i:=6) (d:=28) (x:=.lf (.v (.slice (u0AV ((x22).toNat * 1)) (R30.length) (u0cV ((x22).toNat * 1))))) (by rw [e_R30]; exact At_ldP (d:=28) (b:=u0b) (off:=7 + (x22).toNat * 1) (m:=1) (by subst e_R30; kernel_rfl) ((hu0).val ((x22).toNat * 1) (by omega)).1) (by kernel_rfl) trivial ?_
        refine TI_segK (i:=7) (j:=8) (s':={ σ := [(0,.lf (.v (.pointer (some ⟨u0b,0,none⟩)))),(1,.lf (.v (.func (.func 67) #[(rval (.agg [.one (.v (.pointer (some ⟨u0b,0,none⟩))),.one (.v (.int .i64 u1_0_1)),.one (.v (.int .i64 u1_0_2))]))] #[]))),(2,vb b21),(6,.lf (.own 6 0)),(7,.lf (.own 7 0)),(8,vi x13),(9,.lf (.own 9 0)),(10,vi x22),(15,vi (u0P.length : Int)),(16,vi x13),(19,vi x22),(22,vi x22),(28,.lf (.v (.slice (u0AV ((x22).toNat * 1)) (R30.length) (u0cV ((x22).toNat * 1))))),(29,vi x13)],H := [(6,[.one (.vec 5005),.one (.vec 5006)]),(7,[.one (.vec 5007),.one (.vec 5008)]),(9,[.arr .i64 4 L23])],V := [(5005,⟨2,1,List.length ([] : List Int),ints .i64 ([] : List Int)⟩),(5006,⟨23,4,List.length ([] : List (List Int)),rowsC .i64 ([] : List (List Int))⟩),(5007,⟨2,1,List.length L14,ints .i64 L14⟩),(5008,⟨23,4,List.length R15,rowsC .i64 R15⟩)],M := M,ds := [] }) [0,1,2,6,7,8,9,10,15,16,19,22,28,29] [6,7,9] [5005,5006,5007,5008] (by kernel_rfl) (by kernel_rfl) ?_
        obtain ⟨g31,h⟩ := gd_some h
        refine TI_at (i:=8) (d:=30) (x:=.lf (.ep (.slice (u0AV ((x22).toNat * 1)) (R30.length) (u0cV ((x22).toNat * 1))) 2 ((x13).toNat) 0)) (by exact At_idxR (d:=30) (z:=x13) (by kernel_rfl) g31 f_R30) (by kernel_rfl) trivial ?_
        refine TI_segK (i:=9) (j:=10) (s':={ σ := [(0,.lf (.v (.pointer (some ⟨u0b,0,none⟩)))),(1,.lf (.v (.func (.func 67) #[(rval (.agg [.one (.v (.pointer (some ⟨u0b,0,none⟩))),.one (.v (.int .i64 u1_0_1)),.one (.v (.int .i64 u1_0_2))]))] #[]))),(2,vb b21),(6,.lf (.own 6 0)),(7,.lf (.own 7 0)),(8,vi x13),(9,.lf (.own 9 0)),(10,vi x22),(15,vi (u0P.length : Int)),(16,vi x13),(19,vi x22),(22,vi x22),(31,.lf (.ep (.slice (u0AV ((x22).toNat * 1)) (R30.length) (u0cV ((x22).toNat * 1))) 2 ((x13).toNat) 0))],H := [(6,[.one (.vec 5005),.one (.vec 5006)]),(7,[.one (.vec 5007),.one (.vec 5008)]),(9,[.arr .i64 4 L23])],V := [(5005,⟨2,1,List.length ([] : List Int),ints .i64 ([] : List Int)⟩),(5006,⟨23,4,List.length ([] : List (List Int)),rowsC .i64 ([] : List (List Int))⟩),(5007,⟨2,1,List.length L14,ints .i64 L14⟩),(5008,⟨23,4,List.length R15,rowsC .i64 R15⟩)],M := M,ds := [] }) [0,1,2,6,7,8,9,10,15,16,19,22,31] [6,7,9] [5005,5006,5007,5008] (by kernel_rfl) (by kernel_rfl) ?_
        obtain ⟨x32,e_x32,h⟩ := lt_some h
        refine TI_at (i:=10) (d:=32) (x:=vi x32) (by rw [e_x32]; exact At_ldR1 (d:=32) (q:=(x13).toNat) (j:=0) (by subst e_x32; kernel_rfl) rfl (toNat_lt g31) f_R30) (by kernel_rfl) trivial ?_
        obtain ⟨g33,h⟩ := gd_some h
        refine TI_at (i:=11) (d:=33) (x:=.lf (.oel 9 (0 + (x22).toNat * 1))) (by exact At_idxO (d:=33) (z:=x22) (b:=9) (off:=0) (sz:=1) (n:=4) (by kernel_rfl) g33) (by kernel_rfl) trivial ?_
        obtain ⟨L34,e_L34,h⟩ := lt_some h
        have l_L34 : (L34).length = 4 := by rw [e_L34]; have q0 := (show (L23).length = 4 from l_L23); simp only [List.length_append,List.length_take,List.length_drop,List.length_cons,List.length_nil]; omega
        refine TI_of (i:=12) (by kernel_rfl) (TE_stOC (m:=1) (b:=9) (off:=0 + (x22).toNat * 1) (base:=0) (q:=0 + (x22).toNat * 1) (n:=4) (k:=.i64) (L:=L23) (L2:=L34) (Z:=(x32::[])) (e:=[.one (.v (.int .i64 x32))]) (c':=[.arr .i64 4 L34]) (by subst e_L34;kernel_rfl) (by kernel_rfl) (by subst e_L34;kernel_rfl) (by omega) (by omega) (by kernel_rfl) (by kernel_rfl) e_L34 (by kernel_rfl) ?_)
        refine TI_segK (i:=13) (j:=13) (s':={ σ := [(0,.lf (.v (.pointer (some ⟨u0b,0,none⟩)))),(1,.lf (.v (.func (.func 67) #[(rval (.agg [.one (.v (.pointer (some ⟨u0b,0,none⟩))),.one (.v (.int .i64 u1_0_1)),.one (.v (.int .i64 u1_0_2))]))] #[]))),(2,vb b21),(6,.lf (.own 6 0)),(7,.lf (.own 7 0)),(8,vi x13),(9,.lf (.own 9 0)),(10,vi x22),(15,vi (u0P.length : Int)),(16,vi x13),(19,vi x22)],H := [(6,[.one (.vec 5005),.one (.vec 5006)]),(7,[.one (.vec 5007),.one (.vec 5008)]),(9,[.arr .i64 4 L34])],V := [(5005,⟨2,1,List.length ([] : List Int),ints .i64 ([] : List Int)⟩),(5006,⟨23,4,List.length ([] : List (List Int)),rowsC .i64 ([] : List (List Int))⟩),(5007,⟨2,1,List.length L14,ints .i64 L14⟩),(5008,⟨23,4,List.length R15,rowsC .i64 R15⟩)],M := M,ds := [] }) [0,1,2,6,7,8,9,10,15,16,19] [6,7,9] [5005,5006,5007,5008] (by kernel_rfl) (by kernel_rfl) ?_
        refine TI_end (by kernel_rfl) ?_
        refine thenQ_n ?_
        refine T_sq (by kernel_rfl) ?_
        refine T_region (id:=10) (by kernel_rfl) ?_
        refine TI_segS (i:=0) (j:=1) [(0,.lf (.v (.pointer (some ⟨u0b,0,none⟩)))),(1,.lf (.v (.func (.func 67) #[(rval (.agg [.one (.v (.pointer (some ⟨u0b,0,none⟩))),.one (.v (.int .i64 u1_0_1)),.one (.v (.int .i64 u1_0_2))]))] #[]))),(2,vb b21),(6,.lf (.own 6 0)),(7,.lf (.own 7 0)),(8,vi x13),(9,.lf (.own 9 0)),(10,vi x22),(15,vi (u0P.length : Int)),(16,vi x13),(19,vi x22),(34,vb b21)] (by kernel_rfl) (by kernel_rfl) ?_
        refine TI_end (by kernel_rfl) ?_
        refine thenQ_n ?_
        cases b21 with
        | true =>
         replace h := sp_t h
         refine T_condT (x:=(.tmp 34)) (c1:=(sub [1,1,0,1,0,0,1,1,0,0,1,1,0,1,0,0,1,1,0,0,1,1,1,0] Bd66)) (c2:=(sub [1,1,0,1,0,0,1,1,0,0,1,1,0,1,0,0,1,1,0,0,1,1,1,1] Bd66)) (by kernel_rfl) (by kernel_rfl) ?_
         refine T_keepS [(0,.lf (.v (.pointer (some ⟨u0b,0,none⟩)))),(1,.lf (.v (.func (.func 67) #[(rval (.agg [.one (.v (.pointer (some ⟨u0b,0,none⟩))),.one (.v (.int .i64 u1_0_1)),.one (.v (.int .i64 u1_0_2))]))] #[]))),(2,vb true),(6,.lf (.own 6 0)),(7,.lf (.own 7 0)),(8,vi x13),(9,.lf (.own 9 0)),(10,vi x22),(15,vi (u0P.length : Int)),(16,vi x13),(19,vi x22)] (by kernel_rfl) ?_
         refine T_region (id:=11) (by kernel_rfl) ?_
         refine TI_segS (i:=0) (j:=5) [(0,.lf (.v (.pointer (some ⟨u0b,0,none⟩)))),(1,.lf (.v (.func (.func 67) #[(rval (.agg [.one (.v (.pointer (some ⟨u0b,0,none⟩))),.one (.v (.int .i64 u1_0_1)),.one (.v (.int .i64 u1_0_2))]))] #[]))),(2,vb true),(6,.lf (.own 6 0)),(7,.lf (.own 7 0)),(8,vi x13),(9,.lf (.own 9 0)),(15,vi (u0P.length : Int)),(16,vi x13),(19,vi x22),(35,vi x22),(37,vi x22),(39,.lf (.v (.pointer (some ⟨u0b,7,none⟩))))] (by kernel_rfl) (by kernel_rfl) ?_
         obtain ⟨g35,h⟩ := gd_some h
         refine TI_at (i:=5) (d:=40) (x:=.lf (.v (.pointer (some ⟨u0b,7 + (x22).toNat * 1,none⟩)))) (by exact At_idxP (d:=40) (z:=x22) (b:=u0b) (off:=7) (sz:=1) (n:=4) (by kernel_rfl) g35) (by kernel_rfl) trivial ?_
         obtain ⟨R36,e_R36,h⟩ := lt_some h
         have f_R36 : SlR M (u0AV ((x22).toNat * 1)) (u0cV ((x22).toNat * 1)) .i64 2 R36 := by rw [e_R36]; exact ((hu0).val ((x22).toNat * 1) (by omega)).2
         refine TI_at (i:=6) (d:=41) (x:=.lf (.v (.slice (u0AV ((x22).toNat * 1)) (R36.length) (u0cV ((x22).toNat * 1))))) (by rw [e_R36]; exact At_ldP (d:=41) (b:=u0b) (off:=7 + (x22).toNat * 1) (m:=1) (by subst e_R36; kernel_rfl) ((hu0).val ((x22).toNat * 1) (by omega)).1) (by kernel_rfl) trivial ?_
         refine TI_segK (i:=7) (j:=8) (s':={ σ := [(0,.lf (.v (.pointer (some ⟨u0b,0,none⟩)))),(1,.lf (.v (.func (.func 67) #[(rval (.agg [.one (.v (.pointer (some ⟨u0b,0,none⟩))),.one (.v (.int .i64 u1_0_1)),.one (.v (.int .i64 u1_0_2))]))] #[]))),(2,vb true),(6,.lf (.own 6 0)),(7,.lf (.own 7 0)),(8,vi x13),(9,.lf (.own 9 0)),(15,vi (u0P.length : Int)),(16,vi x13),(19,vi x22),(35,vi x22),(41,.lf (.v (.slice (u0AV ((x22).toNat * 1)) (R36.length) (u0cV ((x22).toNat * 1))))),(42,vi x13)],H := [(6,[.one (.vec 5005),.one (.vec 5006)]),(7,[.one (.vec 5007),.one (.vec 5008)]),(9,[.arr .i64 4 L34])],V := [(5005,⟨2,1,List.length ([] : List Int),ints .i64 ([] : List Int)⟩),(5006,⟨23,4,List.length ([] : List (List Int)),rowsC .i64 ([] : List (List Int))⟩),(5007,⟨2,1,List.length L14,ints .i64 L14⟩),(5008,⟨23,4,List.length R15,rowsC .i64 R15⟩)],M := M,ds := [] }) [0,1,2,6,7,8,9,15,16,19,35,41,42] [6,7,9] [5005,5006,5007,5008] (by kernel_rfl) (by kernel_rfl) ?_
         obtain ⟨g37,h⟩ := gd_some h
         refine TI_at (i:=8) (d:=43) (x:=.lf (.ep (.slice (u0AV ((x22).toNat * 1)) (R36.length) (u0cV ((x22).toNat * 1))) 2 ((x13).toNat) 0)) (by exact At_idxR (d:=43) (z:=x13) (by kernel_rfl) g37 f_R36) (by kernel_rfl) trivial ?_
         refine TI_segK (i:=9) (j:=10) (s':={ σ := [(0,.lf (.v (.pointer (some ⟨u0b,0,none⟩)))),(1,.lf (.v (.func (.func 67) #[(rval (.agg [.one (.v (.pointer (some ⟨u0b,0,none⟩))),.one (.v (.int .i64 u1_0_1)),.one (.v (.int .i64 u1_0_2))]))] #[]))),(2,vb true),(6,.lf (.own 6 0)),(7,.lf (.own 7 0)),(8,vi x13),(9,.lf (.own 9 0)),(15,vi (u0P.length : Int)),(16,vi x13),(19,vi x22),(35,vi x22),(44,.lf (.ep (.slice (u0AV ((x22).toNat * 1)) (R36.length) (u0cV ((x22).toNat * 1))) 2 ((x13).toNat) 1))],H := [(6,[.one (.vec 5005),.one (.vec 5006)]),(7,[.one (.vec 5007),.one (.vec 5008)]),(9,[.arr .i64 4 L34])],V := [(5005,⟨2,1,List.length ([] : List Int),ints .i64 ([] : List Int)⟩),(5006,⟨23,4,List.length ([] : List (List Int)),rowsC .i64 ([] : List (List Int))⟩),(5007,⟨2,1,List.length L14,ints .i64 L14⟩),(5008,⟨23,4,List.length R15,rowsC .i64 R15⟩)],M := M,ds := [] }) [0,1,2,6,7,8,9,15,16,19,35,44] [6,7,9] [5005,5006,5007,5008] (by kernel_rfl) (by kernel_rfl) ?_
         obtain ⟨x38,e_x38,h⟩ := lt_some h
         refine TI_at (i:=10) (d:=45) (x:=vi x38) (by rw [e_x38]; exact At_ldR1 (d:=45) (q:=(x13).toNat) (j:=1) (by subst e_x38; kernel_rfl) rfl (toNat_lt g37) f_R36) (by kernel_rfl) trivial ?_
         obtain ⟨g39,h⟩ := gd_some h
         refine TI_at (i:=11) (d:=46) (x:=.lf (.oel 9 (0 + (x22).toNat * 1))) (by exact At_idxO (d:=46) (z:=x22) (b:=9) (off:=0) (sz:=1) (n:=4) (by kernel_rfl) g39) (by kernel_rfl) trivial ?_
         obtain ⟨L40,e_L40,h⟩ := lt_some h
         have l_L40 : (L40).length = 4 := by rw [e_L40]; have q0 := (show (L34).length = 4 from l_L34); simp only [List.length_append,List.length_take,List.length_drop,List.length_cons,List.length_nil]; omega
         refine TI_of (i:=12) (by kernel_rfl) (TE_stOC (m:=1) (b:=9) (off:=0 + (x22).toNat * 1) (base:=0) (q:=0 + (x22).toNat * 1) (n:=4) (k:=.i64) (L:=L34) (L2:=L40) (Z:=(x38::[])) (e:=[.one (.v (.int .i64 x38))]) (c':=[.arr .i64 4 L40]) (by subst e_L40;kernel_rfl) (by kernel_rfl) (by subst e_L40;kernel_rfl) (by omega) (by omega) (by kernel_rfl) (by kernel_rfl) e_L40 (by kernel_rfl) ?_)
         refine TI_segK (i:=13) (j:=13) (s':={ σ := [(0,.lf (.v (.pointer (some ⟨u0b,0,none⟩)))),(1,.lf (.v (.func (.func 67) #[(rval (.agg [.one (.v (.pointer (some ⟨u0b,0,none⟩))),.one (.v (.int .i64 u1_0_1)),.one (.v (.int .i64 u1_0_2))]))] #[]))),(2,vb true),(6,.lf (.own 6 0)),(7,.lf (.own 7 0)),(8,vi x13),(9,.lf (.own 9 0)),(15,vi (u0P.length : Int)),(16,vi x13),(19,vi x22)],H := [(6,[.one (.vec 5005),.one (.vec 5006)]),(7,[.one (.vec 5007),.one (.vec 5008)]),(9,[.arr .i64 4 L40])],V := [(5005,⟨2,1,List.length ([] : List Int),ints .i64 ([] : List Int)⟩),(5006,⟨23,4,List.length ([] : List (List Int)),rowsC .i64 ([] : List (List Int))⟩),(5007,⟨2,1,List.length L14,ints .i64 L14⟩),(5008,⟨23,4,List.length R15,rowsC .i64 R15⟩)],M := M,ds := [] }) [0,1,2,6,7,8,9,15,16,19] [6,7,9] [5005,5006,5007,5008] (by kernel_rfl) (by kernel_rfl) ?_
         refine TI_end (by kernel_rfl) ?_
         refine blockQ_n ?_
         refine thenQ_n ?_
         exact ⟨true,L40,keep_sub (ts:=[0,1,2,6,7,8,9,15,16,19]) (hs:=[6,7,9]) (vs:=[5005,5006,5007,5008]) (by kernel_rfl),l_L40,h⟩
        | false =>
         replace h := sp_f h
         refine T_condF (x:=(.tmp 34)) (c1:=(sub [1,1,0,1,0,0,1,1,0,0,1,1,0,1,0,0,1,1,0,0,1,1,1,0] Bd66)) (c2:=(sub [1,1,0,1,0,0,1,1,0,0,1,1,0,1,0,0,1,1,0,0,1,1,1,1] Bd66)) (by kernel_rfl) (by kernel_rfl) ?_
         refine T_keepS [(0,.lf (.v (.pointer (some ⟨u0b,0,none⟩)))),(1,.lf (.v (.func (.func 67) #[(rval (.agg [.one (.v (.pointer (some ⟨u0b,0,none⟩))),.one (.v (.int .i64 u1_0_1)),.one (.v (.int .i64 u1_0_2))]))] #[]))),(2,vb false),(6,.lf (.own 6 0)),(7,.lf (.own 7 0)),(8,vi x13),(9,.lf (.own 9 0)),(15,vi (u0P.length : Int)),(16,vi x13),(19,vi x22)] (by kernel_rfl) ?_
         refine T_skip (by kernel_rfl) ?_
         refine blockQ_n ?_
         refine thenQ_n ?_
         exact ⟨false,L34,keep_sub (ts:=[0,1,2,6,7,8,9,15,16,19]) (hs:=[6,7,9]) (vs:=[5005,5006,5007,5008]) (by kernel_rfl),l_L34,h⟩
       ·rintro s' ⟨b26,L27,hsub,l_L27,h⟩
        subst e_j28
        refine T_sub hsub ?_
        refine T_region (id:=12) (by kernel_rfl) ?_
        obtain ⟨x41,e_x41,h⟩ := lt_some h
        refine TI_segK (i:=0) (j:=2) (s':={ σ := [(0,.lf (.v (.pointer (some ⟨u0b,0,none⟩)))),(1,.lf (.v (.func (.func 67) #[(rval (.agg [.one (.v (.pointer (some ⟨u0b,0,none⟩))),.one (.v (.int .i64 u1_0_1)),.one (.v (.int .i64 u1_0_2))]))] #[]))),(2,vb b26),(6,.lf (.own 6 0)),(7,.lf (.own 7 0)),(8,vi x13),(9,.lf (.own 9 0)),(15,vi (u0P.length : Int)),(16,vi x13),(19,vi x41)],H := [(6,[.one (.vec 5005),.one (.vec 5006)]),(7,[.one (.vec 5007),.one (.vec 5008)]),(9,[.arr .i64 4 L27])],V := [(5005,⟨2,1,List.length ([] : List Int),ints .i64 ([] : List Int)⟩),(5006,⟨23,4,List.length ([] : List (List Int)),rowsC .i64 ([] : List (List Int))⟩),(5007,⟨2,1,List.length L14,ints .i64 L14⟩),(5008,⟨23,4,List.length R15,rowsC .i64 R15⟩)],M := M,ds := [] }) [0,1,2,6,7,8,9,15,16,19] [6,7,9] [5005,5006,5007,5008] (by subst e_x41;kernel_rfl) (by kernel_rfl) ?_
        refine TI_end (by kernel_rfl) ?_
        refine thenQ_n ?_
        exact ⟨n24,Nat.lt_succ_self _,b26,x41,L27,keep_sub (ts:=[0,1,2,6,7,8,9,15,16,19]) (hs:=[6,7,9]) (vs:=[5005,5006,5007,5008]) (by kernel_rfl),l_L27,h⟩
      | false =>
       replace h := sp_f h
       refine T_condF (x:=(.tmp 20)) (c1:=(sub [1,1,0,1,0,0,1,1,0,0,1,1,0,1,0,0,1,0,0] Bd66)) (c2:=(sub [1,1,0,1,0,0,1,1,0,0,1,1,0,1,0,0,1,0,1] Bd66)) (by kernel_rfl) (by kernel_rfl) ?_
       refine T_keepS [(0,.lf (.v (.pointer (some ⟨u0b,0,none⟩)))),(1,.lf (.v (.func (.func 67) #[(rval (.agg [.one (.v (.pointer (some ⟨u0b,0,none⟩))),.one (.v (.int .i64 u1_0_1)),.one (.v (.int .i64 u1_0_2))]))] #[]))),(2,vb b21),(6,.lf (.own 6 0)),(7,.lf (.own 7 0)),(8,vi x13),(9,.lf (.own 9 0)),(15,vi (u0P.length : Int)),(16,vi x13)] (by kernel_rfl) ?_
       refine T_exit (id:=2) (by kernel_rfl) ?_
       refine thenQ_x ?_
       refine thenQ_x ?_
       refine blockQ_x ?_
       refine thenQ_n ?_
       exact ⟨b21,L23,keep_sub (ts:=[0,1,2,6,7,8,9,15,16]) (hs:=[6,7,9]) (vs:=[5005,5006,5007,5008]) (by kernel_rfl),l_L23,h⟩
    ·rintro s' ⟨b18,L19,hsub,l_L19,h⟩
     subst e_j20
     refine thenQ_n ?_
     refine T_sub hsub ?_
     obtain ⟨v42,c_v42,h⟩ := cl_some h
     obtain ⟨g43,h⟩ := gd_some h
     obtain ⟨W44,e_W44,h⟩ := lt_some h
     obtain ⟨g45,h⟩ := gd_some h
     obtain ⟨W46,e_W46,h⟩ := lt_some h
     have r_W46 : ∀ r ∈ W46,r.length = 4 := by rw [e_W46]; exact rows_app r_R15 (rows_cons l_L19 rows_nil)
     refine T_rcut ({ σ := [(0,.lf (.v (.pointer (some ⟨u0b,0,none⟩)))),(1,.lf (.v (.func (.func 67) #[(rval (.agg [.one (.v (.pointer (some ⟨u0b,0,none⟩))),.one (.v (.int .i64 u1_0_1)),.one (.v (.int .i64 u1_0_2))]))] #[]))),(2,vb b18),(6,.lf (.own 6 0)),(7,.lf (.own 7 0)),(15,vi (u0P.length : Int)),(16,vi x13)],H := [(6,[.one (.vec 5005),.one (.vec 5006)]),(7,[.one (.vec 54),.one (.vec 59)])],V := [(54,⟨2,1,List.length W44,ints .i64 W44⟩),(59,⟨23,4,List.length W46,rowsC .i64 W46⟩),(5005,⟨2,1,List.length ([] : List Int),ints .i64 ([] : List Int)⟩),(5006,⟨23,4,List.length ([] : List (List Int)),rowsC .i64 ([] : List (List Int))⟩)],M := M,ds := [] }) ?_ ?_
     ·refine T_drawT (id:=13) 6 [5,6,10,11,13,15] [[],[],[],[],[],[],[],[],[],[],[],[],[5,6],[],[5,6,10,11,13],[]] (by kernel_rfl) (by kernel_rfl) (by kernel_rfl) (by kernel_rfl) [(48,.lf (.own 7 0)),(49,.lf (.vec 5007)),(50,.lf (.v (.func (.func 67) #[(rval (.agg [.one (.v (.pointer (some ⟨u0b,0,none⟩))),.one (.v (.int .i64 u1_0_1)),.one (.v (.int .i64 u1_0_2))]))] #[]))),(51,vi x13),(52,vi v42),(55,.lf (.own 7 1)),(56,.lf (.vec 5008)),(57,.agg [.arr .i64 4 L19])] (by kernel_rfl) ⟨trivial,⟨trivial,⟨trivial,⟨trivial,⟨trivial,⟨trivial,⟨trivial,⟨⟨l_L19,trivial⟩,trivial⟩⟩⟩⟩⟩⟩⟩⟩ ?_
      refine StageT_cons [5,10] (stageT_all [0,1,2,3,7,8,9] [4] (by kernel_rfl) (by subst e_W46 e_W44;kernel_rfl) (by kernel_rfl) ⟨QF_at (i:=4) (d:=52) (x:=vi v42) (show OpAt _ _ _ 4 52 _ from by exact At_call (d:=52) (f:=67) (args:=[rval (.agg [.one (.v (.pointer (some ⟨u0b,0,none⟩))),.one (.v (.int .i64 u1_0_1)),.one (.v (.int .i64 u1_0_2))]),rval (vi x13)]) (x:=vi v42) (by subst e_W46 e_W44;kernel_rfl) (w67 k hu0 c_v42)) (by kernel_rfl) (by subst e_W46 e_W44;kernel_rfl),trivial⟩) (by kernel_rfl) (by kernel_rfl) ⟨?_,?_,trivial⟩
      ·refine TE_litC (d:=53) (e:=2) (sz:=1) (len:=1) (cs:=ints .i64 ([v42])) (by subst e_W46 e_W44;kernel_rfl) (by kernel_rfl) (by kernel_rfl) ?_
       refine TL_nil (stageTQ_of [] (by kernel_rfl) trivial ?_)
       refine StageT_cons [6,10] (stageT_all [0,1,7,8,9] [] (by kernel_rfl) (by subst e_W46 e_W44;kernel_rfl) (by kernel_rfl) trivial) (by kernel_rfl) (by kernel_rfl) ⟨?_,?_,trivial⟩
       ·refine TE_appC (d:=54) (e:=2) (sz:=1) (bytes:=8) (n:=5007) (x:=(.tmp 53)) (len:=List.length L14) (cs0:=ints .i64 L14) (cs2:=ints .i64 W44) (by subst e_W46 e_W44;kernel_rfl) (by kernel_rfl) (by subst e_W46 e_W44;kernel_rfl) (vecI_src (n:=53) (e:=2) (k:=.i64) (L:=[v42]) (by subst e_W46 e_W44;kernel_rfl) (by subst e_W46 e_W44;kernel_rfl)) g43 rfl (len_app_eq e_W44) (ints_app_eq e_W44) ?_
        refine TL_nil (stageTQ_of [(60,.lf (.own 7 0))] (by kernel_rfl) ⟨trivial,trivial⟩ ?_)
        refine StageT_cons [10] (stageT_all [7,8,9,12] [] (by kernel_rfl) (by subst e_W46 e_W44;kernel_rfl) (by kernel_rfl) trivial) (by kernel_rfl) (by kernel_rfl) ⟨?_,trivial⟩
        ·refine TE_litC (d:=58) (e:=23) (sz:=4) (len:=1) (cs:=rowsC .i64 ([L19])) (by subst e_W46 e_W44;kernel_rfl) (by kernel_rfl) (by kernel_rfl) ?_
         refine TL_nil (stageTQ_of [] (by kernel_rfl) trivial ?_)
         refine StageT_cons [11] (stageT_all [7,8,12] [] (by kernel_rfl) (by subst e_W46 e_W44;kernel_rfl) (by kernel_rfl) trivial) (by kernel_rfl) (by kernel_rfl) ⟨?_,trivial⟩
         ·refine TE_appC (d:=59) (e:=23) (sz:=4) (bytes:=32) (n:=5008) (x:=(.tmp 58)) (len:=List.length R15) (cs0:=rowsC .i64 R15) (cs2:=rowsC .i64 W46) (by subst e_W46 e_W44;kernel_rfl) (by kernel_rfl) (by subst e_W46 e_W44;kernel_rfl) (vecR_src (n:=58) (e:=23) (k:=.i64) (m:=4) (R:=[L19]) (by subst e_W46 e_W44;kernel_rfl) (by subst e_W46 e_W44;kernel_rfl) (rows_cons l_L19 rows_nil)) g45 rfl (len_app_eq e_W46) (rowsC_app_eq e_W46) ?_
          refine TL_nil (stageTQ_of [] (by kernel_rfl) trivial ?_)
          refine StageT_cons [13] (stageT_all [12] [] (by kernel_rfl) (by subst e_W46 e_W44;kernel_rfl) (by kernel_rfl) trivial) (by kernel_rfl) (by kernel_rfl) ⟨?_,trivial⟩
          ·refine StepT_ex ({ σ := [(59,.lf (.vec 59)),(58,.lf (.vec 58)),(60,.lf (.own 7 0)),(54,.lf (.vec 54)),(53,.lf (.vec 53)),(48,.lf (.own 7 0)),(49,.lf (.vec 5007)),(50,.lf (.v (.func (.func 67) #[(rval (.agg [.one (.v (.pointer (some ⟨u0b,0,none⟩))),.one (.v (.int .i64 u1_0_1)),.one (.v (.int .i64 u1_0_2))]))] #[]))),(51,vi x13),(52,vi v42),(55,.lf (.own 7 1)),(56,.lf (.vec 5008)),(57,.agg [.arr .i64 4 L19]),(0,.lf (.v (.pointer (some ⟨u0b,0,none⟩)))),(1,.lf (.v (.func (.func 67) #[(rval (.agg [.one (.v (.pointer (some ⟨u0b,0,none⟩))),.one (.v (.int .i64 u1_0_1)),.one (.v (.int .i64 u1_0_2))]))] #[]))),(2,vb b18),(6,.lf (.own 6 0)),(7,.lf (.own 7 0)),(8,vi x13),(9,.lf (.own 9 0)),(15,vi (u0P.length : Int)),(16,vi x13)],H := [(7,[.one (.vec 54),.one (.vec 5008)]),(6,[.one (.vec 5005),.one (.vec 5006)]),(7,[.one (.vec 5007),.one (.vec 5008)]),(9,[.arr .i64 4 L19])],V := [(59,⟨23,4,List.length W46,rowsC .i64 W46⟩),(58,⟨23,4,List.length ([L19]),rowsC .i64 ([L19])⟩),(54,⟨2,1,List.length W44,ints .i64 W44⟩),(53,⟨2,1,List.length ([v42]),ints .i64 ([v42])⟩),(5005,⟨2,1,List.length ([] : List Int),ints .i64 ([] : List Int)⟩),(5006,⟨23,4,List.length ([] : List (List Int)),rowsC .i64 ([] : List (List Int))⟩)],M := M,ds := [] }) (by subst e_W46 e_W44;kernel_rfl) [(61,.lf (.own 7 1))] (by kernel_rfl) ⟨trivial,trivial⟩ ?_
           refine StageT_cons [15] (stageT_all [14] [] (by kernel_rfl) (by subst e_W46 e_W44;kernel_rfl) (by kernel_rfl) trivial) (by kernel_rfl) (by kernel_rfl) ⟨?_,trivial⟩
           ·refine StepT_ex ({ σ := [(61,.lf (.own 7 1)),(59,.lf (.vec 59)),(58,.lf (.vec 58)),(60,.lf (.own 7 0)),(54,.lf (.vec 54)),(53,.lf (.vec 53)),(48,.lf (.own 7 0)),(49,.lf (.vec 5007)),(50,.lf (.v (.func (.func 67) #[(rval (.agg [.one (.v (.pointer (some ⟨u0b,0,none⟩))),.one (.v (.int .i64 u1_0_1)),.one (.v (.int .i64 u1_0_2))]))] #[]))),(51,vi x13),(52,vi v42),(55,.lf (.own 7 1)),(56,.lf (.vec 5008)),(57,.agg [.arr .i64 4 L19]),(0,.lf (.v (.pointer (some ⟨u0b,0,none⟩)))),(1,.lf (.v (.func (.func 67) #[(rval (.agg [.one (.v (.pointer (some ⟨u0b,0,none⟩))),.one (.v (.int .i64 u1_0_1)),.one (.v (.int .i64 u1_0_2))]))] #[]))),(2,vb b18),(6,.lf (.own 6 0)),(7,.lf (.own 7 0)),(8,vi x13),(9,.lf (.own 9 0)),(15,vi (u0P.length : Int)),(16,vi x13)],H := [(7,[.one (.vec 54),.one (.vec 59)]),(7,[.one (.vec 54),.one (.vec 5008)]),(6,[.one (.vec 5005),.one (.vec 5006)]),(7,[.one (.vec 5007),.one (.vec 5008)]),(9,[.arr .i64 4 L19])],V := [(59,⟨23,4,List.length W46,rowsC .i64 W46⟩),(58,⟨23,4,List.length ([L19]),rowsC .i64 ([L19])⟩),(54,⟨2,1,List.length W44,ints .i64 W44⟩),(53,⟨2,1,List.length ([v42]),ints .i64 ([v42])⟩),(5005,⟨2,1,List.length ([] : List Int),ints .i64 ([] : List Int)⟩),(5006,⟨23,4,List.length ([] : List (List Int)),rowsC .i64 ([] : List (List Int))⟩)],M := M,ds := [] }) (by subst e_W46 e_W44;kernel_rfl) [] (by kernel_rfl) trivial ?_
            refine StageT_leaf (stageT_all [] [] (by kernel_rfl) (by subst e_W46 e_W44;kernel_rfl) (by kernel_rfl) trivial) (by kernel_rfl) ?_
            exact ⟨rfl,keep_sub (s':={ σ := [(0,.lf (.v (.pointer (some ⟨u0b,0,none⟩)))),(1,.lf (.v (.func (.func 67) #[(rval (.agg [.one (.v (.pointer (some ⟨u0b,0,none⟩))),.one (.v (.int .i64 u1_0_1)),.one (.v (.int .i64 u1_0_2))]))] #[]))),(2,vb b18),(6,.lf (.own 6 0)),(7,.lf (.own 7 0)),(15,vi (u0P.length : Int)),(16,vi x13)],H := [(6,[.one (.vec 5005),.one (.vec 5006)]),(7,[.one (.vec 54),.one (.vec 59)])],V := [(54,⟨2,1,List.length W44,ints .i64 W44⟩),(59,⟨23,4,List.length W46,rowsC .i64 W46⟩),(5005,⟨2,1,List.length ([] : List Int),ints .i64 ([] : List Int)⟩),(5006,⟨23,4,List.length ([] : List (List Int)),rowsC .i64 ([] : List (List Int))⟩)],M := M,ds := [] }) (ts:=[0,1,2,6,7,15,16]) (hs:=[6,7]) (vs:=[54,59,5005,5006]) (by subst e_W46 e_W44;kernel_rfl)⟩
       ·refine TE_litC (d:=58) (e:=23) (sz:=4) (len:=1) (cs:=rowsC .i64 ([L19])) (by subst e_W46 e_W44;kernel_rfl) (by kernel_rfl) (by kernel_rfl) ?_
        refine TL_nil (stageTQ_of [] (by kernel_rfl) trivial ?_)
        refine StageT_cons [6] (stageT_all [0,1,7,8] [] (by kernel_rfl) (by subst e_W46 e_W44;kernel_rfl) (by kernel_rfl) trivial) (by kernel_rfl) (by kernel_rfl) ⟨?_,trivial⟩
        ·refine TE_appC (d:=54) (e:=2) (sz:=1) (bytes:=8) (n:=5007) (x:=(.tmp 53)) (len:=List.length L14) (cs0:=ints .i64 L14) (cs2:=ints .i64 W44) (by subst e_W46 e_W44;kernel_rfl) (by kernel_rfl) (by subst e_W46 e_W44;kernel_rfl) (vecI_src (n:=53) (e:=2) (k:=.i64) (L:=[v42]) (by subst e_W46 e_W44;kernel_rfl) (by subst e_W46 e_W44;kernel_rfl)) g43 rfl (len_app_eq e_W44) (ints_app_eq e_W44) ?_
         refine TL_nil (stageTQ_of [(60,.lf (.own 7 0))] (by kernel_rfl) ⟨trivial,trivial⟩ ?_)
         refine StageT_cons [11] (stageT_all [7,8,12] [] (by kernel_rfl) (by subst e_W46 e_W44;kernel_rfl) (by kernel_rfl) trivial) (by kernel_rfl) (by kernel_rfl) ⟨?_,trivial⟩
         ·refine TE_appC (d:=59) (e:=23) (sz:=4) (bytes:=32) (n:=5008) (x:=(.tmp 58)) (len:=List.length R15) (cs0:=rowsC .i64 R15) (cs2:=rowsC .i64 W46) (by subst e_W46 e_W44;kernel_rfl) (by kernel_rfl) (by subst e_W46 e_W44;kernel_rfl) (vecR_src (n:=58) (e:=23) (k:=.i64) (m:=4) (R:=[L19]) (by subst e_W46 e_W44;kernel_rfl) (by subst e_W46 e_W44;kernel_rfl) (rows_cons l_L19 rows_nil)) g45 rfl (len_app_eq e_W46) (rowsC_app_eq e_W46) ?_
          refine TL_nil (stageTQ_of [] (by kernel_rfl) trivial ?_)
          refine StageT_cons [13] (stageT_all [12] [] (by kernel_rfl) (by subst e_W46 e_W44;kernel_rfl) (by kernel_rfl) trivial) (by kernel_rfl) (by kernel_rfl) ⟨?_,trivial⟩
          ·refine StepT_ex ({ σ := [(59,.lf (.vec 59)),(60,.lf (.own 7 0)),(54,.lf (.vec 54)),(58,.lf (.vec 58)),(53,.lf (.vec 53)),(48,.lf (.own 7 0)),(49,.lf (.vec 5007)),(50,.lf (.v (.func (.func 67) #[(rval (.agg [.one (.v (.pointer (some ⟨u0b,0,none⟩))),.one (.v (.int .i64 u1_0_1)),.one (.v (.int .i64 u1_0_2))]))] #[]))),(51,vi x13),(52,vi v42),(55,.lf (.own 7 1)),(56,.lf (.vec 5008)),(57,.agg [.arr .i64 4 L19]),(0,.lf (.v (.pointer (some ⟨u0b,0,none⟩)))),(1,.lf (.v (.func (.func 67) #[(rval (.agg [.one (.v (.pointer (some ⟨u0b,0,none⟩))),.one (.v (.int .i64 u1_0_1)),.one (.v (.int .i64 u1_0_2))]))] #[]))),(2,vb b18),(6,.lf (.own 6 0)),(7,.lf (.own 7 0)),(8,vi x13),(9,.lf (.own 9 0)),(15,vi (u0P.length : Int)),(16,vi x13)],H := [(7,[.one (.vec 54),.one (.vec 5008)]),(6,[.one (.vec 5005),.one (.vec 5006)]),(7,[.one (.vec 5007),.one (.vec 5008)]),(9,[.arr .i64 4 L19])],V := [(59,⟨23,4,List.length W46,rowsC .i64 W46⟩),(54,⟨2,1,List.length W44,ints .i64 W44⟩),(58,⟨23,4,List.length ([L19]),rowsC .i64 ([L19])⟩),(53,⟨2,1,List.length ([v42]),ints .i64 ([v42])⟩),(5005,⟨2,1,List.length ([] : List Int),ints .i64 ([] : List Int)⟩),(5006,⟨23,4,List.length ([] : List (List Int)),rowsC .i64 ([] : List (List Int))⟩)],M := M,ds := [] }) (by subst e_W46 e_W44;kernel_rfl) [(61,.lf (.own 7 1))] (by kernel_rfl) ⟨trivial,trivial⟩ ?_
           refine StageT_cons [15] (stageT_all [14] [] (by kernel_rfl) (by subst e_W46 e_W44;kernel_rfl) (by kernel_rfl) trivial) (by kernel_rfl) (by kernel_rfl) ⟨?_,trivial⟩
           ·refine StepT_ex ({ σ := [(61,.lf (.own 7 1)),(59,.lf (.vec 59)),(60,.lf (.own 7 0)),(54,.lf (.vec 54)),(58,.lf (.vec 58)),(53,.lf (.vec 53)),(48,.lf (.own 7 0)),(49,.lf (.vec 5007)),(50,.lf (.v (.func (.func 67) #[(rval (.agg [.one (.v (.pointer (some ⟨u0b,0,none⟩))),.one (.v (.int .i64 u1_0_1)),.one (.v (.int .i64 u1_0_2))]))] #[]))),(51,vi x13),(52,vi v42),(55,.lf (.own 7 1)),(56,.lf (.vec 5008)),(57,.agg [.arr .i64 4 L19]),(0,.lf (.v (.pointer (some ⟨u0b,0,none⟩)))),(1,.lf (.v (.func (.func 67) #[(rval (.agg [.one (.v (.pointer (some ⟨u0b,0,none⟩))),.one (.v (.int .i64 u1_0_1)),.one (.v (.int .i64 u1_0_2))]))] #[]))),(2,vb b18),(6,.lf (.own 6 0)),(7,.lf (.own 7 0)),(8,vi x13),(9,.lf (.own 9 0)),(15,vi (u0P.length : Int)),(16,vi x13)],H := [(7,[.one (.vec 54),.one (.vec 59)]),(7,[.one (.vec 54),.one (.vec 5008)]),(6,[.one (.vec 5005),.one (.vec 5006)]),(7,[.one (.vec 5007),.one (.vec 5008)]),(9,[.arr .i64 4 L19])],V := [(59,⟨23,4,List.length W46,rowsC .i64 W46⟩),(54,⟨2,1,List.length W44,ints .i64 W44⟩),(58,⟨23,4,List.length ([L19]),rowsC .i64 ([L19])⟩),(53,⟨2,1,List.length ([v42]),ints .i64 ([v42])⟩),(5005,⟨2,1,List.length ([] : List Int),ints .i64 ([] : List Int)⟩),(5006,⟨23,4,List.length ([] : List (List Int)),rowsC .i64 ([] : List (List Int))⟩)],M := M,ds := [] }) (by subst e_W46 e_W44;kernel_rfl) [] (by kernel_rfl) trivial ?_
            refine StageT_leaf (stageT_all [] [] (by kernel_rfl) (by subst e_W46 e_W44;kernel_rfl) (by kernel_rfl) trivial) (by kernel_rfl) ?_
            exact ⟨rfl,keep_sub (s':={ σ := [(0,.lf (.v (.pointer (some ⟨u0b,0,none⟩)))),(1,.lf (.v (.func (.func 67) #[(rval (.agg [.one (.v (.pointer (some ⟨u0b,0,none⟩))),.one (.v (.int .i64 u1_0_1)),.one (.v (.int .i64 u1_0_2))]))] #[]))),(2,vb b18),(6,.lf (.own 6 0)),(7,.lf (.own 7 0)),(15,vi (u0P.length : Int)),(16,vi x13)],H := [(6,[.one (.vec 5005),.one (.vec 5006)]),(7,[.one (.vec 54),.one (.vec 59)])],V := [(54,⟨2,1,List.length W44,ints .i64 W44⟩),(59,⟨23,4,List.length W46,rowsC .i64 W46⟩),(5005,⟨2,1,List.length ([] : List Int),ints .i64 ([] : List Int)⟩),(5006,⟨23,4,List.length ([] : List (List Int)),rowsC .i64 ([] : List (List Int))⟩)],M := M,ds := [] }) (ts:=[0,1,2,6,7,15,16]) (hs:=[6,7]) (vs:=[54,59,5005,5006]) (by subst e_W46 e_W44;kernel_rfl)⟩
      ·refine TE_litC (d:=58) (e:=23) (sz:=4) (len:=1) (cs:=rowsC .i64 ([L19])) (by subst e_W46 e_W44;kernel_rfl) (by kernel_rfl) (by kernel_rfl) ?_
       refine TL_nil (stageTQ_of [] (by kernel_rfl) trivial ?_)
       refine StageT_cons [5] (stageT_all [0,1,2,3,7,8] [4] (by kernel_rfl) (by subst e_W46 e_W44;kernel_rfl) (by kernel_rfl) ⟨QF_at (i:=4) (d:=52) (x:=vi v42) (show OpAt _ _ _ 4 52 _ from by exact At_call (d:=52) (f:=67) (args:=[rval (.agg [.one (.v (.pointer (some ⟨u0b,0,none⟩))),.one (.v (.int .i64 u1_0_1)),.one (.v (.int .i64 u1_0_2))]),rval (vi x13)]) (x:=vi v42) (by subst e_W46 e_W44;kernel_rfl) (w67 k hu0 c_v42)) (by kernel_rfl) (by subst e_W46 e_W44;kernel_rfl),trivial⟩) (by kernel_rfl) (by kernel_rfl) ⟨?_,trivial⟩
       ·refine TE_litC (d:=53) (e:=2) (sz:=1) (len:=1) (cs:=ints .i64 ([v42])) (by subst e_W46 e_W44;kernel_rfl) (by kernel_rfl) (by kernel_rfl) ?_
        refine TL_nil (stageTQ_of [] (by kernel_rfl) trivial ?_)
        refine StageT_cons [6] (stageT_all [0,1,7,8] [] (by kernel_rfl) (by subst e_W46 e_W44;kernel_rfl) (by kernel_rfl) trivial) (by kernel_rfl) (by kernel_rfl) ⟨?_,trivial⟩
        ·refine TE_appC (d:=54) (e:=2) (sz:=1) (bytes:=8) (n:=5007) (x:=(.tmp 53)) (len:=List.length L14) (cs0:=ints .i64 L14) (cs2:=ints .i64 W44) (by subst e_W46 e_W44;kernel_rfl) (by kernel_rfl) (by subst e_W46 e_W44;kernel_rfl) (vecI_src (n:=53) (e:=2) (k:=.i64) (L:=[v42]) (by subst e_W46 e_W44;kernel_rfl) (by subst e_W46 e_W44;kernel_rfl)) g43 rfl (len_app_eq e_W44) (ints_app_eq e_W44) ?_
         refine TL_nil (stageTQ_of [(60,.lf (.own 7 0))] (by kernel_rfl) ⟨trivial,trivial⟩ ?_)
         refine StageT_cons [11] (stageT_all [7,8,12] [] (by kernel_rfl) (by subst e_W46 e_W44;kernel_rfl) (by kernel_rfl) trivial) (by kernel_rfl) (by kernel_rfl) ⟨?_,trivial⟩
         ·refine TE_appC (d:=59) (e:=23) (sz:=4) (bytes:=32) (n:=5008) (x:=(.tmp 58)) (len:=List.length R15) (cs0:=rowsC .i64 R15) (cs2:=rowsC .i64 W46) (by subst e_W46 e_W44;kernel_rfl) (by kernel_rfl) (by subst e_W46 e_W44;kernel_rfl) (vecR_src (n:=58) (e:=23) (k:=.i64) (m:=4) (R:=[L19]) (by subst e_W46 e_W44;kernel_rfl) (by subst e_W46 e_W44;kernel_rfl) (rows_cons l_L19 rows_nil)) g45 rfl (len_app_eq e_W46) (rowsC_app_eq e_W46) ?_
          refine TL_nil (stageTQ_of [] (by kernel_rfl) trivial ?_)
          refine StageT_cons [13] (stageT_all [12] [] (by kernel_rfl) (by subst e_W46 e_W44;kernel_rfl) (by kernel_rfl) trivial) (by kernel_rfl) (by kernel_rfl) ⟨?_,trivial⟩
          ·refine StepT_ex ({ σ := [(59,.lf (.vec 59)),(60,.lf (.own 7 0)),(54,.lf (.vec 54)),(53,.lf (.vec 53)),(58,.lf (.vec 58)),(48,.lf (.own 7 0)),(49,.lf (.vec 5007)),(50,.lf (.v (.func (.func 67) #[(rval (.agg [.one (.v (.pointer (some ⟨u0b,0,none⟩))),.one (.v (.int .i64 u1_0_1)),.one (.v (.int .i64 u1_0_2))]))] #[]))),(51,vi x13),(52,vi v42),(55,.lf (.own 7 1)),(56,.lf (.vec 5008)),(57,.agg [.arr .i64 4 L19]),(0,.lf (.v (.pointer (some ⟨u0b,0,none⟩)))),(1,.lf (.v (.func (.func 67) #[(rval (.agg [.one (.v (.pointer (some ⟨u0b,0,none⟩))),.one (.v (.int .i64 u1_0_1)),.one (.v (.int .i64 u1_0_2))]))] #[]))),(2,vb b18),(6,.lf (.own 6 0)),(7,.lf (.own 7 0)),(8,vi x13),(9,.lf (.own 9 0)),(15,vi (u0P.length : Int)),(16,vi x13)],H := [(7,[.one (.vec 54),.one (.vec 5008)]),(6,[.one (.vec 5005),.one (.vec 5006)]),(7,[.one (.vec 5007),.one (.vec 5008)]),(9,[.arr .i64 4 L19])],V := [(59,⟨23,4,List.length W46,rowsC .i64 W46⟩),(54,⟨2,1,List.length W44,ints .i64 W44⟩),(53,⟨2,1,List.length ([v42]),ints .i64 ([v42])⟩),(58,⟨23,4,List.length ([L19]),rowsC .i64 ([L19])⟩),(5005,⟨2,1,List.length ([] : List Int),ints .i64 ([] : List Int)⟩),(5006,⟨23,4,List.length ([] : List (List Int)),rowsC .i64 ([] : List (List Int))⟩)],M := M,ds := [] }) (by subst e_W46 e_W44;kernel_rfl) [(61,.lf (.own 7 1))] (by kernel_rfl) ⟨trivial,trivial⟩ ?_
           refine StageT_cons [15] (stageT_all [14] [] (by kernel_rfl) (by subst e_W46 e_W44;kernel_rfl) (by kernel_rfl) trivial) (by kernel_rfl) (by kernel_rfl) ⟨?_,trivial⟩
           ·refine StepT_ex ({ σ := [(61,.lf (.own 7 1)),(59,.lf (.vec 59)),(60,.lf (.own 7 0)),(54,.lf (.vec 54)),(53,.lf (.vec 53)),(58,.lf (.vec 58)),(48,.lf (.own 7 0)),(49,.lf (.vec 5007)),(50,.lf (.v (.func (.func 67) #[(rval (.agg [.one (.v (.pointer (some ⟨u0b,0,none⟩))),.one (.v (.int .i64 u1_0_1)),.one (.v (.int .i64 u1_0_2))]))] #[]))),(51,vi x13),(52,vi v42),(55,.lf (.own 7 1)),(56,.lf (.vec 5008)),(57,.agg [.arr .i64 4 L19]),(0,.lf (.v (.pointer (some ⟨u0b,0,none⟩)))),(1,.lf (.v (.func (.func 67) #[(rval (.agg [.one (.v (.pointer (some ⟨u0b,0,none⟩))),.one (.v (.int .i64 u1_0_1)),.one (.v (.int .i64 u1_0_2))]))] #[]))),(2,vb b18),(6,.lf (.own 6 0)),(7,.lf (.own 7 0)),(8,vi x13),(9,.lf (.own 9 0)),(15,vi (u0P.length : Int)),(16,vi x13)],H := [(7,[.one (.vec 54),.one (.vec 59)]),(7,[.one (.vec 54),.one (.vec 5008)]),(6,[.one (.vec 5005),.one (.vec 5006)]),(7,[.one (.vec 5007),.one (.vec 5008)]),(9,[.arr .i64 4 L19])],V := [(59,⟨23,4,List.length W46,rowsC .i64 W46⟩),(54,⟨2,1,List.length W44,ints .i64 W44⟩),(53,⟨2,1,List.length ([v42]),ints .i64 ([v42])⟩),(58,⟨23,4,List.length ([L19]),rowsC .i64 ([L19])⟩),(5005,⟨2,1,List.length ([] : List Int),ints .i64 ([] : List Int)⟩),(5006,⟨23,4,List.length ([] : List (List Int)),rowsC .i64 ([] : List (List Int))⟩)],M := M,ds := [] }) (by subst e_W46 e_W44;kernel_rfl) [] (by kernel_rfl) trivial ?_
            refine StageT_leaf (stageT_all [] [] (by kernel_rfl) (by subst e_W46 e_W44;kernel_rfl) (by kernel_rfl) trivial) (by kernel_rfl) ?_
            exact ⟨rfl,keep_sub (s':={ σ := [(0,.lf (.v (.pointer (some ⟨u0b,0,none⟩)))),(1,.lf (.v (.func (.func 67) #[(rval (.agg [.one (.v (.pointer (some ⟨u0b,0,none⟩))),.one (.v (.int .i64 u1_0_1)),.one (.v (.int .i64 u1_0_2))]))] #[]))),(2,vb b18),(6,.lf (.own 6 0)),(7,.lf (.own 7 0)),(15,vi (u0P.length : Int)),(16,vi x13)],H := [(6,[.one (.vec 5005),.one (.vec 5006)]),(7,[.one (.vec 54),.one (.vec 59)])],V := [(54,⟨2,1,List.length W44,ints .i64 W44⟩),(59,⟨23,4,List.length W46,rowsC .i64 W46⟩),(5005,⟨2,1,List.length ([] : List Int),ints .i64 ([] : List Int)⟩),(5006,⟨23,4,List.length ([] : List (List Int)),rowsC .i64 ([] : List (List Int))⟩)],M := M,ds := [] }) (ts:=[0,1,2,6,7,15,16]) (hs:=[6,7]) (vs:=[54,59,5005,5006]) (by subst e_W46 e_W44;kernel_rfl)⟩
     ·intro s' hsub
      refine blockQ_n ?_
      refine thenQ_n ?_
      refine T_sub hsub ?_
      refine T_region (id:=14) (by kernel_rfl) ?_
      obtain ⟨x47,e_x47,h⟩ := lt_some h
      refine TI_segK (i:=0) (j:=2) (s':={ σ := [(0,.lf (.v (.pointer (some ⟨u0b,0,none⟩)))),(1,.lf (.v (.func (.func 67) #[(rval (.agg [.one (.v (.pointer (some ⟨u0b,0,none⟩))),.one (.v (.int .i64 u1_0_1)),.one (.v (.int .i64 u1_0_2))]))] #[]))),(2,vb b18),(6,.lf (.own 6 0)),(7,.lf (.own 7 0)),(15,vi (u0P.length : Int)),(16,vi x47)],H := [(6,[.one (.vec 5005),.one (.vec 5006)]),(7,[.one (.vec 54),.one (.vec 59)])],V := [(54,⟨2,1,List.length W44,ints .i64 W44⟩),(59,⟨23,4,List.length W46,rowsC .i64 W46⟩),(5005,⟨2,1,List.length ([] : List Int),ints .i64 ([] : List Int)⟩),(5006,⟨23,4,List.length ([] : List (List Int)),rowsC .i64 ([] : List (List Int))⟩)],M := M,ds := [] }) [0,1,2,6,7,15,16] [6,7] [54,59,5005,5006] (by subst e_x47;kernel_rfl) (by kernel_rfl) ?_
      refine TI_end (by kernel_rfl) ?_
      refine thenQ_n ?_
      exact ⟨n16,Nat.lt_succ_self _,b18,x47,W44,W46,Sub.trans (keep_sub (ts:=[0,1,2,6,7,15,16]) (hs:=[6,7]) (vs:=[5005,5006,5007,5008]) (by kernel_rfl)) (Sub.trans (ren_sub 59 5008 (s':={ σ := [(0,.lf (.v (.pointer (some ⟨u0b,0,none⟩)))),(1,.lf (.v (.func (.func 67) #[(rval (.agg [.one (.v (.pointer (some ⟨u0b,0,none⟩))),.one (.v (.int .i64 u1_0_1)),.one (.v (.int .i64 u1_0_2))]))] #[]))),(2,vb b18),(6,.lf (.own 6 0)),(7,.lf (.own 7 0)),(15,vi (u0P.length : Int)),(16,vi x47)],H := [(6,[.one (.vec 5005),.one (.vec 5006)]),(7,[.one (.vec 5007),.one (.vec 5008)])],V := [(5007,⟨2,1,List.length W44,ints .i64 W44⟩),(5008,⟨23,4,List.length W46,rowsC .i64 W46⟩),(5005,⟨2,1,List.length ([] : List Int),ints .i64 ([] : List Int)⟩),(5006,⟨23,4,List.length ([] : List (List Int)),rowsC .i64 ([] : List (List Int))⟩)],M := M,ds := [] }) (by kernel_rfl) (by kernel_rfl)) (Sub.trans (ren_sub 54 5007 (s':={ σ := [(0,.lf (.v (.pointer (some ⟨u0b,0,none⟩)))),(1,.lf (.v (.func (.func 67) #[(rval (.agg [.one (.v (.pointer (some ⟨u0b,0,none⟩))),.one (.v (.int .i64 u1_0_1)),.one (.v (.int .i64 u1_0_2))]))] #[]))),(2,vb b18),(6,.lf (.own 6 0)),(7,.lf (.own 7 0)),(15,vi (u0P.length : Int)),(16,vi x47)],H := [(6,[.one (.vec 5005),.one (.vec 5006)]),(7,[.one (.vec 5007),.one (.vec 59)])],V := [(5007,⟨2,1,List.length W44,ints .i64 W44⟩),(59,⟨23,4,List.length W46,rowsC .i64 W46⟩),(5005,⟨2,1,List.length ([] : List Int),ints .i64 ([] : List Int)⟩),(5006,⟨23,4,List.length ([] : List (List Int)),rowsC .i64 ([] : List (List Int))⟩)],M := M,ds := [] }) (by kernel_rfl) (by kernel_rfl)) (keep_sub (s':={ σ := [(0,.lf (.v (.pointer (some ⟨u0b,0,none⟩)))),(1,.lf (.v (.func (.func 67) #[(rval (.agg [.one (.v (.pointer (some ⟨u0b,0,none⟩))),.one (.v (.int .i64 u1_0_1)),.one (.v (.int .i64 u1_0_2))]))] #[]))),(2,vb b18),(6,.lf (.own 6 0)),(7,.lf (.own 7 0)),(15,vi (u0P.length : Int)),(16,vi x47)],H := [(6,[.one (.vec 5005),.one (.vec 5006)]),(7,[.one (.vec 54),.one (.vec 59)])],V := [(54,⟨2,1,List.length W44,ints .i64 W44⟩),(59,⟨23,4,List.length W46,rowsC .i64 W46⟩),(5005,⟨2,1,List.length ([] : List Int),ints .i64 ([] : List Int)⟩),(5006,⟨23,4,List.length ([] : List (List Int)),rowsC .i64 ([] : List (List Int))⟩)],M := M,ds := [] }) (ts:=[0,1,2,6,7,15,16]) (hs:=[6,7]) (vs:=[54,59,5005,5006]) (by kernel_rfl)))),r_W46,h⟩
   | false =>
    replace h := sp_f h
    refine T_condF (x:=(.tmp 17)) (c1:=(sub [1,1,0,1,0,0,1,0,0] Bd66)) (c2:=(sub [1,1,0,1,0,0,1,0,1] Bd66)) (by kernel_rfl) (by kernel_rfl) ?_
    refine T_keepS [(6,.lf (.own 6 0)),(7,.lf (.own 7 0))] (by kernel_rfl) ?_
    refine T_exit (id:=0) (by kernel_rfl) ?_
    refine thenQ_x ?_
    refine thenQ_x ?_
    refine blockQ_x ?_
    refine thenQ_n ?_
    exact ⟨L14,R15,keep_sub (ts:=[6,7]) (hs:=[6,7]) (vs:=[5005,5006,5007,5008]) (by kernel_rfl),r_R15,h⟩
 ·rintro s' ⟨L9,R10,hsub,r_R10,h⟩
  subst e_j11
  refine thenQ_n ?_
  refine T_sub hsub ?_
  refine T_sq (by kernel_rfl) ?_
  refine T_region (id:=15) (by kernel_rfl) ?_
  refine TI_segK (i:=0) (j:=2) (s':={ σ := [(6,.lf (.own 6 0))],H := [(6,[.one (.vec 5007),.one (.vec 5008)])],V := [(5007,⟨2,1,List.length L9,ints .i64 L9⟩),(5008,⟨23,4,List.length R10,rowsC .i64 R10⟩)],M := M,ds := [] }) [6] [6] [5007,5008] (by kernel_rfl) (by kernel_rfl) ?_
  refine TI_end (by kernel_rfl) ?_
  refine thenQ_n ?_
  refine T_turn (turn_pubV 5007 (v:=⟨2,1,List.length L9,ints .i64 L9⟩) (by kernel_rfl)) ?_
  rintro _ ⟨A48,c49,M50,rfl,hSA48,hcA48,-,hNA48,hM50⟩
  have fA48 : SlI M50 A48 c49 .i64 L9 := ⟨hSA48,hcA48⟩
  refine T_keep (s':={ σ := [(6,.lf (.own 6 0))],H := [(6,[.one (.v (.slice A48 (L9.length) c49)),.one (.vec 5008)])],V := [(5008,⟨23,4,List.length R10,rowsC .i64 R10⟩)],M := M50,ds := [] }) [6] [6] [5008] (by kernel_rfl) ?_
  refine T_turn (turn_pubV 5008 (v:=⟨23,4,List.length R10,rowsC .i64 R10⟩) (by kernel_rfl)) ?_
  rintro _ ⟨A51,c52,M53,rfl,hSA51,hcA51,-,hNA51,hM53⟩
  have fA51 : SlR M53 A51 c52 .i64 4 R10 := ⟨r_R10,hSA51,hcA51⟩
  refine T_keep (s':={ σ := [(6,.lf (.own 6 0))],H := [(6,[.one (.v (.slice A48 (L9.length) c49)),.one (.v (.slice A51 (R10.length) c52))])],V := [],M := M53,ds := [] }) [6] [6] [] (by kernel_rfl) ?_
  refine T_ret (by kernel_rfl) ?_
  have h := Option.some.inj h
  subst h
  refine fin_ret (.agg [.one (.v (.slice A48 (L9.length) c49)),.one (.v (.slice A51 (R10.length) c52))]) (by kernel_rfl) (by kernel_rfl) rfl ?_
  exact ⟨A48,c49,A51,c52,rfl,(fA48.le hM53),fA51⟩
end Go.Proofs.Ythjkejbgknemgaa
namespace Go.Proofs.Ythjkejbgknemgaa
open Go.RowKit
def p38 (k : Nat) (u0_0 : List (List Int)) (u0_1 : List Int) (u1 : List Int) : Option (List Int × List (List Int) × Int) :=
 cl2 (p43 k u0_0 u0_1 u1) fun v5 v6 => lt' (v6 != (0 : Int)) fun b9 => sp b9 (some (([] : List Int),([] : List (List Int)),v6)) (cl v5 fun C10 => cl (p65 k C10.1 C10.2.1 C10.2.2.1 C10.2.2.2.1 C10.2.2.2.2 u1) fun v11 => lt' (decide (v11 < (0 : Int))) fun b12 => sp b12 (some (([] : List Int),([] : List (List Int)),(15 : Int))) (lt' (wr .i64 (v11 + (1 : Int))) fun x13 => lt' (List.getD u1 0 0) fun x14 => cl2 (p66a k C10.1 C10.2.1 C10.2.2.1 C10.2.2.2.1 C10.2.2.2.2 x13 x14 true) fun v15 v16 => some (v15,v16,(0 : Int))))
theorem hf38 : Try.prog.funcs[38]? = some Try.f38 := by kernel_rfl
theorem w38 (k : Nat) {M : Mem} {Au0_0 : Option Addr} {cu0_0 : Nat} {u0_0 : List (List Int)} {u0_1 : List Int} {u1 : List Int} (hu0_0 : SlR M Au0_0 cu0_0 .i64 11 u0_0) (hu0_1 : u0_1.length = 4) (hu1 : u1.length = 7) {r} (h : p38 k u0_0 u0_1 u1 = some r) :
  Fn Try.prog 38 [rval (.agg [.one (.v (.slice Au0_0 (u0_0.length) cu0_0)),.arr .i64 4 u0_1]),rval (.agg [.arr .i64 7 u1])] M (fun x M' => ∃ (A1 : Option Addr) (c2 : Nat) (A3 : Option Addr) (c4 : Nat),x = .tup [(none,[.one (.v (.slice A1 (List.length r.1) c2)),.one (.v (.slice A3 (List.length r.2.1) c4))]),(some (.v (.int .i64 r.2.2)),[])] ∧ SlI M' A1 c2 .i64 r.1 ∧ SlR M' A3 c4 .i64 4 r.2.1) := by
 unfold p38 at h
 refine Fn_of (P:=Try.prog) (fn:=Try.f38) (c:=bodyOf Try.f38) [.agg [.one (.v (.slice Au0_0 (u0_0.length) cu0_0)),.arr .i64 4 u0_1],.agg [.arr .i64 7 u1]] hf38 (by kernel_rfl) (Nat.le_of_ble_eq_true (by kernel_rfl)) (args_ok (by kernel_rfl) ⟨⟨rfl,⟨hu0_1,trivial⟩⟩,⟨⟨hu1,trivial⟩,trivial⟩⟩) fun w => ?_
 change T _ _ _ (endQ _ _ _)
 refine T_seq (c1:=(sub [0] Bd38)) (c2:=(sub [1] Bd38)) (by kernel_rfl) ?_
 refine T_region (id:=0) (by kernel_rfl) ?_
 refine TI_segK (i:=0) (j:=4) (s':={ σ := [(2,.lf (.own 2 0)),(3,.lf (.own 3 0)),(4,.lf (.own 4 0))],H := [(2,[.one (.v (.slice Au0_0 (u0_0.length) cu0_0)),.arr .i64 4 u0_1]),(3,[.arr .i64 7 u1]),(4,[.one (.v (.slice none (List.length ([] : List Int)) 0)),.one (.v (.slice none (List.length ([] : List (List Int))) 0))])],V := [],M := M,ds := [] }) [2,3,4] [2,3,4] [] (by kernel_rfl) (by kernel_rfl) ?_
 refine TI_end (by kernel_rfl) ?_
 refine thenQ_n ?_
 refine T_sq (by kernel_rfl) ?_
 refine T_region (id:=1) (by kernel_rfl) ?_
 refine TI_segK (i:=0) (j:=2) (s':={ σ := [(3,.lf (.own 3 0)),(4,.lf (.own 4 0)),(10,.agg [.one (.v (.slice Au0_0 (u0_0.length) cu0_0)),.arr .i64 4 u0_1]),(11,.agg [.arr .i64 7 u1])],H := [(3,[.arr .i64 7 u1]),(4,[.one (.v (.slice none (List.length ([] : List Int)) 0)),.one (.v (.slice none (List.length ([] : List (List Int))) 0))])],V := [],M := M,ds := [] }) [3,4,10,11] [3,4] [] (by kernel_rfl) (by kernel_rfl) ?_
 obtain ⟨v5,v6,c_v5,h⟩ := cl2_some h
 refine TI_of (i:=2) (by kernel_rfl) (TE_callR (d:=12) (f:=43) (args:=[rval (.agg [.one (.v (.slice Au0_0 (u0_0.length) cu0_0)),.arr .i64 4 u0_1]),rval (.agg [.arr .i64 7 u1])]) (by kernel_rfl) (by kernel_rfl) (w43 k hu0_0 hu0_1 hu1 c_v5) ?_)
 rintro _ M8 _ hM8 _ ⟨q7,rfl,fq7⟩
 refine TI_segK (i:=3) (j:=8) (s':={ σ := [(3,.lf (.own 3 0)),(4,.lf (.own 4 0)),(6,.lf (.v q7)),(7,vi v6)],H := [(3,[.arr .i64 7 u1]),(4,[.one (.v (.slice none (List.length ([] : List Int)) 0)),.one (.v (.slice none (List.length ([] : List (List Int))) 0))])],V := [],M := M8,ds := [] }) [3,4,6,7] [3,4] [] (by kernel_rfl) (by kernel_rfl) ?_
 refine TI_end (by kernel_rfl) ?_
 refine thenQ_n ?_
 refine T_sq (by kernel_rfl) ?_
 refine T_sq (by kernel_rfl) ?_
 refine T_region (id:=2) (by kernel_rfl) ?_
 obtain ⟨b9,e_b9,h⟩ := lt_some h
 refine TI_segS (i:=0) (j:=2) [(3,.lf (.own 3 0)),(4,.lf (.own 4 0)),(6,.lf (.v q7)),(7,vi v6),(16,vb b9)] (by subst e_b9;kernel_rfl) (by kernel_rfl) ?_
 refine TI_end (by kernel_rfl) ?_
 refine thenQ_n ?_
 cases b9 with
 | true =>
  replace h := sp_t h
  refine T_condT (x:=(.tmp 16)) (c1:=(sub [1,1,0,1,0] Bd38)) (c2:=(sub [1,1,0,1,1] Bd38)) (by kernel_rfl) (by kernel_rfl) ?_
  refine T_keep (s':={ σ := [(4,.lf (.own 4 0)),(7,vi v6)],H := [(4,[.one (.v (.slice none (List.length ([] : List Int)) 0)),.one (.v (.slice none (List.length ([] : List (List Int))) 0))])],V := [],M := M8,ds := [] }) [4,7] [4] [] (by kernel_rfl) ?_
  refine T_sq (by kernel_rfl) ?_
  refine T_region (id:=3) (by kernel_rfl) ?_
  refine TI_segS (i:=0) (j:=4) [(4,.lf (.own 4 0)),(5,vi v6)] (by kernel_rfl) (by kernel_rfl) ?_
  refine TI_end (by kernel_rfl) ?_
  refine thenQ_n ?_
  refine T_ret (by kernel_rfl) ?_
  refine thenQ_r ?_
  have h := Option.some.inj h
  subst h
  refine fin_ret (.tup [(none,[.one (.v (.slice none (List.length ([] : List Int)) 0)),.one (.v (.slice none (List.length ([] : List (List Int))) 0))]),(some (.v (.int .i64 v6)),[])]) (by kernel_rfl) (by kernel_rfl) rfl ?_
  exact ⟨none,0,none,0,rfl,(nilI _ _ _),(nilR _ _ _ _)⟩
 | false =>
  replace h := sp_f h
  refine T_condF (x:=(.tmp 16)) (c1:=(sub [1,1,0,1,0] Bd38)) (c2:=(sub [1,1,0,1,1] Bd38)) (by kernel_rfl) (by kernel_rfl) ?_
  refine T_keepS [(3,.lf (.own 3 0)),(4,.lf (.own 4 0)),(6,.lf (.v q7))] (by kernel_rfl) ?_
  refine T_skip (by kernel_rfl) ?_
  refine thenQ_n ?_
  obtain ⟨C10,e_C10,h⟩ := cl_some h
  have hC10 := fq7
  rw [e_C10] at hC10
  obtain ⟨C10b,C10A,C10c,C10AP,C10cP,C10AV,C10cV,rfl,hC10⟩ := hC10
  refine T_sq (by kernel_rfl) ?_
  refine T_region (id:=4) (by kernel_rfl) ?_
  refine TI_segK (i:=0) (j:=2) (s':={ σ := [(3,.lf (.own 3 0)),(4,.lf (.own 4 0)),(6,.lf (.v (.pointer (some ⟨C10b,0,none⟩)))),(19,.lf (.v (.pointer (some ⟨C10b,0,none⟩)))),(20,.agg [.arr .i64 7 u1])],H := [(3,[.arr .i64 7 u1]),(4,[.one (.v (.slice none (List.length ([] : List Int)) 0)),.one (.v (.slice none (List.length ([] : List (List Int))) 0))])],V := [],M := M8,ds := [] }) [3,4,6,19,20] [3,4] [] (by kernel_rfl) (by kernel_rfl) ?_
  obtain ⟨v11,c_v11,h⟩ := cl_some h
  refine TI_at (i:=2) (d:=21) (x:=vi v11) (At_call (d:=21) (f:=65) (args:=[rval (.lf (.v (.pointer (some ⟨C10b,0,none⟩)))),rval (.agg [.arr .i64 7 u1])]) (x:=vi v11) (by kernel_rfl) (w65 k hC10 hu1 c_v11)) (by kernel_rfl) trivial ?_
  refine TI_segK (i:=3) (j:=4) (s':={ σ := [(3,.lf (.own 3 0)),(4,.lf (.own 4 0)),(6,.lf (.v (.pointer (some ⟨C10b,0,none⟩)))),(8,vi v11)],H := [(3,[.arr .i64 7 u1]),(4,[.one (.v (.slice none (List.length ([] : List Int)) 0)),.one (.v (.slice none (List.length ([] : List (List Int))) 0))])],V := [],M := M8,ds := [] }) [3,4,6,8] [3,4] [] (by kernel_rfl) (by kernel_rfl) ?_
  refine TI_end (by kernel_rfl) ?_
  refine thenQ_n ?_
  refine T_sq (by kernel_rfl) ?_
  refine T_sq (by kernel_rfl) ?_
  refine T_region (id:=5) (by kernel_rfl) ?_
  obtain ⟨b12,e_b12,h⟩ := lt_some h
  refine TI_segS (i:=0) (j:=2) [(3,.lf (.own 3 0)),(4,.lf (.own 4 0)),(6,.lf (.v (.pointer (some ⟨C10b,0,none⟩)))),(8,vi v11),(23,vb b12)] (by subst e_b12;kernel_rfl) (by kernel_rfl) ?_
  refine TI_end (by kernel_rfl) ?_
  refine thenQ_n ?_
  cases b12 with
  | true =>
   replace h := sp_t h
   refine T_condT (x:=(.tmp 23)) (c1:=(sub [1,1,1,1,0,1,0] Bd38)) (c2:=(sub [1,1,1,1,0,1,1] Bd38)) (by kernel_rfl) (by kernel_rfl) ?_
   refine T_keep (s':={ σ := [(4,.lf (.own 4 0))],H := [(4,[.one (.v (.slice none (List.length ([] : List Int)) 0)),.one (.v (.slice none (List.length ([] : List (List Int))) 0))])],V := [],M := M8,ds := [] }) [4] [4] [] (by kernel_rfl) ?_
   refine T_sq (by kernel_rfl) ?_
   refine T_region (id:=6) (by kernel_rfl) ?_
   refine TI_segS (i:=0) (j:=3) [(4,.lf (.own 4 0)),(5,vi (15 : Int))] (by kernel_rfl) (by kernel_rfl) ?_
   refine TI_end (by kernel_rfl) ?_
   refine thenQ_n ?_
   refine T_ret (by kernel_rfl) ?_
   refine thenQ_r ?_
   have h := Option.some.inj h
   subst h
   refine fin_ret (.tup [(none,[.one (.v (.slice none (List.length ([] : List Int)) 0)),.one (.v (.slice none (List.length ([] : List (List Int))) 0))]),(some (.v (.int .i64 (15 : Int))),[])]) (by kernel_rfl) (by kernel_rfl) rfl ?_
   exact ⟨none,0,none,0,rfl,(nilI _ _ _),(nilR _ _ _ _)⟩
  | false =>
   replace h := sp_f h
   refine T_condF (x:=(.tmp 23)) (c1:=(sub [1,1,1,1,0,1,0] Bd38)) (c2:=(sub [1,1,1,1,0,1,1] Bd38)) (by kernel_rfl) (by kernel_rfl) ?_
   refine T_keepS [(3,.lf (.own 3 0)),(4,.lf (.own 4 0)),(6,.lf (.v (.pointer (some ⟨C10b,0,none⟩)))),(8,vi v11)] (by kernel_rfl) ?_
   refine T_skip (by kernel_rfl) ?_
   refine thenQ_n ?_
   refine T_sq (by kernel_rfl) ?_
   refine T_region (id:=7) (by kernel_rfl) ?_
   obtain ⟨x13,e_x13,h⟩ := lt_some h
   obtain ⟨x14,e_x14,h⟩ := lt_some h
   refine TI_segK (i:=0) (j:=7) (s':={ σ := [(4,.lf (.own 4 0)),(25,.lf (.v (.pointer (some ⟨C10b,0,none⟩)))),(31,.agg [.one (.v (.pointer (some ⟨C10b,0,none⟩))),.one (.v (.int .i64 x13)),.one (.v (.int .i64 x14))])],H := [(4,[.one (.v (.slice none (List.length ([] : List Int)) 0)),.one (.v (.slice none (List.length ([] : List (List Int))) 0))])],V := [],M := M8,ds := [] }) [4,25,31] [4] [] (by subst e_x14 e_x13;kernel_rfl) (by kernel_rfl) ?_
   refine TI_at (i:=7) (d:=32) (x:=.lf (.v (.func (.func 67) #[(rval (.agg [.one (.v (.pointer (some ⟨C10b,0,none⟩))),.one (.v (.int .i64 x13)),.one (.v (.int .i64 x14))]))] #[]))) (At_mk (d:=32) (f:=.func 67) (fs:=[.agg [.one (.v (.pointer (some ⟨C10b,0,none⟩))),.one (.v (.int .i64 x13)),.one (.v (.int .i64 x14))]]) (cs:=[]) (by kernel_rfl)) (by kernel_rfl) trivial ?_
   obtain ⟨v15,v16,c_v15,h⟩ := cl2_some h
   refine TI_of (i:=8) (by kernel_rfl) (TE_callR (d:=33) (f:=66) (args:=[rval (.lf (.v (.pointer (some ⟨C10b,0,none⟩)))),rval (.lf (.v (.func (.func 67) #[(rval (.agg [.one (.v (.pointer (some ⟨C10b,0,none⟩))),.one (.v (.int .i64 x13)),.one (.v (.int .i64 x14))]))] #[]))),rval (vb true)]) (by kernel_rfl) (by kernel_rfl) (w66a k hC10 c_v15) ?_)
   rintro _ M21 _ hM21 _ ⟨A17,c18,A19,c20,rfl,fA17,fA19⟩
   refine TI_segK (i:=9) (j:=11) (s':={ σ := [(4,.lf (.own 4 0)),(5,vi (0 : Int))],H := [(4,[.one (.v (.slice A17 (v15.length) c18)),.one (.v (.slice A19 (v16.length) c20))])],V := [],M := M21,ds := [] }) [4,5] [4] [] (by kernel_rfl) (by kernel_rfl) ?_
   refine TI_end (by kernel_rfl) ?_
   refine thenQ_n ?_
   refine T_ret (by kernel_rfl) ?_
   have h := Option.some.inj h
   subst h
   refine fin_ret (.tup [(none,[.one (.v (.slice A17 (v15.length) c18)),.one (.v (.slice A19 (v16.length) c20))]),(some (.v (.int .i64 (0 : Int))),[])]) (by kernel_rfl) (by kernel_rfl) rfl ?_
   exact ⟨A17,c18,A19,c20,rfl,fA17,fA19⟩
def p39 (k : Nat) (u0_0 : List (List Int)) (u0_1 : List Int) (u1 : List Int) : Option (List Int × List (List Int) × Int) :=
 cl2 (p43 k u0_0 u0_1 u1) fun v5 v6 => lt' (v6 != (0 : Int)) fun b9 => sp b9 (some (([] : List Int),([] : List (List Int)),v6)) (cl v5 fun C10 => cl (p56 k C10.1 C10.2.1 C10.2.2.1 C10.2.2.2.1 C10.2.2.2.2 u1) fun v11 => cl (p58 k C10.1 C10.2.1 C10.2.2.1 C10.2.2.2.1 C10.2.2.2.2 u1 v11) fun v15 => lt' (decide (v15 < (0 : Int))) fun b16 => sp b16 (some (([] : List Int),([] : List (List Int)),(15 : Int))) (jn (fun (x17 : Int) => lt' (List.getD u1 1 0) fun x22 => lt' (wr .i64 (x22 + (1 : Int))) fun x23 => cl2 (p66a k C10.1 C10.2.1 C10.2.2.1 C10.2.2.2.1 C10.2.2.2.2 x17 x23 false) fun v24 v25 => some (v24,v25,(0 : Int))) fun j18 => lt' (decide (v15 < (v11.length : Int))) fun b19 => sp b19 (gd ((0 : Int) ≤ v15 ∧ v15 < (v11.length : Int)) <| lt' (List.getD v11 ((v15).toNat) 0) fun x21 => j18 x21) (j18 (List.length C10.2.2.2.1 : Int))))
theorem hf39 : Try.prog.funcs[39]? = some Try.f39 := by kernel_rfl
theorem w39 (k : Nat) {M : Mem} {Au0_0 : Option Addr} {cu0_0 : Nat} {u0_0 : List (List Int)} {u0_1 : List Int} {u1 : List Int} (hu0_0 : SlR M Au0_0 cu0_0 .i64 11 u0_0) (hu0_1 : u0_1.length = 4) (hu1 : u1.length = 7) {r} (h : p39 k u0_0 u0_1 u1 = some r) :
  Fn Try.prog 39 [rval (.agg [.one (.v (.slice Au0_0 (u0_0.length) cu0_0)),.arr .i64 4 u0_1]),rval (.agg [.arr .i64 7 u1])] M (fun x M' => ∃ (A1 : Option Addr) (c2 : Nat) (A3 : Option Addr) (c4 : Nat),x = .tup [(none,[.one (.v (.slice A1 (List.length r.1) c2)),.one (.v (.slice A3 (List.length r.2.1) c4))]),(some (.v (.int .i64 r.2.2)),[])] ∧ SlI M' A1 c2 .i64 r.1 ∧ SlR M' A3 c4 .i64 4 r.2.1) := by
 unfold p39 at h
 refine Fn_of (P:=Try.prog) (fn:=Try.f39) (c:=bodyOf Try.f39) [.agg [.one (.v (.slice Au0_0 (u0_0.length) cu0_0)),.arr .i64 4 u0_1],.agg [.arr .i64 7 u1]] hf39 (by kernel_rfl) (Nat.le_of_ble_eq_true (by kernel_rfl)) (args_ok (by kernel_rfl) ⟨⟨rfl,⟨hu0_1,trivial⟩⟩,⟨⟨hu1,trivial⟩,trivial⟩⟩) fun w => ?_
 change T _ _ _ (endQ _ _ _)
 refine T_seq (c1:=(sub [0] Bd39)) (c2:=(sub [1] Bd39)) (by kernel_rfl) ?_
 refine T_region (id:=0) (by kernel_rfl) ?_
 refine TI_segK (i:=0) (j:=4) (s':={ σ := [(2,.lf (.own 2 0)),(3,.lf (.own 3 0)),(4,.lf (.own 4 0))],H := [(2,[.one (.v (.slice Au0_0 (u0_0.length) cu0_0)),.arr .i64 4 u0_1]),(3,[.arr .i64 7 u1]),(4,[.one (.v (.slice none (List.length ([] : List Int)) 0)),.one (.v (.slice none (List.length ([] : List (List Int))) 0))])],V := [],M := M,ds := [] }) [2,3,4] [2,3,4] [] (by kernel_rfl) (by kernel_rfl) ?_
 refine TI_end (by kernel_rfl) ?_
 refine thenQ_n ?_
 refine T_sq (by kernel_rfl) ?_
 refine T_region (id:=1) (by kernel_rfl) ?_
 refine TI_segK (i:=0) (j:=2) (s':={ σ := [(3,.lf (.own 3 0)),(4,.lf (.own 4 0)),(12,.agg [.one (.v (.slice Au0_0 (u0_0.length) cu0_0)),.arr .i64 4 u0_1]),(13,.agg [.arr .i64 7 u1])],H := [(3,[.arr .i64 7 u1]),(4,[.one (.v (.slice none (List.length ([] : List Int)) 0)),.one (.v (.slice none (List.length ([] : List (List Int))) 0))])],V := [],M := M,ds := [] }) [3,4,12,13] [3,4] [] (by kernel_rfl) (by kernel_rfl) ?_
 obtain ⟨v5,v6,c_v5,h⟩ := cl2_some h
 refine TI_of (i:=2) (by kernel_rfl) (TE_callR (d:=14) (f:=43) (args:=[rval (.agg [.one (.v (.slice Au0_0 (u0_0.length) cu0_0)),.arr .i64 4 u0_1]),rval (.agg [.arr .i64 7 u1])]) (by kernel_rfl) (by kernel_rfl) (w43 k hu0_0 hu0_1 hu1 c_v5) ?_)
 rintro _ M8 _ hM8 _ ⟨q7,rfl,fq7⟩
 refine TI_segK (i:=3) (j:=8) (s':={ σ := [(3,.lf (.own 3 0)),(4,.lf (.own 4 0)),(6,.lf (.v q7)),(7,vi v6)],H := [(3,[.arr .i64 7 u1]),(4,[.one (.v (.slice none (List.length ([] : List Int)) 0)),.one (.v (.slice none (List.length ([] : List (List Int))) 0))])],V := [],M := M8,ds := [] }) [3,4,6,7] [3,4] [] (by kernel_rfl) (by kernel_rfl) ?_
 refine TI_end (by kernel_rfl) ?_
 refine thenQ_n ?_
 refine T_sq (by kernel_rfl) ?_
 refine T_sq (by kernel_rfl) ?_
 refine T_region (id:=2) (by kernel_rfl) ?_
 obtain ⟨b9,e_b9,h⟩ := lt_some h
 refine TI_segS (i:=0) (j:=2) [(3,.lf (.own 3 0)),(4,.lf (.own 4 0)),(6,.lf (.v q7)),(7,vi v6),(18,vb b9)] (by subst e_b9;kernel_rfl) (by kernel_rfl) ?_
 refine TI_end (by kernel_rfl) ?_
 refine thenQ_n ?_
 cases b9 with
 | true =>
  replace h := sp_t h
  refine T_condT (x:=(.tmp 18)) (c1:=(sub [1,1,0,1,0] Bd39)) (c2:=(sub [1,1,0,1,1] Bd39)) (by kernel_rfl) (by kernel_rfl) ?_
  refine T_keep (s':={ σ := [(4,.lf (.own 4 0)),(7,vi v6)],H := [(4,[.one (.v (.slice none (List.length ([] : List Int)) 0)),.one (.v (.slice none (List.length ([] : List (List Int))) 0))])],V := [],M := M8,ds := [] }) [4,7] [4] [] (by kernel_rfl) ?_
  refine T_sq (by kernel_rfl) ?_
  refine T_region (id:=3) (by kernel_rfl) ?_
  refine TI_segS (i:=0) (j:=4) [(4,.lf (.own 4 0)),(5,vi v6)] (by kernel_rfl) (by kernel_rfl) ?_
  refine TI_end (by kernel_rfl) ?_
  refine thenQ_n ?_
  refine T_ret (by kernel_rfl) ?_
  refine thenQ_r ?_
  have h := Option.some.inj h
  subst h
  refine fin_ret (.tup [(none,[.one (.v (.slice none (List.length ([] : List Int)) 0)),.one (.v (.slice none (List.length ([] : List (List Int))) 0))]),(some (.v (.int .i64 v6)),[])]) (by kernel_rfl) (by kernel_rfl) rfl ?_
  exact ⟨none,0,none,0,rfl,(nilI _ _ _),(nilR _ _ _ _)⟩
 | false =>
  replace h := sp_f h
  refine T_condF (x:=(.tmp 18)) (c1:=(sub [1,1,0,1,0] Bd39)) (c2:=(sub [1,1,0,1,1] Bd39)) (by kernel_rfl) (by kernel_rfl) ?_
  refine T_keepS [(3,.lf (.own 3 0)),(4,.lf (.own 4 0)),(6,.lf (.v q7))] (by kernel_rfl) ?_
  refine T_skip (by kernel_rfl) ?_
  refine thenQ_n ?_
  obtain ⟨C10,e_C10,h⟩ := cl_some h
  have hC10 := fq7
  rw [e_C10] at hC10
  obtain ⟨C10b,C10A,C10c,C10AP,C10cP,C10AV,C10cV,rfl,hC10⟩ := hC10
  refine T_sq (by kernel_rfl) ?_
  refine T_region (id:=4) (by kernel_rfl) ?_
  refine TI_segK (i:=0) (j:=2) (s':={ σ := [(3,.lf (.own 3 0)),(4,.lf (.own 4 0)),(6,.lf (.v (.pointer (some ⟨C10b,0,none⟩)))),(21,.lf (.v (.pointer (some ⟨C10b,0,none⟩)))),(22,.agg [.arr .i64 7 u1])],H := [(3,[.arr .i64 7 u1]),(4,[.one (.v (.slice none (List.length ([] : List Int)) 0)),.one (.v (.slice none (List.length ([] : List (List Int))) 0))])],V := [],M := M8,ds := [] }) [3,4,6,21,22] [3,4] [] (by kernel_rfl) (by kernel_rfl) ?_
  obtain ⟨v11,c_v11,h⟩ := cl_some h
  refine TI_of (i:=2) (by kernel_rfl) (TE_callR (d:=23) (f:=56) (args:=[rval (.lf (.v (.pointer (some ⟨C10b,0,none⟩)))),rval (.agg [.arr .i64 7 u1])]) (by kernel_rfl) (by kernel_rfl) (w56 k hC10 hu1 c_v11) ?_)
  rintro _ M14 _ hM14 _ ⟨A12,c13,rfl,fA12⟩
  refine TI_segK (i:=3) (j:=4) (s':={ σ := [(3,.lf (.own 3 0)),(4,.lf (.own 4 0)),(6,.lf (.v (.pointer (some ⟨C10b,0,none⟩)))),(8,.lf (.v (.slice A12 (v11.length) c13)))],H := [(3,[.arr .i64 7 u1]),(4,[.one (.v (.slice none (List.length ([] : List Int)) 0)),.one (.v (.slice none (List.length ([] : List (List Int))) 0))])],V := [],M := M14,ds := [] }) [3,4,6,8] [3,4] [] (by kernel_rfl) (by kernel_rfl) ?_
  refine TI_end (by kernel_rfl) ?_
  refine thenQ_n ?_
  refine T_sq (by kernel_rfl) ?_
  refine T_region (id:=5) (by kernel_rfl) ?_
  refine TI_segS (i:=0) (j:=3) [(3,.lf (.own 3 0)),(4,.lf (.own 4 0)),(6,.lf (.v (.pointer (some ⟨C10b,0,none⟩)))),(8,.lf (.v (.slice A12 (v11.length) c13))),(24,.lf (.v (.pointer (some ⟨C10b,0,none⟩)))),(25,.agg [.arr .i64 7 u1]),(26,.lf (.v (.slice A12 (v11.length) c13)))] (by kernel_rfl) (by kernel_rfl) ?_
  obtain ⟨v15,c_v15,h⟩ := cl_some h
  refine TI_at (i:=3) (d:=27) (x:=vi v15) (At_call (d:=27) (f:=58) (args:=[rval (.lf (.v (.pointer (some ⟨C10b,0,none⟩)))),rval (.agg [.arr .i64 7 u1]),rval (.lf (.v (.slice A12 (v11.length) c13)))]) (x:=vi v15) (by kernel_rfl) (w58 k (hC10.le hM14) hu1 fA12 c_v15)) (by kernel_rfl) trivial ?_
  refine TI_segK (i:=4) (j:=5) (s':={ σ := [(3,.lf (.own 3 0)),(4,.lf (.own 4 0)),(6,.lf (.v (.pointer (some ⟨C10b,0,none⟩)))),(8,.lf (.v (.slice A12 (v11.length) c13))),(9,vi v15)],H := [(3,[.arr .i64 7 u1]),(4,[.one (.v (.slice none (List.length ([] : List Int)) 0)),.one (.v (.slice none (List.length ([] : List (List Int))) 0))])],V := [],M := M14,ds := [] }) [3,4,6,8,9] [3,4] [] (by kernel_rfl) (by kernel_rfl) ?_
  refine TI_end (by kernel_rfl) ?_
  refine thenQ_n ?_
  refine T_sq (by kernel_rfl) ?_
  refine T_sq (by kernel_rfl) ?_
  refine T_region (id:=6) (by kernel_rfl) ?_
  obtain ⟨b16,e_b16,h⟩ := lt_some h
  refine TI_segS (i:=0) (j:=2) [(3,.lf (.own 3 0)),(4,.lf (.own 4 0)),(6,.lf (.v (.pointer (some ⟨C10b,0,none⟩)))),(8,.lf (.v (.slice A12 (v11.length) c13))),(9,vi v15),(29,vb b16)] (by subst e_b16;kernel_rfl) (by kernel_rfl) ?_
  refine TI_end (by kernel_rfl) ?_
  refine thenQ_n ?_
  cases b16 with
  | true =>
   replace h := sp_t h
   refine T_condT (x:=(.tmp 29)) (c1:=(sub [1,1,1,1,1,0,1,0] Bd39)) (c2:=(sub [1,1,1,1,1,0,1,1] Bd39)) (by kernel_rfl) (by kernel_rfl) ?_
   refine T_keep (s':={ σ := [(4,.lf (.own 4 0))],H := [(4,[.one (.v (.slice none (List.length ([] : List Int)) 0)),.one (.v (.slice none (List.length ([] : List (List Int))) 0))])],V := [],M := M14,ds := [] }) [4] [4] [] (by kernel_rfl) ?_
   refine T_sq (by kernel_rfl) ?_
   refine T_region (id:=7) (by kernel_rfl) ?_
   refine TI_segS (i:=0) (j:=3) [(4,.lf (.own 4 0)),(5,vi (15 : Int))] (by kernel_rfl) (by kernel_rfl) ?_
   refine TI_end (by kernel_rfl) ?_
   refine thenQ_n ?_
   refine T_ret (by kernel_rfl) ?_
   refine thenQ_r ?_
   have h := Option.some.inj h
   subst h
   refine fin_ret (.tup [(none,[.one (.v (.slice none (List.length ([] : List Int)) 0)),.one (.v (.slice none (List.length ([] : List (List Int))) 0))]),(some (.v (.int .i64 (15 : Int))),[])]) (by kernel_rfl) (by kernel_rfl) rfl ?_
   exact ⟨none,0,none,0,rfl,(nilI _ _ _),(nilR _ _ _ _)⟩
  | false =>
   replace h := sp_f h
   refine T_condF (x:=(.tmp 29)) (c1:=(sub [1,1,1,1,1,0,1,0] Bd39)) (c2:=(sub [1,1,1,1,1,0,1,1] Bd39)) (by kernel_rfl) (by kernel_rfl) ?_
   refine T_keepS [(3,.lf (.own 3 0)),(4,.lf (.own 4 0)),(6,.lf (.v (.pointer (some ⟨C10b,0,none⟩)))),(8,.lf (.v (.slice A12 (v11.length) c13))),(9,vi v15)] (by kernel_rfl) ?_
   refine T_skip (by kernel_rfl) ?_
   refine thenQ_n ?_
   refine T_sq (by kernel_rfl) ?_
   refine T_region (id:=8) (by kernel_rfl) ?_
   refine TI_segS (i:=0) (j:=3) [(3,.lf (.own 3 0)),(4,.lf (.own 4 0)),(6,.lf (.v (.pointer (some ⟨C10b,0,none⟩)))),(8,.lf (.v (.slice A12 (v11.length) c13))),(9,vi v15),(33,.lf (.v (.pointer (some ⟨C10b,6,none⟩))))] (by kernel_rfl) (by kernel_rfl) ?_
   refine TI_at (i:=3) (d:=34) (x:=.lf (.v (.slice C10AP (List.length C10.2.2.2.1) C10cP))) (by exact At_ldP (d:=34) (b:=C10b) (off:=6) (m:=1) (v:=(.slice C10AP (List.length C10.2.2.2.1) C10cP)) (by kernel_rfl) ((hC10.le hM14)).plc) (by kernel_rfl) trivial ?_
   refine TI_segK (i:=4) (j:=6) (s':={ σ := [(3,.lf (.own 3 0)),(4,.lf (.own 4 0)),(6,.lf (.v (.pointer (some ⟨C10b,0,none⟩)))),(8,.lf (.v (.slice A12 (v11.length) c13))),(9,vi v15),(10,vi (List.length C10.2.2.2.1 : Int))],H := [(3,[.arr .i64 7 u1]),(4,[.one (.v (.slice none (List.length ([] : List Int)) 0)),.one (.v (.slice none (List.length ([] : List (List Int))) 0))])],V := [],M := M14,ds := [] }) [3,4,6,8,9,10] [3,4] [] (by kernel_rfl) (by kernel_rfl) ?_
   refine TI_end (by kernel_rfl) ?_
   refine thenQ_n ?_
   obtain ⟨j18,e_j18,h⟩ := jn_some h
   refine T_cut (c1:=(sub [1,1,1,1,1,1,1,0] Bd39)) (c2:=(sub [1,1,1,1,1,1,1,1] Bd39)) (fun s' => ∃ (x17 : Int),Sub { σ := [(3,.lf (.own 3 0)),(4,.lf (.own 4 0)),(6,.lf (.v (.pointer (some ⟨C10b,0,none⟩)))),(10,vi x17)],H := [(3,[.arr .i64 7 u1]),(4,[.one (.v (.slice none (List.length ([] : List Int)) 0)),.one (.v (.slice none (List.length ([] : List (List Int))) 0))])],V := [],M := M14,ds := [] } s' ∧ j18 x17 = some r) (by kernel_rfl) ?_ ?_
   ·refine T_seq (c1:=(sub [1,1,1,1,1,1,1,0,0] Bd39)) (c2:=(sub [1,1,1,1,1,1,1,0,1] Bd39)) (by kernel_rfl) ?_
    refine T_region (id:=9) (by kernel_rfl) ?_
    obtain ⟨b19,e_b19,h⟩ := lt_some h
    refine TI_segK (i:=0) (j:=4) (s':={ σ := [(3,.lf (.own 3 0)),(4,.lf (.own 4 0)),(6,.lf (.v (.pointer (some ⟨C10b,0,none⟩)))),(8,.lf (.v (.slice A12 (v11.length) c13))),(9,vi v15),(10,vi (List.length C10.2.2.2.1 : Int)),(39,vb b19)],H := [(3,[.arr .i64 7 u1]),(4,[.one (.v (.slice none (List.length ([] : List Int)) 0)),.one (.v (.slice none (List.length ([] : List (List Int))) 0))])],V := [],M := M14,ds := [] }) [3,4,6,8,9,10,39] [3,4] [] (by subst e_b19;kernel_rfl) (by kernel_rfl) ?_
    refine TI_end (by kernel_rfl) ?_
    refine thenQ_n ?_
    cases b19 with
    | true =>
     replace h := sp_t h
     refine T_condT (x:=(.tmp 39)) (c1:=(sub [1,1,1,1,1,1,1,0,1,0] Bd39)) (c2:=(sub [1,1,1,1,1,1,1,0,1,1] Bd39)) (by kernel_rfl) (by kernel_rfl) ?_
     refine T_keepS [(3,.lf (.own 3 0)),(4,.lf (.own 4 0)),(6,.lf (.v (.pointer (some ⟨C10b,0,none⟩)))),(8,.lf (.v (.slice A12 (v11.length) c13))),(9,vi v15)] (by kernel_rfl) ?_
     refine T_region (id:=10) (by kernel_rfl) ?_
     refine TI_segS (i:=0) (j:=2) [(3,.lf (.own 3 0)),(4,.lf (.own 4 0)),(6,.lf (.v (.pointer (some ⟨C10b,0,none⟩)))),(40,.lf (.v (.slice A12 (v11.length) c13))),(41,vi v15)] (by kernel_rfl) (by kernel_rfl) ?_
     obtain ⟨g20,h⟩ := gd_some h
     refine TI_at (i:=2) (d:=42) (x:=.lf (.ep (.slice A12 (v11.length) c13) 1 ((v15).toNat) 0)) (by exact At_idxI (d:=42) (z:=v15) (by kernel_rfl) g20 fA12) (by kernel_rfl) trivial ?_
     obtain ⟨x21,e_x21,h⟩ := lt_some h
     refine TI_at (i:=3) (d:=43) (x:=vi x21) (by rw [e_x21]; exact At_ldI (d:=43) (q:=(v15).toNat) (by subst e_x21; kernel_rfl) (toNat_lt g20) fA12) (by kernel_rfl) trivial ?_
     refine TI_segK (i:=4) (j:=5) (s':={ σ := [(3,.lf (.own 3 0)),(4,.lf (.own 4 0)),(6,.lf (.v (.pointer (some ⟨C10b,0,none⟩)))),(10,vi x21)],H := [(3,[.arr .i64 7 u1]),(4,[.one (.v (.slice none (List.length ([] : List Int)) 0)),.one (.v (.slice none (List.length ([] : List (List Int))) 0))])],V := [],M := M14,ds := [] }) [3,4,6,10] [3,4] [] (by kernel_rfl) (by kernel_rfl) ?_
     refine TI_end (by kernel_rfl) ?_
     refine thenQ_n ?_
     exact ⟨x21,keep_sub (ts:=[3,4,6,10]) (hs:=[3,4]) (vs:=[]) (by kernel_rfl),h⟩
    | false =>
     replace h := sp_f h
     refine T_condF (x:=(.tmp 39)) (c1:=(sub [1,1,1,1,1,1,1,0,1,0] Bd39)) (c2:=(sub [1,1,1,1,1,1,1,0,1,1] Bd39)) (by kernel_rfl) (by kernel_rfl) ?_
     refine T_keepS [(3,.lf (.own 3 0)),(4,.lf (.own 4 0)),(6,.lf (.v (.pointer (some ⟨C10b,0,none⟩)))),(10,vi (List.length C10.2.2.2.1 : Int))] (by kernel_rfl) ?_
     refine T_skip (by kernel_rfl) ?_
     refine thenQ_n ?_
     exact ⟨(List.length C10.2.2.2.1 : Int),keep_sub (ts:=[3,4,6,10]) (hs:=[3,4]) (vs:=[]) (by kernel_rfl),h⟩
   ·rintro s' ⟨x17,hsub,h⟩
    subst e_j18
    refine T_sub hsub ?_
    refine T_sq (by kernel_rfl) ?_
    refine T_region (id:=11) (by kernel_rfl) ?_
    obtain ⟨x22,e_x22,h⟩ := lt_some h
    obtain ⟨x23,e_x23,h⟩ := lt_some h
    refine TI_segK (i:=0) (j:=7) (s':={ σ := [(4,.lf (.own 4 0)),(44,.lf (.v (.pointer (some ⟨C10b,0,none⟩)))),(50,.agg [.one (.v (.pointer (some ⟨C10b,0,none⟩))),.one (.v (.int .i64 x17)),.one (.v (.int .i64 x23))])],H := [(4,[.one (.v (.slice none (List.length ([] : List Int)) 0)),.one (.v (.slice none (List.length ([] : List (List Int))) 0))])],V := [],M := M14,ds := [] }) [4,44,50] [4] [] (by subst e_x23 e_x22;kernel_rfl) (by kernel_rfl) ?_
    refine TI_at (i:=7) (d:=51) (x:=.lf (.v (.func (.func 67) #[(rval (.agg [.one (.v (.pointer (some ⟨C10b,0,none⟩))),.one (.v (.int .i64 x17)),.one (.v (.int .i64 x23))]))] #[]))) (At_mk (d:=51) (f:=.func 67) (fs:=[.agg [.one (.v (.pointer (some ⟨C10b,0,none⟩))),.one (.v (.int .i64 x17)),.one (.v (.int .i64 x23))]]) (cs:=[]) (by kernel_rfl)) (by kernel_rfl) trivial ?_
    obtain ⟨v24,v25,c_v24,h⟩ := cl2_some h
    refine TI_of (i:=8) (by kernel_rfl) (TE_callR (d:=52) (f:=66) (args:=[rval (.lf (.v (.pointer (some ⟨C10b,0,none⟩)))),rval (.lf (.v (.func (.func 67) #[(rval (.agg [.one (.v (.pointer (some ⟨C10b,0,none⟩))),.one (.v (.int .i64 x17)),.one (.v (.int .i64 x23))]))] #[]))),rval (vb false)]) (by kernel_rfl) (by kernel_rfl) (w66a k (hC10.le hM14) c_v24) ?_)
    rintro _ M30 _ hM30 _ ⟨A26,c27,A28,c29,rfl,fA26,fA28⟩
    refine TI_segK (i:=9) (j:=11) (s':={ σ := [(4,.lf (.own 4 0)),(5,vi (0 : Int))],H := [(4,[.one (.v (.slice A26 (v24.length) c27)),.one (.v (.slice A28 (v25.length) c29))])],V := [],M := M30,ds := [] }) [4,5] [4] [] (by kernel_rfl) (by kernel_rfl) ?_
    refine TI_end (by kernel_rfl) ?_
    refine thenQ_n ?_
    refine T_ret (by kernel_rfl) ?_
    have h := Option.some.inj h
    subst h
    refine fin_ret (.tup [(none,[.one (.v (.slice A26 (v24.length) c27)),.one (.v (.slice A28 (v25.length) c29))]),(some (.v (.int .i64 (0 : Int))),[])]) (by kernel_rfl) (by kernel_rfl) rfl ?_
    exact ⟨A26,c27,A28,c29,rfl,fA26,fA28⟩
end Go.Proofs.Ythjkejbgknemgaa
namespace Go.Proofs.Ythjkejbgknemgaa
open Go.RowKit
def p10 (k : Nat) (u0_0 : List (List Int)) (u0_1 : List Int) (u1 : List Int) (u2 : List Int) (u3 : List Int) : Option Bool :=
 jn (fun (b1 : Bool) => sp b1 (cl (p12 k ) fun v6 => some v6) (cl2 (p14 k u0_0 u0_1 u1) fun v7 v8 => cl2 (p13 k u0_0 u0_1 u2) fun v9 v10 => cl2 (p36 k u0_0 u0_1 u1 v9 v10) fun v16 v17 => jn (fun (b18 : Bool) => sp b18 (some false) (cl3 (p38 k u0_0 u0_1 u1) fun v33 v34 v35 => cl3 (p39 k u0_0 u0_1 u1) fun v41 v42 v43 => jn (fun (b49 : Bool) => sp b49 (some false) (jn (jn (cl (p12 k ) fun v83 => some v83) fun j73 => lt' (v43 == (0 : Int)) fun b74 => sp b74 (cl2 (p22 k u0_0 u0_1 v41 v42) fun v75 v76 => cl2 (p36 k u0_0 u0_1 u1 v41 v42) fun v77 v78 => jn (fun (b79 : Bool) => sp b79 (some false) (j73)) fun j80 => lt' (v76 != (0 : Int)) fun b81 => sp b81 (j80 true) (lt' (v78 != (0 : Int)) fun b82 => sp b82 (j80 true) (sp v75 (j80 v77) (j80 true)))) (j73)) fun j63 => lt' (v35 == (0 : Int)) fun b64 => sp b64 (cl2 (p22 k u0_0 u0_1 v33 v34) fun v65 v66 => cl2 (p36 k u0_0 u0_1 u1 v33 v34) fun v67 v68 => jn (fun (b69 : Bool) => sp b69 (some false) (j63)) fun j70 => lt' (v66 != (0 : Int)) fun b71 => sp b71 (j70 true) (lt' (v68 != (0 : Int)) fun b72 => sp b72 (j70 true) (sp v65 (j70 (!v67)) (j70 true)))) (j63))) fun j50 => lt' (v35 == (0 : Int)) fun b51 => lt' (v7 != (2 : Int)) fun b52 => lt' (true != (b51 == b52)) fun b53 => sp b53 (j50 true) (lt' (v43 == (0 : Int)) fun b54 => lt' (v7 != (1 : Int)) fun b55 => lt' (true != (b54 == b55)) fun b56 => sp b56 (j50 true) (lt' (v35 != (0 : Int)) fun b57 => sp b57 (lt' (v35 != (15 : Int)) fun b58 => sp b58 (j50 true) (lt' (v43 != (0 : Int)) fun b59 => sp b59 (lt' (v43 != (15 : Int)) fun b60 => j50 b60) (j50 false))) (lt' (v43 != (0 : Int)) fun b61 => sp b61 (lt' (v43 != (15 : Int)) fun b62 => j50 b62) (j50 false)))))) fun j19 => lt' (v8 != (0 : Int)) fun b20 => sp b20 (j19 true) (lt' (v17 != (0 : Int)) fun b21 => sp b21 (j19 true) (lt' (v7 == (1 : Int)) fun b22 => sp b22 (sp v16 (lt' (v7 == (2 : Int)) fun b23 => sp b23 (j19 true) (cl (p26 k u0_0 u0_1 u1 u3) fun v24 => lt' (v24 == (0 : Int)) fun b25 => sp b25 (lt' (v7 != (1 : Int)) fun b26 => j19 b26) (j19 false))) (j19 true)) (lt' (v7 == (2 : Int)) fun b27 => sp b27 (sp v16 (j19 true) (cl (p26 k u0_0 u0_1 u1 u3) fun v28 => lt' (v28 == (0 : Int)) fun b29 => sp b29 (j19 true) (j19 false))) (cl (p26 k u0_0 u0_1 u1 u3) fun v30 => lt' (v30 == (0 : Int)) fun b31 => sp b31 (sp v16 (lt' (v7 != (1 : Int)) fun b32 => j19 b32) (j19 true)) (j19 false))))))) fun j2 => cl (p11 k u0_0 u0_1 u1) fun v3 => sp v3 (lt' (decide ((u2.length : Int) > (2000 : Int))) fun b4 => sp b4 (j2 true) (lt' (decide ((u3.length : Int) > (300 : Int))) fun b5 => j2 b5)) (j2 true)
theorem hf10 : Try.prog.funcs[10]? = some Try.f10 := by kernel_rfl
theorem w10 (k : Nat) {M : Mem} {Au0_0 : Option Addr} {cu0_0 : Nat} {Au2 : Option Addr} {cu2 : Nat} {Au3 : Option Addr} {cu3 : Nat} {u0_0 : List (List Int)} {u0_1 : List Int} {u1 : List Int} {u2 : List Int} {u3 : List Int} (hu0_0 : SlR M Au0_0 cu0_0 .i64 11 u0_0) (hu0_1 : u0_1.length = 4) (hu1 : u1.length = 7) (hu2 : SlI M Au2 cu2 .u8 u2) (hu3 : SlI M Au3 cu3 .i64 u3) {r} (h : p10 k u0_0 u0_1 u1 u2 u3 = some r) :
  Fn Try.prog 10 [rval (.agg [.one (.v (.slice Au0_0 (u0_0.length) cu0_0)),.arr .i64 4 u0_1]),rval (.agg [.arr .i64 7 u1]),rval (.lf (.v (.slice Au2 (u2.length) cu2))),rval (.lf (.v (.slice Au3 (u3.length) cu3)))] M (fun x _ => x = vb r) := by
 unfold p10 at h
 refine Fn_of (P:=Try.prog) (fn:=Try.f10) (c:=bodyOf Try.f10) [.agg [.one (.v (.slice Au0_0 (u0_0.length) cu0_0)),.arr .i64 4 u0_1],.agg [.arr .i64 7 u1],.lf (.v (.slice Au2 (u2.length) cu2)),.lf (.v (.slice Au3 (u3.length) cu3))] hf10 (by kernel_rfl) (Nat.le_of_ble_eq_true (by kernel_rfl)) (args_ok (by kernel_rfl) ⟨⟨rfl,⟨hu0_1,trivial⟩⟩,⟨⟨hu1,trivial⟩,⟨trivial,⟨trivial,trivial⟩⟩⟩⟩) fun w => ?_
 change T _ _ _ (endQ _ _ _)
 refine T_seq (c1:=(sub [0] Bd10)) (c2:=(sub [1] Bd10)) (by kernel_rfl) ?_
 refine T_region (id:=0) (by kernel_rfl) ?_
 refine TI_segK (i:=0) (j:=3) (s':={ σ := [(2,.lf (.v (.slice Au2 (u2.length) cu2))),(3,.lf (.v (.slice Au3 (u3.length) cu3))),(4,.lf (.own 4 0)),(5,.lf (.own 5 0))],H := [(4,[.one (.v (.slice Au0_0 (u0_0.length) cu0_0)),.arr .i64 4 u0_1]),(5,[.arr .i64 7 u1])],V := [],M := M,ds := [] }) [2,3,4,5] [4,5] [] (by kernel_rfl) (by kernel_rfl) ?_
 refine TI_end (by kernel_rfl) ?_
 refine thenQ_n ?_
 refine T_sq (by kernel_rfl) ?_
 obtain ⟨j2,e_j2,h⟩ := jn_some h
 refine T_cut (c1:=(sub [1,0,0] Bd10)) (c2:=(sub [1,0,1] Bd10)) (fun s' => ∃ (b1 : Bool),Sub { σ := [(2,.lf (.v (.slice Au2 (u2.length) cu2))),(3,.lf (.v (.slice Au3 (u3.length) cu3))),(4,.lf (.own 4 0)),(5,.lf (.own 5 0)),(37,vb b1)],H := [(4,[.one (.v (.slice Au0_0 (u0_0.length) cu0_0)),.arr .i64 4 u0_1]),(5,[.arr .i64 7 u1])],V := [],M := M,ds := [] } s' ∧ j2 b1 = some r) (by kernel_rfl) ?_ ?_
 ·refine T_region (id:=1) (by kernel_rfl) ?_
  refine TI_segK (i:=0) (j:=2) (s':={ σ := [(2,.lf (.v (.slice Au2 (u2.length) cu2))),(3,.lf (.v (.slice Au3 (u3.length) cu3))),(4,.lf (.own 4 0)),(5,.lf (.own 5 0)),(24,.agg [.one (.v (.slice Au0_0 (u0_0.length) cu0_0)),.arr .i64 4 u0_1]),(25,.agg [.arr .i64 7 u1])],H := [(4,[.one (.v (.slice Au0_0 (u0_0.length) cu0_0)),.arr .i64 4 u0_1]),(5,[.arr .i64 7 u1])],V := [],M := M,ds := [] }) [2,3,4,5,24,25] [4,5] [] (by kernel_rfl) (by kernel_rfl) ?_
  obtain ⟨v3,c_v3,h⟩ := cl_some h
  refine TI_at (i:=2) (d:=26) (x:=vb v3) (At_call (d:=26) (f:=11) (args:=[rval (.agg [.one (.v (.slice Au0_0 (u0_0.length) cu0_0)),.arr .i64 4 u0_1]),rval (.agg [.arr .i64 7 u1])]) (x:=vb v3) (by kernel_rfl) (w11 k hu0_0 hu0_1 hu1 c_v3)) (by kernel_rfl) trivial ?_
  refine TI_segK (i:=3) (j:=5) (s':={ σ := [(2,.lf (.v (.slice Au2 (u2.length) cu2))),(3,.lf (.v (.slice Au3 (u3.length) cu3))),(4,.lf (.own 4 0)),(5,.lf (.own 5 0)),(28,vb (!v3))],H := [(4,[.one (.v (.slice Au0_0 (u0_0.length) cu0_0)),.arr .i64 4 u0_1]),(5,[.arr .i64 7 u1])],V := [],M := M,ds := [] }) [2,3,4,5,28] [4,5] [] (by kernel_rfl) (by kernel_rfl) ?_
  cases v3 with
  | true =>
   replace h := sp_t h
   obtain ⟨b4,e_b4,h⟩ := lt_some h
   refine TI_segS (i:=5) (j:=10) [(2,.lf (.v (.slice Au2 (u2.length) cu2))),(3,.lf (.v (.slice Au3 (u3.length) cu3))),(4,.lf (.own 4 0)),(5,.lf (.own 5 0)),(33,vb b4)] (by subst e_b4;kernel_rfl) (by kernel_rfl) ?_
   cases b4 with
   | true =>
    replace h := sp_t h
    refine TI_segS (i:=10) (j:=14) [(2,.lf (.v (.slice Au2 (u2.length) cu2))),(3,.lf (.v (.slice Au3 (u3.length) cu3))),(4,.lf (.own 4 0)),(5,.lf (.own 5 0)),(37,vb true)] (by kernel_rfl) (by kernel_rfl) ?_
    refine TI_end (by kernel_rfl) ?_
    refine thenQ_n ?_
    exact ⟨true,keep_sub (ts:=[2,3,4,5,37]) (hs:=[4,5]) (vs:=[]) (by kernel_rfl),h⟩
   | false =>
    replace h := sp_f h
    obtain ⟨b5,e_b5,h⟩ := lt_some h
    refine TI_segS (i:=10) (j:=14) [(2,.lf (.v (.slice Au2 (u2.length) cu2))),(3,.lf (.v (.slice Au3 (u3.length) cu3))),(4,.lf (.own 4 0)),(5,.lf (.own 5 0)),(37,vb b5)] (by subst e_b5;kernel_rfl) (by kernel_rfl) ?_
    refine TI_end (by kernel_rfl) ?_
    refine thenQ_n ?_
    exact ⟨b5,keep_sub (ts:=[2,3,4,5,37]) (hs:=[4,5]) (vs:=[]) (by kernel_rfl),h⟩
  | false =>
   replace h := sp_f h
   refine TI_segS (i:=5) (j:=14) [(2,.lf (.v (.slice Au2 (u2.length) cu2))),(3,.lf (.v (.slice Au3 (u3.length) cu3))),(4,.lf (.own 4 0)),(5,.lf (.own 5 0)),(37,vb true)] (by kernel_rfl) (by kernel_rfl) ?_
   refine TI_end (by kernel_rfl) ?_
   refine thenQ_n ?_
   exact ⟨true,keep_sub (ts:=[2,3,4,5,37]) (hs:=[4,5]) (vs:=[]) (by kernel_rfl),h⟩
 ·rintro s' ⟨b1,hsub,h⟩
  subst e_j2
  refine T_sub hsub ?_
  cases b1 with
  | true =>
   replace h := sp_t h
   refine T_condT (x:=(.tmp 37)) (c1:=(sub [1,0,1,0] Bd10)) (c2:=(sub [1,0,1,1] Bd10)) (by kernel_rfl) (by kernel_rfl) ?_
   refine T_keep (s':={ σ := [],H := [],V := [],M := M,ds := [] }) [] [] [] (by kernel_rfl) ?_
   refine T_sq (by kernel_rfl) ?_
   refine T_region (id:=2) (by kernel_rfl) ?_
   obtain ⟨v6,c_v6,h⟩ := cl_some h
   refine TI_at (i:=0) (d:=38) (x:=vb v6) (At_call (d:=38) (f:=12) (args:=[]) (x:=vb v6) (by kernel_rfl) (w12 k  c_v6)) (by kernel_rfl) trivial ?_
   refine TI_segK (i:=1) (j:=2) (s':={ σ := [(8,vb v6)],H := [],V := [],M := M,ds := [] }) [8] [] [] (by kernel_rfl) (by kernel_rfl) ?_
   refine TI_end (by kernel_rfl) ?_
   refine thenQ_n ?_
   refine T_ret (by kernel_rfl) ?_
   refine thenQ_r ?_
   have h := Option.some.inj h
   subst h
   refine fin_ret (vb v6) (by kernel_rfl) (by kernel_rfl) rfl ?_
   rfl
  | false =>
   replace h := sp_f h
   refine T_condF (x:=(.tmp 37)) (c1:=(sub [1,0,1,0] Bd10)) (c2:=(sub [1,0,1,1] Bd10)) (by kernel_rfl) (by kernel_rfl) ?_
   refine T_keep (s':={ σ := [(2,.lf (.v (.slice Au2 (u2.length) cu2))),(3,.lf (.v (.slice Au3 (u3.length) cu3))),(4,.lf (.own 4 0)),(5,.lf (.own 5 0))],H := [(4,[.one (.v (.slice Au0_0 (u0_0.length) cu0_0)),.arr .i64 4 u0_1]),(5,[.arr .i64 7 u1])],V := [],M := M,ds := [] }) [2,3,4,5] [4,5] [] (by kernel_rfl) ?_
   refine T_skip (by kernel_rfl) ?_
   refine thenQ_n ?_
   refine T_sq (by kernel_rfl) ?_
   refine T_region (id:=3) (by kernel_rfl) ?_
   refine TI_segS (i:=0) (j:=2) [(2,.lf (.v (.slice Au2 (u2.length) cu2))),(3,.lf (.v (.slice Au3 (u3.length) cu3))),(4,.lf (.own 4 0)),(5,.lf (.own 5 0)),(40,.agg [.one (.v (.slice Au0_0 (u0_0.length) cu0_0)),.arr .i64 4 u0_1]),(41,.agg [.arr .i64 7 u1])] (by kernel_rfl) (by kernel_rfl) ?_
   obtain ⟨v7,v8,c_v7,h⟩ := cl2_some h
   refine TI_at (i:=2) (d:=42) (x:=.tup [(some (.v (.int .i64 v7)),[]),(some (.v (.int .i64 v8)),[])]) (At_call (d:=42) (f:=14) (args:=[rval (.agg [.one (.v (.slice Au0_0 (u0_0.length) cu0_0)),.arr .i64 4 u0_1]),rval (.agg [.arr .i64 7 u1])]) (x:=.tup [(some (.v (.int .i64 v7)),[]),(some (.v (.int .i64 v8)),[])]) (by kernel_rfl) (w14 k hu0_0 hu0_1 hu1 c_v7)) (by kernel_rfl) (by intro y hy; simp only [List.mem_cons,List.mem_nil_iff,or_false] at hy; rcases hy with rfl | rfl <;> exact trivial) ?_
   refine TI_segK (i:=3) (j:=8) (s':={ σ := [(2,.lf (.v (.slice Au2 (u2.length) cu2))),(3,.lf (.v (.slice Au3 (u3.length) cu3))),(4,.lf (.own 4 0)),(5,.lf (.own 5 0)),(9,vi v7),(10,vi v8)],H := [(4,[.one (.v (.slice Au0_0 (u0_0.length) cu0_0)),.arr .i64 4 u0_1]),(5,[.arr .i64 7 u1])],V := [],M := M,ds := [] }) [2,3,4,5,9,10] [4,5] [] (by kernel_rfl) (by kernel_rfl) ?_
   refine TI_end (by kernel_rfl) ?_
   refine thenQ_n ?_
   refine T_sq (by kernel_rfl) ?_
   refine T_region (id:=4) (by kernel_rfl) ?_
   refine TI_segS (i:=0) (j:=2) [(3,.lf (.v (.slice Au3 (u3.length) cu3))),(4,.lf (.own 4 0)),(5,.lf (.own 5 0)),(9,vi v7),(10,vi v8),(45,.agg [.one (.v (.slice Au0_0 (u0_0.length) cu0_0)),.arr .i64 4 u0_1]),(46,.lf (.v (.slice Au2 (u2.length) cu2)))] (by kernel_rfl) (by kernel_rfl) ?_
   obtain ⟨v9,v10,c_v9,h⟩ := cl2_some h
   refine TI_of (i:=2) (by kernel_rfl) (TE_callR (d:=47) (f:=13) (args:=[rval (.agg [.one (.v (.slice Au0_0 (u0_0.length) cu0_0)),.arr .i64 4 u0_1]),rval (.lf (.v (.slice Au2 (u2.length) cu2)))]) (by kernel_rfl) (by kernel_rfl) (w13 k hu0_0 hu0_1 hu2 c_v9) ?_)
   rintro _ M15 _ hM15 _ ⟨A11,c12,A13,c14,rfl,fA11,fA13⟩
   refine TI_segK (i:=3) (j:=5) (s':={ σ := [(3,.lf (.v (.slice Au3 (u3.length) cu3))),(4,.lf (.own 4 0)),(5,.lf (.own 5 0)),(9,vi v7),(10,vi v8),(11,.lf (.own 11 0))],H := [(4,[.one (.v (.slice Au0_0 (u0_0.length) cu0_0)),.arr .i64 4 u0_1]),(5,[.arr .i64 7 u1]),(11,[.one (.v (.slice A11 (v9.length) c12)),.one (.v (.slice A13 (v10.length) c14))])],V := [],M := M15,ds := [] }) [3,4,5,9,10,11] [4,5,11] [] (by kernel_rfl) (by kernel_rfl) ?_
   refine TI_end (by kernel_rfl) ?_
   refine thenQ_n ?_
   refine T_sq (by kernel_rfl) ?_
   refine T_region (id:=5) (by kernel_rfl) ?_
   refine TI_segK (i:=0) (j:=3) (s':={ σ := [(3,.lf (.v (.slice Au3 (u3.length) cu3))),(4,.lf (.own 4 0)),(5,.lf (.own 5 0)),(9,vi v7),(10,vi v8),(49,.agg [.one (.v (.slice Au0_0 (u0_0.length) cu0_0)),.arr .i64 4 u0_1]),(50,.agg [.arr .i64 7 u1]),(51,.agg [.one (.v (.slice A11 (v9.length) c12)),.one (.v (.slice A13 (v10.length) c14))])],H := [(4,[.one (.v (.slice Au0_0 (u0_0.length) cu0_0)),.arr .i64 4 u0_1]),(5,[.arr .i64 7 u1])],V := [],M := M15,ds := [] }) [3,4,5,9,10,49,50,51] [4,5] [] (by kernel_rfl) (by kernel_rfl) ?_
   obtain ⟨v16,v17,c_v16,h⟩ := cl2_some h
   refine TI_at (i:=3) (d:=52) (x:=.tup [(some (.v (.bool v16)),[]),(some (.v (.int .i64 v17)),[])]) (At_call (d:=52) (f:=36) (args:=[rval (.agg [.one (.v (.slice Au0_0 (u0_0.length) cu0_0)),.arr .i64 4 u0_1]),rval (.agg [.arr .i64 7 u1]),rval (.agg [.one (.v (.slice A11 (v9.length) c12)),.one (.v (.slice A13 (v10.length) c14))])]) (x:=.tup [(some (.v (.bool v16)),[]),(some (.v (.int .i64 v17)),[])]) (by kernel_rfl) (w36 k (hu0_0.le hM15) hu0_1 hu1 fA11 fA13 c_v16)) (by kernel_rfl) (by intro y hy; simp only [List.mem_cons,List.mem_nil_iff,or_false] at hy; rcases hy with rfl | rfl <;> exact trivial) ?_
   refine TI_segK (i:=4) (j:=9) (s':={ σ := [(3,.lf (.v (.slice Au3 (u3.length) cu3))),(4,.lf (.own 4 0)),(5,.lf (.own 5 0)),(9,vi v7),(10,vi v8),(12,vb v16),(13,vi v17)],H := [(4,[.one (.v (.slice Au0_0 (u0_0.length) cu0_0)),.arr .i64 4 u0_1]),(5,[.arr .i64 7 u1])],V := [],M := M15,ds := [] }) [3,4,5,9,10,12,13] [4,5] [] (by kernel_rfl) (by kernel_rfl) ?_
   refine TI_end (by kernel_rfl) ?_
   refine thenQ_n ?_
   refine T_sq (by kernel_rfl) ?_
   obtain ⟨j19,e_j19,h⟩ := jn_some h
   refine T_cut (c1:=(sub [1,1,1,1,1,0,0] Bd10)) (c2:=(sub [1,1,1,1,1,0,1] Bd10)) (fun s' => ∃ (b18 : Bool),Sub { σ := [(4,.lf (.own 4 0)),(5,.lf (.own 5 0)),(9,vi v7),(90,vb b18)],H := [(4,[.one (.v (.slice Au0_0 (u0_0.length) cu0_0)),.arr .i64 4 u0_1]),(5,[.arr .i64 7 u1])],V := [],M := M15,ds := [] } s' ∧ j19 b18 = some r) (by kernel_rfl) ?_ ?_
   ·refine T_region (id:=6) (by kernel_rfl) ?_
    obtain ⟨b20,e_b20,h⟩ := lt_some h
    refine TI_segK (i:=0) (j:=3) (s':={ σ := [(3,.lf (.v (.slice Au3 (u3.length) cu3))),(4,.lf (.own 4 0)),(5,.lf (.own 5 0)),(9,vi v7),(12,vb v16),(13,vi v17),(57,vb b20)],H := [(4,[.one (.v (.slice Au0_0 (u0_0.length) cu0_0)),.arr .i64 4 u0_1]),(5,[.arr .i64 7 u1])],V := [],M := M15,ds := [] }) [3,4,5,9,12,13,57] [4,5] [] (by subst e_b20;kernel_rfl) (by kernel_rfl) ?_
    cases b20 with
    | true =>
     replace h := sp_t h
     refine TI_segS (i:=3) (j:=36) [(4,.lf (.own 4 0)),(5,.lf (.own 5 0)),(9,vi v7),(90,vb true)] (by kernel_rfl) (by kernel_rfl) ?_
     refine TI_end (by kernel_rfl) ?_
     refine thenQ_n ?_
     exact ⟨true,keep_sub (ts:=[4,5,9,90]) (hs:=[4,5]) (vs:=[]) (by kernel_rfl),h⟩
    | false =>
     replace h := sp_f h
     obtain ⟨b21,e_b21,h⟩ := lt_some h
     refine TI_segS (i:=3) (j:=7) [(3,.lf (.v (.slice Au3 (u3.length) cu3))),(4,.lf (.own 4 0)),(5,.lf (.own 5 0)),(9,vi v7),(12,vb v16),(61,vb b21)] (by subst e_b21;kernel_rfl) (by kernel_rfl) ?_
     cases b21 with
     | true =>
      replace h := sp_t h
      refine TI_segS (i:=7) (j:=36) [(4,.lf (.own 4 0)),(5,.lf (.own 5 0)),(9,vi v7),(90,vb true)] (by kernel_rfl) (by kernel_rfl) ?_
      refine TI_end (by kernel_rfl) ?_
      refine thenQ_n ?_
      exact ⟨true,keep_sub (ts:=[4,5,9,90]) (hs:=[4,5]) (vs:=[]) (by kernel_rfl),h⟩
     | false =>
      replace h := sp_f h
      obtain ⟨b22,e_b22,h⟩ := lt_some h
      refine TI_segS (i:=7) (j:=10) [(3,.lf (.v (.slice Au3 (u3.length) cu3))),(4,.lf (.own 4 0)),(5,.lf (.own 5 0)),(9,vi v7),(12,vb v16),(61,vb false),(64,vb b22)] (by subst e_b22;kernel_rfl) (by kernel_rfl) ?_
      cases b22 with
      | true =>
       replace h := sp_t h
       refine TI_segS (i:=10) (j:=15) [(3,.lf (.v (.slice Au3 (u3.length) cu3))),(4,.lf (.own 4 0)),(5,.lf (.own 5 0)),(9,vi v7),(12,vb v16),(69,vb (!v16))] (by kernel_rfl) (by kernel_rfl) ?_
       cases v16 with
       | true =>
        replace h := sp_t h
        obtain ⟨b23,e_b23,h⟩ := lt_some h
        refine TI_segS (i:=15) (j:=18) [(3,.lf (.v (.slice Au3 (u3.length) cu3))),(4,.lf (.own 4 0)),(5,.lf (.own 5 0)),(9,vi v7),(12,vb true),(69,vb false),(72,vb b23)] (by subst e_b23;kernel_rfl) (by kernel_rfl) ?_
        cases b23 with
        | true =>
         replace h := sp_t h
         refine TI_segS (i:=18) (j:=36) [(4,.lf (.own 4 0)),(5,.lf (.own 5 0)),(9,vi v7),(90,vb true)] (by kernel_rfl) (by kernel_rfl) ?_
         refine TI_end (by kernel_rfl) ?_
         refine thenQ_n ?_
         exact ⟨true,keep_sub (ts:=[4,5,9,90]) (hs:=[4,5]) (vs:=[]) (by kernel_rfl),h⟩
        | false =>
         replace h := sp_f h
         refine TI_segS (i:=18) (j:=25) [(4,.lf (.own 4 0)),(5,.lf (.own 5 0)),(9,vi v7),(12,vb true),(76,vb false),(77,.agg [.one (.v (.slice Au0_0 (u0_0.length) cu0_0)),.arr .i64 4 u0_1]),(78,.agg [.arr .i64 7 u1]),(79,.lf (.v (.slice Au3 (u3.length) cu3)))] (by kernel_rfl) (by kernel_rfl) ?_
         obtain ⟨v24,c_v24,h⟩ := cl_some h
         refine TI_at (i:=25) (d:=80) (x:=vi v24) (At_call (d:=80) (f:=26) (args:=[rval (.agg [.one (.v (.slice Au0_0 (u0_0.length) cu0_0)),.arr .i64 4 u0_1]),rval (.agg [.arr .i64 7 u1]),rval (.lf (.v (.slice Au3 (u3.length) cu3)))]) (x:=vi v24) (by kernel_rfl) (w26 k (hu0_0.le hM15) hu0_1 hu1 (hu3.le hM15) c_v24)) (by kernel_rfl) trivial ?_
         obtain ⟨b25,e_b25,h⟩ := lt_some h
         refine TI_segK (i:=26) (j:=28) (s':={ σ := [(4,.lf (.own 4 0)),(5,.lf (.own 5 0)),(9,vi v7),(12,vb true),(76,vb false),(82,vb b25)],H := [(4,[.one (.v (.slice Au0_0 (u0_0.length) cu0_0)),.arr .i64 4 u0_1]),(5,[.arr .i64 7 u1])],V := [],M := M15,ds := [] }) [4,5,9,12,76,82] [4,5] [] (by subst e_b25;kernel_rfl) (by kernel_rfl) ?_
         cases b25 with
         | true =>
          replace h := sp_t h
          obtain ⟨b26,e_b26,h⟩ := lt_some h
          refine TI_segS (i:=28) (j:=36) [(4,.lf (.own 4 0)),(5,.lf (.own 5 0)),(9,vi v7),(90,vb b26)] (by subst e_b26;kernel_rfl) (by kernel_rfl) ?_
          refine TI_end (by kernel_rfl) ?_
          refine thenQ_n ?_
          exact ⟨b26,keep_sub (ts:=[4,5,9,90]) (hs:=[4,5]) (vs:=[]) (by kernel_rfl),h⟩
         | false =>
          replace h := sp_f h
          refine TI_segS (i:=28) (j:=36) [(4,.lf (.own 4 0)),(5,.lf (.own 5 0)),(9,vi v7),(90,vb false)] (by kernel_rfl) (by kernel_rfl) ?_
          refine TI_end (by kernel_rfl) ?_
          refine thenQ_n ?_
          exact ⟨false,keep_sub (ts:=[4,5,9,90]) (hs:=[4,5]) (vs:=[]) (by kernel_rfl),h⟩
       | false =>
        replace h := sp_f h
        refine TI_segS (i:=15) (j:=36) [(4,.lf (.own 4 0)),(5,.lf (.own 5 0)),(9,vi v7),(90,vb true)] (by kernel_rfl) (by kernel_rfl) ?_
        refine TI_end (by kernel_rfl) ?_
        refine thenQ_n ?_
        exact ⟨true,keep_sub (ts:=[4,5,9,90]) (hs:=[4,5]) (vs:=[]) (by kernel_rfl),h⟩
      | false =>
       replace h := sp_f h
       obtain ⟨b27,e_b27,h⟩ := lt_some h
       refine TI_segS (i:=10) (j:=18) [(3,.lf (.v (.slice Au3 (u3.length) cu3))),(4,.lf (.own 4 0)),(5,.lf (.own 5 0)),(9,vi v7),(12,vb v16),(69,vb false),(72,vb b27)] (by subst e_b27;kernel_rfl) (by kernel_rfl) ?_
       cases b27 with
       | true =>
        replace h := sp_t h
        refine TI_segS (i:=18) (j:=22) [(3,.lf (.v (.slice Au3 (u3.length) cu3))),(4,.lf (.own 4 0)),(5,.lf (.own 5 0)),(9,vi v7),(12,vb v16),(76,vb v16)] (by kernel_rfl) (by kernel_rfl) ?_
        cases v16 with
        | true =>
         replace h := sp_t h
         refine TI_segS (i:=22) (j:=36) [(4,.lf (.own 4 0)),(5,.lf (.own 5 0)),(9,vi v7),(90,vb true)] (by kernel_rfl) (by kernel_rfl) ?_
         refine TI_end (by kernel_rfl) ?_
         refine thenQ_n ?_
         exact ⟨true,keep_sub (ts:=[4,5,9,90]) (hs:=[4,5]) (vs:=[]) (by kernel_rfl),h⟩
        | false =>
         replace h := sp_f h
         refine TI_segS (i:=22) (j:=25) [(4,.lf (.own 4 0)),(5,.lf (.own 5 0)),(9,vi v7),(12,vb false),(76,vb false),(77,.agg [.one (.v (.slice Au0_0 (u0_0.length) cu0_0)),.arr .i64 4 u0_1]),(78,.agg [.arr .i64 7 u1]),(79,.lf (.v (.slice Au3 (u3.length) cu3)))] (by kernel_rfl) (by kernel_rfl) ?_
         obtain ⟨v28,c_v28,h⟩ := cl_some h
         refine TI_at (i:=25) (d:=80) (x:=vi v28) (At_call (d:=80) (f:=26) (args:=[rval (.agg [.one (.v (.slice Au0_0 (u0_0.length) cu0_0)),.arr .i64 4 u0_1]),rval (.agg [.arr .i64 7 u1]),rval (.lf (.v (.slice Au3 (u3.length) cu3)))]) (x:=vi v28) (by kernel_rfl) (w26 k (hu0_0.le hM15) hu0_1 hu1 (hu3.le hM15) c_v28)) (by kernel_rfl) trivial ?_
         obtain ⟨b29,e_b29,h⟩ := lt_some h
         refine TI_segK (i:=26) (j:=28) (s':={ σ := [(4,.lf (.own 4 0)),(5,.lf (.own 5 0)),(9,vi v7),(12,vb false),(76,vb false),(82,vb b29)],H := [(4,[.one (.v (.slice Au0_0 (u0_0.length) cu0_0)),.arr .i64 4 u0_1]),(5,[.arr .i64 7 u1])],V := [],M := M15,ds := [] }) [4,5,9,12,76,82] [4,5] [] (by subst e_b29;kernel_rfl) (by kernel_rfl) ?_
         cases b29 with
         | true =>
          replace h := sp_t h
          refine TI_segS (i:=28) (j:=36) [(4,.lf (.own 4 0)),(5,.lf (.own 5 0)),(9,vi v7),(90,vb true)] (by kernel_rfl) (by kernel_rfl) ?_
          refine TI_end (by kernel_rfl) ?_
          refine thenQ_n ?_
          exact ⟨true,keep_sub (ts:=[4,5,9,90]) (hs:=[4,5]) (vs:=[]) (by kernel_rfl),h⟩
         | false =>
          replace h := sp_f h
          refine TI_segS (i:=28) (j:=36) [(4,.lf (.own 4 0)),(5,.lf (.own 5 0)),(9,vi v7),(90,vb false)] (by kernel_rfl) (by kernel_rfl) ?_
          refine TI_end (by kernel_rfl) ?_
          refine thenQ_n ?_
          exact ⟨false,keep_sub (ts:=[4,5,9,90]) (hs:=[4,5]) (vs:=[]) (by kernel_rfl),h⟩
       | false =>
        replace h := sp_f h
        refine TI_segS (i:=18) (j:=25) [(4,.lf (.own 4 0)),(5,.lf (.own 5 0)),(9,vi v7),(12,vb v16),(76,vb false),(77,.agg [.one (.v (.slice Au0_0 (u0_0.length) cu0_0)),.arr .i64 4 u0_1]),(78,.agg [.arr .i64 7 u1]),(79,.lf (.v (.slice Au3 (u3.length) cu3)))] (by kernel_rfl) (by kernel_rfl) ?_
        obtain ⟨v30,c_v30,h⟩ := cl_some h
        refine TI_at (i:=25) (d:=80) (x:=vi v30) (At_call (d:=80) (f:=26) (args:=[rval (.agg [.one (.v (.slice Au0_0 (u0_0.length) cu0_0)),.arr .i64 4 u0_1]),rval (.agg [.arr .i64 7 u1]),rval (.lf (.v (.slice Au3 (u3.length) cu3)))]) (x:=vi v30) (by kernel_rfl) (w26 k (hu0_0.le hM15) hu0_1 hu1 (hu3.le hM15) c_v30)) (by kernel_rfl) trivial ?_
        obtain ⟨b31,e_b31,h⟩ := lt_some h
        refine TI_segK (i:=26) (j:=28) (s':={ σ := [(4,.lf (.own 4 0)),(5,.lf (.own 5 0)),(9,vi v7),(12,vb v16),(76,vb false),(82,vb b31)],H := [(4,[.one (.v (.slice Au0_0 (u0_0.length) cu0_0)),.arr .i64 4 u0_1]),(5,[.arr .i64 7 u1])],V := [],M := M15,ds := [] }) [4,5,9,12,76,82] [4,5] [] (by subst e_b31;kernel_rfl) (by kernel_rfl) ?_
        cases b31 with
        | true =>
         replace h := sp_t h
         refine TI_segS (i:=28) (j:=31) [(4,.lf (.own 4 0)),(5,.lf (.own 5 0)),(9,vi v7),(76,vb false),(82,vb true),(85,vb (!v16))] (by kernel_rfl) (by kernel_rfl) ?_
         cases v16 with
         | true =>
          replace h := sp_t h
          obtain ⟨b32,e_b32,h⟩ := lt_some h
          refine TI_segS (i:=31) (j:=36) [(4,.lf (.own 4 0)),(5,.lf (.own 5 0)),(9,vi v7),(90,vb b32)] (by subst e_b32;kernel_rfl) (by kernel_rfl) ?_
          refine TI_end (by kernel_rfl) ?_
          refine thenQ_n ?_
          exact ⟨b32,keep_sub (ts:=[4,5,9,90]) (hs:=[4,5]) (vs:=[]) (by kernel_rfl),h⟩
         | false =>
          replace h := sp_f h
          refine TI_segS (i:=31) (j:=36) [(4,.lf (.own 4 0)),(5,.lf (.own 5 0)),(9,vi v7),(90,vb true)] (by kernel_rfl) (by kernel_rfl) ?_
          refine TI_end (by kernel_rfl) ?_
          refine thenQ_n ?_
          exact ⟨true,keep_sub (ts:=[4,5,9,90]) (hs:=[4,5]) (vs:=[]) (by kernel_rfl),h⟩
        | false =>
         replace h := sp_f h
         refine TI_segS (i:=28) (j:=36) [(4,.lf (.own 4 0)),(5,.lf (.own 5 0)),(9,vi v7),(90,vb false)] (by kernel_rfl) (by kernel_rfl) ?_
         refine TI_end (by kernel_rfl) ?_
         refine thenQ_n ?_
         exact ⟨false,keep_sub (ts:=[4,5,9,90]) (hs:=[4,5]) (vs:=[]) (by kernel_rfl),h⟩
   ·rintro s' ⟨b18,hsub,h⟩
    subst e_j19
    refine T_sub hsub ?_
    cases b18 with
    | true =>
     replace h := sp_t h
     refine T_condT (x:=(.tmp 90)) (c1:=(sub [1,1,1,1,1,0,1,0] Bd10)) (c2:=(sub [1,1,1,1,1,0,1,1] Bd10)) (by kernel_rfl) (by kernel_rfl) ?_
     refine T_keep (s':={ σ := [],H := [],V := [],M := M15,ds := [] }) [] [] [] (by kernel_rfl) ?_
     refine T_sq (by kernel_rfl) ?_
     refine T_region (id:=7) (by kernel_rfl) ?_
     refine TI_segS (i:=0) (j:=1) [(8,vb false)] (by kernel_rfl) (by kernel_rfl) ?_
     refine TI_end (by kernel_rfl) ?_
     refine thenQ_n ?_
     refine T_ret (by kernel_rfl) ?_
     refine thenQ_r ?_
     have h := Option.some.inj h
     subst h
     refine fin_ret (vb false) (by kernel_rfl) (by kernel_rfl) rfl ?_
     rfl
    | false =>
     replace h := sp_f h
     refine T_condF (x:=(.tmp 90)) (c1:=(sub [1,1,1,1,1,0,1,0] Bd10)) (c2:=(sub [1,1,1,1,1,0,1,1] Bd10)) (by kernel_rfl) (by kernel_rfl) ?_
     refine T_keep (s':={ σ := [(4,.lf (.own 4 0)),(5,.lf (.own 5 0)),(9,vi v7)],H := [(4,[.one (.v (.slice Au0_0 (u0_0.length) cu0_0)),.arr .i64 4 u0_1]),(5,[.arr .i64 7 u1])],V := [],M := M15,ds := [] }) [4,5,9] [4,5] [] (by kernel_rfl) ?_
     refine T_skip (by kernel_rfl) ?_
     refine thenQ_n ?_
     refine T_sq (by kernel_rfl) ?_
     refine T_region (id:=8) (by kernel_rfl) ?_
     refine TI_segS (i:=0) (j:=2) [(4,.lf (.own 4 0)),(5,.lf (.own 5 0)),(9,vi v7),(92,.agg [.one (.v (.slice Au0_0 (u0_0.length) cu0_0)),.arr .i64 4 u0_1]),(93,.agg [.arr .i64 7 u1])] (by kernel_rfl) (by kernel_rfl) ?_
     obtain ⟨v33,v34,v35,c_v33,h⟩ := cl3_some h
     refine TI_of (i:=2) (by kernel_rfl) (TE_callR (d:=94) (f:=38) (args:=[rval (.agg [.one (.v (.slice Au0_0 (u0_0.length) cu0_0)),.arr .i64 4 u0_1]),rval (.agg [.arr .i64 7 u1])]) (by kernel_rfl) (by kernel_rfl) (w38 k (hu0_0.le hM15) hu0_1 hu1 c_v33) ?_)
     rintro _ M40 _ hM40 _ ⟨A36,c37,A38,c39,rfl,fA36,fA38⟩
     refine TI_segK (i:=3) (j:=9) (s':={ σ := [(4,.lf (.own 4 0)),(5,.lf (.own 5 0)),(9,vi v7),(10,vi v35),(14,.lf (.own 14 0))],H := [(4,[.one (.v (.slice Au0_0 (u0_0.length) cu0_0)),.arr .i64 4 u0_1]),(5,[.arr .i64 7 u1]),(14,[.one (.v (.slice A36 (v33.length) c37)),.one (.v (.slice A38 (v34.length) c39))])],V := [],M := M40,ds := [] }) [4,5,9,10,14] [4,5,14] [] (by kernel_rfl) (by kernel_rfl) ?_
     refine TI_end (by kernel_rfl) ?_
     refine thenQ_n ?_
     refine T_sq (by kernel_rfl) ?_
     refine T_region (id:=9) (by kernel_rfl) ?_
     refine TI_segS (i:=0) (j:=2) [(4,.lf (.own 4 0)),(5,.lf (.own 5 0)),(9,vi v7),(10,vi v35),(14,.lf (.own 14 0)),(98,.agg [.one (.v (.slice Au0_0 (u0_0.length) cu0_0)),.arr .i64 4 u0_1]),(99,.agg [.arr .i64 7 u1])] (by kernel_rfl) (by kernel_rfl) ?_
     obtain ⟨v41,v42,v43,c_v41,h⟩ := cl3_some h
     refine TI_of (i:=2) (by kernel_rfl) (TE_callR (d:=100) (f:=39) (args:=[rval (.agg [.one (.v (.slice Au0_0 (u0_0.length) cu0_0)),.arr .i64 4 u0_1]),rval (.agg [.arr .i64 7 u1])]) (by kernel_rfl) (by kernel_rfl) (w39 k ((hu0_0.le hM15).le hM40) hu0_1 hu1 c_v41) ?_)
     rintro _ M48 _ hM48 _ ⟨A44,c45,A46,c47,rfl,fA44,fA46⟩
     refine TI_segK (i:=3) (j:=9) (s':={ σ := [(4,.lf (.own 4 0)),(5,.lf (.own 5 0)),(9,vi v7),(10,vi v35),(13,vi v43),(14,.lf (.own 14 0)),(15,.lf (.own 15 0))],H := [(4,[.one (.v (.slice Au0_0 (u0_0.length) cu0_0)),.arr .i64 4 u0_1]),(5,[.arr .i64 7 u1]),(14,[.one (.v (.slice A36 (v33.length) c37)),.one (.v (.slice A38 (v34.length) c39))]),(15,[.one (.v (.slice A44 (v41.length) c45)),.one (.v (.slice A46 (v42.length) c47))])],V := [],M := M48,ds := [] }) [4,5,9,10,13,14,15] [4,5,14,15] [] (by kernel_rfl) (by kernel_rfl) ?_
     refine TI_end (by kernel_rfl) ?_
     refine thenQ_n ?_
     refine T_sq (by kernel_rfl) ?_
     obtain ⟨j50,e_j50,h⟩ := jn_some h
     refine T_cut (c1:=(sub [1,1,1,1,1,1,1,1,0,0] Bd10)) (c2:=(sub [1,1,1,1,1,1,1,1,0,1] Bd10)) (fun s' => ∃ (b49 : Bool),Sub { σ := [(4,.lf (.own 4 0)),(5,.lf (.own 5 0)),(10,vi v35),(13,vi v43),(14,.lf (.own 14 0)),(15,.lf (.own 15 0)),(130,vb b49)],H := [(4,[.one (.v (.slice Au0_0 (u0_0.length) cu0_0)),.arr .i64 4 u0_1]),(5,[.arr .i64 7 u1]),(14,[.one (.v (.slice A36 (v33.length) c37)),.one (.v (.slice A38 (v34.length) c39))]),(15,[.one (.v (.slice A44 (v41.length) c45)),.one (.v (.slice A46 (v42.length) c47))])],V := [],M := M48,ds := [] } s' ∧ j50 b49 = some r) (by kernel_rfl) ?_ ?_
     ·refine T_region (id:=10) (by kernel_rfl) ?_
      obtain ⟨b51,e_b51,h⟩ := lt_some h
      obtain ⟨b52,e_b52,h⟩ := lt_some h
      refine TI_segK (i:=0) (j:=4) (s':={ σ := [(4,.lf (.own 4 0)),(5,.lf (.own 5 0)),(9,vi v7),(10,vi v35),(13,vi v43),(14,.lf (.own 14 0)),(15,.lf (.own 15 0)),(104,vb b51),(106,vb b52)],H := [(4,[.one (.v (.slice Au0_0 (u0_0.length) cu0_0)),.arr .i64 4 u0_1]),(5,[.arr .i64 7 u1]),(14,[.one (.v (.slice A36 (v33.length) c37)),.one (.v (.slice A38 (v34.length) c39))]),(15,[.one (.v (.slice A44 (v41.length) c45)),.one (.v (.slice A46 (v42.length) c47))])],V := [],M := M48,ds := [] }) [4,5,9,10,13,14,15,104,106] [4,5,14,15] [] (by subst e_b52 e_b51;kernel_rfl) (by kernel_rfl) ?_
      obtain ⟨b53,e_b53,h⟩ := lt_some h
      refine TI_at (i:=4) (d:=107) (x:=vb b53) (by rw [e_b53]; exact At_eqB (d:=107) (t:=4) (neg:=true) (a:=b51) (b:=b52) (by subst e_b53; kernel_rfl) (by kernel_rfl)) (by kernel_rfl) trivial ?_
      refine TI_segK (i:=5) (j:=6) (s':={ σ := [(4,.lf (.own 4 0)),(5,.lf (.own 5 0)),(9,vi v7),(10,vi v35),(13,vi v43),(14,.lf (.own 14 0)),(15,.lf (.own 15 0)),(108,vb b53)],H := [(4,[.one (.v (.slice Au0_0 (u0_0.length) cu0_0)),.arr .i64 4 u0_1]),(5,[.arr .i64 7 u1]),(14,[.one (.v (.slice A36 (v33.length) c37)),.one (.v (.slice A38 (v34.length) c39))]),(15,[.one (.v (.slice A44 (v41.length) c45)),.one (.v (.slice A46 (v42.length) c47))])],V := [],M := M48,ds := [] }) [4,5,9,10,13,14,15,108] [4,5,14,15] [] (by kernel_rfl) (by kernel_rfl) ?_
      cases b53 with
      | true =>
       replace h := sp_t h
       refine TI_segS (i:=6) (j:=28) [(4,.lf (.own 4 0)),(5,.lf (.own 5 0)),(10,vi v35),(13,vi v43),(14,.lf (.own 14 0)),(15,.lf (.own 15 0)),(130,vb true)] (by kernel_rfl) (by kernel_rfl) ?_
       refine TI_end (by kernel_rfl) ?_
       refine thenQ_n ?_
       exact ⟨true,keep_sub (ts:=[4,5,10,13,14,15,130]) (hs:=[4,5,14,15]) (vs:=[]) (by kernel_rfl),h⟩
      | false =>
       replace h := sp_f h
       obtain ⟨b54,e_b54,h⟩ := lt_some h
       obtain ⟨b55,e_b55,h⟩ := lt_some h
       refine TI_segS (i:=6) (j:=10) [(4,.lf (.own 4 0)),(5,.lf (.own 5 0)),(10,vi v35),(13,vi v43),(14,.lf (.own 14 0)),(15,.lf (.own 15 0)),(108,vb false),(110,vb b54),(112,vb b55)] (by subst e_b55 e_b54;kernel_rfl) (by kernel_rfl) ?_
       obtain ⟨b56,e_b56,h⟩ := lt_some h
       refine TI_at (i:=10) (d:=113) (x:=vb b56) (by rw [e_b56]; exact At_eqB (d:=113) (t:=4) (neg:=true) (a:=b54) (b:=b55) (by subst e_b56; kernel_rfl) (by kernel_rfl)) (by kernel_rfl) trivial ?_
       refine TI_segK (i:=11) (j:=13) (s':={ σ := [(4,.lf (.own 4 0)),(5,.lf (.own 5 0)),(10,vi v35),(13,vi v43),(14,.lf (.own 14 0)),(15,.lf (.own 15 0)),(115,vb b56)],H := [(4,[.one (.v (.slice Au0_0 (u0_0.length) cu0_0)),.arr .i64 4 u0_1]),(5,[.arr .i64 7 u1]),(14,[.one (.v (.slice A36 (v33.length) c37)),.one (.v (.slice A38 (v34.length) c39))]),(15,[.one (.v (.slice A44 (v41.length) c45)),.one (.v (.slice A46 (v42.length) c47))])],V := [],M := M48,ds := [] }) [4,5,10,13,14,15,115] [4,5,14,15] [] (by kernel_rfl) (by kernel_rfl) ?_
       cases b56 with
       | true =>
        replace h := sp_t h
        refine TI_segS (i:=13) (j:=28) [(4,.lf (.own 4 0)),(5,.lf (.own 5 0)),(10,vi v35),(13,vi v43),(14,.lf (.own 14 0)),(15,.lf (.own 15 0)),(130,vb true)] (by kernel_rfl) (by kernel_rfl) ?_
        refine TI_end (by kernel_rfl) ?_
        refine thenQ_n ?_
        exact ⟨true,keep_sub (ts:=[4,5,10,13,14,15,130]) (hs:=[4,5,14,15]) (vs:=[]) (by kernel_rfl),h⟩
       | false =>
        replace h := sp_f h
        obtain ⟨b57,e_b57,h⟩ := lt_some h
        refine TI_segS (i:=13) (j:=16) [(4,.lf (.own 4 0)),(5,.lf (.own 5 0)),(10,vi v35),(13,vi v43),(14,.lf (.own 14 0)),(15,.lf (.own 15 0)),(115,vb false),(118,vb b57)] (by subst e_b57;kernel_rfl) (by kernel_rfl) ?_
        cases b57 with
        | true =>
         replace h := sp_t h
         obtain ⟨b58,e_b58,h⟩ := lt_some h
         refine TI_segS (i:=16) (j:=21) [(4,.lf (.own 4 0)),(5,.lf (.own 5 0)),(10,vi v35),(13,vi v43),(14,.lf (.own 14 0)),(15,.lf (.own 15 0)),(123,vb b58)] (by subst e_b58;kernel_rfl) (by kernel_rfl) ?_
         cases b58 with
         | true =>
          replace h := sp_t h
          refine TI_segS (i:=21) (j:=28) [(4,.lf (.own 4 0)),(5,.lf (.own 5 0)),(10,vi v35),(13,vi v43),(14,.lf (.own 14 0)),(15,.lf (.own 15 0)),(130,vb true)] (by kernel_rfl) (by kernel_rfl) ?_
          refine TI_end (by kernel_rfl) ?_
          refine thenQ_n ?_
          exact ⟨true,keep_sub (ts:=[4,5,10,13,14,15,130]) (hs:=[4,5,14,15]) (vs:=[]) (by kernel_rfl),h⟩
         | false =>
          replace h := sp_f h
          obtain ⟨b59,e_b59,h⟩ := lt_some h
          refine TI_segS (i:=21) (j:=24) [(4,.lf (.own 4 0)),(5,.lf (.own 5 0)),(10,vi v35),(13,vi v43),(14,.lf (.own 14 0)),(15,.lf (.own 15 0)),(123,vb false),(126,vb b59)] (by subst e_b59;kernel_rfl) (by kernel_rfl) ?_
          cases b59 with
          | true =>
           replace h := sp_t h
           obtain ⟨b60,e_b60,h⟩ := lt_some h
           refine TI_segS (i:=24) (j:=28) [(4,.lf (.own 4 0)),(5,.lf (.own 5 0)),(10,vi v35),(13,vi v43),(14,.lf (.own 14 0)),(15,.lf (.own 15 0)),(130,vb b60)] (by subst e_b60;kernel_rfl) (by kernel_rfl) ?_
           refine TI_end (by kernel_rfl) ?_
           refine thenQ_n ?_
           exact ⟨b60,keep_sub (ts:=[4,5,10,13,14,15,130]) (hs:=[4,5,14,15]) (vs:=[]) (by kernel_rfl),h⟩
          | false =>
           replace h := sp_f h
           refine TI_segS (i:=24) (j:=28) [(4,.lf (.own 4 0)),(5,.lf (.own 5 0)),(10,vi v35),(13,vi v43),(14,.lf (.own 14 0)),(15,.lf (.own 15 0)),(130,vb false)] (by kernel_rfl) (by kernel_rfl) ?_
           refine TI_end (by kernel_rfl) ?_
           refine thenQ_n ?_
           exact ⟨false,keep_sub (ts:=[4,5,10,13,14,15,130]) (hs:=[4,5,14,15]) (vs:=[]) (by kernel_rfl),h⟩
        | false =>
         replace h := sp_f h
         obtain ⟨b61,e_b61,h⟩ := lt_some h
         refine TI_segS (i:=16) (j:=24) [(4,.lf (.own 4 0)),(5,.lf (.own 5 0)),(10,vi v35),(13,vi v43),(14,.lf (.own 14 0)),(15,.lf (.own 15 0)),(123,vb false),(126,vb b61)] (by subst e_b61;kernel_rfl) (by kernel_rfl) ?_
         cases b61 with
         | true =>
          replace h := sp_t h
          obtain ⟨b62,e_b62,h⟩ := lt_some h
          refine TI_segS (i:=24) (j:=28) [(4,.lf (.own 4 0)),(5,.lf (.own 5 0)),(10,vi v35),(13,vi v43),(14,.lf (.own 14 0)),(15,.lf (.own 15 0)),(130,vb b62)] (by subst e_b62;kernel_rfl) (by kernel_rfl) ?_
          refine TI_end (by kernel_rfl) ?_
          refine thenQ_n ?_
          exact ⟨b62,keep_sub (ts:=[4,5,10,13,14,15,130]) (hs:=[4,5,14,15]) (vs:=[]) (by kernel_rfl),h⟩
         | false =>
          replace h := sp_f h
          refine TI_segS (i:=24) (j:=28) [(4,.lf (.own 4 0)),(5,.lf (.own 5 0)),(10,vi v35),(13,vi v43),(14,.lf (.own 14 0)),(15,.lf (.own 15 0)),(130,vb false)] (by kernel_rfl) (by kernel_rfl) ?_
          refine TI_end (by kernel_rfl) ?_
          refine thenQ_n ?_
          exact ⟨false,keep_sub (ts:=[4,5,10,13,14,15,130]) (hs:=[4,5,14,15]) (vs:=[]) (by kernel_rfl),h⟩
     ·rintro s' ⟨b49,hsub,h⟩
      subst e_j50
      refine T_sub hsub ?_
      cases b49 with
      | true =>
       replace h := sp_t h
       refine T_condT (x:=(.tmp 130)) (c1:=(sub [1,1,1,1,1,1,1,1,0,1,0] Bd10)) (c2:=(sub [1,1,1,1,1,1,1,1,0,1,1] Bd10)) (by kernel_rfl) (by kernel_rfl) ?_
       refine T_keep (s':={ σ := [],H := [],V := [],M := M48,ds := [] }) [] [] [] (by kernel_rfl) ?_
       refine T_sq (by kernel_rfl) ?_
       refine T_region (id:=11) (by kernel_rfl) ?_
       refine TI_segS (i:=0) (j:=1) [(8,vb false)] (by kernel_rfl) (by kernel_rfl) ?_
       refine TI_end (by kernel_rfl) ?_
       refine thenQ_n ?_
       refine T_ret (by kernel_rfl) ?_
       refine thenQ_r ?_
       have h := Option.some.inj h
       subst h
       refine fin_ret (vb false) (by kernel_rfl) (by kernel_rfl) rfl ?_
       rfl
      | false =>
       replace h := sp_f h
       refine T_condF (x:=(.tmp 130)) (c1:=(sub [1,1,1,1,1,1,1,1,0,1,0] Bd10)) (c2:=(sub [1,1,1,1,1,1,1,1,0,1,1] Bd10)) (by kernel_rfl) (by kernel_rfl) ?_
       refine T_keep (s':={ σ := [(4,.lf (.own 4 0)),(5,.lf (.own 5 0)),(10,vi v35),(13,vi v43),(14,.lf (.own 14 0)),(15,.lf (.own 15 0))],H := [(4,[.one (.v (.slice Au0_0 (u0_0.length) cu0_0)),.arr .i64 4 u0_1]),(5,[.arr .i64 7 u1]),(14,[.one (.v (.slice A36 (v33.length) c37)),.one (.v (.slice A38 (v34.length) c39))]),(15,[.one (.v (.slice A44 (v41.length) c45)),.one (.v (.slice A46 (v42.length) c47))])],V := [],M := M48,ds := [] }) [4,5,10,13,14,15] [4,5,14,15] [] (by kernel_rfl) ?_
       refine T_skip (by kernel_rfl) ?_
       refine thenQ_n ?_
       obtain ⟨j63,e_j63,h⟩ := jn_some h
       refine T_cut (c1:=(sub [1,1,1,1,1,1,1,1,1,0] Bd10)) (c2:=(sub [1,1,1,1,1,1,1,1,1,1] Bd10)) (fun s' => Sub { σ := [(4,.lf (.own 4 0)),(5,.lf (.own 5 0)),(13,vi v43),(15,.lf (.own 15 0))],H := [(4,[.one (.v (.slice Au0_0 (u0_0.length) cu0_0)),.arr .i64 4 u0_1]),(5,[.arr .i64 7 u1]),(15,[.one (.v (.slice A44 (v41.length) c45)),.one (.v (.slice A46 (v42.length) c47))])],V := [],M := M48,ds := [] } s' ∧ j63 = some r) (by kernel_rfl) ?_ ?_
       ·refine T_seq (c1:=(sub [1,1,1,1,1,1,1,1,1,0,0] Bd10)) (c2:=(sub [1,1,1,1,1,1,1,1,1,0,1] Bd10)) (by kernel_rfl) ?_
        refine T_region (id:=12) (by kernel_rfl) ?_
        obtain ⟨b64,e_b64,h⟩ := lt_some h
        refine TI_segK (i:=0) (j:=2) (s':={ σ := [(4,.lf (.own 4 0)),(5,.lf (.own 5 0)),(13,vi v43),(14,.lf (.own 14 0)),(15,.lf (.own 15 0)),(132,vb b64)],H := [(4,[.one (.v (.slice Au0_0 (u0_0.length) cu0_0)),.arr .i64 4 u0_1]),(5,[.arr .i64 7 u1]),(14,[.one (.v (.slice A36 (v33.length) c37)),.one (.v (.slice A38 (v34.length) c39))]),(15,[.one (.v (.slice A44 (v41.length) c45)),.one (.v (.slice A46 (v42.length) c47))])],V := [],M := M48,ds := [] }) [4,5,13,14,15,132] [4,5,14,15] [] (by subst e_b64;kernel_rfl) (by kernel_rfl) ?_
        refine TI_end (by kernel_rfl) ?_
        refine thenQ_n ?_
        cases b64 with
        | true =>
         replace h := sp_t h
         refine T_condT (x:=(.tmp 132)) (c1:=(sub [1,1,1,1,1,1,1,1,1,0,1,0] Bd10)) (c2:=(sub [1,1,1,1,1,1,1,1,1,0,1,1] Bd10)) (by kernel_rfl) (by kernel_rfl) ?_
         refine T_keepS [(4,.lf (.own 4 0)),(5,.lf (.own 5 0)),(13,vi v43),(14,.lf (.own 14 0)),(15,.lf (.own 15 0))] (by kernel_rfl) ?_
         refine T_sq (by kernel_rfl) ?_
         refine T_region (id:=13) (by kernel_rfl) ?_
         refine TI_segS (i:=0) (j:=2) [(4,.lf (.own 4 0)),(5,.lf (.own 5 0)),(13,vi v43),(14,.lf (.own 14 0)),(15,.lf (.own 15 0)),(134,.agg [.one (.v (.slice Au0_0 (u0_0.length) cu0_0)),.arr .i64 4 u0_1]),(135,.agg [.one (.v (.slice A36 (v33.length) c37)),.one (.v (.slice A38 (v34.length) c39))])] (by kernel_rfl) (by kernel_rfl) ?_
         obtain ⟨v65,v66,c_v65,h⟩ := cl2_some h
         refine TI_at (i:=2) (d:=136) (x:=.tup [(some (.v (.bool v65)),[]),(some (.v (.int .i64 v66)),[])]) (At_call (d:=136) (f:=22) (args:=[rval (.agg [.one (.v (.slice Au0_0 (u0_0.length) cu0_0)),.arr .i64 4 u0_1]),rval (.agg [.one (.v (.slice A36 (v33.length) c37)),.one (.v (.slice A38 (v34.length) c39))])]) (x:=.tup [(some (.v (.bool v65)),[]),(some (.v (.int .i64 v66)),[])]) (by kernel_rfl) (w22 k (((hu0_0.le hM15).le hM40).le hM48) hu0_1 (fA36.le hM48) (fA38.le hM48) c_v65)) (by kernel_rfl) (by intro y hy; simp only [List.mem_cons,List.mem_nil_iff,or_false] at hy; rcases hy with rfl | rfl <;> exact trivial) ?_
         refine TI_segK (i:=3) (j:=8) (s':={ σ := [(4,.lf (.own 4 0)),(5,.lf (.own 5 0)),(13,vi v43),(14,.lf (.own 14 0)),(15,.lf (.own 15 0)),(16,vb v65),(17,vi v66)],H := [(4,[.one (.v (.slice Au0_0 (u0_0.length) cu0_0)),.arr .i64 4 u0_1]),(5,[.arr .i64 7 u1]),(14,[.one (.v (.slice A36 (v33.length) c37)),.one (.v (.slice A38 (v34.length) c39))]),(15,[.one (.v (.slice A44 (v41.length) c45)),.one (.v (.slice A46 (v42.length) c47))])],V := [],M := M48,ds := [] }) [4,5,13,14,15,16,17] [4,5,14,15] [] (by kernel_rfl) (by kernel_rfl) ?_
         refine TI_end (by kernel_rfl) ?_
         refine thenQ_n ?_
         refine T_sq (by kernel_rfl) ?_
         refine T_region (id:=14) (by kernel_rfl) ?_
         refine TI_segK (i:=0) (j:=3) (s':={ σ := [(4,.lf (.own 4 0)),(5,.lf (.own 5 0)),(13,vi v43),(15,.lf (.own 15 0)),(16,vb v65),(17,vi v66),(140,.agg [.one (.v (.slice Au0_0 (u0_0.length) cu0_0)),.arr .i64 4 u0_1]),(141,.agg [.arr .i64 7 u1]),(142,.agg [.one (.v (.slice A36 (v33.length) c37)),.one (.v (.slice A38 (v34.length) c39))])],H := [(4,[.one (.v (.slice Au0_0 (u0_0.length) cu0_0)),.arr .i64 4 u0_1]),(5,[.arr .i64 7 u1]),(15,[.one (.v (.slice A44 (v41.length) c45)),.one (.v (.slice A46 (v42.length) c47))])],V := [],M := M48,ds := [] }) [4,5,13,15,16,17,140,141,142] [4,5,15] [] (by kernel_rfl) (by kernel_rfl) ?_
         obtain ⟨v67,v68,c_v67,h⟩ := cl2_some h
         refine TI_at (i:=3) (d:=143) (x:=.tup [(some (.v (.bool v67)),[]),(some (.v (.int .i64 v68)),[])]) (At_call (d:=143) (f:=36) (args:=[rval (.agg [.one (.v (.slice Au0_0 (u0_0.length) cu0_0)),.arr .i64 4 u0_1]),rval (.agg [.arr .i64 7 u1]),rval (.agg [.one (.v (.slice A36 (v33.length) c37)),.one (.v (.slice A38 (v34.length) c39))])]) (x:=.tup [(some (.v (.bool v67)),[]),(some (.v (.int .i64 v68)),[])]) (by kernel_rfl) (w36 k (((hu0_0.le hM15).le hM40).le hM48) hu0_1 hu1 (fA36.le hM48) (fA38.le hM48) c_v67)) (by kernel_rfl) (by intro y hy; simp only [List.mem_cons,List.mem_nil_iff,or_false] at hy; rcases hy with rfl | rfl <;> exact trivial) ?_
         refine TI_segK (i:=4) (j:=9) (s':={ σ := [(4,.lf (.own 4 0)),(5,.lf (.own 5 0)),(13,vi v43),(15,.lf (.own 15 0)),(16,vb v65),(17,vi v66),(18,vb v67),(19,vi v68)],H := [(4,[.one (.v (.slice Au0_0 (u0_0.length) cu0_0)),.arr .i64 4 u0_1]),(5,[.arr .i64 7 u1]),(15,[.one (.v (.slice A44 (v41.length) c45)),.one (.v (.slice A46 (v42.length) c47))])],V := [],M := M48,ds := [] }) [4,5,13,15,16,17,18,19] [4,5,15] [] (by kernel_rfl) (by kernel_rfl) ?_
         refine TI_end (by kernel_rfl) ?_
         refine thenQ_n ?_
         obtain ⟨j70,e_j70,h⟩ := jn_some h
         refine T_cut (c1:=(sub [1,1,1,1,1,1,1,1,1,0,1,0,1,1,0] Bd10)) (c2:=(sub [1,1,1,1,1,1,1,1,1,0,1,0,1,1,1] Bd10)) (fun s' => ∃ (b69 : Bool),Sub { σ := [(4,.lf (.own 4 0)),(5,.lf (.own 5 0)),(13,vi v43),(15,.lf (.own 15 0)),(159,vb b69)],H := [(4,[.one (.v (.slice Au0_0 (u0_0.length) cu0_0)),.arr .i64 4 u0_1]),(5,[.arr .i64 7 u1]),(15,[.one (.v (.slice A44 (v41.length) c45)),.one (.v (.slice A46 (v42.length) c47))])],V := [],M := M48,ds := [] } s' ∧ j70 b69 = some r) (by kernel_rfl) ?_ ?_
         ·refine T_region (id:=15) (by kernel_rfl) ?_
          obtain ⟨b71,e_b71,h⟩ := lt_some h
          refine TI_segK (i:=0) (j:=3) (s':={ σ := [(4,.lf (.own 4 0)),(5,.lf (.own 5 0)),(13,vi v43),(15,.lf (.own 15 0)),(16,vb v65),(18,vb v67),(19,vi v68),(148,vb b71)],H := [(4,[.one (.v (.slice Au0_0 (u0_0.length) cu0_0)),.arr .i64 4 u0_1]),(5,[.arr .i64 7 u1]),(15,[.one (.v (.slice A44 (v41.length) c45)),.one (.v (.slice A46 (v42.length) c47))])],V := [],M := M48,ds := [] }) [4,5,13,15,16,18,19,148] [4,5,15] [] (by subst e_b71;kernel_rfl) (by kernel_rfl) ?_
          cases b71 with
          | true =>
           replace h := sp_t h
           refine TI_segS (i:=3) (j:=14) [(4,.lf (.own 4 0)),(5,.lf (.own 5 0)),(13,vi v43),(15,.lf (.own 15 0)),(159,vb true)] (by kernel_rfl) (by kernel_rfl) ?_
           refine TI_end (by kernel_rfl) ?_
           refine thenQ_n ?_
           exact ⟨true,keep_sub (ts:=[4,5,13,15,159]) (hs:=[4,5,15]) (vs:=[]) (by kernel_rfl),h⟩
          | false =>
           replace h := sp_f h
           obtain ⟨b72,e_b72,h⟩ := lt_some h
           refine TI_segS (i:=3) (j:=7) [(4,.lf (.own 4 0)),(5,.lf (.own 5 0)),(13,vi v43),(15,.lf (.own 15 0)),(16,vb v65),(18,vb v67),(152,vb b72)] (by subst e_b72;kernel_rfl) (by kernel_rfl) ?_
           cases b72 with
           | true =>
            replace h := sp_t h
            refine TI_segS (i:=7) (j:=14) [(4,.lf (.own 4 0)),(5,.lf (.own 5 0)),(13,vi v43),(15,.lf (.own 15 0)),(159,vb true)] (by kernel_rfl) (by kernel_rfl) ?_
            refine TI_end (by kernel_rfl) ?_
            refine thenQ_n ?_
            exact ⟨true,keep_sub (ts:=[4,5,13,15,159]) (hs:=[4,5,15]) (vs:=[]) (by kernel_rfl),h⟩
           | false =>
            replace h := sp_f h
            refine TI_segS (i:=7) (j:=11) [(4,.lf (.own 4 0)),(5,.lf (.own 5 0)),(13,vi v43),(15,.lf (.own 15 0)),(18,vb v67),(156,vb (!v65))] (by kernel_rfl) (by kernel_rfl) ?_
            cases v65 with
            | true =>
             replace h := sp_t h
             refine TI_segS (i:=11) (j:=14) [(4,.lf (.own 4 0)),(5,.lf (.own 5 0)),(13,vi v43),(15,.lf (.own 15 0)),(159,vb (!v67))] (by kernel_rfl) (by kernel_rfl) ?_
             refine TI_end (by kernel_rfl) ?_
             refine thenQ_n ?_
             exact ⟨(!v67),keep_sub (ts:=[4,5,13,15,159]) (hs:=[4,5,15]) (vs:=[]) (by kernel_rfl),h⟩
            | false =>
             replace h := sp_f h
             refine TI_segS (i:=11) (j:=14) [(4,.lf (.own 4 0)),(5,.lf (.own 5 0)),(13,vi v43),(15,.lf (.own 15 0)),(159,vb true)] (by kernel_rfl) (by kernel_rfl) ?_
             refine TI_end (by kernel_rfl) ?_
             refine thenQ_n ?_
             exact ⟨true,keep_sub (ts:=[4,5,13,15,159]) (hs:=[4,5,15]) (vs:=[]) (by kernel_rfl),h⟩
         ·rintro s' ⟨b69,hsub,h⟩
          subst e_j70
          refine T_sub hsub ?_
          cases b69 with
          | true =>
           replace h := sp_t h
           refine T_condT (x:=(.tmp 159)) (c1:=(sub [1,1,1,1,1,1,1,1,1,0,1,0,1,1,1,0] Bd10)) (c2:=(sub [1,1,1,1,1,1,1,1,1,0,1,0,1,1,1,1] Bd10)) (by kernel_rfl) (by kernel_rfl) ?_
           refine T_keep (s':={ σ := [],H := [],V := [],M := M48,ds := [] }) [] [] [] (by kernel_rfl) ?_
           refine T_sq (by kernel_rfl) ?_
           refine T_region (id:=16) (by kernel_rfl) ?_
           refine TI_segS (i:=0) (j:=1) [(8,vb false)] (by kernel_rfl) (by kernel_rfl) ?_
           refine TI_end (by kernel_rfl) ?_
           refine thenQ_n ?_
           refine T_ret (by kernel_rfl) ?_
           refine thenQ_r ?_
           have h := Option.some.inj h
           subst h
           refine fin_ret (vb false) (by kernel_rfl) (by kernel_rfl) rfl ?_
           rfl
          | false =>
           replace h := sp_f h
           refine T_condF (x:=(.tmp 159)) (c1:=(sub [1,1,1,1,1,1,1,1,1,0,1,0,1,1,1,0] Bd10)) (c2:=(sub [1,1,1,1,1,1,1,1,1,0,1,0,1,1,1,1] Bd10)) (by kernel_rfl) (by kernel_rfl) ?_
           refine T_keep (s':={ σ := [(4,.lf (.own 4 0)),(5,.lf (.own 5 0)),(13,vi v43),(15,.lf (.own 15 0))],H := [(4,[.one (.v (.slice Au0_0 (u0_0.length) cu0_0)),.arr .i64 4 u0_1]),(5,[.arr .i64 7 u1]),(15,[.one (.v (.slice A44 (v41.length) c45)),.one (.v (.slice A46 (v42.length) c47))])],V := [],M := M48,ds := [] }) [4,5,13,15] [4,5,15] [] (by kernel_rfl) ?_
           refine T_skip (by kernel_rfl) ?_
           refine thenQ_n ?_
           exact ⟨keep_sub (ts:=[4,5,13,15]) (hs:=[4,5,15]) (vs:=[]) (by kernel_rfl),h⟩
        | false =>
         replace h := sp_f h
         refine T_condF (x:=(.tmp 132)) (c1:=(sub [1,1,1,1,1,1,1,1,1,0,1,0] Bd10)) (c2:=(sub [1,1,1,1,1,1,1,1,1,0,1,1] Bd10)) (by kernel_rfl) (by kernel_rfl) ?_
         refine T_keep (s':={ σ := [(4,.lf (.own 4 0)),(5,.lf (.own 5 0)),(13,vi v43),(15,.lf (.own 15 0))],H := [(4,[.one (.v (.slice Au0_0 (u0_0.length) cu0_0)),.arr .i64 4 u0_1]),(5,[.arr .i64 7 u1]),(15,[.one (.v (.slice A44 (v41.length) c45)),.one (.v (.slice A46 (v42.length) c47))])],V := [],M := M48,ds := [] }) [4,5,13,15] [4,5,15] [] (by kernel_rfl) ?_
         refine T_skip (by kernel_rfl) ?_
         refine thenQ_n ?_
         exact ⟨keep_sub (ts:=[4,5,13,15]) (hs:=[4,5,15]) (vs:=[]) (by kernel_rfl),h⟩
       ·rintro s' ⟨hsub,h⟩
        subst e_j63
        refine T_sub hsub ?_
        obtain ⟨j73,e_j73,h⟩ := jn_some h
        refine T_cut (c1:=(sub [1,1,1,1,1,1,1,1,1,1,0] Bd10)) (c2:=(sub [1,1,1,1,1,1,1,1,1,1,1] Bd10)) (fun s' => Sub { σ := [],H := [],V := [],M := M48,ds := [] } s' ∧ j73 = some r) (by kernel_rfl) ?_ ?_
        ·refine T_seq (c1:=(sub [1,1,1,1,1,1,1,1,1,1,0,0] Bd10)) (c2:=(sub [1,1,1,1,1,1,1,1,1,1,0,1] Bd10)) (by kernel_rfl) ?_
         refine T_region (id:=17) (by kernel_rfl) ?_
         obtain ⟨b74,e_b74,h⟩ := lt_some h
         refine TI_segK (i:=0) (j:=2) (s':={ σ := [(4,.lf (.own 4 0)),(5,.lf (.own 5 0)),(15,.lf (.own 15 0)),(161,vb b74)],H := [(4,[.one (.v (.slice Au0_0 (u0_0.length) cu0_0)),.arr .i64 4 u0_1]),(5,[.arr .i64 7 u1]),(15,[.one (.v (.slice A44 (v41.length) c45)),.one (.v (.slice A46 (v42.length) c47))])],V := [],M := M48,ds := [] }) [4,5,15,161] [4,5,15] [] (by subst e_b74;kernel_rfl) (by kernel_rfl) ?_
         refine TI_end (by kernel_rfl) ?_
         refine thenQ_n ?_
         cases b74 with
         | true =>
          replace h := sp_t h
          refine T_condT (x:=(.tmp 161)) (c1:=(sub [1,1,1,1,1,1,1,1,1,1,0,1,0] Bd10)) (c2:=(sub [1,1,1,1,1,1,1,1,1,1,0,1,1] Bd10)) (by kernel_rfl) (by kernel_rfl) ?_
          refine T_keepS [(4,.lf (.own 4 0)),(5,.lf (.own 5 0)),(15,.lf (.own 15 0))] (by kernel_rfl) ?_
          refine T_sq (by kernel_rfl) ?_
          refine T_region (id:=18) (by kernel_rfl) ?_
          refine TI_segS (i:=0) (j:=2) [(4,.lf (.own 4 0)),(5,.lf (.own 5 0)),(15,.lf (.own 15 0)),(163,.agg [.one (.v (.slice Au0_0 (u0_0.length) cu0_0)),.arr .i64 4 u0_1]),(164,.agg [.one (.v (.slice A44 (v41.length) c45)),.one (.v (.slice A46 (v42.length) c47))])] (by kernel_rfl) (by kernel_rfl) ?_
          obtain ⟨v75,v76,c_v75,h⟩ := cl2_some h
          refine TI_at (i:=2) (d:=165) (x:=.tup [(some (.v (.bool v75)),[]),(some (.v (.int .i64 v76)),[])]) (At_call (d:=165) (f:=22) (args:=[rval (.agg [.one (.v (.slice Au0_0 (u0_0.length) cu0_0)),.arr .i64 4 u0_1]),rval (.agg [.one (.v (.slice A44 (v41.length) c45)),.one (.v (.slice A46 (v42.length) c47))])]) (x:=.tup [(some (.v (.bool v75)),[]),(some (.v (.int .i64 v76)),[])]) (by kernel_rfl) (w22 k (((hu0_0.le hM15).le hM40).le hM48) hu0_1 fA44 fA46 c_v75)) (by kernel_rfl) (by intro y hy; simp only [List.mem_cons,List.mem_nil_iff,or_false] at hy; rcases hy with rfl | rfl <;> exact trivial) ?_
          refine TI_segK (i:=3) (j:=8) (s':={ σ := [(4,.lf (.own 4 0)),(5,.lf (.own 5 0)),(15,.lf (.own 15 0)),(20,vb v75),(21,vi v76)],H := [(4,[.one (.v (.slice Au0_0 (u0_0.length) cu0_0)),.arr .i64 4 u0_1]),(5,[.arr .i64 7 u1]),(15,[.one (.v (.slice A44 (v41.length) c45)),.one (.v (.slice A46 (v42.length) c47))])],V := [],M := M48,ds := [] }) [4,5,15,20,21] [4,5,15] [] (by kernel_rfl) (by kernel_rfl) ?_
          refine TI_end (by kernel_rfl) ?_
          refine thenQ_n ?_
          refine T_sq (by kernel_rfl) ?_
          refine T_region (id:=19) (by kernel_rfl) ?_
          refine TI_segK (i:=0) (j:=3) (s':={ σ := [(20,vb v75),(21,vi v76),(169,.agg [.one (.v (.slice Au0_0 (u0_0.length) cu0_0)),.arr .i64 4 u0_1]),(170,.agg [.arr .i64 7 u1]),(171,.agg [.one (.v (.slice A44 (v41.length) c45)),.one (.v (.slice A46 (v42.length) c47))])],H := [],V := [],M := M48,ds := [] }) [20,21,169,170,171] [] [] (by kernel_rfl) (by kernel_rfl) ?_
          obtain ⟨v77,v78,c_v77,h⟩ := cl2_some h
          refine TI_at (i:=3) (d:=172) (x:=.tup [(some (.v (.bool v77)),[]),(some (.v (.int .i64 v78)),[])]) (At_call (d:=172) (f:=36) (args:=[rval (.agg [.one (.v (.slice Au0_0 (u0_0.length) cu0_0)),.arr .i64 4 u0_1]),rval (.agg [.arr .i64 7 u1]),rval (.agg [.one (.v (.slice A44 (v41.length) c45)),.one (.v (.slice A46 (v42.length) c47))])]) (x:=.tup [(some (.v (.bool v77)),[]),(some (.v (.int .i64 v78)),[])]) (by kernel_rfl) (w36 k (((hu0_0.le hM15).le hM40).le hM48) hu0_1 hu1 fA44 fA46 c_v77)) (by kernel_rfl) (by intro y hy; simp only [List.mem_cons,List.mem_nil_iff,or_false] at hy; rcases hy with rfl | rfl <;> exact trivial) ?_
          refine TI_segK (i:=4) (j:=9) (s':={ σ := [(20,vb v75),(21,vi v76),(22,vb v77),(23,vi v78)],H := [],V := [],M := M48,ds := [] }) [20,21,22,23] [] [] (by kernel_rfl) (by kernel_rfl) ?_
          refine TI_end (by kernel_rfl) ?_
          refine thenQ_n ?_
          obtain ⟨j80,e_j80,h⟩ := jn_some h
          refine T_cut (c1:=(sub [1,1,1,1,1,1,1,1,1,1,0,1,0,1,1,0] Bd10)) (c2:=(sub [1,1,1,1,1,1,1,1,1,1,0,1,0,1,1,1] Bd10)) (fun s' => ∃ (b79 : Bool),Sub { σ := [(187,vb b79)],H := [],V := [],M := M48,ds := [] } s' ∧ j80 b79 = some r) (by kernel_rfl) ?_ ?_
          ·refine T_region (id:=20) (by kernel_rfl) ?_
           obtain ⟨b81,e_b81,h⟩ := lt_some h
           refine TI_segK (i:=0) (j:=3) (s':={ σ := [(20,vb v75),(22,vb v77),(23,vi v78),(177,vb b81)],H := [],V := [],M := M48,ds := [] }) [20,22,23,177] [] [] (by subst e_b81;kernel_rfl) (by kernel_rfl) ?_
           cases b81 with
           | true =>
            replace h := sp_t h
            refine TI_segS (i:=3) (j:=13) [(187,vb true)] (by kernel_rfl) (by kernel_rfl) ?_
            refine TI_end (by kernel_rfl) ?_
            refine thenQ_n ?_
            exact ⟨true,keep_sub (ts:=[187]) (hs:=[]) (vs:=[]) (by kernel_rfl),h⟩
           | false =>
            replace h := sp_f h
            obtain ⟨b82,e_b82,h⟩ := lt_some h
            refine TI_segS (i:=3) (j:=7) [(20,vb v75),(22,vb v77),(181,vb b82)] (by subst e_b82;kernel_rfl) (by kernel_rfl) ?_
            cases b82 with
            | true =>
             replace h := sp_t h
             refine TI_segS (i:=7) (j:=13) [(187,vb true)] (by kernel_rfl) (by kernel_rfl) ?_
             refine TI_end (by kernel_rfl) ?_
             refine thenQ_n ?_
             exact ⟨true,keep_sub (ts:=[187]) (hs:=[]) (vs:=[]) (by kernel_rfl),h⟩
            | false =>
             replace h := sp_f h
             refine TI_segS (i:=7) (j:=11) [(22,vb v77),(185,vb (!v75))] (by kernel_rfl) (by kernel_rfl) ?_
             cases v75 with
             | true =>
              replace h := sp_t h
              refine TI_segS (i:=11) (j:=13) [(187,vb v77)] (by kernel_rfl) (by kernel_rfl) ?_
              refine TI_end (by kernel_rfl) ?_
              refine thenQ_n ?_
              exact ⟨v77,keep_sub (ts:=[187]) (hs:=[]) (vs:=[]) (by kernel_rfl),h⟩
             | false =>
              replace h := sp_f h
              refine TI_segS (i:=11) (j:=13) [(187,vb true)] (by kernel_rfl) (by kernel_rfl) ?_
              refine TI_end (by kernel_rfl) ?_
              refine thenQ_n ?_
              exact ⟨true,keep_sub (ts:=[187]) (hs:=[]) (vs:=[]) (by kernel_rfl),h⟩
          ·rintro s' ⟨b79,hsub,h⟩
           subst e_j80
           refine T_sub hsub ?_
           cases b79 with
           | true =>
            replace h := sp_t h
            refine T_condT (x:=(.tmp 187)) (c1:=(sub [1,1,1,1,1,1,1,1,1,1,0,1,0,1,1,1,0] Bd10)) (c2:=(sub [1,1,1,1,1,1,1,1,1,1,0,1,0,1,1,1,1] Bd10)) (by kernel_rfl) (by kernel_rfl) ?_
            refine T_keep (s':={ σ := [],H := [],V := [],M := M48,ds := [] }) [] [] [] (by kernel_rfl) ?_
            refine T_sq (by kernel_rfl) ?_
            refine T_region (id:=21) (by kernel_rfl) ?_
            refine TI_segS (i:=0) (j:=1) [(8,vb false)] (by kernel_rfl) (by kernel_rfl) ?_
            refine TI_end (by kernel_rfl) ?_
            refine thenQ_n ?_
            refine T_ret (by kernel_rfl) ?_
            refine thenQ_r ?_
            have h := Option.some.inj h
            subst h
            refine fin_ret (vb false) (by kernel_rfl) (by kernel_rfl) rfl ?_
            rfl
           | false =>
            replace h := sp_f h
            refine T_condF (x:=(.tmp 187)) (c1:=(sub [1,1,1,1,1,1,1,1,1,1,0,1,0,1,1,1,0] Bd10)) (c2:=(sub [1,1,1,1,1,1,1,1,1,1,0,1,0,1,1,1,1] Bd10)) (by kernel_rfl) (by kernel_rfl) ?_
            refine T_keep (s':={ σ := [],H := [],V := [],M := M48,ds := [] }) [] [] [] (by kernel_rfl) ?_
            refine T_skip (by kernel_rfl) ?_
            refine thenQ_n ?_
            exact ⟨keep_sub (ts:=[]) (hs:=[]) (vs:=[]) (by kernel_rfl),h⟩
         | false =>
          replace h := sp_f h
          refine T_condF (x:=(.tmp 161)) (c1:=(sub [1,1,1,1,1,1,1,1,1,1,0,1,0] Bd10)) (c2:=(sub [1,1,1,1,1,1,1,1,1,1,0,1,1] Bd10)) (by kernel_rfl) (by kernel_rfl) ?_
          refine T_keep (s':={ σ := [],H := [],V := [],M := M48,ds := [] }) [] [] [] (by kernel_rfl) ?_
          refine T_skip (by kernel_rfl) ?_
          refine thenQ_n ?_
          exact ⟨keep_sub (ts:=[]) (hs:=[]) (vs:=[]) (by kernel_rfl),h⟩
        ·rintro s' ⟨hsub,h⟩
         subst e_j73
         refine T_sub hsub ?_
         refine T_sq (by kernel_rfl) ?_
         refine T_region (id:=22) (by kernel_rfl) ?_
         obtain ⟨v83,c_v83,h⟩ := cl_some h
         refine TI_at (i:=0) (d:=188) (x:=vb v83) (At_call (d:=188) (f:=12) (args:=[]) (x:=vb v83) (by kernel_rfl) (w12 k  c_v83)) (by kernel_rfl) trivial ?_
         refine TI_segK (i:=1) (j:=2) (s':={ σ := [(8,vb v83)],H := [],V := [],M := M48,ds := [] }) [8] [] [] (by kernel_rfl) (by kernel_rfl) ?_
         refine TI_end (by kernel_rfl) ?_
         refine thenQ_n ?_
         refine T_ret (by kernel_rfl) ?_
         have h := Option.some.inj h
         subst h
         refine fin_ret (vb v83) (by kernel_rfl) (by kernel_rfl) rfl ?_
         rfl
end Go.Proofs.Ythjkejbgknemgaa
namespace Go.Proofs.Ythjkejbgknemgaa
open Go.RowKit Classical
theorem wr64 {z : Int} (h1 : -9223372036854775808 ≤ z) (h2 : z ≤ 9223372036854775807) : wr .i64 z = z := by
  simp only [wr, IntKind.wrap, IntKind.signed, IntKind.bits]
  simp
  omega
theorem mx_eq (x y : Int) : mx x y = max x y := by unfold mx; omega
theorem mn_eq (x y : Int) : mn x y = min x y := by unfold mn; omega
theorem lt_v {α β : Type} (x : β) (F : β → Option α) : lt' x F = F x := rfl
theorem jn_v {α β : Type} (F : β) (G : β → Option α) : jn F G = G F := rfl
theorem cl_v {α β : Type} (v : β) (F : β → Option α) : cl (some v) F = F v := rfl
theorem cl2_v {α β γ : Type} (a : α) (b : β) (F : α → β → Option γ) : cl2 (some (a, b)) F = F a b := rfl
theorem cl3_v {α β γ δ : Type} (a : α) (b : β) (c : γ) (F : α → β → γ → Option δ) : cl3 (some (a, b, c)) F = F a b c := rfl
theorem sp_tt {α : Type} (x y : Option α) : sp true x y = x := rfl
theorem sp_ff {α : Type} (x y : Option α) : sp false x y = y := rfl
theorem sp_d {α : Type} {c : Prop} [h : Decidable c] (x y : Option α) : sp (decide c) x y = if c then x else y := by
  cases h <;> rfl
theorem sp_nd {α : Type} {c : Prop} [h : Decidable c] (x y : Option α) : sp (!decide c) x y = if c then y else x := by
  cases h <;> rfl
theorem gd_v {α : Type} {c : Prop} [Decidable c] (h : c) (x : Option α) : gd c x = x := by unfold gd; rw [if_pos h]
def rA (r : List Int) : Int := r.getD 0 0
def rPL (r : List Int) : Int := r.getD 1 0
def rPH (r : List Int) : Int := r.getD 2 0
def rVL (k : Nat) (r : List Int) : Int := r.getD (3 + k * 2 + 0) 0
def rVH (k : Nat) (r : List Int) : Int := r.getD (3 + k * 2 + 1) 0
def bandOk (a b : Int) : Prop := -1073741824 ≤ a ∧ a ≤ b ∧ b ≤ 1073741824
instance bandDec (a b : Int) : Decidable (bandOk a b) := inferInstanceAs (Decidable (-1073741824 ≤ a ∧ a ≤ b ∧ b ≤ 1073741824))
def readOk (r : List Int) : Prop := 0 ≤ rA r ∧ rA r ≤ 1099511627776 ∧ bandOk (rPL r) (rPH r) ∧ ∀ k, k < 4 → bandOk (rVL k r) (rVH k r)
def rd (R : List (List Int)) (i : Nat) : List Int := R.getD i []
def stT (R : List (List Int)) : Int := rA (rd R 0)
def lastI (R : List (List Int)) : Int := rA (rd R (R.length - 1)) - stT R
structure ArgOk (R : List (List Int)) (D : List Int) : Prop where
  n2 : 2 ≤ R.length
  read : ∀ i, i < R.length → readOk (rd R i)
  asc : ∀ i, i + 1 < R.length → rA (rd R i) < rA (rd R (i + 1))
  span : lastI R ≤ 2000
  dr : ∀ k, k < 4 → 0 ≤ D.getD k 0 ∧ D.getD k 0 ≤ 1048576
def ab (x : Int) : Int := max x (-x)
def PL (t : Int) : List (List Int) → Int → Int
  | [], b => b
  | r :: l, b => PL t l (if rA r ≤ t then max b (rPL r) else b)
def PH (t : Int) : List (List Int) → Int → Int
  | [], b => b
  | r :: l, b => PH t l (if t ≤ rA r then min b (rPH r) else b)
def VL (d : Int) (k : Nat) (t : Int) : List (List Int) → Int → Int
  | [], b => b
  | r :: l, b => VL d k t l (max b (rVL k r - d * ab (rA r - t)))
def VH (d : Int) (k : Nat) (t : Int) : List (List Int) → Int → Int
  | [], b => b
  | r :: l, b => VH d k t l (min b (rVH k r + d * ab (rA r - t)))
def pl (R : List (List Int)) (m : Int) : Int := PL (stT R + m) R (-1099511627776)
def ph (R : List (List Int)) (m : Int) : Int := PH (stT R + m) R 1099511627776
def vl (R : List (List Int)) (D : List Int) (k : Nat) (m : Int) : Int := VL (D.getD k 0) k (stT R + m) R (-1125899906842624)
def vh (R : List (List Int)) (D : List Int) (k : Nat) (m : Int) : Int := VH (D.getD k 0) k (stT R + m) R 1125899906842624
def SumAt (R : List (List Int)) (D : List Int) (m : Int) : Prop := pl R m ≤ ph R m ∧ ∀ k, k < 4 → vl R D k m ≤ vh R D k m
def SumOk (R : List (List Int)) (D : List Int) : Prop := ∀ m : Int, 0 ≤ m → m ≤ lastI R → SumAt R D m
noncomputable def logE (R : List (List Int)) (D : List Int) : Int := if 64 < R.length then 6 else if ¬ ArgOk R D then 2 else if ¬ SumOk R D then 16 else 0
structure LogOk (R : List (List Int)) (D : List Int) : Prop where
  n64 : R.length ≤ 64
  arg : ArgOk R D
  sum : SumOk R D
theorem logE_zero {R D} : logE R D = 0 ↔ LogOk R D := by
  unfold logE
  constructor
  · intro h
    split at h
    · omega
    · split at h
      · omega
      · split at h
        · omega
        · rename_i h1 h2 h3
          exact ⟨by omega, Classical.not_not.1 h2, Classical.not_not.1 h3⟩
  · intro h
    rw [if_neg (by have := h.n64; omega), if_neg (by have := h.arg; simpa using this), if_neg (by have := h.sum; simpa using this)]
theorem PL_le {t x : Int} : ∀ {l : List (List Int)} {b : Int}, PL t l b ≤ x ↔ b ≤ x ∧ ∀ r ∈ l, rA r ≤ t → rPL r ≤ x
  | [], b => by simp [PL]
  | r :: l, b => by
    simp only [PL]
    rw [PL_le]
    simp only [List.mem_cons, forall_eq_or_imp]
    split
    · rename_i h; constructor
      · rintro ⟨h1, h2⟩; exact ⟨by omega, fun _ => by omega, h2⟩
      · rintro ⟨h1, h2, h3⟩; have := h2 h; exact ⟨by omega, h3⟩
    · rename_i h; constructor
      · rintro ⟨h1, h2⟩; exact ⟨h1, fun hh => absurd hh h, h2⟩
      · rintro ⟨h1, _, h3⟩; exact ⟨h1, h3⟩
theorem le_PH {t x : Int} : ∀ {l : List (List Int)} {b : Int}, x ≤ PH t l b ↔ x ≤ b ∧ ∀ r ∈ l, t ≤ rA r → x ≤ rPH r
  | [], b => by simp [PH]
  | r :: l, b => by
    simp only [PH]
    rw [le_PH]
    simp only [List.mem_cons, forall_eq_or_imp]
    split
    · rename_i h; constructor
      · rintro ⟨h1, h2⟩; exact ⟨by omega, fun _ => by omega, h2⟩
      · rintro ⟨h1, h2, h3⟩; have := h2 h; exact ⟨by omega, h3⟩
    · rename_i h; constructor
      · rintro ⟨h1, h2⟩; exact ⟨h1, fun hh => absurd hh h, h2⟩
      · rintro ⟨h1, _, h3⟩; exact ⟨h1, h3⟩
theorem VL_le {d t x : Int} {k : Nat} : ∀ {l : List (List Int)} {b : Int}, VL d k t l b ≤ x ↔ b ≤ x ∧ ∀ r ∈ l, rVL k r - d * ab (rA r - t) ≤ x
  | [], b => by simp [VL]
  | r :: l, b => by
    simp only [VL]
    rw [VL_le]
    simp only [List.mem_cons, forall_eq_or_imp]
    constructor
    · rintro ⟨h1, h2⟩; exact ⟨by omega, by omega, h2⟩
    · rintro ⟨h1, h2, h3⟩; exact ⟨by omega, h3⟩
theorem le_VH {d t x : Int} {k : Nat} : ∀ {l : List (List Int)} {b : Int}, x ≤ VH d k t l b ↔ x ≤ b ∧ ∀ r ∈ l, x ≤ rVH k r + d * ab (rA r - t)
  | [], b => by simp [VH]
  | r :: l, b => by
    simp only [VH]
    rw [le_VH]
    simp only [List.mem_cons, forall_eq_or_imp]
    constructor
    · rintro ⟨h1, h2⟩; exact ⟨by omega, by omega, h2⟩
    · rintro ⟨h1, h2, h3⟩; exact ⟨by omega, h3⟩
theorem p49_eq (k : Nat) (x a b : Int) : p49 k x a b = some (decide (a ≤ x ∧ x ≤ b)) := by
  unfold p49
  simp only [jn_v, lt_v, sp_d]
  repeat' split
  all_goals first | exact congrArg some (decide_eq_decide.2 (by omega)) | exact congrArg some (decide_eq_false (by omega)).symm
theorem p50_eq (k : Nat) (x a b : Int) : p50 k x a b = some (decide (a ≤ x ∧ x ≤ b)) := by
  unfold p50
  simp only [jn_v, lt_v, sp_d]
  repeat' split
  all_goals first | exact congrArg some (decide_eq_decide.2 (by omega)) | exact congrArg some (decide_eq_false (by omega)).symm
theorem p52_eq (k : Nat) (L : List Int) : p52 k L = some (decide (bandOk (L.getD 0 0) (L.getD 1 0))) := by
  unfold p52 bandOk
  simp only [jn_v, lt_v, sp_d]
  generalize L.getD 0 0 = a
  generalize L.getD 1 0 = b
  repeat' split
  all_goals first | exact congrArg some (decide_eq_decide.2 (by omega)) | exact congrArg some (decide_eq_false (by omega)).symm
theorem p61_eq (k : Nat) (L : List Int) : p61 k L = some (decide (bandOk (L.getD 0 0) (L.getD 1 0))) := by
  unfold p61 bandOk
  simp only [jn_v, lt_v, p49_eq, cl_v, sp_d]
  generalize L.getD 0 0 = a
  generalize L.getD 1 0 = b
  repeat' split
  all_goals first | exact congrArg some (decide_eq_decide.2 (by omega)) | exact congrArg some (decide_eq_false (by omega)).symm
def ClaimOk (u : List Int) : Prop :=
  -1073741824 ≤ u.getD 0 0 ∧ u.getD 0 0 ≤ u.getD 1 0 ∧ u.getD 1 0 ≤ 1073741824 ∧ 0 ≤ u.getD 2 0 ∧ u.getD 2 0 < 4 ∧ -1073741824 ≤ u.getD 3 0 ∧ u.getD 3 0 ≤ 1073741824 ∧
  0 ≤ u.getD 4 0 ∧ u.getD 4 0 ≤ u.getD 5 0 ∧ u.getD 5 0 ≤ 1099511627776 ∧ 0 ≤ u.getD 6 0 ∧ u.getD 6 0 ≤ 67108864
noncomputable def claimE (u : List Int) : Int := if ClaimOk u then 0 else 2
theorem claimE_zero {u} : claimE u = 0 ↔ ClaimOk u := by
  unfold claimE
  split
  · rename_i h; exact ⟨fun _ => h, fun _ => rfl⟩
  · rename_i h; exact ⟨fun hh => by omega, fun hh => absurd hh h⟩
theorem p32_eq (k : Nat) (u : List Int) : p32 k u = some (claimE u) := by
  unfold p32 claimE ClaimOk
  simp only [jn_v, lt_v, p49_eq, p61_eq, cl_v, sp_d, bandOk, List.getD_cons_zero, List.getD_cons_succ]
  generalize u.getD 0 0 = a0
  generalize u.getD 1 0 = a1
  generalize u.getD 2 0 = a2
  generalize u.getD 3 0 = a3
  generalize u.getD 4 0 = a4
  generalize u.getD 5 0 = a5
  generalize u.getD 6 0 = a6
  simp only [← decide_not, sp_tt, sp_ff, sp_d]
  repeat' split
  all_goals first | rfl | (exfalso; omega)
theorem p33_eq (k : Nat) (u : List Int) : p33 k u = some (claimE u) := by
  unfold p33 claimE ClaimOk
  simp only [jn_v, lt_v, p50_eq, cl_v, sp_d]
  generalize u.getD 0 0 = a0
  generalize u.getD 1 0 = a1
  generalize u.getD 2 0 = a2
  generalize u.getD 3 0 = a3
  generalize u.getD 4 0 = a4
  generalize u.getD 5 0 = a5
  generalize u.getD 6 0 = a6
  simp only [← decide_not, sp_tt, sp_ff, sp_d]
  repeat' split
  all_goals first | rfl | (exfalso; omega)
end Go.Proofs.Ythjkejbgknemgaa
