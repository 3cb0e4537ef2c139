/- The law ClaimSpans holds of every input. No condition: every theorem names its own hypotheses. -/
import Derived.Test.YthjkejbgknemgaaK4
import Derived.Test.YthjkejbgknemgaaProg
import Derived.Test.YthjkejbgknemgaaRows
set_option linter.unusedVariables false
set_option linter.unusedSimpArgs false
set_option maxHeartbeats 4000000
namespace Go.Proofs.Ythjkejbgknemgaa
open Go.RowKit
def p7_l2 (k : Nat) (x25 : Int) (j44 : Option Bool) (v9 : List (List Int)) (v29 : List Int) : Nat → Int → Option Bool
 | 0,_ => none
 | n46 + 1,x45 => lt' (decide (x45 < (4 : Int))) fun b47 => sp b47 (jn (fun (b48 : Bool) => sp b48 (some false) (lt' (wr .i64 (x45 + (1 : Int))) fun x62 => p7_l2 k x25 j44 v9 v29 n46 x62)) fun j49 => gd ((0 : Int) ≤ x25 ∧ x25 < (v9.length : Int)) <| gd ((0 : Int) ≤ x45 ∧ x45 < ((4 : Nat) : Int)) <| lt' (List.getD (List.getD v9 ((x25).toNat) []) (0 + (x45).toNat * 1) 0) fun x52 => gd ((0 : Int) ≤ x45 ∧ x45 < ((4 : Nat) : Int)) <| lt' (List.getD v29 (0 + (x45).toNat * 2 + 0) 0) fun x54 => lt' (decide (x52 < x54)) fun b55 => sp b55 (j49 true) (gd ((0 : Int) ≤ x25 ∧ x25 < (v9.length : Int)) <| gd ((0 : Int) ≤ x45 ∧ x45 < ((4 : Nat) : Int)) <| lt' (List.getD (List.getD v9 ((x25).toNat) []) (0 + (x45).toNat * 1) 0) fun x58 => gd ((0 : Int) ≤ x45 ∧ x45 < ((4 : Nat) : Int)) <| lt' (List.getD v29 (0 + (x45).toNat * 2 + 1) 0) fun x60 => lt' (decide (x58 > x60)) fun b61 => j49 b61)) (j44)
def p7_l1 (k : Nat) (u0_0 : List (List Int)) (u0_1 : List Int) (j24 : Option Bool) (v8 : List Int) (v9 : List (List Int)) (v17 : Int) : Nat → Int → Option Bool
 | 0,_ => none
 | n26 + 1,x25 => lt' (decide (x25 < v17)) fun b27 => sp b27 (cl3 (p24 k u0_0 u0_1 x25) fun v28 v29 v30 => gd ((v28).length = 2) <| gd ((v29).length = 8) <| jn (fun (b33 : Bool) => sp b33 (some false) (jn (lt' (wr .i64 (x25 + (1 : Int))) fun x63 => p7_l1 k u0_0 u0_1 j24 v8 v9 v17 n26 x63) fun j44 => p7_l2 k x25 j44 v9 v29 k (0 : Int))) fun j34 => lt' (v30 != (0 : Int)) fun b35 => sp b35 (j34 true) (gd ((0 : Int) ≤ x25 ∧ x25 < (v8.length : Int)) <| lt' (List.getD v8 ((x25).toNat) 0) fun x37 => lt' (List.getD v28 0 0) fun x38 => lt' (decide (x37 < x38)) fun b39 => sp b39 (j34 true) (gd ((0 : Int) ≤ x25 ∧ x25 < (v8.length : Int)) <| lt' (List.getD v8 ((x25).toNat) 0) fun x41 => lt' (List.getD v28 1 0) fun x42 => lt' (decide (x41 > x42)) fun b43 => j34 b43))) (j24)
def p7_l4 (k : Nat) (j82 : Bool → List Int → Option Bool) (v76 : List Int) : Nat → Bool → Int → List Int → Option Bool
 | 0,_,_,_ => none
 | n86 + 1,b83,x84,L85 => lt' (decide (x84 < (4 : Int))) fun b87 => sp b87 (jn (fun (b88 : Bool) (L89 : List Int) => lt' (wr .i64 (x84 + (1 : Int))) fun x99 => p7_l4 k j82 v76 n86 b88 x99 L89) fun j90 => gd ((0 : Int) ≤ x84 ∧ x84 < ((4 : Nat) : Int)) <| lt' (List.getD v76 (0 + (x84).toNat * 2 + 0) 0) fun x92 => gd ((0 : Int) ≤ x84 ∧ x84 < ((4 : Nat) : Int)) <| lt' (List.take (0 + (x84).toNat * 1) L85 ++ (x92::[]) ++ List.drop (0 + (x84).toNat * 1 + 1) L85) fun L94 => sp b83 (gd ((0 : Int) ≤ x84 ∧ x84 < ((4 : Nat) : Int)) <| lt' (List.getD v76 (0 + (x84).toNat * 2 + 1) 0) fun x96 => gd ((0 : Int) ≤ x84 ∧ x84 < ((4 : Nat) : Int)) <| lt' (List.take (0 + (x84).toNat * 1) L94 ++ (x96::[]) ++ List.drop (0 + (x84).toNat * 1 + 1) L94) fun L98 => j90 true L98) (j90 false L94)) (j82 b83 L85)
def p7_l3 (k : Nat) (u0_0 : List (List Int)) (u0_1 : List Int) (j68 : List Int → List (List Int) → Option Bool) (v17 : Int) : Nat → Bool → Int → List Int → List (List Int) → Option Bool
 | 0,_,_,_,_ => none
 | n73 + 1,b69,x70,L71,R72 => lt' (decide (x70 < v17)) fun b74 => sp b74 (cl3 (p24 k u0_0 u0_1 x70) fun v75 v76 v77 => gd ((v75).length = 2) <| gd ((v76).length = 8) <| jn (fun (b80 : Bool) (L81 : List Int) => lt' (List.getD v75 0 0) fun x100 => jn (fun (b101 : Bool) (x102 : Int) => gd ((L71.length + List.length ([x102])) * 8 ≤ 140737488355328) <| lt' (L71 ++ ([x102])) fun W106 => gd ((R72.length + List.length ([L81])) * 32 ≤ 140737488355328) <| lt' (R72 ++ ([L81])) fun W108 => lt' (wr .i64 (x70 + (1 : Int))) fun x109 => p7_l3 k u0_0 u0_1 j68 v17 n73 b101 x109 W106 W108) fun j103 => sp b80 (lt' (List.getD v75 1 0) fun x104 => j103 true x104) (j103 false x100)) fun j82 => p7_l4 k j82 v76 k b69 (0 : Int) ([(0 : Int),(0 : Int),(0 : Int),(0 : Int)])) (j68 L71 R72)
def p7 (k : Nat) (u0_0 : List (List Int)) (u0_1 : List Int) (u1 : List Int) (u2 : Int) (u3 : Bool) (u4 : Int) : Option Bool :=
 jn (fun (b1 : Bool) => sp b1 (cl (p12 k ) fun v7 => some v7) (cl2 (p13 k u0_0 u0_1 u1) fun v8 v9 => cl2 (p22 k u0_0 u0_1 v8 v9) fun v15 v16 => cl2 (p23 k u0_0 u0_1) fun v17 v18 => jn (fun (b19 : Bool) => sp b19 (some false) (jn (jn (fun (L66 : List Int) (R67 : List (List Int)) => cl2 (p22 k u0_0 u0_1 L66 R67) fun v116 v117 => jn (fun (b118 : Bool) => some b118) fun j119 => lt' (v117 == (0 : Int)) fun b120 => sp b120 (sp v116 (cl (p12 k ) fun v121 => j119 v121) (j119 false)) (j119 false)) fun j68 => p7_l3 k u0_0 u0_1 j68 v17 k u3 (0 : Int) ([] : List Int) ([] : List (List Int))) fun j24 => p7_l1 k u0_0 u0_1 j24 v8 v9 v17 k (0 : Int))) fun j20 => lt' (v16 != (0 : Int)) fun b21 => sp b21 (j20 true) (lt' (v18 != (0 : Int)) fun b22 => sp b22 (j20 true) (sp v15 (lt' (v17 != (v8.length : Int)) fun b23 => j20 b23) (j20 true))))) fun j2 => cl (p18 k u0_0 u0_1) fun v3 => sp v3 (j2 true) (cl (p21 k u0_0 u0_1) fun v4 => lt' (v4 != (0 : Int)) fun b5 => sp b5 (j2 true) (lt' (decide ((u1.length : Int) > (2000 : Int))) fun b6 => j2 b6))
theorem hf7 : Try.prog.funcs[7]? = some Try.f7 := by kernel_rfl
theorem w7 (k : Nat) {M : Mem} {Au0_0 : Option Addr} {cu0_0 : Nat} {Au1 : Option Addr} {cu1 : Nat} {u0_0 : List (List Int)} {u0_1 : List Int} {u1 : List Int} {u2 : Int} {u3 : Bool} {u4 : Int} (hu0_0 : SlR M Au0_0 cu0_0 .i64 11 u0_0) (hu0_1 : u0_1.length = 4) (hu1 : SlI M Au1 cu1 .u8 u1) {r} (h : p7 k u0_0 u0_1 u1 u2 u3 u4 = some r) :
  Fn Try.prog 7 [rval (.agg [.one (.v (.slice Au0_0 (u0_0.length) cu0_0)),.arr .i64 4 u0_1]),rval (.lf (.v (.slice Au1 (u1.length) cu1))),rval (.lf (.v (.int .u8 u2))),rval (vb u3),rval (.lf (.v (.int .u8 u4)))] M (fun x _ => x = vb r) := by
 unfold p7 at h
 refine Fn_of (P:=Try.prog) (fn:=Try.f7) (c:=bodyOf Try.f7) [.agg [.one (.v (.slice Au0_0 (u0_0.length) cu0_0)),.arr .i64 4 u0_1],.lf (.v (.slice Au1 (u1.length) cu1)),.lf (.v (.int .u8 u2)),vb u3,.lf (.v (.int .u8 u4))] hf7 (by kernel_rfl) (Nat.le_of_ble_eq_true (by kernel_rfl)) (args_ok (by kernel_rfl) ⟨⟨rfl,⟨hu0_1,trivial⟩⟩,⟨trivial,⟨trivial,⟨trivial,⟨trivial,trivial⟩⟩⟩⟩⟩) fun w => ?_
 change T _ _ _ (endQ _ _ _)
 refine T_seq (c1:=(sub [0] Bd7)) (c2:=(sub [1] Bd7)) (by kernel_rfl) ?_
 refine T_region (id:=0) (by kernel_rfl) ?_
 refine TI_segK (i:=0) (j:=2) (s':={ σ := [(1,.lf (.v (.slice Au1 (u1.length) cu1))),(3,vb u3),(5,.lf (.own 5 0))],H := [(5,[.one (.v (.slice Au0_0 (u0_0.length) cu0_0)),.arr .i64 4 u0_1])],V := [],M := M,ds := [] }) [1,3,5] [5] [] (by kernel_rfl) (by kernel_rfl) ?_
 refine TI_end (by kernel_rfl) ?_
 refine thenQ_n ?_
 refine T_seq (c1:=(sub [1,0] Bd7)) (c2:=(sub [1,1] Bd7)) (by kernel_rfl) ?_
 obtain ⟨j2,e_j2,h⟩ := jn_some h
 refine T_cut (c1:=(sub [1,0,0] Bd7)) (c2:=(sub [1,0,1] Bd7)) (fun s' => ∃ (b1 : Bool),Sub { σ := [(1,.lf (.v (.slice Au1 (u1.length) cu1))),(3,vb u3),(5,.lf (.own 5 0)),(40,vb b1)],H := [(5,[.one (.v (.slice Au0_0 (u0_0.length) cu0_0)),.arr .i64 4 u0_1])],V := [],M := M,ds := [] } s' ∧ j2 b1 = some r) (by kernel_rfl) ?_ ?_
 ·refine T_region (id:=1) (by kernel_rfl) ?_
  refine TI_segK (i:=0) (j:=1) (s':={ σ := [(1,.lf (.v (.slice Au1 (u1.length) cu1))),(3,vb u3),(5,.lf (.own 5 0)),(29,.agg [.one (.v (.slice Au0_0 (u0_0.length) cu0_0)),.arr .i64 4 u0_1])],H := [(5,[.one (.v (.slice Au0_0 (u0_0.length) cu0_0)),.arr .i64 4 u0_1])],V := [],M := M,ds := [] }) [1,3,5,29] [5] [] (by kernel_rfl) (by kernel_rfl) ?_
  obtain ⟨v3,c_v3,h⟩ := cl_some h
  refine TI_at (i:=1) (d:=30) (x:=vb v3) (At_call (d:=30) (f:=18) (args:=[rval (.agg [.one (.v (.slice Au0_0 (u0_0.length) cu0_0)),.arr .i64 4 u0_1])]) (x:=vb v3) (by kernel_rfl) (w18 k hu0_0 hu0_1 c_v3)) (by kernel_rfl) trivial ?_
  refine TI_segK (i:=2) (j:=3) (s':={ σ := [(1,.lf (.v (.slice Au1 (u1.length) cu1))),(3,vb u3),(5,.lf (.own 5 0)),(31,vb v3)],H := [(5,[.one (.v (.slice Au0_0 (u0_0.length) cu0_0)),.arr .i64 4 u0_1])],V := [],M := M,ds := [] }) [1,3,5,31] [5] [] (by kernel_rfl) (by kernel_rfl) ?_
  cases v3 with
  | true =>
   replace h := sp_t h
   refine TI_segS (i:=3) (j:=12) [(1,.lf (.v (.slice Au1 (u1.length) cu1))),(3,vb u3),(5,.lf (.own 5 0)),(40,vb true)] (by kernel_rfl) (by kernel_rfl) ?_
   refine TI_end (by kernel_rfl) ?_
   refine thenQ_n ?_
   exact ⟨true,keep_sub (ts:=[1,3,5,40]) (hs:=[5]) (vs:=[]) (by kernel_rfl),h⟩
  | false =>
   replace h := sp_f h
   refine TI_segS (i:=3) (j:=4) [(1,.lf (.v (.slice Au1 (u1.length) cu1))),(3,vb u3),(5,.lf (.own 5 0)),(31,vb false),(32,.agg [.one (.v (.slice Au0_0 (u0_0.length) cu0_0)),.arr .i64 4 u0_1])] (by kernel_rfl) (by kernel_rfl) ?_
   obtain ⟨v4,c_v4,h⟩ := cl_some h
   refine TI_at (i:=4) (d:=33) (x:=vi v4) (At_call (d:=33) (f:=21) (args:=[rval (.agg [.one (.v (.slice Au0_0 (u0_0.length) cu0_0)),.arr .i64 4 u0_1])]) (x:=vi v4) (by kernel_rfl) (w21 k hu0_0 hu0_1 c_v4)) (by kernel_rfl) trivial ?_
   obtain ⟨b5,e_b5,h⟩ := lt_some h
   refine TI_segK (i:=5) (j:=8) (s':={ σ := [(1,.lf (.v (.slice Au1 (u1.length) cu1))),(3,vb u3),(5,.lf (.own 5 0)),(36,vb b5)],H := [(5,[.one (.v (.slice Au0_0 (u0_0.length) cu0_0)),.arr .i64 4 u0_1])],V := [],M := M,ds := [] }) [1,3,5,36] [5] [] (by subst e_b5;kernel_rfl) (by kernel_rfl) ?_
   cases b5 with
   | true =>
    replace h := sp_t h
    refine TI_segS (i:=8) (j:=12) [(1,.lf (.v (.slice Au1 (u1.length) cu1))),(3,vb u3),(5,.lf (.own 5 0)),(40,vb true)] (by kernel_rfl) (by kernel_rfl) ?_
    refine TI_end (by kernel_rfl) ?_
    refine thenQ_n ?_
    exact ⟨true,keep_sub (ts:=[1,3,5,40]) (hs:=[5]) (vs:=[]) (by kernel_rfl),h⟩
   | false =>
    replace h := sp_f h
    obtain ⟨b6,e_b6,h⟩ := lt_some h
    refine TI_segS (i:=8) (j:=12) [(1,.lf (.v (.slice Au1 (u1.length) cu1))),(3,vb u3),(5,.lf (.own 5 0)),(40,vb b6)] (by subst e_b6;kernel_rfl) (by kernel_rfl) ?_
    refine TI_end (by kernel_rfl) ?_
    refine thenQ_n ?_
    exact ⟨b6,keep_sub (ts:=[1,3,5,40]) (hs:=[5]) (vs:=[]) (by kernel_rfl),h⟩
 ·rintro s' ⟨b1,hsub,h⟩
  subst e_j2
  refine T_sub hsub ?_
  cases b1 with
  | true =>
   replace h := sp_t h
   refine T_condT (x:=(.tmp 40)) (c1:=(sub [1,0,1,0] Bd7)) (c2:=(sub [1,0,1,1] Bd7)) (by kernel_rfl) (by kernel_rfl) ?_
   refine T_keep (s':={ σ := [],H := [],V := [],M := M,ds := [] }) [] [] [] (by kernel_rfl) ?_
   refine T_seq (c1:=(sub [1,0,1,0,0] Bd7)) (c2:=(sub [1,0,1,0,1] Bd7)) (by kernel_rfl) ?_
   refine T_region (id:=2) (by kernel_rfl) ?_
   obtain ⟨v7,c_v7,h⟩ := cl_some h
   refine TI_at (i:=0) (d:=41) (x:=vb v7) (At_call (d:=41) (f:=12) (args:=[]) (x:=vb v7) (by kernel_rfl) (w12 k  c_v7)) (by kernel_rfl) trivial ?_
   refine TI_segK (i:=1) (j:=2) (s':={ σ := [(10,vb v7)],H := [],V := [],M := M,ds := [] }) [10] [] [] (by kernel_rfl) (by kernel_rfl) ?_
   refine TI_end (by kernel_rfl) ?_
   refine thenQ_n ?_
   refine T_ret (by kernel_rfl) ?_
   refine thenQ_r ?_
   have h := Option.some.inj h
   subst h
   refine fin_ret (vb v7) (by kernel_rfl) (by kernel_rfl) rfl ?_
   rfl
  | false =>
   replace h := sp_f h
   refine T_condF (x:=(.tmp 40)) (c1:=(sub [1,0,1,0] Bd7)) (c2:=(sub [1,0,1,1] Bd7)) (by kernel_rfl) (by kernel_rfl) ?_
   refine T_keep (s':={ σ := [(1,.lf (.v (.slice Au1 (u1.length) cu1))),(3,vb u3),(5,.lf (.own 5 0))],H := [(5,[.one (.v (.slice Au0_0 (u0_0.length) cu0_0)),.arr .i64 4 u0_1])],V := [],M := M,ds := [] }) [1,3,5] [5] [] (by kernel_rfl) ?_
   refine T_skip (by kernel_rfl) ?_
   refine thenQ_n ?_
   refine T_seq (c1:=(sub [1,1,0] Bd7)) (c2:=(sub [1,1,1] Bd7)) (by kernel_rfl) ?_
   refine T_region (id:=3) (by kernel_rfl) ?_
   refine TI_segS (i:=0) (j:=2) [(3,vb u3),(5,.lf (.own 5 0)),(42,.agg [.one (.v (.slice Au0_0 (u0_0.length) cu0_0)),.arr .i64 4 u0_1]),(43,.lf (.v (.slice Au1 (u1.length) cu1)))] (by kernel_rfl) (by kernel_rfl) ?_
   obtain ⟨v8,v9,c_v8,h⟩ := cl2_some h
   refine TI_of (i:=2) (by kernel_rfl) (TE_callR (d:=44) (f:=13) (args:=[rval (.agg [.one (.v (.slice Au0_0 (u0_0.length) cu0_0)),.arr .i64 4 u0_1]),rval (.lf (.v (.slice Au1 (u1.length) cu1)))]) (by kernel_rfl) (by kernel_rfl) (w13 k hu0_0 hu0_1 hu1 c_v8) ?_)
   rintro _ M14 _ hM14 _ ⟨A10,c11,A12,c13,rfl,fA10,fA12⟩
   refine TI_segK (i:=3) (j:=5) (s':={ σ := [(3,vb u3),(5,.lf (.own 5 0)),(11,.lf (.own 11 0))],H := [(5,[.one (.v (.slice Au0_0 (u0_0.length) cu0_0)),.arr .i64 4 u0_1]),(11,[.one (.v (.slice A10 (v8.length) c11)),.one (.v (.slice A12 (v9.length) c13))])],V := [],M := M14,ds := [] }) [3,5,11] [5,11] [] (by kernel_rfl) (by kernel_rfl) ?_
   refine TI_end (by kernel_rfl) ?_
   refine thenQ_n ?_
   refine T_seq (c1:=(sub [1,1,1,0] Bd7)) (c2:=(sub [1,1,1,1] Bd7)) (by kernel_rfl) ?_
   refine T_region (id:=4) (by kernel_rfl) ?_
   refine TI_segS (i:=0) (j:=2) [(3,vb u3),(5,.lf (.own 5 0)),(11,.lf (.own 11 0)),(46,.agg [.one (.v (.slice Au0_0 (u0_0.length) cu0_0)),.arr .i64 4 u0_1]),(47,.agg [.one (.v (.slice A10 (v8.length) c11)),.one (.v (.slice A12 (v9.length) c13))])] (by kernel_rfl) (by kernel_rfl) ?_
   obtain ⟨v15,v16,c_v15,h⟩ := cl2_some h
   refine TI_at (i:=2) (d:=48) (x:=.tup [(some (.v (.bool v15)),[]),(some (.v (.int .i64 v16)),[])]) (At_call (d:=48) (f:=22) (args:=[rval (.agg [.one (.v (.slice Au0_0 (u0_0.length) cu0_0)),.arr .i64 4 u0_1]),rval (.agg [.one (.v (.slice A10 (v8.length) c11)),.one (.v (.slice A12 (v9.length) c13))])]) (x:=.tup [(some (.v (.bool v15)),[]),(some (.v (.int .i64 v16)),[])]) (by kernel_rfl) (w22 k (hu0_0.le hM14) hu0_1 fA10 fA12 c_v15)) (by kernel_rfl) (by intro y hy; simp only [List.mem_cons,List.mem_nil_iff,or_false] at hy; rcases hy with rfl | rfl <;> exact trivial) ?_
   refine TI_segK (i:=3) (j:=8) (s':={ σ := [(3,vb u3),(5,.lf (.own 5 0)),(11,.lf (.own 11 0)),(12,vb v15),(13,vi v16)],H := [(5,[.one (.v (.slice Au0_0 (u0_0.length) cu0_0)),.arr .i64 4 u0_1]),(11,[.one (.v (.slice A10 (v8.length) c11)),.one (.v (.slice A12 (v9.length) c13))])],V := [],M := M14,ds := [] }) [3,5,11,12,13] [5,11] [] (by kernel_rfl) (by kernel_rfl) ?_
   refine TI_end (by kernel_rfl) ?_
   refine thenQ_n ?_
   refine T_seq (c1:=(sub [1,1,1,1,0] Bd7)) (c2:=(sub [1,1,1,1,1] Bd7)) (by kernel_rfl) ?_
   refine T_region (id:=5) (by kernel_rfl) ?_
   refine TI_segS (i:=0) (j:=1) [(3,vb u3),(5,.lf (.own 5 0)),(11,.lf (.own 11 0)),(12,vb v15),(13,vi v16),(52,.agg [.one (.v (.slice Au0_0 (u0_0.length) cu0_0)),.arr .i64 4 u0_1])] (by kernel_rfl) (by kernel_rfl) ?_
   obtain ⟨v17,v18,c_v17,h⟩ := cl2_some h
   refine TI_at (i:=1) (d:=53) (x:=.tup [(some (.v (.int .i64 v17)),[]),(some (.v (.int .i64 v18)),[])]) (At_call (d:=53) (f:=23) (args:=[rval (.agg [.one (.v (.slice Au0_0 (u0_0.length) cu0_0)),.arr .i64 4 u0_1])]) (x:=.tup [(some (.v (.int .i64 v17)),[]),(some (.v (.int .i64 v18)),[])]) (by kernel_rfl) (w23 k (hu0_0.le hM14) hu0_1 c_v17)) (by kernel_rfl) (by intro y hy; simp only [List.mem_cons,List.mem_nil_iff,or_false] at hy; rcases hy with rfl | rfl <;> exact trivial) ?_
   refine TI_segK (i:=2) (j:=7) (s':={ σ := [(3,vb u3),(5,.lf (.own 5 0)),(11,.lf (.own 11 0)),(12,vb v15),(13,vi v16),(14,vi v17),(15,vi v18)],H := [(5,[.one (.v (.slice Au0_0 (u0_0.length) cu0_0)),.arr .i64 4 u0_1]),(11,[.one (.v (.slice A10 (v8.length) c11)),.one (.v (.slice A12 (v9.length) c13))])],V := [],M := M14,ds := [] }) [3,5,11,12,13,14,15] [5,11] [] (by kernel_rfl) (by kernel_rfl) ?_
   refine TI_end (by kernel_rfl) ?_
   refine thenQ_n ?_
   refine T_seq (c1:=(sub [1,1,1,1,1,0] Bd7)) (c2:=(sub [1,1,1,1,1,1] Bd7)) (by kernel_rfl) ?_
   obtain ⟨j20,e_j20,h⟩ := jn_some h
   refine T_cut (c1:=(sub [1,1,1,1,1,0,0] Bd7)) (c2:=(sub [1,1,1,1,1,0,1] Bd7)) (fun s' => ∃ (b19 : Bool),Sub { σ := [(3,vb u3),(5,.lf (.own 5 0)),(11,.lf (.own 11 0)),(14,vi v17),(72,vb b19)],H := [(5,[.one (.v (.slice Au0_0 (u0_0.length) cu0_0)),.arr .i64 4 u0_1]),(11,[.one (.v (.slice A10 (v8.length) c11)),.one (.v (.slice A12 (v9.length) c13))])],V := [],M := M14,ds := [] } s' ∧ j20 b19 = some r) (by kernel_rfl) ?_ ?_
   ·refine T_region (id:=6) (by kernel_rfl) ?_
    obtain ⟨b21,e_b21,h⟩ := lt_some h
    refine TI_segK (i:=0) (j:=3) (s':={ σ := [(3,vb u3),(5,.lf (.own 5 0)),(11,.lf (.own 11 0)),(12,vb v15),(14,vi v17),(15,vi v18),(58,vb b21)],H := [(5,[.one (.v (.slice Au0_0 (u0_0.length) cu0_0)),.arr .i64 4 u0_1]),(11,[.one (.v (.slice A10 (v8.length) c11)),.one (.v (.slice A12 (v9.length) c13))])],V := [],M := M14,ds := [] }) [3,5,11,12,14,15,58] [5,11] [] (by subst e_b21;kernel_rfl) (by kernel_rfl) ?_
    cases b21 with
    | true =>
     replace h := sp_t h
     refine TI_segS (i:=3) (j:=17) [(3,vb u3),(5,.lf (.own 5 0)),(11,.lf (.own 11 0)),(14,vi v17),(72,vb true)] (by kernel_rfl) (by kernel_rfl) ?_
     refine TI_end (by kernel_rfl) ?_
     refine thenQ_n ?_
     exact ⟨true,keep_sub (ts:=[3,5,11,14,72]) (hs:=[5,11]) (vs:=[]) (by kernel_rfl),h⟩
    | false =>
     replace h := sp_f h
     obtain ⟨b22,e_b22,h⟩ := lt_some h
     refine TI_segS (i:=3) (j:=7) [(3,vb u3),(5,.lf (.own 5 0)),(11,.lf (.own 11 0)),(12,vb v15),(14,vi v17),(62,vb b22)] (by subst e_b22;kernel_rfl) (by kernel_rfl) ?_
     cases b22 with
     | true =>
      replace h := sp_t h
      refine TI_segS (i:=7) (j:=17) [(3,vb u3),(5,.lf (.own 5 0)),(11,.lf (.own 11 0)),(14,vi v17),(72,vb true)] (by kernel_rfl) (by kernel_rfl) ?_
      refine TI_end (by kernel_rfl) ?_
      refine thenQ_n ?_
      exact ⟨true,keep_sub (ts:=[3,5,11,14,72]) (hs:=[5,11]) (vs:=[]) (by kernel_rfl),h⟩
     | false =>
      replace h := sp_f h
      refine TI_segS (i:=7) (j:=11) [(3,vb u3),(5,.lf (.own 5 0)),(11,.lf (.own 11 0)),(14,vi v17),(66,vb (!v15))] (by kernel_rfl) (by kernel_rfl) ?_
      cases v15 with
      | true =>
       replace h := sp_t h
       obtain ⟨b23,e_b23,h⟩ := lt_some h
       refine TI_segS (i:=11) (j:=17) [(3,vb u3),(5,.lf (.own 5 0)),(11,.lf (.own 11 0)),(14,vi v17),(72,vb b23)] (by subst e_b23;kernel_rfl) (by kernel_rfl) ?_
       refine TI_end (by kernel_rfl) ?_
       refine thenQ_n ?_
       exact ⟨b23,keep_sub (ts:=[3,5,11,14,72]) (hs:=[5,11]) (vs:=[]) (by kernel_rfl),h⟩
      | false =>
       replace h := sp_f h
       refine TI_segS (i:=11) (j:=17) [(3,vb u3),(5,.lf (.own 5 0)),(11,.lf (.own 11 0)),(14,vi v17),(72,vb true)] (by kernel_rfl) (by kernel_rfl) ?_
       refine TI_end (by kernel_rfl) ?_
       refine thenQ_n ?_
       exact ⟨true,keep_sub (ts:=[3,5,11,14,72]) (hs:=[5,11]) (vs:=[]) (by kernel_rfl),h⟩
   ·rintro s' ⟨b19,hsub,h⟩
    subst e_j20
    refine T_sub hsub ?_
    cases b19 with
    | true =>
     replace h := sp_t h
     refine T_condT (x:=(.tmp 72)) (c1:=(sub [1,1,1,1,1,0,1,0] Bd7)) (c2:=(sub [1,1,1,1,1,0,1,1] Bd7)) (by kernel_rfl) (by kernel_rfl) ?_
     refine T_keep (s':={ σ := [],H := [],V := [],M := M14,ds := [] }) [] [] [] (by kernel_rfl) ?_
     refine T_seq (c1:=(sub [1,1,1,1,1,0,1,0,0] Bd7)) (c2:=(sub [1,1,1,1,1,0,1,0,1] Bd7)) (by kernel_rfl) ?_
     refine T_region (id:=7) (by kernel_rfl) ?_
     refine TI_segS (i:=0) (j:=1) [(10,vb false)] (by kernel_rfl) (by kernel_rfl) ?_
     refine TI_end (by kernel_rfl) ?_
     refine thenQ_n ?_
     refine T_ret (by kernel_rfl) ?_
     refine thenQ_r ?_
     have h := Option.some.inj h
     subst h
     refine fin_ret (vb false) (by kernel_rfl) (by kernel_rfl) rfl ?_
     rfl
    | false =>
     replace h := sp_f h
     refine T_condF (x:=(.tmp 72)) (c1:=(sub [1,1,1,1,1,0,1,0] Bd7)) (c2:=(sub [1,1,1,1,1,0,1,1] Bd7)) (by kernel_rfl) (by kernel_rfl) ?_
     refine T_keep (s':={ σ := [(3,vb u3),(5,.lf (.own 5 0)),(11,.lf (.own 11 0)),(14,vi v17)],H := [(5,[.one (.v (.slice Au0_0 (u0_0.length) cu0_0)),.arr .i64 4 u0_1]),(11,[.one (.v (.slice A10 (v8.length) c11)),.one (.v (.slice A12 (v9.length) c13))])],V := [],M := M14,ds := [] }) [3,5,11,14] [5,11] [] (by kernel_rfl) ?_
     refine T_skip (by kernel_rfl) ?_
     refine thenQ_n ?_
     refine T_seq (c1:=(sub [1,1,1,1,1,1,0] Bd7)) (c2:=(sub [1,1,1,1,1,1,1] Bd7)) (by kernel_rfl) ?_
     refine T_seq (c1:=(sub [1,1,1,1,1,1,0,0] Bd7)) (c2:=(sub [1,1,1,1,1,1,0,1] Bd7)) (by kernel_rfl) ?_
     refine T_region (id:=8) (by kernel_rfl) ?_
     refine TI_segS (i:=0) (j:=1) [(3,vb u3),(5,.lf (.own 5 0)),(11,.lf (.own 11 0)),(14,vi v17),(16,vi (0 : Int))] (by kernel_rfl) (by kernel_rfl) ?_
     refine TI_end (by kernel_rfl) ?_
     refine thenQ_n ?_
     obtain ⟨j24,e_j24,h⟩ := jn_some h
     refine T_bcut (id:=0) (c1:=(sub [1,1,1,1,1,1,0,1,0] Bd7)) (fun s' => Sub { σ := [(3,vb u3),(5,.lf (.own 5 0)),(14,vi v17)],H := [(5,[.one (.v (.slice Au0_0 (u0_0.length) cu0_0)),.arr .i64 4 u0_1])],V := [],M := M14,ds := [] } s' ∧ j24 = some r) (by kernel_rfl) ?_ ?_
     ·refine T_loop (c1:=(sub [1,1,1,1,1,1,0,1,0,0] Bd7)) (by kernel_rfl) (fun n26 s' => ∃ (x25 : Int),Sub { σ := [(3,vb u3),(5,.lf (.own 5 0)),(11,.lf (.own 11 0)),(14,vi v17),(16,vi x25)],H := [(5,[.one (.v (.slice Au0_0 (u0_0.length) cu0_0)),.arr .i64 4 u0_1]),(11,[.one (.v (.slice A10 (v8.length) c11)),.one (.v (.slice A12 (v9.length) c13))])],V := [],M := M14,ds := [] } s' ∧ p7_l1 k u0_0 u0_1 j24 v8 v9 v17 n26 x25 = some r) (k:=k) ⟨(0 : Int),keep_sub (ts:=[3,5,11,14,16]) (hs:=[5,11]) (vs:=[]) (by kernel_rfl),h⟩ ?_
      rintro n26 s' ⟨x25,hsub,h⟩
      cases n26 with
      | zero => rw [p7_l1] at h;cases h
      | succ n26 =>
       rw [p7_l1] at h
       refine T_sub hsub ?_
       refine T_seq (c1:=(sub [1,1,1,1,1,1,0,1,0,0,0] Bd7)) (c2:=(sub [1,1,1,1,1,1,0,1,0,0,1] Bd7)) (by kernel_rfl) ?_
       refine T_seq (c1:=(sub [1,1,1,1,1,1,0,1,0,0,0,0] Bd7)) (c2:=(sub [1,1,1,1,1,1,0,1,0,0,0,1] Bd7)) (by kernel_rfl) ?_
       refine T_region (id:=9) (by kernel_rfl) ?_
       obtain ⟨b27,e_b27,h⟩ := lt_some h
       refine TI_segK (i:=0) (j:=3) (s':={ σ := [(3,vb u3),(5,.lf (.own 5 0)),(11,.lf (.own 11 0)),(14,vi v17),(16,vi x25),(75,vb b27)],H := [(5,[.one (.v (.slice Au0_0 (u0_0.length) cu0_0)),.arr .i64 4 u0_1]),(11,[.one (.v (.slice A10 (v8.length) c11)),.one (.v (.slice A12 (v9.length) c13))])],V := [],M := M14,ds := [] }) [3,5,11,14,16,75] [5,11] [] (by subst e_b27;kernel_rfl) (by kernel_rfl) ?_
       refine TI_end (by kernel_rfl) ?_
       refine thenQ_n ?_
       cases b27 with
       | true =>
        replace h := sp_t h
        refine T_condT (x:=(.tmp 75)) (c1:=(sub [1,1,1,1,1,1,0,1,0,0,0,1,0] Bd7)) (c2:=(sub [1,1,1,1,1,1,0,1,0,0,0,1,1] Bd7)) (by kernel_rfl) (by kernel_rfl) ?_
        refine T_keepS [(3,vb u3),(5,.lf (.own 5 0)),(11,.lf (.own 11 0)),(14,vi v17),(16,vi x25)] (by kernel_rfl) ?_
        refine T_skip (by kernel_rfl) ?_
        refine thenQ_n ?_
        refine T_seq (c1:=(sub [1,1,1,1,1,1,0,1,0,0,1,0] Bd7)) (c2:=(sub [1,1,1,1,1,1,0,1,0,0,1,1] Bd7)) (by kernel_rfl) ?_
        refine T_block (id:=1) (c1:=(sub [1,1,1,1,1,1,0,1,0,0,1,0,0] Bd7)) (by kernel_rfl) ?_
        refine T_seq (c1:=(sub [1,1,1,1,1,1,0,1,0,0,1,0,0,0] Bd7)) (c2:=(sub [1,1,1,1,1,1,0,1,0,0,1,0,0,1] Bd7)) (by kernel_rfl) ?_
        refine T_region (id:=11) (by kernel_rfl) ?_
        refine TI_segS (i:=0) (j:=2) [(3,vb u3),(5,.lf (.own 5 0)),(11,.lf (.own 11 0)),(14,vi v17),(16,vi x25),(79,.agg [.one (.v (.slice Au0_0 (u0_0.length) cu0_0)),.arr .i64 4 u0_1]),(80,vi x25)] (by kernel_rfl) (by kernel_rfl) ?_
        obtain ⟨v28,v29,v30,c_v28,h⟩ := cl3_some h
        obtain ⟨g31,h⟩ := gd_some h
        obtain ⟨g32,h⟩ := gd_some h
        refine TI_at (i:=2) (d:=81) (x:=.tup [(none,[.arr .i64 2 v28]),(none,[.arr .i64 8 v29]),(some (.v (.int .i64 v30)),[])]) (At_call (d:=81) (f:=24) (args:=[rval (.agg [.one (.v (.slice Au0_0 (u0_0.length) cu0_0)),.arr .i64 4 u0_1]),rval (vi x25)]) (x:=.tup [(none,[.arr .i64 2 v28]),(none,[.arr .i64 8 v29]),(some (.v (.int .i64 v30)),[])]) (by kernel_rfl) (w24 k (hu0_0.le hM14) hu0_1 c_v28)) (by kernel_rfl) (by intro y hy; simp only [List.mem_cons,List.mem_nil_iff,or_false] at hy; rcases hy with rfl | rfl | rfl <;> first | exact trivial | exact ⟨g31,trivial⟩ | exact ⟨g32,trivial⟩) ?_
        refine TI_segK (i:=3) (j:=12) (s':={ σ := [(3,vb u3),(5,.lf (.own 5 0)),(11,.lf (.own 11 0)),(14,vi v17),(16,vi x25),(17,.lf (.own 17 0)),(18,.lf (.own 18 0)),(19,vi v30)],H := [(5,[.one (.v (.slice Au0_0 (u0_0.length) cu0_0)),.arr .i64 4 u0_1]),(11,[.one (.v (.slice A10 (v8.length) c11)),.one (.v (.slice A12 (v9.length) c13))]),(17,[.arr .i64 2 v28]),(18,[.arr .i64 8 v29])],V := [],M := M14,ds := [] }) [3,5,11,14,16,17,18,19] [5,11,17,18] [] (by kernel_rfl) (by kernel_rfl) ?_
        refine TI_end (by kernel_rfl) ?_
        refine thenQ_n ?_
        refine T_seq (c1:=(sub [1,1,1,1,1,1,0,1,0,0,1,0,0,1,0] Bd7)) (c2:=(sub [1,1,1,1,1,1,0,1,0,0,1,0,0,1,1] Bd7)) (by kernel_rfl) ?_
        obtain ⟨j34,e_j34,h⟩ := jn_some h
        refine T_cut (c1:=(sub [1,1,1,1,1,1,0,1,0,0,1,0,0,1,0,0] Bd7)) (c2:=(sub [1,1,1,1,1,1,0,1,0,0,1,0,0,1,0,1] Bd7)) (fun s' => ∃ (b33 : Bool),Sub { σ := [(3,vb u3),(5,.lf (.own 5 0)),(11,.lf (.own 11 0)),(14,vi v17),(16,vi x25),(18,.lf (.own 18 0)),(106,vb b33)],H := [(5,[.one (.v (.slice Au0_0 (u0_0.length) cu0_0)),.arr .i64 4 u0_1]),(11,[.one (.v (.slice A10 (v8.length) c11)),.one (.v (.slice A12 (v9.length) c13))]),(18,[.arr .i64 8 v29])],V := [],M := M14,ds := [] } s' ∧ j34 b33 = some r) (by kernel_rfl) ?_ ?_
        ·obtain ⟨b35,e_b35,h⟩ := lt_some h
         cases b35 with
         | true =>
          replace h := sp_t h
          refine T_draw' (id:=12) [] [0,0,0,0,0,0,0,0,0,0,0,0,0,0,0,0,0,0,0,0,0,0] (by kernel_rfl) (by kernel_rfl) (by kernel_rfl) (by kernel_rfl) [(85,vi v30),(86,vb true),(87,vb true),(88,.tup []),(89,.tup []),(90,.tup []),(91,.tup []),(92,.tup []),(93,.tup []),(94,.tup []),(95,.tup []),(96,vb true),(97,vb true),(98,.tup []),(99,.tup []),(100,.tup []),(101,.tup []),(102,.tup []),(103,.tup []),(104,.tup []),(105,.tup []),(106,vb true)] (by kernel_rfl) ⟨trivial,⟨trivial,⟨trivial,⟨(by intro y hy;cases hy),⟨(by intro y hy;cases hy),⟨(by intro y hy;cases hy),⟨(by intro y hy;cases hy),⟨(by intro y hy;cases hy),⟨(by intro y hy;cases hy),⟨(by intro y hy;cases hy),⟨(by intro y hy;cases hy),⟨trivial,⟨trivial,⟨(by intro y hy;cases hy),⟨(by intro y hy;cases hy),⟨(by intro y hy;cases hy),⟨(by intro y hy;cases hy),⟨(by intro y hy;cases hy),⟨(by intro y hy;cases hy),⟨(by intro y hy;cases hy),⟨(by intro y hy;cases hy),⟨trivial,trivial⟩⟩⟩⟩⟩⟩⟩⟩⟩⟩⟩⟩⟩⟩⟩⟩⟩⟩⟩⟩⟩⟩ ?_
          refine Stage_nil (stage_all' [0,2,3,4,5,6,7,8,9,10,11,12,13,14,15,16,17,18,19,20,21] [1] (by kernel_rfl) (by kernel_rfl) (by kernel_rfl) ⟨QF_at (i:=1) (d:=86) (x:=vb true) (show OpAt _ _ _ 1 86 _ from by exact At_bin (d:=86) (b:=.neq) (u:=.int .i64 v30) (v:=.int .i64 (0 : Int)) (w':=.bool true) (by kernel_rfl) (by rw [show exBin .neq (.int .i64 v30) (.int .i64 (0 : Int)) = some (.bool (v30 != (0 : Int))) from by kernel_rfl,← e_b35])) (by kernel_rfl) (by kernel_rfl),trivial⟩) ?_
          refine thenQ_n ?_
          exact ⟨true,keep_sub (ts:=[3,5,11,14,16,18,106]) (hs:=[5,11,18]) (vs:=[]) (by kernel_rfl),h⟩
         | false =>
          replace h := sp_f h
          obtain ⟨g36,h⟩ := gd_some h
          obtain ⟨x37,e_x37,h⟩ := lt_some h
          obtain ⟨x38,e_x38,h⟩ := lt_some h
          obtain ⟨b39,e_b39,h⟩ := lt_some h
          cases b39 with
          | true =>
           replace h := sp_t h
           refine T_draw' (id:=12) [] [0,0,0,0,0,0,0,0,0,0,0,0,0,0,0,0,0,0,0,0,0,0] (by kernel_rfl) (by kernel_rfl) (by kernel_rfl) (by kernel_rfl) [(85,vi v30),(86,vb false),(87,vb false),(88,.lf (.own 11 0)),(89,.lf (.v (.slice A10 (v8.length) c11))),(90,vi x25),(91,.lf (.ep (.slice A10 (v8.length) c11) 1 ((x25).toNat) 0)),(92,vi x37),(93,.lf (.own 17 0)),(94,vi x38),(95,vb true),(96,vb true),(97,vb true),(98,.tup []),(99,.tup []),(100,.tup []),(101,.tup []),(102,.tup []),(103,.tup []),(104,.tup []),(105,.tup []),(106,vb true)] (by kernel_rfl) ⟨trivial,⟨trivial,⟨trivial,⟨trivial,⟨trivial,⟨trivial,⟨trivial,⟨trivial,⟨trivial,⟨trivial,⟨trivial,⟨trivial,⟨trivial,⟨(by intro y hy;cases hy),⟨(by intro y hy;cases hy),⟨(by intro y hy;cases hy),⟨(by intro y hy;cases hy),⟨(by intro y hy;cases hy),⟨(by intro y hy;cases hy),⟨(by intro y hy;cases hy),⟨(by intro y hy;cases hy),⟨trivial,trivial⟩⟩⟩⟩⟩⟩⟩⟩⟩⟩⟩⟩⟩⟩⟩⟩⟩⟩⟩⟩⟩⟩ ?_
           refine Stage_nil (stage_all' [0,2,3,4,5,8,9,11,12,13,14,15,16,17,18,19,20,21] [1,6,7,10] (by kernel_rfl) (by subst e_x38 e_x37; kernel_rfl) (by kernel_rfl) ⟨QF_at (i:=1) (d:=86) (x:=vb false) (show OpAt _ _ _ 1 86 _ from by exact At_bin (d:=86) (b:=.neq) (u:=.int .i64 v30) (v:=.int .i64 (0 : Int)) (w':=.bool false) (by subst e_x38 e_x37; kernel_rfl) (by rw [show exBin .neq (.int .i64 v30) (.int .i64 (0 : Int)) = some (.bool (v30 != (0 : Int))) from by kernel_rfl,← e_b35])) (by kernel_rfl) (by subst e_x38 e_x37; kernel_rfl),⟨QF_at (i:=6) (d:=91) (x:=.lf (.ep (.slice A10 (v8.length) c11) 1 ((x25).toNat) 0)) (show OpAt _ _ _ 6 91 _ from by exact At_idxI (d:=91) (z:=x25) (by subst e_x38 e_x37; kernel_rfl) g36 fA10) (by kernel_rfl) (by subst e_x38 e_x37; kernel_rfl),⟨QF_at (i:=7) (d:=92) (x:=vi x37) (show OpAt _ _ _ 7 92 _ from by rw [e_x37]; exact At_ldI (d:=92) (q:=(x25).toNat) (by subst e_x38 e_x37; kernel_rfl) (toNat_lt g36) fA10) (by kernel_rfl) (by subst e_x38 e_x37; kernel_rfl),⟨QF_at (i:=10) (d:=95) (x:=vb true) (show OpAt _ _ _ 10 95 _ from by exact At_bin (d:=95) (b:=.lss) (u:=.int .i64 x37) (v:=.int .i64 x38) (w':=.bool true) (by subst e_x38 e_x37; kernel_rfl) (by rw [show exBin .lss (.int .i64 x37) (.int .i64 x38) = some (.bool (decide (x37 < x38))) from by kernel_rfl,← e_b39])) (by kernel_rfl) (by subst e_x38 e_x37; kernel_rfl),trivial⟩⟩⟩⟩) ?_
           refine thenQ_n ?_
           exact ⟨true,keep_sub (ts:=[3,5,11,14,16,18,106]) (hs:=[5,11,18]) (vs:=[]) (by subst e_x38 e_x37;kernel_rfl),h⟩
          | false =>
           replace h := sp_f h
           obtain ⟨g40,h⟩ := gd_some h
           obtain ⟨x41,e_x41,h⟩ := lt_some h
           obtain ⟨x42,e_x42,h⟩ := lt_some h
           obtain ⟨b43,e_b43,h⟩ := lt_some h
           refine T_draw' (id:=12) [] [0,0,0,0,0,0,0,0,0,0,0,0,0,0,0,0,0,0,0,0,0,0] (by kernel_rfl) (by kernel_rfl) (by kernel_rfl) (by kernel_rfl) [(85,vi v30),(86,vb false),(87,vb false),(88,.lf (.own 11 0)),(89,.lf (.v (.slice A10 (v8.length) c11))),(90,vi x25),(91,.lf (.ep (.slice A10 (v8.length) c11) 1 ((x25).toNat) 0)),(92,vi x37),(93,.lf (.own 17 0)),(94,vi x38),(95,vb false),(96,vb false),(97,vb false),(98,.lf (.own 11 0)),(99,.lf (.v (.slice A10 (v8.length) c11))),(100,vi x25),(101,.lf (.ep (.slice A10 (v8.length) c11) 1 ((x25).toNat) 0)),(102,vi x41),(103,.lf (.own 17 1)),(104,vi x42),(105,vb b43),(106,vb b43)] (by kernel_rfl) (wfs_lf _ (by kernel_rfl)) ?_
           refine Stage_nil (stage_all' [0,2,3,4,5,8,9,11,12,13,14,15,18,19,20,21] [1,6,7,10,16,17] (by kernel_rfl) (by subst_vars; kernel_rfl) (by kernel_rfl) ⟨QF_at (i:=1) (d:=86) (x:=vb false) (show OpAt _ _ _ 1 86 _ from by exact At_bin (d:=86) (b:=.neq) (u:=.int .i64 v30) (v:=.int .i64 (0 : Int)) (w':=.bool false) (by subst_vars; kernel_rfl) (by rw [show exBin .neq (.int .i64 v30) (.int .i64 (0 : Int)) = some (.bool (v30 != (0 : Int))) from by kernel_rfl,← e_b35])) (by kernel_rfl) (by subst_vars; kernel_rfl),⟨QF_at (i:=6) (d:=91) (x:=.lf (.ep (.slice A10 (v8.length) c11) 1 ((x25).toNat) 0)) (show OpAt _ _ _ 6 91 _ from by exact At_idxI (d:=91) (z:=x25) (by subst_vars; kernel_rfl) g36 fA10) (by kernel_rfl) (by subst_vars; kernel_rfl),⟨QF_at (i:=7) (d:=92) (x:=vi x37) (show OpAt _ _ _ 7 92 _ from by rw [e_x37]; exact At_ldI (d:=92) (q:=(x25).toNat) (by subst_vars; kernel_rfl) (toNat_lt g36) fA10) (by kernel_rfl) (by subst_vars; kernel_rfl),⟨QF_at (i:=10) (d:=95) (x:=vb false) (show OpAt _ _ _ 10 95 _ from by exact At_bin (d:=95) (b:=.lss) (u:=.int .i64 x37) (v:=.int .i64 x38) (w':=.bool false) (by subst_vars; kernel_rfl) (by rw [show exBin .lss (.int .i64 x37) (.int .i64 x38) = some (.bool (decide (x37 < x38))) from by kernel_rfl,← e_b39])) (by kernel_rfl) (by subst_vars; kernel_rfl),⟨QF_at (i:=16) (d:=101) (x:=.lf (.ep (.slice A10 (v8.length) c11) 1 ((x25).toNat) 0)) (show OpAt _ _ _ 16 101 _ from by exact At_idxI (d:=101) (z:=x25) (by subst_vars; kernel_rfl) g40 fA10) (by kernel_rfl) (by subst_vars; kernel_rfl),⟨QF_at (i:=17) (d:=102) (x:=vi x41) (show OpAt _ _ _ 17 102 _ from by rw [e_x41]; exact At_ldI (d:=102) (q:=(x25).toNat) (by subst_vars; kernel_rfl) (toNat_lt g40) fA10) (by kernel_rfl) (by subst_vars; kernel_rfl),trivial⟩⟩⟩⟩⟩⟩) ?_
           refine thenQ_n ?_
           exact ⟨b43,keep_sub (ts:=[3,5,11,14,16,18,106]) (hs:=[5,11,18]) (vs:=[]) (by subst_vars;kernel_rfl),h⟩
        ·rintro s' ⟨b33,hsub,h⟩
         subst e_j34
         refine T_sub hsub ?_
         cases b33 with
         | true =>
          replace h := sp_t h
          refine T_condT (x:=(.tmp 106)) (c1:=(sub [1,1,1,1,1,1,0,1,0,0,1,0,0,1,0,1,0] Bd7)) (c2:=(sub [1,1,1,1,1,1,0,1,0,0,1,0,0,1,0,1,1] Bd7)) (by kernel_rfl) (by kernel_rfl) ?_
          refine T_keep (s':={ σ := [],H := [],V := [],M := M14,ds := [] }) [] [] [] (by kernel_rfl) ?_
          refine T_seq (c1:=(sub [1,1,1,1,1,1,0,1,0,0,1,0,0,1,0,1,0,0] Bd7)) (c2:=(sub [1,1,1,1,1,1,0,1,0,0,1,0,0,1,0,1,0,1] Bd7)) (by kernel_rfl) ?_
          refine T_region (id:=13) (by kernel_rfl) ?_
          refine TI_segS (i:=0) (j:=1) [(10,vb false)] (by kernel_rfl) (by kernel_rfl) ?_
          refine TI_end (by kernel_rfl) ?_
          refine thenQ_n ?_
          refine T_ret (by kernel_rfl) ?_
          refine thenQ_r ?_
          refine blockQ_r ?_
          refine thenQ_r ?_
          refine thenQ_r ?_
          refine blockQ_r ?_
          refine thenQ_r ?_
          refine thenQ_r ?_
          have h := Option.some.inj h
          subst h
          refine fin_ret (vb false) (by kernel_rfl) (by kernel_rfl) rfl ?_
          rfl
         | false =>
          replace h := sp_f h
          refine T_condF (x:=(.tmp 106)) (c1:=(sub [1,1,1,1,1,1,0,1,0,0,1,0,0,1,0,1,0] Bd7)) (c2:=(sub [1,1,1,1,1,1,0,1,0,0,1,0,0,1,0,1,1] Bd7)) (by kernel_rfl) (by kernel_rfl) ?_
          refine T_keep (s':={ σ := [(3,vb u3),(5,.lf (.own 5 0)),(11,.lf (.own 11 0)),(14,vi v17),(16,vi x25),(18,.lf (.own 18 0))],H := [(5,[.one (.v (.slice Au0_0 (u0_0.length) cu0_0)),.arr .i64 4 u0_1]),(11,[.one (.v (.slice A10 (v8.length) c11)),.one (.v (.slice A12 (v9.length) c13))]),(18,[.arr .i64 8 v29])],V := [],M := M14,ds := [] }) [3,5,11,14,16,18] [5,11,18] [] (by kernel_rfl) ?_
          refine T_skip (by kernel_rfl) ?_
          refine thenQ_n ?_
          refine T_seq (c1:=(sub [1,1,1,1,1,1,0,1,0,0,1,0,0,1,1,0] Bd7)) (c2:=(sub [1,1,1,1,1,1,0,1,0,0,1,0,0,1,1,1] Bd7)) (by kernel_rfl) ?_
          refine T_region (id:=14) (by kernel_rfl) ?_
          refine TI_segS (i:=0) (j:=1) [(3,vb u3),(5,.lf (.own 5 0)),(11,.lf (.own 11 0)),(14,vi v17),(16,vi x25),(18,.lf (.own 18 0)),(20,vi (0 : Int))] (by kernel_rfl) (by kernel_rfl) ?_
          refine TI_end (by kernel_rfl) ?_
          refine thenQ_n ?_
          obtain ⟨j44,e_j44,h⟩ := jn_some h
          refine T_bcut (id:=2) (c1:=(sub [1,1,1,1,1,1,0,1,0,0,1,0,0,1,1,1,0] Bd7)) (fun s' => Sub { σ := [(3,vb u3),(5,.lf (.own 5 0)),(11,.lf (.own 11 0)),(14,vi v17),(16,vi x25)],H := [(5,[.one (.v (.slice Au0_0 (u0_0.length) cu0_0)),.arr .i64 4 u0_1]),(11,[.one (.v (.slice A10 (v8.length) c11)),.one (.v (.slice A12 (v9.length) c13))])],V := [],M := M14,ds := [] } s' ∧ j44 = some r) (by kernel_rfl) ?_ ?_
          ·refine T_loop (c1:=(sub [1,1,1,1,1,1,0,1,0,0,1,0,0,1,1,1,0,0] Bd7)) (by kernel_rfl) (fun n46 s' => ∃ (x45 : Int),Sub { σ := [(3,vb u3),(5,.lf (.own 5 0)),(11,.lf (.own 11 0)),(14,vi v17),(16,vi x25),(18,.lf (.own 18 0)),(20,vi x45)],H := [(5,[.one (.v (.slice Au0_0 (u0_0.length) cu0_0)),.arr .i64 4 u0_1]),(11,[.one (.v (.slice A10 (v8.length) c11)),.one (.v (.slice A12 (v9.length) c13))]),(18,[.arr .i64 8 v29])],V := [],M := M14,ds := [] } s' ∧ p7_l2 k x25 j44 v9 v29 n46 x45 = some r) (k:=k) ⟨(0 : Int),keep_sub (ts:=[3,5,11,14,16,18,20]) (hs:=[5,11,18]) (vs:=[]) (by kernel_rfl),h⟩ ?_
           rintro n46 s' ⟨x45,hsub,h⟩
           cases n46 with
           | zero => rw [p7_l2] at h;cases h
           | succ n46 =>
            rw [p7_l2] at h
            refine T_sub hsub ?_
            refine T_seq (c1:=(sub [1,1,1,1,1,1,0,1,0,0,1,0,0,1,1,1,0,0,0] Bd7)) (c2:=(sub [1,1,1,1,1,1,0,1,0,0,1,0,0,1,1,1,0,0,1] Bd7)) (by kernel_rfl) ?_
            refine T_seq (c1:=(sub [1,1,1,1,1,1,0,1,0,0,1,0,0,1,1,1,0,0,0,0] Bd7)) (c2:=(sub [1,1,1,1,1,1,0,1,0,0,1,0,0,1,1,1,0,0,0,1] Bd7)) (by kernel_rfl) ?_
            refine T_region (id:=15) (by kernel_rfl) ?_
            obtain ⟨b47,e_b47,h⟩ := lt_some h
            refine TI_segK (i:=0) (j:=2) (s':={ σ := [(3,vb u3),(5,.lf (.own 5 0)),(11,.lf (.own 11 0)),(14,vi v17),(16,vi x25),(18,.lf (.own 18 0)),(20,vi x45),(108,vb b47)],H := [(5,[.one (.v (.slice Au0_0 (u0_0.length) cu0_0)),.arr .i64 4 u0_1]),(11,[.one (.v (.slice A10 (v8.length) c11)),.one (.v (.slice A12 (v9.length) c13))]),(18,[.arr .i64 8 v29])],V := [],M := M14,ds := [] }) [3,5,11,14,16,18,20,108] [5,11,18] [] (by subst e_b47;kernel_rfl) (by kernel_rfl) ?_
            refine TI_end (by kernel_rfl) ?_
            refine thenQ_n ?_
            cases b47 with
            | true =>
             replace h := sp_t h
             refine T_condT (x:=(.tmp 108)) (c1:=(sub [1,1,1,1,1,1,0,1,0,0,1,0,0,1,1,1,0,0,0,1,0] Bd7)) (c2:=(sub [1,1,1,1,1,1,0,1,0,0,1,0,0,1,1,1,0,0,0,1,1] Bd7)) (by kernel_rfl) (by kernel_rfl) ?_
             refine T_keepS [(3,vb u3),(5,.lf (.own 5 0)),(11,.lf (.own 11 0)),(14,vi v17),(16,vi x25),(18,.lf (.own 18 0)),(20,vi x45)] (by kernel_rfl) ?_
             refine T_skip (by kernel_rfl) ?_
             refine thenQ_n ?_
             refine T_seq (c1:=(sub [1,1,1,1,1,1,0,1,0,0,1,0,0,1,1,1,0,0,1,0] Bd7)) (c2:=(sub [1,1,1,1,1,1,0,1,0,0,1,0,0,1,1,1,0,0,1,1] Bd7)) (by kernel_rfl) ?_
             refine T_block (id:=3) (c1:=(sub [1,1,1,1,1,1,0,1,0,0,1,0,0,1,1,1,0,0,1,0,0] Bd7)) (by kernel_rfl) ?_
             obtain ⟨j49,e_j49,h⟩ := jn_some h
             refine T_cut (c1:=(sub [1,1,1,1,1,1,0,1,0,0,1,0,0,1,1,1,0,0,1,0,0,0] Bd7)) (c2:=(sub [1,1,1,1,1,1,0,1,0,0,1,0,0,1,1,1,0,0,1,0,0,1] Bd7)) (fun s' => ∃ (b48 : Bool),Sub { σ := [(3,vb u3),(5,.lf (.own 5 0)),(11,.lf (.own 11 0)),(14,vi v17),(16,vi x25),(18,.lf (.own 18 0)),(20,vi x45),(136,vb b48)],H := [(5,[.one (.v (.slice Au0_0 (u0_0.length) cu0_0)),.arr .i64 4 u0_1]),(11,[.one (.v (.slice A10 (v8.length) c11)),.one (.v (.slice A12 (v9.length) c13))]),(18,[.arr .i64 8 v29])],V := [],M := M14,ds := [] } s' ∧ j49 b48 = some r) (by kernel_rfl) ?_ ?_
             ·obtain ⟨g50,h⟩ := gd_some h
              obtain ⟨g51,h⟩ := gd_some h
              obtain ⟨x52,e_x52,h⟩ := lt_some h
              obtain ⟨g53,h⟩ := gd_some h
              obtain ⟨x54,e_x54,h⟩ := lt_some h
              obtain ⟨b55,e_b55,h⟩ := lt_some h
              cases b55 with
              | true =>
               replace h := sp_t h
               refine T_draw' (id:=17) [] [0,0,0,0,0,0,0,0,0,0,0,0,0,0,0,0,0,0,0,0,0,0,0,0,0,0] (by kernel_rfl) (by kernel_rfl) (by kernel_rfl) (by kernel_rfl) [(111,.lf (.own 11 1)),(112,.lf (.v (.slice A12 (v9.length) c13))),(113,vi x25),(114,vi x45),(115,.lf (.ep (.slice A12 (v9.length) c13) 4 ((x25).toNat) 0)),(116,.lf (.ep (.slice A12 (v9.length) c13) 4 ((x25).toNat) (0 + (x45).toNat * 1))),(117,vi x52),(118,vi x45),(119,.lf (.oel 18 (0 + (x45).toNat * 2))),(120,.lf (.oel 18 (0 + (x45).toNat * 2 + 0))),(121,vi x54),(122,vb true),(123,vb true),(124,.tup []),(125,.tup []),(126,.tup []),(127,.tup []),(128,.tup []),(129,.tup []),(130,.tup []),(131,.tup []),(132,.tup []),(133,.tup []),(134,.tup []),(135,.tup []),(136,vb true)] (by kernel_rfl) ⟨trivial,⟨trivial,⟨trivial,⟨trivial,⟨trivial,⟨trivial,⟨trivial,⟨trivial,⟨trivial,⟨trivial,⟨trivial,⟨trivial,⟨trivial,⟨(by intro y hy;cases hy),⟨(by intro y hy;cases hy),⟨(by intro y hy;cases hy),⟨(by intro y hy;cases hy),⟨(by intro y hy;cases hy),⟨(by intro y hy;cases hy),⟨(by intro y hy;cases hy),⟨(by intro y hy;cases hy),⟨(by intro y hy;cases hy),⟨(by intro y hy;cases hy),⟨(by intro y hy;cases hy),⟨(by intro y hy;cases hy),⟨trivial,trivial⟩⟩⟩⟩⟩⟩⟩⟩⟩⟩⟩⟩⟩⟩⟩⟩⟩⟩⟩⟩⟩⟩⟩⟩⟩⟩ ?_
               refine Stage_nil (stage_all' [0,1,2,3,7,9,12,13,14,15,16,17,18,19,20,21,22,23,24,25] [4,5,6,8,10,11] (by kernel_rfl) (by subst e_x54 e_x52; kernel_rfl) (by kernel_rfl) ⟨QF_at (i:=4) (d:=115) (x:=.lf (.ep (.slice A12 (v9.length) c13) 4 ((x25).toNat) 0)) (show OpAt _ _ _ 4 115 _ from by exact At_idxR (d:=115) (z:=x25) (by subst e_x54 e_x52; kernel_rfl) g50 fA12) (by kernel_rfl) (by subst e_x54 e_x52; kernel_rfl),⟨QF_at (i:=5) (d:=116) (x:=.lf (.ep (.slice A12 (v9.length) c13) 4 ((x25).toNat) (0 + (x45).toNat * 1))) (show OpAt _ _ _ 5 116 _ from by exact At_idxE (d:=116) (z:=x45) (A:=(.slice A12 (v9.length) c13)) (sz:=4) (q:=(x25).toNat) (j:=0) (es:=1) (n:=4) (by subst e_x54 e_x52; kernel_rfl) g51) (by kernel_rfl) (by subst e_x54 e_x52; kernel_rfl),⟨QF_at (i:=6) (d:=117) (x:=vi x52) (show OpAt _ _ _ 6 117 _ from by rw [e_x52]; exact At_ldR1' (d:=117) (q:=(x25).toNat) (j:=0 + (x45).toNat * 1) (by subst e_x54 e_x52; kernel_rfl) (by omega) (toNat_lt g50) fA12) (by kernel_rfl) (by subst e_x54 e_x52; kernel_rfl),⟨QF_at (i:=8) (d:=119) (x:=.lf (.oel 18 (0 + (x45).toNat * 2))) (show OpAt _ _ _ 8 119 _ from by exact At_idxO (d:=119) (z:=x45) (b:=18) (off:=0) (sz:=2) (n:=4) (by subst e_x54 e_x52; kernel_rfl) g53) (by kernel_rfl) (by subst e_x54 e_x52; kernel_rfl),⟨QF_at (i:=10) (d:=121) (x:=vi x54) (show OpAt _ _ _ 10 121 _ from by rw [e_x54]; exact At_ldO1 (d:=121) (b:=18) (off:=0 + (x45).toNat * 2 + 0) (base:=0) (q:=0 + (x45).toNat * 2 + 0) (n:=8) (k:=.i64) (L:=v29) (by subst e_x54 e_x52; kernel_rfl) (by subst e_x54 e_x52; kernel_rfl) (by omega) (by omega)) (by kernel_rfl) (by subst e_x54 e_x52; kernel_rfl),⟨QF_at (i:=11) (d:=122) (x:=vb true) (show OpAt _ _ _ 11 122 _ from by exact At_bin (d:=122) (b:=.lss) (u:=.int .i64 x52) (v:=.int .i64 x54) (w':=.bool true) (by subst e_x54 e_x52; kernel_rfl) (by rw [show exBin .lss (.int .i64 x52) (.int .i64 x54) = some (.bool (decide (x52 < x54))) from by kernel_rfl,← e_b55])) (by kernel_rfl) (by subst e_x54 e_x52; kernel_rfl),trivial⟩⟩⟩⟩⟩⟩) ?_
               refine thenQ_n ?_
               exact ⟨true,keep_sub (ts:=[3,5,11,14,16,18,20,136]) (hs:=[5,11,18]) (vs:=[]) (by subst e_x54 e_x52;kernel_rfl),h⟩
              | false =>
               replace h := sp_f h
               obtain ⟨g56,h⟩ := gd_some h
               obtain ⟨g57,h⟩ := gd_some h
               obtain ⟨x58,e_x58,h⟩ := lt_some h
               obtain ⟨g59,h⟩ := gd_some h
               obtain ⟨x60,e_x60,h⟩ := lt_some h
               obtain ⟨b61,e_b61,h⟩ := lt_some h
               refine T_draw' (id:=17) [] [0,0,0,0,0,0,0,0,0,0,0,0,0,0,0,0,0,0,0,0,0,0,0,0,0,0] (by kernel_rfl) (by kernel_rfl) (by kernel_rfl) (by kernel_rfl) [(111,.lf (.own 11 1)),(112,.lf (.v (.slice A12 (v9.length) c13))),(113,vi x25),(114,vi x45),(115,.lf (.ep (.slice A12 (v9.length) c13) 4 ((x25).toNat) 0)),(116,.lf (.ep (.slice A12 (v9.length) c13) 4 ((x25).toNat) (0 + (x45).toNat * 1))),(117,vi x52),(118,vi x45),(119,.lf (.oel 18 (0 + (x45).toNat * 2))),(120,.lf (.oel 18 (0 + (x45).toNat * 2 + 0))),(121,vi x54),(122,vb false),(123,vb false),(124,.lf (.own 11 1)),(125,.lf (.v (.slice A12 (v9.length) c13))),(126,vi x25),(127,vi x45),(128,.lf (.ep (.slice A12 (v9.length) c13) 4 ((x25).toNat) 0)),(129,.lf (.ep (.slice A12 (v9.length) c13) 4 ((x25).toNat) (0 + (x45).toNat * 1))),(130,vi x58),(131,vi x45),(132,.lf (.oel 18 (0 + (x45).toNat * 2))),(133,.lf (.oel 18 (0 + (x45).toNat * 2 + 1))),(134,vi x60),(135,vb b61),(136,vb b61)] (by kernel_rfl) (wfs_lf _ (by kernel_rfl)) ?_
               refine Stage_nil (stage_all' [0,1,2,3,7,9,12,13,14,15,16,20,22,24,25] [4,5,6,8,10,11,17,18,19,21,23] (by kernel_rfl) (by subst_vars; kernel_rfl) (by kernel_rfl) ⟨QF_at (i:=4) (d:=115) (x:=.lf (.ep (.slice A12 (v9.length) c13) 4 ((x25).toNat) 0)) (show OpAt _ _ _ 4 115 _ from by exact At_idxR (d:=115) (z:=x25) (by subst_vars; kernel_rfl) g50 fA12) (by kernel_rfl) (by subst_vars; kernel_rfl),⟨QF_at (i:=5) (d:=116) (x:=.lf (.ep (.slice A12 (v9.length) c13) 4 ((x25).toNat) (0 + (x45).toNat * 1))) (show OpAt _ _ _ 5 116 _ from by exact At_idxE (d:=116) (z:=x45) (A:=(.slice A12 (v9.length) c13)) (sz:=4) (q:=(x25).toNat) (j:=0) (es:=1) (n:=4) (by subst_vars; kernel_rfl) g51) (by kernel_rfl) (by subst_vars; kernel_rfl),⟨QF_at (i:=6) (d:=117) (x:=vi x52) (show OpAt _ _ _ 6 117 _ from by rw [e_x52]; exact At_ldR1' (d:=117) (q:=(x25).toNat) (j:=0 + (x45).toNat * 1) (by subst_vars; kernel_rfl) (by omega) (toNat_lt g50) fA12) (by kernel_rfl) (by subst_vars; kernel_rfl),⟨QF_at (i:=8) (d:=119) (x:=.lf (.oel 18 (0 + (x45).toNat * 2))) (show OpAt _ _ _ 8 119 _ from by exact At_idxO (d:=119) (z:=x45) (b:=18) (off:=0) (sz:=2) (n:=4) (by subst_vars; kernel_rfl) g53) (by kernel_rfl) (by subst_vars; kernel_rfl),⟨QF_at (i:=10) (d:=121) (x:=vi x54) (show OpAt _ _ _ 10 121 _ from by rw [e_x54]; exact At_ldO1 (d:=121) (b:=18) (off:=0 + (x45).toNat * 2 + 0) (base:=0) (q:=0 + (x45).toNat * 2 + 0) (n:=8) (k:=.i64) (L:=v29) (by subst_vars; kernel_rfl) (by subst_vars; kernel_rfl) (by omega) (by omega)) (by kernel_rfl) (by subst_vars; kernel_rfl),⟨QF_at (i:=11) (d:=122) (x:=vb false) (show OpAt _ _ _ 11 122 _ from by exact At_bin (d:=122) (b:=.lss) (u:=.int .i64 x52) (v:=.int .i64 x54) (w':=.bool false) (by subst_vars; kernel_rfl) (by rw [show exBin .lss (.int .i64 x52) (.int .i64 x54) = some (.bool (decide (x52 < x54))) from by kernel_rfl,← e_b55])) (by kernel_rfl) (by subst_vars; kernel_rfl),⟨QF_at (i:=17) (d:=128) (x:=.lf (.ep (.slice A12 (v9.length) c13) 4 ((x25).toNat) 0)) (show OpAt _ _ _ 17 128 _ from by exact At_idxR (d:=128) (z:=x25) (by subst_vars; kernel_rfl) g56 fA12) (by kernel_rfl) (by subst_vars; kernel_rfl),⟨QF_at (i:=18) (d:=129) (x:=.lf (.ep (.slice A12 (v9.length) c13) 4 ((x25).toNat) (0 + (x45).toNat * 1))) (show OpAt _ _ _ 18 129 _ from by exact At_idxE (d:=129) (z:=x45) (A:=(.slice A12 (v9.length) c13)) (sz:=4) (q:=(x25).toNat) (j:=0) (es:=1) (n:=4) (by subst_vars; kernel_rfl) g57) (by kernel_rfl) (by subst_vars; kernel_rfl),⟨QF_at (i:=19) (d:=130) (x:=vi x58) (show OpAt _ _ _ 19 130 _ from by rw [e_x58]; exact At_ldR1' (d:=130) (q:=(x25).toNat) (j:=0 + (x45).toNat * 1) (by subst_vars; kernel_rfl) (by omega) (toNat_lt g56) fA12) (by kernel_rfl) (by subst_vars; kernel_rfl),⟨QF_at (i:=21) (d:=132) (x:=.lf (.oel 18 (0 + (x45).toNat * 2))) (show OpAt _ _ _ 21 132 _ from by exact At_idxO (d:=132) (z:=x45) (b:=18) (off:=0) (sz:=2) (n:=4) (by subst_vars; kernel_rfl) g59) (by kernel_rfl) (by subst_vars; kernel_rfl),⟨QF_at (i:=23) (d:=134) (x:=vi x60) (show OpAt _ _ _ 23 134 _ from by rw [e_x60]; exact At_ldO1 (d:=134) (b:=18) (off:=0 + (x45).toNat * 2 + 1) (base:=0) (q:=0 + (x45).toNat * 2 + 1) (n:=8) (k:=.i64) (L:=v29) (by subst_vars; kernel_rfl) (by subst_vars; kernel_rfl) (by omega) (by omega)) (by kernel_rfl) (by subst_vars; kernel_rfl),trivial⟩⟩⟩⟩⟩⟩⟩⟩⟩⟩⟩) ?_
               refine thenQ_n ?_
               exact ⟨b61,keep_sub (ts:=[3,5,11,14,16,18,20,136]) (hs:=[5,11,18]) (vs:=[]) (by subst_vars;kernel_rfl),h⟩
             ·rintro s' ⟨b48,hsub,h⟩
              subst e_j49
              refine T_sub hsub ?_
              cases b48 with
              | true =>
               replace h := sp_t h
               refine T_condT (x:=(.tmp 136)) (c1:=(sub [1,1,1,1,1,1,0,1,0,0,1,0,0,1,1,1,0,0,1,0,0,1,0] Bd7)) (c2:=(sub [1,1,1,1,1,1,0,1,0,0,1,0,0,1,1,1,0,0,1,0,0,1,1] Bd7)) (by kernel_rfl) (by kernel_rfl) ?_
               refine T_keep (s':={ σ := [],H := [],V := [],M := M14,ds := [] }) [] [] [] (by kernel_rfl) ?_
               refine T_seq (c1:=(sub [1,1,1,1,1,1,0,1,0,0,1,0,0,1,1,1,0,0,1,0,0,1,0,0] Bd7)) (c2:=(sub [1,1,1,1,1,1,0,1,0,0,1,0,0,1,1,1,0,0,1,0,0,1,0,1] Bd7)) (by kernel_rfl) ?_
               refine T_region (id:=18) (by kernel_rfl) ?_
               refine TI_segS (i:=0) (j:=1) [(10,vb false)] (by kernel_rfl) (by kernel_rfl) ?_
               refine TI_end (by kernel_rfl) ?_
               refine thenQ_n ?_
               refine T_ret (by kernel_rfl) ?_
               refine blockQ_r ?_
               refine thenQ_r ?_
               refine thenQ_r ?_
               refine blockQ_r ?_
               refine thenQ_r ?_
               refine blockQ_r ?_
               refine thenQ_r ?_
               refine thenQ_r ?_
               refine blockQ_r ?_
               refine thenQ_r ?_
               refine thenQ_r ?_
               have h := Option.some.inj h
               subst h
               refine fin_ret (vb false) (by kernel_rfl) (by kernel_rfl) rfl ?_
               rfl
              | false =>
               replace h := sp_f h
               refine T_condF (x:=(.tmp 136)) (c1:=(sub [1,1,1,1,1,1,0,1,0,0,1,0,0,1,1,1,0,0,1,0,0,1,0] Bd7)) (c2:=(sub [1,1,1,1,1,1,0,1,0,0,1,0,0,1,1,1,0,0,1,0,0,1,1] Bd7)) (by kernel_rfl) (by kernel_rfl) ?_
               refine T_keep (s':={ σ := [(3,vb u3),(5,.lf (.own 5 0)),(11,.lf (.own 11 0)),(14,vi v17),(16,vi x25),(18,.lf (.own 18 0)),(20,vi x45)],H := [(5,[.one (.v (.slice Au0_0 (u0_0.length) cu0_0)),.arr .i64 4 u0_1]),(11,[.one (.v (.slice A10 (v8.length) c11)),.one (.v (.slice A12 (v9.length) c13))]),(18,[.arr .i64 8 v29])],V := [],M := M14,ds := [] }) [3,5,11,14,16,18,20] [5,11,18] [] (by kernel_rfl) ?_
               refine T_skip (by kernel_rfl) ?_
               refine blockQ_n ?_
               refine thenQ_n ?_
               refine T_region (id:=16) (by kernel_rfl) ?_
               obtain ⟨x62,e_x62,h⟩ := lt_some h
               refine TI_segS (i:=0) (j:=3) [(3,vb u3),(5,.lf (.own 5 0)),(11,.lf (.own 11 0)),(14,vi v17),(16,vi x25),(18,.lf (.own 18 0)),(20,vi x62)] (by subst e_x62;kernel_rfl) (by kernel_rfl) ?_
               refine TI_end (by kernel_rfl) ?_
               refine thenQ_n ?_
               exact ⟨n46,Nat.lt_succ_self _,x62,keep_sub (ts:=[3,5,11,14,16,18,20]) (hs:=[5,11,18]) (vs:=[]) (by kernel_rfl),h⟩
            | false =>
             replace h := sp_f h
             refine T_condF (x:=(.tmp 108)) (c1:=(sub [1,1,1,1,1,1,0,1,0,0,1,0,0,1,1,1,0,0,0,1,0] Bd7)) (c2:=(sub [1,1,1,1,1,1,0,1,0,0,1,0,0,1,1,1,0,0,0,1,1] Bd7)) (by kernel_rfl) (by kernel_rfl) ?_
             refine T_keep (s':={ σ := [(3,vb u3),(5,.lf (.own 5 0)),(11,.lf (.own 11 0)),(14,vi v17),(16,vi x25)],H := [(5,[.one (.v (.slice Au0_0 (u0_0.length) cu0_0)),.arr .i64 4 u0_1]),(11,[.one (.v (.slice A10 (v8.length) c11)),.one (.v (.slice A12 (v9.length) c13))])],V := [],M := M14,ds := [] }) [3,5,11,14,16] [5,11] [] (by kernel_rfl) ?_
             refine T_exit (id:=2) (by kernel_rfl) ?_
             refine thenQ_x ?_
             refine thenQ_x ?_
             refine blockQ_x ?_
             refine thenQ_n ?_
             exact ⟨keep_sub (ts:=[3,5,11,14,16]) (hs:=[5,11]) (vs:=[]) (by kernel_rfl),h⟩
          ·rintro s' ⟨hsub,h⟩
           subst e_j44
           refine blockQ_n ?_
           refine thenQ_n ?_
           refine T_sub hsub ?_
           refine T_region (id:=10) (by kernel_rfl) ?_
           obtain ⟨x63,e_x63,h⟩ := lt_some h
           refine TI_segK (i:=0) (j:=3) (s':={ σ := [(3,vb u3),(5,.lf (.own 5 0)),(11,.lf (.own 11 0)),(14,vi v17),(16,vi x63)],H := [(5,[.one (.v (.slice Au0_0 (u0_0.length) cu0_0)),.arr .i64 4 u0_1]),(11,[.one (.v (.slice A10 (v8.length) c11)),.one (.v (.slice A12 (v9.length) c13))])],V := [],M := M14,ds := [] }) [3,5,11,14,16] [5,11] [] (by subst e_x63;kernel_rfl) (by kernel_rfl) ?_
           refine TI_end (by kernel_rfl) ?_
           refine thenQ_n ?_
           exact ⟨n26,Nat.lt_succ_self _,x63,keep_sub (ts:=[3,5,11,14,16]) (hs:=[5,11]) (vs:=[]) (by kernel_rfl),h⟩
       | false =>
        replace h := sp_f h
        refine T_condF (x:=(.tmp 75)) (c1:=(sub [1,1,1,1,1,1,0,1,0,0,0,1,0] Bd7)) (c2:=(sub [1,1,1,1,1,1,0,1,0,0,0,1,1] Bd7)) (by kernel_rfl) (by kernel_rfl) ?_
        refine T_keep (s':={ σ := [(3,vb u3),(5,.lf (.own 5 0)),(14,vi v17)],H := [(5,[.one (.v (.slice Au0_0 (u0_0.length) cu0_0)),.arr .i64 4 u0_1])],V := [],M := M14,ds := [] }) [3,5,14] [5] [] (by kernel_rfl) ?_
        refine T_exit (id:=0) (by kernel_rfl) ?_
        refine thenQ_x ?_
        refine thenQ_x ?_
        refine blockQ_x ?_
        refine thenQ_n ?_
        exact ⟨keep_sub (ts:=[3,5,14]) (hs:=[5]) (vs:=[]) (by kernel_rfl),h⟩
     ·rintro s' ⟨hsub,h⟩
      subst e_j24
      refine thenQ_n ?_
      refine T_sub hsub ?_
      refine T_seq (c1:=(sub [1,1,1,1,1,1,1,0] Bd7)) (c2:=(sub [1,1,1,1,1,1,1,1] Bd7)) (by kernel_rfl) ?_
      refine T_region (id:=19) (by kernel_rfl) ?_
      refine TI_segK (i:=0) (j:=1) (s':={ σ := [(3,vb u3),(5,.lf (.own 5 0)),(14,vi v17),(21,.lf (.own 21 0))],H := [(5,[.one (.v (.slice Au0_0 (u0_0.length) cu0_0)),.arr .i64 4 u0_1]),(21,[.one (.v (.slice none (List.length ([] : List Int)) 0)),.one (.v (.slice none (List.length ([] : List (List Int))) 0))])],V := [],M := M14,ds := [] }) [3,5,14,21] [5,21] [] (by kernel_rfl) (by kernel_rfl) ?_
      refine TI_end (by kernel_rfl) ?_
      refine thenQ_n ?_
      refine T_turn (turn_nil 5064 2 1 [(3,vb u3),(5,.lf (.own 5 0)),(14,vi v17),(21,.lf (.own 21 0))] [(5,[.one (.v (.slice Au0_0 (u0_0.length) cu0_0)),.arr .i64 4 u0_1]),(21,[.one (.vec 5064),.one (.v (.slice none (List.length ([] : List (List Int))) 0))])] (by kernel_rfl) (by kernel_rfl) (by kernel_rfl)) ?_
      rintro _ rfl
      refine T_turn (turn_nil 5065 23 4 [(3,vb u3),(5,.lf (.own 5 0)),(14,vi v17),(21,.lf (.own 21 0))] [(5,[.one (.v (.slice Au0_0 (u0_0.length) cu0_0)),.arr .i64 4 u0_1]),(21,[.one (.vec 5064),.one (.vec 5065)])] (by kernel_rfl) (by kernel_rfl) (by kernel_rfl)) ?_
      rintro _ rfl
      refine T_keep (s':={ σ := [(3,vb u3),(5,.lf (.own 5 0)),(14,vi v17),(21,.lf (.own 21 0))],H := [(5,[.one (.v (.slice Au0_0 (u0_0.length) cu0_0)),.arr .i64 4 u0_1]),(21,[.one (.vec 5064),.one (.vec 5065)])],V := [(5064,⟨2,1,List.length ([] : List Int),ints .i64 ([] : List Int)⟩),(5065,⟨23,4,List.length ([] : List (List Int)),rowsC .i64 ([] : List (List Int))⟩)],M := M14,ds := [] }) [3,5,14,21] [5,21] [5064,5065] (by kernel_rfl) ?_
      refine T_seq (c1:=(sub [1,1,1,1,1,1,1,1,0] Bd7)) (c2:=(sub [1,1,1,1,1,1,1,1,1] Bd7)) (by kernel_rfl) ?_
      refine T_seq (c1:=(sub [1,1,1,1,1,1,1,1,0,0] Bd7)) (c2:=(sub [1,1,1,1,1,1,1,1,0,1] Bd7)) (by kernel_rfl) ?_
      refine T_region (id:=20) (by kernel_rfl) ?_
      refine TI_segS (i:=0) (j:=1) [(3,vb u3),(5,.lf (.own 5 0)),(14,vi v17),(21,.lf (.own 21 0)),(22,vi (0 : Int))] (by kernel_rfl) (by kernel_rfl) ?_
      refine TI_end (by kernel_rfl) ?_
      refine thenQ_n ?_
      obtain ⟨j68,e_j68,h⟩ := jn_some h
      refine T_bcut (id:=4) (c1:=(sub [1,1,1,1,1,1,1,1,0,1,0] Bd7)) (fun s' => ∃ (L66 : List Int) (R67 : List (List Int)),Sub { σ := [(5,.lf (.own 5 0)),(21,.lf (.own 21 0))],H := [(5,[.one (.v (.slice Au0_0 (u0_0.length) cu0_0)),.arr .i64 4 u0_1]),(21,[.one (.vec 5064),.one (.vec 5065)])],V := [(5064,⟨2,1,List.length L66,ints .i64 L66⟩),(5065,⟨23,4,List.length R67,rowsC .i64 R67⟩)],M := M14,ds := [] } s' ∧ (∀ r ∈ R67,r.length = 4) ∧ j68 L66 R67 = some r) (by kernel_rfl) ?_ ?_
      ·refine T_loop (c1:=(sub [1,1,1,1,1,1,1,1,0,1,0,0] Bd7)) (by kernel_rfl) (fun n73 s' => ∃ (b69 : Bool) (x70 : Int) (L71 : List Int) (R72 : List (List Int)),Sub { σ := [(3,vb b69),(5,.lf (.own 5 0)),(14,vi v17),(21,.lf (.own 21 0)),(22,vi x70)],H := [(5,[.one (.v (.slice Au0_0 (u0_0.length) cu0_0)),.arr .i64 4 u0_1]),(21,[.one (.vec 5064),.one (.vec 5065)])],V := [(5064,⟨2,1,List.length L71,ints .i64 L71⟩),(5065,⟨23,4,List.length R72,rowsC .i64 R72⟩)],M := M14,ds := [] } s' ∧ (∀ r ∈ R72,r.length = 4) ∧ p7_l3 k u0_0 u0_1 j68 v17 n73 b69 x70 L71 R72 = some r) (k:=k) ⟨u3,(0 : Int),([] : List Int),([] : List (List Int)),keep_sub (ts:=[3,5,14,21,22]) (hs:=[5,21]) (vs:=[5064,5065]) (by kernel_rfl),rows_nil,h⟩ ?_
       rintro n73 s' ⟨b69,x70,L71,R72,hsub,r_R72,h⟩
       cases n73 with
       | zero => rw [p7_l3] at h;cases h
       | succ n73 =>
        rw [p7_l3] at h
        refine T_sub hsub ?_
        refine T_seq (c1:=(sub [1,1,1,1,1,1,1,1,0,1,0,0,0] Bd7)) (c2:=(sub [1,1,1,1,1,1,1,1,0,1,0,0,1] Bd7)) (by kernel_rfl) ?_
        refine T_seq (c1:=(sub [1,1,1,1,1,1,1,1,0,1,0,0,0,0] Bd7)) (c2:=(sub [1,1,1,1,1,1,1,1,0,1,0,0,0,1] Bd7)) (by kernel_rfl) ?_
        refine T_region (id:=21) (by kernel_rfl) ?_
        obtain ⟨b74,e_b74,h⟩ := lt_some h
        refine TI_segK (i:=0) (j:=3) (s':={ σ := [(3,vb b69),(5,.lf (.own 5 0)),(14,vi v17),(21,.lf (.own 21 0)),(22,vi x70),(139,vb b74)],H := [(5,[.one (.v (.slice Au0_0 (u0_0.length) cu0_0)),.arr .i64 4 u0_1]),(21,[.one (.vec 5064),.one (.vec 5065)])],V := [(5064,⟨2,1,List.length L71,ints .i64 L71⟩),(5065,⟨23,4,List.length R72,rowsC .i64 R72⟩)],M := M14,ds := [] }) [3,5,14,21,22,139] [5,21] [5064,5065] (by subst e_b74;kernel_rfl) (by kernel_rfl) ?_
        refine TI_end (by kernel_rfl) ?_
        refine thenQ_n ?_
        cases b74 with
        | true =>
         replace h := sp_t h
         refine T_condT (x:=(.tmp 139)) (c1:=(sub [1,1,1,1,1,1,1,1,0,1,0,0,0,1,0] Bd7)) (c2:=(sub [1,1,1,1,1,1,1,1,0,1,0,0,0,1,1] Bd7)) (by kernel_rfl) (by kernel_rfl) ?_
         refine T_keepS [(3,vb b69),(5,.lf (.own 5 0)),(14,vi v17),(21,.lf (.own 21 0)),(22,vi x70)] (by kernel_rfl) ?_
         refine T_skip (by kernel_rfl) ?_
         refine thenQ_n ?_
         refine T_seq (c1:=(sub [1,1,1,1,1,1,1,1,0,1,0,0,1,0] Bd7)) (c2:=(sub [1,1,1,1,1,1,1,1,0,1,0,0,1,1] Bd7)) (by kernel_rfl) ?_
         refine T_block (id:=5) (c1:=(sub [1,1,1,1,1,1,1,1,0,1,0,0,1,0,0] Bd7)) (by kernel_rfl) ?_
         refine T_seq (c1:=(sub [1,1,1,1,1,1,1,1,0,1,0,0,1,0,0,0] Bd7)) (c2:=(sub [1,1,1,1,1,1,1,1,0,1,0,0,1,0,0,1] Bd7)) (by kernel_rfl) ?_
         refine T_region (id:=23) (by kernel_rfl) ?_
         refine TI_segS (i:=0) (j:=2) [(3,vb b69),(5,.lf (.own 5 0)),(14,vi v17),(21,.lf (.own 21 0)),(22,vi x70),(143,.agg [.one (.v (.slice Au0_0 (u0_0.length) cu0_0)),.arr .i64 4 u0_1]),(144,vi x70)] (by kernel_rfl) (by kernel_rfl) ?_
         obtain ⟨v75,v76,v77,c_v75,h⟩ := cl3_some h
         obtain ⟨g78,h⟩ := gd_some h
         obtain ⟨g79,h⟩ := gd_some h
         refine TI_at (i:=2) (d:=145) (x:=.tup [(none,[.arr .i64 2 v75]),(none,[.arr .i64 8 v76]),(some (.v (.int .i64 v77)),[])]) (At_call (d:=145) (f:=24) (args:=[rval (.agg [.one (.v (.slice Au0_0 (u0_0.length) cu0_0)),.arr .i64 4 u0_1]),rval (vi x70)]) (x:=.tup [(none,[.arr .i64 2 v75]),(none,[.arr .i64 8 v76]),(some (.v (.int .i64 v77)),[])]) (by kernel_rfl) (w24 k (hu0_0.le hM14) hu0_1 c_v75)) (by kernel_rfl) (by intro y hy; simp only [List.mem_cons,List.mem_nil_iff,or_false] at hy; rcases hy with rfl | rfl | rfl <;> first | exact trivial | exact ⟨g78,trivial⟩ | exact ⟨g79,trivial⟩) ?_
         refine TI_segK (i:=3) (j:=12) (s':={ σ := [(3,vb b69),(5,.lf (.own 5 0)),(14,vi v17),(21,.lf (.own 21 0)),(22,vi x70),(23,.lf (.own 23 0)),(24,.lf (.own 24 0))],H := [(5,[.one (.v (.slice Au0_0 (u0_0.length) cu0_0)),.arr .i64 4 u0_1]),(21,[.one (.vec 5064),.one (.vec 5065)]),(23,[.arr .i64 2 v75]),(24,[.arr .i64 8 v76])],V := [(5064,⟨2,1,List.length L71,ints .i64 L71⟩),(5065,⟨23,4,List.length R72,rowsC .i64 R72⟩)],M := M14,ds := [] }) [3,5,14,21,22,23,24] [5,21,23,24] [5064,5065] (by kernel_rfl) (by kernel_rfl) ?_
         refine TI_end (by kernel_rfl) ?_
         refine thenQ_n ?_
         refine T_seq (c1:=(sub [1,1,1,1,1,1,1,1,0,1,0,0,1,0,0,1,0] Bd7)) (c2:=(sub [1,1,1,1,1,1,1,1,0,1,0,0,1,0,0,1,1] Bd7)) (by kernel_rfl) ?_
         refine T_region (id:=24) (by kernel_rfl) ?_
         refine TI_segK (i:=0) (j:=1) (s':={ σ := [(3,vb b69),(5,.lf (.own 5 0)),(14,vi v17),(21,.lf (.own 21 0)),(22,vi x70),(23,.lf (.own 23 0)),(24,.lf (.own 24 0)),(26,.lf (.own 26 0))],H := [(5,[.one (.v (.slice Au0_0 (u0_0.length) cu0_0)),.arr .i64 4 u0_1]),(21,[.one (.vec 5064),.one (.vec 5065)]),(23,[.arr .i64 2 v75]),(24,[.arr .i64 8 v76]),(26,[.arr .i64 4 [(0 : Int),(0 : Int),(0 : Int),(0 : Int)]])],V := [(5064,⟨2,1,List.length L71,ints .i64 L71⟩),(5065,⟨23,4,List.length R72,rowsC .i64 R72⟩)],M := M14,ds := [] }) [3,5,14,21,22,23,24,26] [5,21,23,24,26] [5064,5065] (by kernel_rfl) (by kernel_rfl) ?_
         refine TI_end (by kernel_rfl) ?_
         refine thenQ_n ?_
         refine T_seq (c1:=(sub [1,1,1,1,1,1,1,1,0,1,0,0,1,0,0,1,1,0] Bd7)) (c2:=(sub [1,1,1,1,1,1,1,1,0,1,0,0,1,0,0,1,1,1] Bd7)) (by kernel_rfl) ?_
         refine T_seq (c1:=(sub [1,1,1,1,1,1,1,1,0,1,0,0,1,0,0,1,1,0,0] Bd7)) (c2:=(sub [1,1,1,1,1,1,1,1,0,1,0,0,1,0,0,1,1,0,1] Bd7)) (by kernel_rfl) ?_
         refine T_region (id:=25) (by kernel_rfl) ?_
         refine TI_segS (i:=0) (j:=1) [(3,vb b69),(5,.lf (.own 5 0)),(14,vi v17),(21,.lf (.own 21 0)),(22,vi x70),(23,.lf (.own 23 0)),(24,.lf (.own 24 0)),(26,.lf (.own 26 0)),(27,vi (0 : Int))] (by kernel_rfl) (by kernel_rfl) ?_
         refine TI_end (by kernel_rfl) ?_
         refine thenQ_n ?_
         obtain ⟨j82,e_j82,h⟩ := jn_some h
         refine T_bcut (id:=6) (c1:=(sub [1,1,1,1,1,1,1,1,0,1,0,0,1,0,0,1,1,0,1,0] Bd7)) (fun s' => ∃ (b80 : Bool) (L81 : List Int),Sub { σ := [(3,vb b80),(5,.lf (.own 5 0)),(14,vi v17),(21,.lf (.own 21 0)),(22,vi x70),(23,.lf (.own 23 0)),(26,.lf (.own 26 0))],H := [(5,[.one (.v (.slice Au0_0 (u0_0.length) cu0_0)),.arr .i64 4 u0_1]),(21,[.one (.vec 5064),.one (.vec 5065)]),(23,[.arr .i64 2 v75]),(26,[.arr .i64 4 L81])],V := [(5064,⟨2,1,List.length L71,ints .i64 L71⟩),(5065,⟨23,4,List.length R72,rowsC .i64 R72⟩)],M := M14,ds := [] } s' ∧ (L81).length = 4 ∧ j82 b80 L81 = some r) (by kernel_rfl) ?_ ?_
         ·refine T_loop (c1:=(sub [1,1,1,1,1,1,1,1,0,1,0,0,1,0,0,1,1,0,1,0,0] Bd7)) (by kernel_rfl) (fun n86 s' => ∃ (b83 : Bool) (x84 : Int) (L85 : List Int),Sub { σ := [(3,vb b83),(5,.lf (.own 5 0)),(14,vi v17),(21,.lf (.own 21 0)),(22,vi x70),(23,.lf (.own 23 0)),(24,.lf (.own 24 0)),(26,.lf (.own 26 0)),(27,vi x84)],H := [(5,[.one (.v (.slice Au0_0 (u0_0.length) cu0_0)),.arr .i64 4 u0_1]),(21,[.one (.vec 5064),.one (.vec 5065)]),(23,[.arr .i64 2 v75]),(24,[.arr .i64 8 v76]),(26,[.arr .i64 4 L85])],V := [(5064,⟨2,1,List.length L71,ints .i64 L71⟩),(5065,⟨23,4,List.length R72,rowsC .i64 R72⟩)],M := M14,ds := [] } s' ∧ (L85).length = 4 ∧ p7_l4 k j82 v76 n86 b83 x84 L85 = some r) (k:=k) ⟨b69,(0 : Int),([(0 : Int),(0 : Int),(0 : Int),(0 : Int)]),keep_sub (ts:=[3,5,14,21,22,23,24,26,27]) (hs:=[5,21,23,24,26]) (vs:=[5064,5065]) (by kernel_rfl),rfl,h⟩ ?_
          rintro n86 s' ⟨b83,x84,L85,hsub,l_L85,h⟩
          cases n86 with
          | zero => rw [p7_l4] at h;cases h
          | succ n86 =>
           rw [p7_l4] at h
           refine T_sub hsub ?_
           refine T_seq (c1:=(sub [1,1,1,1,1,1,1,1,0,1,0,0,1,0,0,1,1,0,1,0,0,0] Bd7)) (c2:=(sub [1,1,1,1,1,1,1,1,0,1,0,0,1,0,0,1,1,0,1,0,0,1] Bd7)) (by kernel_rfl) ?_
           refine T_seq (c1:=(sub [1,1,1,1,1,1,1,1,0,1,0,0,1,0,0,1,1,0,1,0,0,0,0] Bd7)) (c2:=(sub [1,1,1,1,1,1,1,1,0,1,0,0,1,0,0,1,1,0,1,0,0,0,1] Bd7)) (by kernel_rfl) ?_
           refine T_region (id:=26) (by kernel_rfl) ?_
           obtain ⟨b87,e_b87,h⟩ := lt_some h
           refine TI_segK (i:=0) (j:=2) (s':={ σ := [(3,vb b83),(5,.lf (.own 5 0)),(14,vi v17),(21,.lf (.own 21 0)),(22,vi x70),(23,.lf (.own 23 0)),(24,.lf (.own 24 0)),(26,.lf (.own 26 0)),(27,vi x84),(150,vb b87)],H := [(5,[.one (.v (.slice Au0_0 (u0_0.length) cu0_0)),.arr .i64 4 u0_1]),(21,[.one (.vec 5064),.one (.vec 5065)]),(23,[.arr .i64 2 v75]),(24,[.arr .i64 8 v76]),(26,[.arr .i64 4 L85])],V := [(5064,⟨2,1,List.length L71,ints .i64 L71⟩),(5065,⟨23,4,List.length R72,rowsC .i64 R72⟩)],M := M14,ds := [] }) [3,5,14,21,22,23,24,26,27,150] [5,21,23,24,26] [5064,5065] (by subst e_b87;kernel_rfl) (by kernel_rfl) ?_
           refine TI_end (by kernel_rfl) ?_
           refine thenQ_n ?_
           cases b87 with
           | true =>
            replace h := sp_t h
            refine T_condT (x:=(.tmp 150)) (c1:=(sub [1,1,1,1,1,1,1,1,0,1,0,0,1,0,0,1,1,0,1,0,0,0,1,0] Bd7)) (c2:=(sub [1,1,1,1,1,1,1,1,0,1,0,0,1,0,0,1,1,0,1,0,0,0,1,1] Bd7)) (by kernel_rfl) (by kernel_rfl) ?_
            refine T_keepS [(3,vb b83),(5,.lf (.own 5 0)),(14,vi v17),(21,.lf (.own 21 0)),(22,vi x70),(23,.lf (.own 23 0)),(24,.lf (.own 24 0)),(26,.lf (.own 26 0)),(27,vi x84)] (by kernel_rfl) ?_
            refine T_skip (by kernel_rfl) ?_
            refine thenQ_n ?_
            obtain ⟨j90,e_j90,h⟩ := jn_some h
            refine T_cut (c1:=(sub [1,1,1,1,1,1,1,1,0,1,0,0,1,0,0,1,1,0,1,0,0,1,0] Bd7)) (c2:=(sub [1,1,1,1,1,1,1,1,0,1,0,0,1,0,0,1,1,0,1,0,0,1,1] Bd7)) (fun s' => ∃ (b88 : Bool) (L89 : List Int),Sub { σ := [(3,vb b88),(5,.lf (.own 5 0)),(14,vi v17),(21,.lf (.own 21 0)),(22,vi x70),(23,.lf (.own 23 0)),(24,.lf (.own 24 0)),(26,.lf (.own 26 0)),(27,vi x84)],H := [(5,[.one (.v (.slice Au0_0 (u0_0.length) cu0_0)),.arr .i64 4 u0_1]),(21,[.one (.vec 5064),.one (.vec 5065)]),(23,[.arr .i64 2 v75]),(24,[.arr .i64 8 v76]),(26,[.arr .i64 4 L89])],V := [(5064,⟨2,1,List.length L71,ints .i64 L71⟩),(5065,⟨23,4,List.length R72,rowsC .i64 R72⟩)],M := M14,ds := [] } s' ∧ (L89).length = 4 ∧ j90 b88 L89 = some r) (by kernel_rfl) ?_ ?_
            ·refine T_block (id:=7) (c1:=(sub [1,1,1,1,1,1,1,1,0,1,0,0,1,0,0,1,1,0,1,0,0,1,0,0] Bd7)) (by kernel_rfl) ?_
             refine T_seq (c1:=(sub [1,1,1,1,1,1,1,1,0,1,0,0,1,0,0,1,1,0,1,0,0,1,0,0,0] Bd7)) (c2:=(sub [1,1,1,1,1,1,1,1,0,1,0,0,1,0,0,1,1,0,1,0,0,1,0,0,1] Bd7)) (by kernel_rfl) ?_
             refine T_region (id:=28) (by kernel_rfl) ?_
             refine TI_segK (i:=0) (j:=2) (s':={ σ := [(3,vb b83),(5,.lf (.own 5 0)),(14,vi v17),(21,.lf (.own 21 0)),(22,vi x70),(23,.lf (.own 23 0)),(24,.lf (.own 24 0)),(26,.lf (.own 26 0)),(27,vi x84),(153,vi x84),(154,vi x84)],H := [(5,[.one (.v (.slice Au0_0 (u0_0.length) cu0_0)),.arr .i64 4 u0_1]),(21,[.one (.vec 5064),.one (.vec 5065)]),(23,[.arr .i64 2 v75]),(24,[.arr .i64 8 v76]),(26,[.arr .i64 4 L85])],V := [(5064,⟨2,1,List.length L71,ints .i64 L71⟩),(5065,⟨23,4,List.length R72,rowsC .i64 R72⟩)],M := M14,ds := [] }) [3,5,14,21,22,23,24,26,27,153,154] [5,21,23,24,26] [5064,5065] (by kernel_rfl) (by kernel_rfl) ?_
             obtain ⟨g91,h⟩ := gd_some h
             refine TI_at (i:=2) (d:=155) (x:=.lf (.oel 24 (0 + (x84).toNat * 2))) (by exact At_idxO (d:=155) (z:=x84) (b:=24) (off:=0) (sz:=2) (n:=4) (by kernel_rfl) g91) (by kernel_rfl) trivial ?_
             refine TI_segK (i:=3) (j:=4) (s':={ σ := [(3,vb b83),(5,.lf (.own 5 0)),(14,vi v17),(21,.lf (.own 21 0)),(22,vi x70),(23,.lf (.own 23 0)),(24,.lf (.own 24 0)),(26,.lf (.own 26 0)),(27,vi x84),(153,vi x84),(156,.lf (.oel 24 (0 + (x84).toNat * 2 + 0)))],H := [(5,[.one (.v (.slice Au0_0 (u0_0.length) cu0_0)),.arr .i64 4 u0_1]),(21,[.one (.vec 5064),.one (.vec 5065)]),(23,[.arr .i64 2 v75]),(24,[.arr .i64 8 v76]),(26,[.arr .i64 4 L85])],V := [(5064,⟨2,1,List.length L71,ints .i64 L71⟩),(5065,⟨23,4,List.length R72,rowsC .i64 R72⟩)],M := M14,ds := [] }) [3,5,14,21,22,23,24,26,27,153,156] [5,21,23,24,26] [5064,5065] (by kernel_rfl) (by kernel_rfl) ?_
             obtain ⟨x92,e_x92,h⟩ := lt_some h
             refine TI_at (i:=4) (d:=157) (x:=vi x92) (by rw [e_x92]; exact At_ldO1 (d:=157) (b:=24) (off:=0 + (x84).toNat * 2 + 0) (base:=0) (q:=0 + (x84).toNat * 2 + 0) (n:=8) (k:=.i64) (L:=v76) (by subst e_x92; kernel_rfl) (by subst e_x92; kernel_rfl) (by omega) (by omega)) (by kernel_rfl) trivial ?_
             obtain ⟨g93,h⟩ := gd_some h
             refine TI_at (i:=5) (d:=158) (x:=.lf (.oel 26 (0 + (x84).toNat * 1))) (by exact At_idxO (d:=158) (z:=x84) (b:=26) (off:=0) (sz:=1) (n:=4) (by kernel_rfl) g93) (by kernel_rfl) trivial ?_
             obtain ⟨L94,e_L94,h⟩ := lt_some h
             have l_L94 : (L94).length = 4 := by rw [e_L94]; have q0 := (show (L85).length = 4 from l_L85); simp only [List.length_append,List.length_take,List.length_drop,List.length_cons,List.length_nil]; omega
             refine TI_of (i:=6) (by kernel_rfl) (TE_stOC (m:=1) (b:=26) (off:=0 + (x84).toNat * 1) (base:=0) (q:=0 + (x84).toNat * 1) (n:=4) (k:=.i64) (L:=L85) (L2:=L94) (Z:=(x92::[])) (e:=[.one (.v (.int .i64 x92))]) (c':=[.arr .i64 4 L94]) (by subst e_L94;kernel_rfl) (by kernel_rfl) (by subst e_L94;kernel_rfl) (by omega) (by omega) (by kernel_rfl) (by kernel_rfl) e_L94 (by kernel_rfl) ?_)
             refine TI_segK (i:=7) (j:=7) (s':={ σ := [(3,vb b83),(5,.lf (.own 5 0)),(14,vi v17),(21,.lf (.own 21 0)),(22,vi x70),(23,.lf (.own 23 0)),(24,.lf (.own 24 0)),(26,.lf (.own 26 0)),(27,vi x84)],H := [(5,[.one (.v (.slice Au0_0 (u0_0.length) cu0_0)),.arr .i64 4 u0_1]),(21,[.one (.vec 5064),.one (.vec 5065)]),(23,[.arr .i64 2 v75]),(24,[.arr .i64 8 v76]),(26,[.arr .i64 4 L94])],V := [(5064,⟨2,1,List.length L71,ints .i64 L71⟩),(5065,⟨23,4,List.length R72,rowsC .i64 R72⟩)],M := M14,ds := [] }) [3,5,14,21,22,23,24,26,27] [5,21,23,24,26] [5064,5065] (by kernel_rfl) (by kernel_rfl) ?_
             refine TI_end (by kernel_rfl) ?_
             refine thenQ_n ?_
             refine T_seq (c1:=(sub [1,1,1,1,1,1,1,1,0,1,0,0,1,0,0,1,1,0,1,0,0,1,0,0,1,0] Bd7)) (c2:=(sub [1,1,1,1,1,1,1,1,0,1,0,0,1,0,0,1,1,0,1,0,0,1,0,0,1,1] Bd7)) (by kernel_rfl) ?_
             refine T_region (id:=29) (by kernel_rfl) ?_
             refine TI_segS (i:=0) (j:=1) [(3,vb b83),(5,.lf (.own 5 0)),(14,vi v17),(21,.lf (.own 21 0)),(22,vi x70),(23,.lf (.own 23 0)),(24,.lf (.own 24 0)),(26,.lf (.own 26 0)),(27,vi x84),(159,vb b83)] (by kernel_rfl) (by kernel_rfl) ?_
             refine TI_end (by kernel_rfl) ?_
             refine thenQ_n ?_
             cases b83 with
             | true =>
              replace h := sp_t h
              refine T_condT (x:=(.tmp 159)) (c1:=(sub [1,1,1,1,1,1,1,1,0,1,0,0,1,0,0,1,1,0,1,0,0,1,0,0,1,1,0] Bd7)) (c2:=(sub [1,1,1,1,1,1,1,1,0,1,0,0,1,0,0,1,1,0,1,0,0,1,0,0,1,1,1] Bd7)) (by kernel_rfl) (by kernel_rfl) ?_
              refine T_keepS [(3,vb true),(5,.lf (.own 5 0)),(14,vi v17),(21,.lf (.own 21 0)),(22,vi x70),(23,.lf (.own 23 0)),(24,.lf (.own 24 0)),(26,.lf (.own 26 0)),(27,vi x84)] (by kernel_rfl) ?_
              refine T_region (id:=30) (by kernel_rfl) ?_
              refine TI_segS (i:=0) (j:=2) [(3,vb true),(5,.lf (.own 5 0)),(14,vi v17),(21,.lf (.own 21 0)),(22,vi x70),(23,.lf (.own 23 0)),(24,.lf (.own 24 0)),(26,.lf (.own 26 0)),(27,vi x84),(160,vi x84),(161,vi x84)] (by kernel_rfl) (by kernel_rfl) ?_
              obtain ⟨g95,h⟩ := gd_some h
              refine TI_at (i:=2) (d:=162) (x:=.lf (.oel 24 (0 + (x84).toNat * 2))) (by exact At_idxO (d:=162) (z:=x84) (b:=24) (off:=0) (sz:=2) (n:=4) (by kernel_rfl) g95) (by kernel_rfl) trivial ?_
              refine TI_segK (i:=3) (j:=4) (s':={ σ := [(3,vb true),(5,.lf (.own 5 0)),(14,vi v17),(21,.lf (.own 21 0)),(22,vi x70),(23,.lf (.own 23 0)),(24,.lf (.own 24 0)),(26,.lf (.own 26 0)),(27,vi x84),(160,vi x84),(163,.lf (.oel 24 (0 + (x84).toNat * 2 + 1)))],H := [(5,[.one (.v (.slice Au0_0 (u0_0.length) cu0_0)),.arr .i64 4 u0_1]),(21,[.one (.vec 5064),.one (.vec 5065)]),(23,[.arr .i64 2 v75]),(24,[.arr .i64 8 v76]),(26,[.arr .i64 4 L94])],V := [(5064,⟨2,1,List.length L71,ints .i64 L71⟩),(5065,⟨23,4,List.length R72,rowsC .i64 R72⟩)],M := M14,ds := [] }) [3,5,14,21,22,23,24,26,27,160,163] [5,21,23,24,26] [5064,5065] (by kernel_rfl) (by kernel_rfl) ?_
              obtain ⟨x96,e_x96,h⟩ := lt_some h
              refine TI_at (i:=4) (d:=164) (x:=vi x96) (by rw [e_x96]; exact At_ldO1 (d:=164) (b:=24) (off:=0 + (x84).toNat * 2 + 1) (base:=0) (q:=0 + (x84).toNat * 2 + 1) (n:=8) (k:=.i64) (L:=v76) (by subst e_x96; kernel_rfl) (by subst e_x96; kernel_rfl) (by omega) (by omega)) (by kernel_rfl) trivial ?_
              obtain ⟨g97,h⟩ := gd_some h
              refine TI_at (i:=5) (d:=165) (x:=.lf (.oel 26 (0 + (x84).toNat * 1))) (by exact At_idxO (d:=165) (z:=x84) (b:=26) (off:=0) (sz:=1) (n:=4) (by kernel_rfl) g97) (by kernel_rfl) trivial ?_
              obtain ⟨L98,e_L98,h⟩ := lt_some h
              have l_L98 : (L98).length = 4 := by rw [e_L98]; have q0 := (show (L94).length = 4 from l_L94); simp only [List.length_append,List.length_take,List.length_drop,List.length_cons,List.length_nil]; omega
              refine TI_of (i:=6) (by kernel_rfl) (TE_stOC (m:=1) (b:=26) (off:=0 + (x84).toNat * 1) (base:=0) (q:=0 + (x84).toNat * 1) (n:=4) (k:=.i64) (L:=L94) (L2:=L98) (Z:=(x96::[])) (e:=[.one (.v (.int .i64 x96))]) (c':=[.arr .i64 4 L98]) (by subst e_L98;kernel_rfl) (by kernel_rfl) (by subst e_L98;kernel_rfl) (by omega) (by omega) (by kernel_rfl) (by kernel_rfl) e_L98 (by kernel_rfl) ?_)
              refine TI_segK (i:=7) (j:=7) (s':={ σ := [(3,vb true),(5,.lf (.own 5 0)),(14,vi v17),(21,.lf (.own 21 0)),(22,vi x70),(23,.lf (.own 23 0)),(24,.lf (.own 24 0)),(26,.lf (.own 26 0)),(27,vi x84)],H := [(5,[.one (.v (.slice Au0_0 (u0_0.length) cu0_0)),.arr .i64 4 u0_1]),(21,[.one (.vec 5064),.one (.vec 5065)]),(23,[.arr .i64 2 v75]),(24,[.arr .i64 8 v76]),(26,[.arr .i64 4 L98])],V := [(5064,⟨2,1,List.length L71,ints .i64 L71⟩),(5065,⟨23,4,List.length R72,rowsC .i64 R72⟩)],M := M14,ds := [] }) [3,5,14,21,22,23,24,26,27] [5,21,23,24,26] [5064,5065] (by kernel_rfl) (by kernel_rfl) ?_
              refine TI_end (by kernel_rfl) ?_
              refine blockQ_n ?_
              refine thenQ_n ?_
              exact ⟨true,L98,keep_sub (ts:=[3,5,14,21,22,23,24,26,27]) (hs:=[5,21,23,24,26]) (vs:=[5064,5065]) (by kernel_rfl),l_L98,h⟩
             | false =>
              replace h := sp_f h
              refine T_condF (x:=(.tmp 159)) (c1:=(sub [1,1,1,1,1,1,1,1,0,1,0,0,1,0,0,1,1,0,1,0,0,1,0,0,1,1,0] Bd7)) (c2:=(sub [1,1,1,1,1,1,1,1,0,1,0,0,1,0,0,1,1,0,1,0,0,1,0,0,1,1,1] Bd7)) (by kernel_rfl) (by kernel_rfl) ?_
              refine T_keepS [(3,vb false),(5,.lf (.own 5 0)),(14,vi v17),(21,.lf (.own 21 0)),(22,vi x70),(23,.lf (.own 23 0)),(24,.lf (.own 24 0)),(26,.lf (.own 26 0)),(27,vi x84)] (by kernel_rfl) ?_
              refine T_skip (by kernel_rfl) ?_
              refine blockQ_n ?_
              refine thenQ_n ?_
              exact ⟨false,L94,keep_sub (ts:=[3,5,14,21,22,23,24,26,27]) (hs:=[5,21,23,24,26]) (vs:=[5064,5065]) (by kernel_rfl),l_L94,h⟩
            ·rintro s' ⟨b88,L89,hsub,l_L89,h⟩
             subst e_j90
             refine T_sub hsub ?_
             refine T_region (id:=27) (by kernel_rfl) ?_
             obtain ⟨x99,e_x99,h⟩ := lt_some h
             refine TI_segK (i:=0) (j:=3) (s':={ σ := [(3,vb b88),(5,.lf (.own 5 0)),(14,vi v17),(21,.lf (.own 21 0)),(22,vi x70),(23,.lf (.own 23 0)),(24,.lf (.own 24 0)),(26,.lf (.own 26 0)),(27,vi x99)],H := [(5,[.one (.v (.slice Au0_0 (u0_0.length) cu0_0)),.arr .i64 4 u0_1]),(21,[.one (.vec 5064),.one (.vec 5065)]),(23,[.arr .i64 2 v75]),(24,[.arr .i64 8 v76]),(26,[.arr .i64 4 L89])],V := [(5064,⟨2,1,List.length L71,ints .i64 L71⟩),(5065,⟨23,4,List.length R72,rowsC .i64 R72⟩)],M := M14,ds := [] }) [3,5,14,21,22,23,24,26,27] [5,21,23,24,26] [5064,5065] (by subst e_x99;kernel_rfl) (by kernel_rfl) ?_
             refine TI_end (by kernel_rfl) ?_
             refine thenQ_n ?_
             exact ⟨n86,Nat.lt_succ_self _,b88,x99,L89,keep_sub (ts:=[3,5,14,21,22,23,24,26,27]) (hs:=[5,21,23,24,26]) (vs:=[5064,5065]) (by kernel_rfl),l_L89,h⟩
           | false =>
            replace h := sp_f h
            refine T_condF (x:=(.tmp 150)) (c1:=(sub [1,1,1,1,1,1,1,1,0,1,0,0,1,0,0,1,1,0,1,0,0,0,1,0] Bd7)) (c2:=(sub [1,1,1,1,1,1,1,1,0,1,0,0,1,0,0,1,1,0,1,0,0,0,1,1] Bd7)) (by kernel_rfl) (by kernel_rfl) ?_
            refine T_keep (s':={ σ := [(3,vb b83),(5,.lf (.own 5 0)),(14,vi v17),(21,.lf (.own 21 0)),(22,vi x70),(23,.lf (.own 23 0)),(26,.lf (.own 26 0))],H := [(5,[.one (.v (.slice Au0_0 (u0_0.length) cu0_0)),.arr .i64 4 u0_1]),(21,[.one (.vec 5064),.one (.vec 5065)]),(23,[.arr .i64 2 v75]),(26,[.arr .i64 4 L85])],V := [(5064,⟨2,1,List.length L71,ints .i64 L71⟩),(5065,⟨23,4,List.length R72,rowsC .i64 R72⟩)],M := M14,ds := [] }) [3,5,14,21,22,23,26] [5,21,23,26] [5064,5065] (by kernel_rfl) ?_
            refine T_exit (id:=6) (by kernel_rfl) ?_
            refine thenQ_x ?_
            refine thenQ_x ?_
            refine blockQ_x ?_
            refine thenQ_n ?_
            exact ⟨b83,L85,keep_sub (ts:=[3,5,14,21,22,23,26]) (hs:=[5,21,23,26]) (vs:=[5064,5065]) (by kernel_rfl),l_L85,h⟩
         ·rintro s' ⟨b80,L81,hsub,l_L81,h⟩
          subst e_j82
          refine thenQ_n ?_
          refine T_sub hsub ?_
          refine T_seq (c1:=(sub [1,1,1,1,1,1,1,1,0,1,0,0,1,0,0,1,1,1,0] Bd7)) (c2:=(sub [1,1,1,1,1,1,1,1,0,1,0,0,1,0,0,1,1,1,1] Bd7)) (by kernel_rfl) ?_
          refine T_region (id:=31) (by kernel_rfl) ?_
          obtain ⟨x100,e_x100,h⟩ := lt_some h
          refine TI_segK (i:=0) (j:=3) (s':={ σ := [(3,vb b80),(5,.lf (.own 5 0)),(14,vi v17),(21,.lf (.own 21 0)),(22,vi x70),(23,.lf (.own 23 0)),(26,.lf (.own 26 0)),(28,vi x100)],H := [(5,[.one (.v (.slice Au0_0 (u0_0.length) cu0_0)),.arr .i64 4 u0_1]),(21,[.one (.vec 5064),.one (.vec 5065)]),(23,[.arr .i64 2 v75]),(26,[.arr .i64 4 L81])],V := [(5064,⟨2,1,List.length L71,ints .i64 L71⟩),(5065,⟨23,4,List.length R72,rowsC .i64 R72⟩)],M := M14,ds := [] }) [3,5,14,21,22,23,26,28] [5,21,23,26] [5064,5065] (by subst e_x100;kernel_rfl) (by kernel_rfl) ?_
          refine TI_end (by kernel_rfl) ?_
          refine thenQ_n ?_
          obtain ⟨j103,e_j103,h⟩ := jn_some h
          refine T_cut (c1:=(sub [1,1,1,1,1,1,1,1,0,1,0,0,1,0,0,1,1,1,1,0] Bd7)) (c2:=(sub [1,1,1,1,1,1,1,1,0,1,0,0,1,0,0,1,1,1,1,1] Bd7)) (fun s' => ∃ (b101 : Bool) (x102 : Int),Sub { σ := [(3,vb b101),(5,.lf (.own 5 0)),(14,vi v17),(21,.lf (.own 21 0)),(22,vi x70),(26,.lf (.own 26 0)),(28,vi x102)],H := [(5,[.one (.v (.slice Au0_0 (u0_0.length) cu0_0)),.arr .i64 4 u0_1]),(21,[.one (.vec 5064),.one (.vec 5065)]),(26,[.arr .i64 4 L81])],V := [(5064,⟨2,1,List.length L71,ints .i64 L71⟩),(5065,⟨23,4,List.length R72,rowsC .i64 R72⟩)],M := M14,ds := [] } s' ∧ j103 b101 x102 = some r) (by kernel_rfl) ?_ ?_
          ·refine T_seq (c1:=(sub [1,1,1,1,1,1,1,1,0,1,0,0,1,0,0,1,1,1,1,0,0] Bd7)) (c2:=(sub [1,1,1,1,1,1,1,1,0,1,0,0,1,0,0,1,1,1,1,0,1] Bd7)) (by kernel_rfl) ?_
           refine T_region (id:=32) (by kernel_rfl) ?_
           refine TI_segK (i:=0) (j:=1) (s':={ σ := [(3,vb b80),(5,.lf (.own 5 0)),(14,vi v17),(21,.lf (.own 21 0)),(22,vi x70),(23,.lf (.own 23 0)),(26,.lf (.own 26 0)),(28,vi x100),(168,vb b80)],H := [(5,[.one (.v (.slice Au0_0 (u0_0.length) cu0_0)),.arr .i64 4 u0_1]),(21,[.one (.vec 5064),.one (.vec 5065)]),(23,[.arr .i64 2 v75]),(26,[.arr .i64 4 L81])],V := [(5064,⟨2,1,List.length L71,ints .i64 L71⟩),(5065,⟨23,4,List.length R72,rowsC .i64 R72⟩)],M := M14,ds := [] }) [3,5,14,21,22,23,26,28,168] [5,21,23,26] [5064,5065] (by kernel_rfl) (by kernel_rfl) ?_
           refine TI_end (by kernel_rfl) ?_
           refine thenQ_n ?_
           cases b80 with
           | true =>
            replace h := sp_t h
            refine T_condT (x:=(.tmp 168)) (c1:=(sub [1,1,1,1,1,1,1,1,0,1,0,0,1,0,0,1,1,1,1,0,1,0] Bd7)) (c2:=(sub [1,1,1,1,1,1,1,1,0,1,0,0,1,0,0,1,1,1,1,0,1,1] Bd7)) (by kernel_rfl) (by kernel_rfl) ?_
            refine T_keepS [(3,vb true),(5,.lf (.own 5 0)),(14,vi v17),(21,.lf (.own 21 0)),(22,vi x70),(23,.lf (.own 23 0)),(26,.lf (.own 26 0))] (by kernel_rfl) ?_
            refine T_region (id:=33) (by kernel_rfl) ?_
            obtain ⟨x104,e_x104,h⟩ := lt_some h
            refine TI_segK (i:=0) (j:=3) (s':={ σ := [(3,vb true),(5,.lf (.own 5 0)),(14,vi v17),(21,.lf (.own 21 0)),(22,vi x70),(26,.lf (.own 26 0)),(28,vi x104)],H := [(5,[.one (.v (.slice Au0_0 (u0_0.length) cu0_0)),.arr .i64 4 u0_1]),(21,[.one (.vec 5064),.one (.vec 5065)]),(26,[.arr .i64 4 L81])],V := [(5064,⟨2,1,List.length L71,ints .i64 L71⟩),(5065,⟨23,4,List.length R72,rowsC .i64 R72⟩)],M := M14,ds := [] }) [3,5,14,21,22,26,28] [5,21,26] [5064,5065] (by subst e_x104;kernel_rfl) (by kernel_rfl) ?_
            refine TI_end (by kernel_rfl) ?_
            refine thenQ_n ?_
            exact ⟨true,x104,keep_sub (ts:=[3,5,14,21,22,26,28]) (hs:=[5,21,26]) (vs:=[5064,5065]) (by kernel_rfl),h⟩
           | false =>
            replace h := sp_f h
            refine T_condF (x:=(.tmp 168)) (c1:=(sub [1,1,1,1,1,1,1,1,0,1,0,0,1,0,0,1,1,1,1,0,1,0] Bd7)) (c2:=(sub [1,1,1,1,1,1,1,1,0,1,0,0,1,0,0,1,1,1,1,0,1,1] Bd7)) (by kernel_rfl) (by kernel_rfl) ?_
            refine T_keep (s':={ σ := [(3,vb false),(5,.lf (.own 5 0)),(14,vi v17),(21,.lf (.own 21 0)),(22,vi x70),(26,.lf (.own 26 0)),(28,vi x100)],H := [(5,[.one (.v (.slice Au0_0 (u0_0.length) cu0_0)),.arr .i64 4 u0_1]),(21,[.one (.vec 5064),.one (.vec 5065)]),(26,[.arr .i64 4 L81])],V := [(5064,⟨2,1,List.length L71,ints .i64 L71⟩),(5065,⟨23,4,List.length R72,rowsC .i64 R72⟩)],M := M14,ds := [] }) [3,5,14,21,22,26,28] [5,21,26] [5064,5065] (by kernel_rfl) ?_
            refine T_skip (by kernel_rfl) ?_
            refine thenQ_n ?_
            exact ⟨false,x100,keep_sub (ts:=[3,5,14,21,22,26,28]) (hs:=[5,21,26]) (vs:=[5064,5065]) (by kernel_rfl),h⟩
          ·rintro s' ⟨b101,x102,hsub,h⟩
           subst e_j103
           refine T_sub hsub ?_
           refine T_seq (c1:=(sub [1,1,1,1,1,1,1,1,0,1,0,0,1,0,0,1,1,1,1,1,0] Bd7)) (c2:=(sub [1,1,1,1,1,1,1,1,0,1,0,0,1,0,0,1,1,1,1,1,1] Bd7)) (by kernel_rfl) ?_
           refine T_region (id:=34) (by kernel_rfl) ?_
           refine TI_segK (i:=0) (j:=3) (s':={ σ := [(3,vb b101),(5,.lf (.own 5 0)),(14,vi v17),(21,.lf (.own 21 0)),(22,vi x70),(26,.lf (.own 26 0)),(172,.lf (.vec 5064)),(173,vi x102)],H := [(5,[.one (.v (.slice Au0_0 (u0_0.length) cu0_0)),.arr .i64 4 u0_1]),(21,[.one (.vec 5064),.one (.vec 5065)]),(26,[.arr .i64 4 L81])],V := [(5064,⟨2,1,List.length L71,ints .i64 L71⟩),(5065,⟨23,4,List.length R72,rowsC .i64 R72⟩)],M := M14,ds := [] }) [3,5,14,21,22,26,172,173] [5,21,26] [5064,5065] (by kernel_rfl) (by kernel_rfl) ?_
           refine TI_of (i:=3) (by kernel_rfl) (TE_litC (d:=174) (e:=2) (sz:=1) (len:=1) (cs:=ints .i64 ([x102])) (by kernel_rfl) (by kernel_rfl) (by kernel_rfl) ?_)
           obtain ⟨g105,h⟩ := gd_some h
           obtain ⟨W106,e_W106,h⟩ := lt_some h
           refine TI_of (i:=4) (by kernel_rfl) (TE_appC (d:=175) (e:=2) (sz:=1) (bytes:=8) (n:=5064) (x:=(.tmp 174)) (len:=List.length L71) (cs0:=ints .i64 L71) (cs2:=ints .i64 W106) (by subst e_W106;kernel_rfl) (by kernel_rfl) (by subst e_W106;kernel_rfl) (vecI_src (n:=174) (e:=2) (k:=.i64) (L:=[x102]) (by subst e_W106;kernel_rfl) (by subst e_W106;kernel_rfl)) g105 rfl (len_app_eq e_W106) (ints_app_eq e_W106) ?_)
           refine TI_segK (i:=5) (j:=7) (s':={ σ := [(3,vb b101),(5,.lf (.own 5 0)),(14,vi v17),(21,.lf (.own 21 0)),(22,vi x70),(26,.lf (.own 26 0))],H := [(5,[.one (.v (.slice Au0_0 (u0_0.length) cu0_0)),.arr .i64 4 u0_1]),(21,[.one (.vec 175),.one (.vec 5065)]),(26,[.arr .i64 4 L81])],V := [(175,⟨2,1,List.length W106,ints .i64 W106⟩),(5065,⟨23,4,List.length R72,rowsC .i64 R72⟩)],M := M14,ds := [] }) [3,5,14,21,22,26] [5,21,26] [175,5065] (by kernel_rfl) (by kernel_rfl) ?_
           refine TI_end (by kernel_rfl) ?_
           refine thenQ_n ?_
           refine T_region (id:=35) (by kernel_rfl) ?_
           refine TI_segK (i:=0) (j:=3) (s':={ σ := [(3,vb b101),(5,.lf (.own 5 0)),(14,vi v17),(21,.lf (.own 21 0)),(22,vi x70),(178,.lf (.vec 5065)),(179,.agg [.arr .i64 4 L81])],H := [(5,[.one (.v (.slice Au0_0 (u0_0.length) cu0_0)),.arr .i64 4 u0_1]),(21,[.one (.vec 175),.one (.vec 5065)])],V := [(175,⟨2,1,List.length W106,ints .i64 W106⟩),(5065,⟨23,4,List.length R72,rowsC .i64 R72⟩)],M := M14,ds := [] }) [3,5,14,21,22,178,179] [5,21] [175,5065] (by kernel_rfl) (by kernel_rfl) ?_
           refine TI_of (i:=3) (by kernel_rfl) (TE_litC (d:=180) (e:=23) (sz:=4) (len:=1) (cs:=rowsC .i64 ([L81])) (by kernel_rfl) (by kernel_rfl) (by kernel_rfl) ?_)
           obtain ⟨g107,h⟩ := gd_some h
           obtain ⟨W108,e_W108,h⟩ := lt_some h
           have r_W108 : ∀ r ∈ W108,r.length = 4 := by rw [e_W108]; exact rows_app r_R72 (rows_cons l_L81 rows_nil)
           refine TI_of (i:=4) (by kernel_rfl) (TE_appC (d:=181) (e:=23) (sz:=4) (bytes:=32) (n:=5065) (x:=(.tmp 180)) (len:=List.length R72) (cs0:=rowsC .i64 R72) (cs2:=rowsC .i64 W108) (by subst e_W108;kernel_rfl) (by kernel_rfl) (by subst e_W108;kernel_rfl) (vecR_src (n:=180) (e:=23) (k:=.i64) (m:=4) (R:=[L81]) (by subst e_W108;kernel_rfl) (by subst e_W108;kernel_rfl) (rows_cons l_L81 rows_nil)) g107 rfl (len_app_eq e_W108) (rowsC_app_eq e_W108) ?_)
           refine TI_segK (i:=5) (j:=7) (s':={ σ := [(3,vb b101),(5,.lf (.own 5 0)),(14,vi v17),(21,.lf (.own 21 0)),(22,vi x70)],H := [(5,[.one (.v (.slice Au0_0 (u0_0.length) cu0_0)),.arr .i64 4 u0_1]),(21,[.one (.vec 175),.one (.vec 181)])],V := [(175,⟨2,1,List.length W106,ints .i64 W106⟩),(181,⟨23,4,List.length W108,rowsC .i64 W108⟩)],M := M14,ds := [] }) [3,5,14,21,22] [5,21] [175,181] (by kernel_rfl) (by kernel_rfl) ?_
           refine TI_end (by kernel_rfl) ?_
           refine blockQ_n ?_
           refine thenQ_n ?_
           refine T_region (id:=22) (by kernel_rfl) ?_
           obtain ⟨x109,e_x109,h⟩ := lt_some h
           refine TI_segS (i:=0) (j:=3) [(3,vb b101),(5,.lf (.own 5 0)),(14,vi v17),(21,.lf (.own 21 0)),(22,vi x109)] (by subst e_x109;kernel_rfl) (by kernel_rfl) ?_
           refine TI_end (by kernel_rfl) ?_
           refine thenQ_n ?_
           exact ⟨n73,Nat.lt_succ_self _,b101,x109,W106,W108,Sub.trans (keep_sub (ts:=[3,5,14,21,22]) (hs:=[5,21]) (vs:=[5064,5065]) (by kernel_rfl)) (Sub.trans (ren_sub 181 5065 (s':={ σ := [(3,vb b101),(5,.lf (.own 5 0)),(14,vi v17),(21,.lf (.own 21 0)),(22,vi x109)],H := [(5,[.one (.v (.slice Au0_0 (u0_0.length) cu0_0)),.arr .i64 4 u0_1]),(21,[.one (.vec 5064),.one (.vec 5065)])],V := [(5064,⟨2,1,List.length W106,ints .i64 W106⟩),(5065,⟨23,4,List.length W108,rowsC .i64 W108⟩)],M := M14,ds := [] }) (by kernel_rfl) (by kernel_rfl)) (Sub.trans (ren_sub 175 5064 (s':={ σ := [(3,vb b101),(5,.lf (.own 5 0)),(14,vi v17),(21,.lf (.own 21 0)),(22,vi x109)],H := [(5,[.one (.v (.slice Au0_0 (u0_0.length) cu0_0)),.arr .i64 4 u0_1]),(21,[.one (.vec 5064),.one (.vec 181)])],V := [(5064,⟨2,1,List.length W106,ints .i64 W106⟩),(181,⟨23,4,List.length W108,rowsC .i64 W108⟩)],M := M14,ds := [] }) (by kernel_rfl) (by kernel_rfl)) (keep_sub (s':={ σ := [(3,vb b101),(5,.lf (.own 5 0)),(14,vi v17),(21,.lf (.own 21 0)),(22,vi x109)],H := [(5,[.one (.v (.slice Au0_0 (u0_0.length) cu0_0)),.arr .i64 4 u0_1]),(21,[.one (.vec 175),.one (.vec 181)])],V := [(175,⟨2,1,List.length W106,ints .i64 W106⟩),(181,⟨23,4,List.length W108,rowsC .i64 W108⟩)],M := M14,ds := [] }) (ts:=[3,5,14,21,22]) (hs:=[5,21]) (vs:=[175,181]) (by kernel_rfl)))),r_W108,h⟩
        | false =>
         replace h := sp_f h
         refine T_condF (x:=(.tmp 139)) (c1:=(sub [1,1,1,1,1,1,1,1,0,1,0,0,0,1,0] Bd7)) (c2:=(sub [1,1,1,1,1,1,1,1,0,1,0,0,0,1,1] Bd7)) (by kernel_rfl) (by kernel_rfl) ?_
         refine T_keepS [(5,.lf (.own 5 0)),(21,.lf (.own 21 0))] (by kernel_rfl) ?_
         refine T_exit (id:=4) (by kernel_rfl) ?_
         refine thenQ_x ?_
         refine thenQ_x ?_
         refine blockQ_x ?_
         refine thenQ_n ?_
         exact ⟨L71,R72,keep_sub (ts:=[5,21]) (hs:=[5,21]) (vs:=[5064,5065]) (by kernel_rfl),r_R72,h⟩
      ·rintro s' ⟨L66,R67,hsub,r_R67,h⟩
       subst e_j68
       refine thenQ_n ?_
       refine T_sub hsub ?_
       refine T_seq (c1:=(sub [1,1,1,1,1,1,1,1,1,0] Bd7)) (c2:=(sub [1,1,1,1,1,1,1,1,1,1] Bd7)) (by kernel_rfl) ?_
       refine T_region (id:=36) (by kernel_rfl) ?_
       refine TI_segK (i:=0) (j:=2) (s':={ σ := [(184,.agg [.one (.v (.slice Au0_0 (u0_0.length) cu0_0)),.arr .i64 4 u0_1]),(185,.agg [.one (.vec 5064),.one (.vec 5065)])],H := [],V := [(5064,⟨2,1,List.length L66,ints .i64 L66⟩),(5065,⟨23,4,List.length R67,rowsC .i64 R67⟩)],M := M14,ds := [] }) [184,185] [] [5064,5065] (by kernel_rfl) (by kernel_rfl) ?_
       refine TI_turn (turn_pubV 5064 (v:=⟨2,1,List.length L66,ints .i64 L66⟩) (by kernel_rfl)) ?_
       rintro _ ⟨A110,c111,M112,rfl,hSA110,hcA110,-,hNA110,hM112⟩
       have fA110 : SlI M112 A110 c111 .i64 L66 := ⟨hSA110,hcA110⟩
       refine TI_turn (turn_pubV 5065 (v:=⟨23,4,List.length R67,rowsC .i64 R67⟩) (by kernel_rfl)) ?_
       rintro _ ⟨A113,c114,M115,rfl,hSA113,hcA113,-,hNA113,hM115⟩
       have fA113 : SlR M115 A113 c114 .i64 4 R67 := ⟨r_R67,hSA113,hcA113⟩
       obtain ⟨v116,v117,c_v116,h⟩ := cl2_some h
       refine TI_at (i:=2) (d:=186) (x:=.tup [(some (.v (.bool v116)),[]),(some (.v (.int .i64 v117)),[])]) (At_call (d:=186) (f:=22) (args:=[rval (.agg [.one (.v (.slice Au0_0 (u0_0.length) cu0_0)),.arr .i64 4 u0_1]),rval (.agg [.one (.v (.slice A110 (L66.length) c111)),.one (.v (.slice A113 (R67.length) c114))])]) (x:=.tup [(some (.v (.bool v116)),[]),(some (.v (.int .i64 v117)),[])]) (by kernel_rfl) (w22 k (((hu0_0.le hM14).le hM112).le hM115) hu0_1 (fA110.le hM115) fA113 c_v116)) (by kernel_rfl) (by intro y hy; simp only [List.mem_cons,List.mem_nil_iff,or_false] at hy; rcases hy with rfl | rfl <;> exact trivial) ?_
       refine TI_segK (i:=3) (j:=8) (s':={ σ := [(12,vb v116),(13,vi v117)],H := [],V := [],M := M115,ds := [] }) [12,13] [] [] (by kernel_rfl) (by kernel_rfl) ?_
       refine TI_end (by kernel_rfl) ?_
       refine thenQ_n ?_
       obtain ⟨j119,e_j119,h⟩ := jn_some h
       refine T_cut (c1:=(sub [1,1,1,1,1,1,1,1,1,1,0] Bd7)) (c2:=(sub [1,1,1,1,1,1,1,1,1,1,1] Bd7)) (fun s' => ∃ (b118 : Bool),Sub { σ := [(10,vb b118)],H := [],V := [],M := M115,ds := [] } s' ∧ j119 b118 = some r) (by kernel_rfl) ?_ ?_
       ·refine T_region (id:=37) (by kernel_rfl) ?_
        obtain ⟨b120,e_b120,h⟩ := lt_some h
        refine TI_segK (i:=0) (j:=3) (s':={ σ := [(12,vb v116),(191,vb b120)],H := [],V := [],M := M115,ds := [] }) [12,191] [] [] (by subst e_b120;kernel_rfl) (by kernel_rfl) ?_
        cases b120 with
        | true =>
         replace h := sp_t h
         refine TI_segS (i:=3) (j:=6) [(194,vb v116)] (by kernel_rfl) (by kernel_rfl) ?_
         cases v116 with
         | true =>
          replace h := sp_t h
          obtain ⟨v121,c_v121,h⟩ := cl_some h
          refine TI_at (i:=6) (d:=195) (x:=vb v121) (At_call (d:=195) (f:=12) (args:=[]) (x:=vb v121) (by kernel_rfl) (w12 k  c_v121)) (by kernel_rfl) trivial ?_
          refine TI_segK (i:=7) (j:=9) (s':={ σ := [(10,vb v121)],H := [],V := [],M := M115,ds := [] }) [10] [] [] (by kernel_rfl) (by kernel_rfl) ?_
          refine TI_end (by kernel_rfl) ?_
          refine thenQ_n ?_
          exact ⟨v121,keep_sub (ts:=[10]) (hs:=[]) (vs:=[]) (by kernel_rfl),h⟩
         | false =>
          replace h := sp_f h
          refine TI_segS (i:=6) (j:=9) [(10,vb false)] (by kernel_rfl) (by kernel_rfl) ?_
          refine TI_end (by kernel_rfl) ?_
          refine thenQ_n ?_
          exact ⟨false,keep_sub (ts:=[10]) (hs:=[]) (vs:=[]) (by kernel_rfl),h⟩
        | false =>
         replace h := sp_f h
         refine TI_segS (i:=3) (j:=9) [(10,vb false)] (by kernel_rfl) (by kernel_rfl) ?_
         refine TI_end (by kernel_rfl) ?_
         refine thenQ_n ?_
         exact ⟨false,keep_sub (ts:=[10]) (hs:=[]) (vs:=[]) (by kernel_rfl),h⟩
       ·rintro s' ⟨b118,hsub,h⟩
        subst e_j119
        refine T_sub hsub ?_
        refine T_ret (by kernel_rfl) ?_
        have h := Option.some.inj h
        subst h
        refine fin_ret (vb b118) (by kernel_rfl) (by kernel_rfl) rfl ?_
        rfl
end Go.Proofs.Ythjkejbgknemgaa
namespace Go.Proofs.Ythjkejbgknemgaa
open Go.RowKit Classical
theorem wr64 {z : Int} (h1 : -9223372036854775808 ≤ z) (h2 : z ≤ 9223372036854775807) : wr .i64 z = z := by
  simp only [wr, IntKind.wrap, IntKind.signed, IntKind.bits]
  simp
  omega
theorem mx_eq (x y : Int) : mx x y = max x y := by unfold mx; omega
theorem mn_eq (x y : Int) : mn x y = min x y := by unfold mn; omega
theorem lt_v {α β : Type} (x : β) (F : β → Option α) : lt' x F = F x := rfl
theorem jn_v {α β : Type} (F : β) (G : β → Option α) : jn F G = G F := rfl
theorem cl_v {α β : Type} (v : β) (F : β → Option α) : cl (some v) F = F v := rfl
theorem cl2_v {α β γ : Type} (a : α) (b : β) (F : α → β → Option γ) : cl2 (some (a, b)) F = F a b := rfl
theorem cl3_v {α β γ δ : Type} (a : α) (b : β) (c : γ) (F : α → β → γ → Option δ) : cl3 (some (a, b, c)) F = F a b c := rfl
theorem sp_tt {α : Type} (x y : Option α) : sp true x y = x := rfl
theorem sp_ff {α : Type} (x y : Option α) : sp false x y = y := rfl
theorem sp_d {α : Type} {c : Prop} [h : Decidable c] (x y : Option α) : sp (decide c) x y = if c then x else y := by
  cases h <;> rfl
theorem sp_nd {α : Type} {c : Prop} [h : Decidable c] (x y : Option α) : sp (!decide c) x y = if c then y else x := by
  cases h <;> rfl
theorem gd_v {α : Type} {c : Prop} [Decidable c] (h : c) (x : Option α) : gd c x = x := by unfold gd; rw [if_pos h]
def rA (r : List Int) : Int := r.getD 0 0
def rPL (r : List Int) : Int := r.getD 1 0
def rPH (r : List Int) : Int := r.getD 2 0
def rVL (k : Nat) (r : List Int) : Int := r.getD (3 + k * 2 + 0) 0
def rVH (k : Nat) (r : List Int) : Int := r.getD (3 + k * 2 + 1) 0
def bandOk (a b : Int) : Prop := -1073741824 ≤ a ∧ a ≤ b ∧ b ≤ 1073741824
instance bandDec (a b : Int) : Decidable (bandOk a b) := inferInstanceAs (Decidable (-1073741824 ≤ a ∧ a ≤ b ∧ b ≤ 1073741824))
def readOk (r : List Int) : Prop := 0 ≤ rA r ∧ rA r ≤ 1099511627776 ∧ bandOk (rPL r) (rPH r) ∧ ∀ k, k < 4 → bandOk (rVL k r) (rVH k r)
def rd (R : List (List Int)) (i : Nat) : List Int := R.getD i []
def stT (R : List (List Int)) : Int := rA (rd R 0)
def lastI (R : List (List Int)) : Int := rA (rd R (R.length - 1)) - stT R
structure ArgOk (R : List (List Int)) (D : List Int) : Prop where
  n2 : 2 ≤ R.length
  read : ∀ i, i < R.length → readOk (rd R i)
  asc : ∀ i, i + 1 < R.length → rA (rd R i) < rA (rd R (i + 1))
  span : lastI R ≤ 2000
  dr : ∀ k, k < 4 → 0 ≤ D.getD k 0 ∧ D.getD k 0 ≤ 1048576
def ab (x : Int) : Int := max x (-x)
def PL (t : Int) : List (List Int) → Int → Int
  | [], b => b
  | r :: l, b => PL t l (if rA r ≤ t then max b (rPL r) else b)
def PH (t : Int) : List (List Int) → Int → Int
  | [], b => b
  | r :: l, b => PH t l (if t ≤ rA r then min b (rPH r) else b)
def VL (d : Int) (k : Nat) (t : Int) : List (List Int) → Int → Int
  | [], b => b
  | r :: l, b => VL d k t l (max b (rVL k r - d * ab (rA r - t)))
def VH (d : Int) (k : Nat) (t : Int) : List (List Int) → Int → Int
  | [], b => b
  | r :: l, b => VH d k t l (min b (rVH k r + d * ab (rA r - t)))
def pl (R : List (List Int)) (m : Int) : Int := PL (stT R + m) R (-1099511627776)
def ph (R : List (List Int)) (m : Int) : Int := PH (stT R + m) R 1099511627776
def vl (R : List (List Int)) (D : List Int) (k : Nat) (m : Int) : Int := VL (D.getD k 0) k (stT R + m) R (-1125899906842624)
def vh (R : List (List Int)) (D : List Int) (k : Nat) (m : Int) : Int := VH (D.getD k 0) k (stT R + m) R 1125899906842624
def SumAt (R : List (List Int)) (D : List Int) (m : Int) : Prop := pl R m ≤ ph R m ∧ ∀ k, k < 4 → vl R D k m ≤ vh R D k m
def SumOk (R : List (List Int)) (D : List Int) : Prop := ∀ m : Int, 0 ≤ m → m ≤ lastI R → SumAt R D m
noncomputable def logE (R : List (List Int)) (D : List Int) : Int := if 64 < R.length then 6 else if ¬ ArgOk R D then 2 else if ¬ SumOk R D then 16 else 0
structure LogOk (R : List (List Int)) (D : List Int) : Prop where
  n64 : R.length ≤ 64
  arg : ArgOk R D
  sum : SumOk R D
theorem logE_zero {R D} : logE R D = 0 ↔ LogOk R D := by
  unfold logE
  constructor
  · intro h
    split at h
    · omega
    · split at h
      · omega
      · split at h
        · omega
        · rename_i h1 h2 h3
          exact ⟨by omega, Classical.not_not.1 h2, Classical.not_not.1 h3⟩
  · intro h
    rw [if_neg (by have := h.n64; omega), if_neg (by have := h.arg; simpa using this), if_neg (by have := h.sum; simpa using this)]
theorem PL_le {t x : Int} : ∀ {l : List (List Int)} {b : Int}, PL t l b ≤ x ↔ b ≤ x ∧ ∀ r ∈ l, rA r ≤ t → rPL r ≤ x
  | [], b => by simp [PL]
  | r :: l, b => by
    simp only [PL]
    rw [PL_le]
    simp only [List.mem_cons, forall_eq_or_imp]
    split
    · rename_i h; constructor
      · rintro ⟨h1, h2⟩; exact ⟨by omega, fun _ => by omega, h2⟩
      · rintro ⟨h1, h2, h3⟩; have := h2 h; exact ⟨by omega, h3⟩
    · rename_i h; constructor
      · rintro ⟨h1, h2⟩; exact ⟨h1, fun hh => absurd hh h, h2⟩
      · rintro ⟨h1, _, h3⟩; exact ⟨h1, h3⟩
theorem le_PH {t x : Int} : ∀ {l : List (List Int)} {b : Int}, x ≤ PH t l b ↔ x ≤ b ∧ ∀ r ∈ l, t ≤ rA r → x ≤ rPH r
  | [], b => by simp [PH]
  | r :: l, b => by
    simp only [PH]
    rw [le_PH]
    simp only [List.mem_cons, forall_eq_or_imp]
    split
    · rename_i h; constructor
      · rintro ⟨h1, h2⟩; exact ⟨by omega, fun _ => by omega, h2⟩
      · rintro ⟨h1, h2, h3⟩; have := h2 h; exact ⟨by omega, h3⟩
    · rename_i h; constructor
      · rintro ⟨h1, h2⟩; exact ⟨h1, fun hh => absurd hh h, h2⟩
      · rintro ⟨h1, _, h3⟩; exact ⟨h1, h3⟩
theorem VL_le {d t x : Int} {k : Nat} : ∀ {l : List (List Int)} {b : Int}, VL d k t l b ≤ x ↔ b ≤ x ∧ ∀ r ∈ l, rVL k r - d * ab (rA r - t) ≤ x
  | [], b => by simp [VL]
  | r :: l, b => by
    simp only [VL]
    rw [VL_le]
    simp only [List.mem_cons, forall_eq_or_imp]
    constructor
    · rintro ⟨h1, h2⟩; exact ⟨by omega, by omega, h2⟩
    · rintro ⟨h1, h2, h3⟩; exact ⟨by omega, h3⟩
theorem le_VH {d t x : Int} {k : Nat} : ∀ {l : List (List Int)} {b : Int}, x ≤ VH d k t l b ↔ x ≤ b ∧ ∀ r ∈ l, x ≤ rVH k r + d * ab (rA r - t)
  | [], b => by simp [VH]
  | r :: l, b => by
    simp only [VH]
    rw [le_VH]
    simp only [List.mem_cons, forall_eq_or_imp]
    constructor
    · rintro ⟨h1, h2⟩; exact ⟨by omega, by omega, h2⟩
    · rintro ⟨h1, h2, h3⟩; exact ⟨by omega, h3⟩
theorem p49_eq (k : Nat) (x a b : Int) : p49 k x a b = some (decide (a ≤ x ∧ x ≤ b)) := by
  unfold p49
  simp only [jn_v, lt_v, sp_d]
  repeat' split
  all_goals first | exact congrArg some (decide_eq_decide.2 (by omega)) | exact congrArg some (decide_eq_false (by omega)).symm
theorem p50_eq (k : Nat) (x a b : Int) : p50 k x a b = some (decide (a ≤ x ∧ x ≤ b)) := by
  unfold p50
  simp only [jn_v, lt_v, sp_d]
  repeat' split
  all_goals first | exact congrArg some (decide_eq_decide.2 (by omega)) | exact congrArg some (decide_eq_false (by omega)).symm
theorem p52_eq (k : Nat) (L : List Int) : p52 k L = some (decide (bandOk (L.getD 0 0) (L.getD 1 0))) := by
  unfold p52 bandOk
  simp only [jn_v, lt_v, sp_d]
  generalize L.getD 0 0 = a
  generalize L.getD 1 0 = b
  repeat' split
  all_goals first | exact congrArg some (decide_eq_decide.2 (by omega)) | exact congrArg some (decide_eq_false (by omega)).symm
theorem p61_eq (k : Nat) (L : List Int) : p61 k L = some (decide (bandOk (L.getD 0 0) (L.getD 1 0))) := by
  unfold p61 bandOk
  simp only [jn_v, lt_v, p49_eq, cl_v, sp_d]
  generalize L.getD 0 0 = a
  generalize L.getD 1 0 = b
  repeat' split
  all_goals first | exact congrArg some (decide_eq_decide.2 (by omega)) | exact congrArg some (decide_eq_false (by omega)).symm
end Go.Proofs.Ythjkejbgknemgaa
namespace Go.Proofs.Ythjkejbgknemgaa
open Go.RowKit Classical
theorem drop_rd {R : List (List Int)} {i : Nat} (h : i < R.length) : R.drop i = rd R i :: R.drop (i + 1) := by
  rw [List.drop_eq_getElem_cons h]
  simp [rd, List.getD_eq_getElem?_getD, List.getElem?_eq_getElem h]
theorem rd_mem {R : List (List Int)} {i : Nat} (h : i < R.length) : rd R i ∈ R := by
  simp only [rd, List.getD_eq_getElem?_getD, List.getElem?_eq_getElem h, Option.getD_some]
  exact List.getElem_mem h
theorem asc_lt {R : List (List Int)} (ha : ∀ i, i + 1 < R.length → rA (rd R i) < rA (rd R (i + 1))) : ∀ {d i : Nat}, i + d + 1 < R.length → rA (rd R i) < rA (rd R (i + d + 1))
  | 0, i, h => ha i h
  | d + 1, i, h => by
    have h1 := asc_lt ha (d := d) (i := i) (by omega)
    have h2 := ha (i + d + 1) (by omega)
    have : i + (d + 1) + 1 = i + d + 1 + 1 := by omega
    rw [this]; omega
theorem asc_le {R : List (List Int)} (ha : ∀ i, i + 1 < R.length → rA (rd R i) < rA (rd R (i + 1))) {i j : Nat} (hij : i ≤ j) (hj : j < R.length) : rA (rd R i) ≤ rA (rd R j) := by
  rcases Nat.eq_or_lt_of_le hij with e | e
  · rw [e]; exact Int.le_refl _
  · have := asc_lt ha (d := j - i - 1) (i := i) (by omega)
    rw [show i + (j - i - 1) + 1 = j from by omega] at this
    omega
theorem ArgOk.range {R D} (h : ArgOk R D) {i : Nat} (hi : i < R.length) : stT R ≤ rA (rd R i) ∧ rA (rd R i) ≤ stT R + lastI R := by
  have := h.n2
  refine ⟨asc_le h.asc (Nat.zero_le _) hi, ?_⟩
  have := asc_le h.asc (i := i) (j := R.length - 1) (by omega) (by omega)
  unfold lastI
  omega
theorem ArgOk.st {R D} (h : ArgOk R D) : 0 ≤ stT R ∧ stT R ≤ 1099511627776 := by
  have := h.n2
  have := h.read 0 (by omega)
  exact ⟨this.1, this.2.1⟩
theorem ArgOk.last {R D} (h : ArgOk R D) : 1 ≤ lastI R := by
  have h2 := h.n2
  have := h.asc 0 (by omega)
  rw [Nat.zero_add] at this
  have h3 := asc_le h.asc (i := 1) (j := R.length - 1) (by omega) (by omega)
  unfold lastI stT
  omega
theorem p45_eq {k : Nat} {R : List (List Int)} {D : List Int} {m : Int} (h0 : 0 < R.length) (h1 : -9223372036854775808 ≤ stT R + m) (h2 : stT R + m ≤ 9223372036854775807) : p45 k R D m = some (stT R + m) := by
  unfold p45
  rw [gd_v (by omega)]
  simp only [lt_v]
  rw [show (R.getD 0 []).getD 0 0 + m = stT R + m from rfl, wr64 h1 h2]
theorem p53_eq {k : Nat} {R : List (List Int)} {D : List Int} (h0 : 0 < R.length) (hn : R.length ≤ 64) (h1 : -9223372036854775808 ≤ lastI R) (h2 : lastI R ≤ 9223372036854775807) : p53 k R D = some (lastI R) := by
  unfold p53
  simp only [lt_v]
  rw [wr64 (by omega) (by omega), gd_v (by omega), gd_v (by omega)]
  rw [show ((R.length : Int) - 1).toNat = R.length - 1 from by omega]
  rw [show (R.getD (R.length - 1) []).getD 0 0 - (R.getD 0 []).getD 0 0 = lastI R from rfl, wr64 h1 h2]
theorem p16_l1_eq {k : Nat} {R : List (List Int)} {D : List Int} {m t : Int} (hn : R.length ≤ 64) (ht : p45 k R D m = some t) (j : List Int → Option (List Int)) : ∀ (d i n : Nat) (a b : Int), i + d = R.length → d < n →
    p16_l1 k R D m j n (i : Int) [a, b] = j [PL t (R.drop i) a, PH t (R.drop i) b]
  | 0, i, n, a, b, h1, h2 => by
    obtain ⟨n, rfl⟩ : ∃ n', n = n' + 1 := ⟨n - 1, by omega⟩
    rw [p16_l1]
    simp only [lt_v, sp_d]
    rw [if_neg (by omega), List.drop_eq_nil_of_le (by omega)]
    rfl
  | d + 1, i, n, a, b, h1, h2 => by
    obtain ⟨n, rfl⟩ : ∃ n', n = n' + 1 := ⟨n - 1, by omega⟩
    rw [p16_l1]
    simp only [lt_v, sp_d, jn_v]
    rw [if_pos (by omega), gd_v (by omega)]
    simp only [ht, cl_v, mx_eq, mn_eq, Int.toNat_natCast]
    have hw : wr .i64 ((i : Int) + 1) = ((i + 1 : Nat) : Int) := by rw [wr64 (by omega) (by omega)]; omega
    rw [drop_rd (by omega : i < R.length)]
    simp only [PL, PH]
    have ih := fun a b => p16_l1_eq hn ht j d (i + 1) n a b (by omega) (by omega)
    show (if rA (rd R i) ≤ t then _ else _) = _
    have e1 : ∀ a b x : Int, List.set [a, b] 0 x = [x, b] := fun _ _ _ => rfl
    have e2 : ∀ a b x : Int, List.set [a, b] 1 x = [a, x] := fun _ _ _ => rfl
    simp only [e1, e2, List.getD_cons_zero, List.getD_cons_succ, hw, ih, ge_iff_le]
    show (if rA (rd R i) ≤ t then (if t ≤ rA (rd R i) then _ else _) else (if t ≤ rA (rd R i) then _ else _)) = _
    split <;> split <;> rfl
theorem p16_eq {k : Nat} (hk : 5000 ≤ k) {R : List (List Int)} {D : List Int} {m : Int} (h0 : 0 < R.length) (hn : R.length ≤ 64) (h1 : -9223372036854775808 ≤ stT R + m) (h2 : stT R + m ≤ 9223372036854775807) : p16 k R D m = some [pl R m, ph R m] := by
  unfold p16
  simp only [jn_v]
  have := p16_l1_eq hn (p45_eq (k := k) (D := D) h0 h1 h2) (fun L => some L) R.length 0 k (-1099511627776) 1099511627776 (by omega) (by omega)
  rw [List.drop_zero] at this
  exact this
theorem ab_mul {d x : Int} (h0 : 0 ≤ d) (h1 : d ≤ 1048576) (h2 : -2001 ≤ x) (h3 : x ≤ 2001) : 0 ≤ d * ab x ∧ d * ab x ≤ 2098200576 := by
  have : 0 ≤ ab x ∧ ab x ≤ 2001 := by unfold ab; omega
  constructor
  · exact Int.mul_nonneg h0 this.1
  · calc d * ab x ≤ 1048576 * 2001 := Int.mul_le_mul h1 this.2 this.1 (by omega)
      _ = 2098200576 := by rfl
theorem p17_l1_eq {k : Nat} {R : List (List Int)} {D : List Int} {m : Int} {kk : Nat} (hn : R.length ≤ 64) (ha : ArgOk R D) (hm0 : 0 ≤ m) (hm1 : m ≤ lastI R) (hk4 : kk < 4) (j : List Int → Option (List Int)) : ∀ (d i n : Nat) (a b : Int), i + d = R.length → d < n →
    p17_l1 k R D m (kk : Int) j n (i : Int) [a, b] = j [VL (D.getD kk 0) kk (stT R + m) (R.drop i) a, VH (D.getD kk 0) kk (stT R + m) (R.drop i) b]
  | 0, i, n, a, b, h1, h2 => by
    obtain ⟨n, rfl⟩ : ∃ n', n = n' + 1 := ⟨n - 1, by omega⟩
    rw [p17_l1]
    simp only [lt_v, sp_d]
    rw [if_neg (by omega), List.drop_eq_nil_of_le (by omega)]
    rfl
  | d + 1, i, n, a, b, h1, h2 => by
    obtain ⟨n, rfl⟩ : ∃ n', n = n' + 1 := ⟨n - 1, by omega⟩
    have hst := ha.st
    have hsp := ha.span
    have hrg := ha.range (i := i) (by omega)
    have hdr := ha.dr kk hk4
    have hrd := (ha.read i (by omega)).2.2.2 kk hk4
    have h45 : p45 k R D m = some (stT R + m) := p45_eq (by omega) (by omega) (by omega)
    have hmul := ab_mul hdr.1 hdr.2 (x := rA (rd R i) - (stT R + m)) (by omega) (by omega)
    have hw : wr .i64 ((i : Int) + 1) = ((i + 1 : Nat) : Int) := by rw [wr64 (by omega) (by omega)]; omega
    rw [p17_l1]
    simp only [lt_v, sp_d, h45, cl_v, Int.toNat_natCast]
    rw [if_pos (by omega), gd_v (by omega), gd_v (by omega), gd_v (by omega), gd_v (by omega), gd_v (by omega)]
    rw [show List.getD (List.getD R i []) 0 0 = rA (rd R i) from rfl]
    rw [wr64 (z := rA (rd R i) - (stT R + m)) (by omega) (by omega), wr64 (z := stT R + m - rA (rd R i)) (by omega) (by omega)]
    simp only [mx_eq, mn_eq]
    rw [show max (rA (rd R i) - (stT R + m)) (stT R + m - rA (rd R i)) = ab (rA (rd R i) - (stT R + m)) from by unfold ab; omega]
    rw [show D.getD (0 + kk * 1) 0 = D.getD kk 0 from by rw [Nat.zero_add, Nat.mul_one]]
    rw [wr64 (z := D.getD kk 0 * ab (rA (rd R i) - (stT R + m))) (by omega) (by omega)]
    rw [show List.getD (List.getD R i []) (3 + kk * 2 + 0) 0 = rVL kk (rd R i) from rfl, show List.getD (List.getD R i []) (3 + kk * 2 + 1) 0 = rVH kk (rd R i) from rfl]
    unfold bandOk at hrd
    rw [wr64 (z := rVL kk (rd R i) - _) (by omega) (by omega), wr64 (z := rVH kk (rd R i) + _) (by omega) (by omega), hw]
    have e1 : ∀ a b x : Int, List.set [a, b] 0 x = [x, b] := fun _ _ _ => rfl
    have e2 : ∀ a b x : Int, List.set [a, b] 1 x = [a, x] := fun _ _ _ => rfl
    simp only [e1, e2, List.getD_cons_zero, List.getD_cons_succ]
    rw [p17_l1_eq hn ha hm0 hm1 hk4 j d (i + 1) n _ _ (by omega) (by omega), drop_rd (by omega : i < R.length)]
    rfl
theorem p17_eq {k : Nat} (hk : 5000 ≤ k) {R : List (List Int)} {D : List Int} {m : Int} {kk : Nat} (hn : R.length ≤ 64) (ha : ArgOk R D) (hm0 : 0 ≤ m) (hm1 : m ≤ lastI R) (hk4 : kk < 4) : p17 k R D m (kk : Int) = some [vl R D kk m, vh R D kk m] := by
  unfold p17
  simp only [jn_v]
  have := p17_l1_eq (k := k) hn ha hm0 hm1 hk4 (fun L => some L) R.length 0 k (-1125899906842624) 1125899906842624 (by omega) (by omega)
  rw [List.drop_zero] at this
  exact this
theorem if_all {α : Type} {P Q S : Prop} [Decidable P] [Decidable Q] [Decidable S] (h : P ↔ Q ∧ S) (x y : α) : (if P then x else y) = if Q then (if S then x else y) else y := by
  by_cases hq : Q <;> by_cases hs : S <;> simp [h, hq, hs]
theorem if_row {α : Type} {c1 c2 c3 c4 P : Prop} [Decidable c1] [Decidable c2] [Decidable c3] [Decidable c4] [Decidable P] (h : P ↔ c1 ∧ ¬ c3 ∧ c2 ∧ c4) (X Z : α) : (if c1 then (if c3 then Z else (if c2 then (if c4 then X else Z) else Z)) else Z) = if P then X else Z := by
  by_cases h1 : c1 <;> by_cases h2 : c2 <;> by_cases h3 : c3 <;> by_cases h4 : c4 <;> simp [h, h1, h2, h3, h4]
theorem if_row' {α : Type} {c1 c2 c3 c4 P : Prop} [Decidable c1] [Decidable c2] [Decidable c3] [Decidable c4] [Decidable P] (h : P ↔ c1 ∧ ¬ c3 ∧ c2 ∧ c4) (X Z : α) : (if c1 then (if c2 then (if c3 then Z else (if c4 then X else Z)) else Z) else Z) = if P then X else Z := by
  by_cases h1 : c1 <;> by_cases h2 : c2 <;> by_cases h3 : c3 <;> by_cases h4 : c4 <;> simp [h, h1, h2, h3, h4]
theorem if_row0 {α : Type} {c1 c2 c4 P : Prop} [Decidable c1] [Decidable c2] [Decidable c4] [Decidable P] (h : P ↔ c1 ∧ c2 ∧ c4) (X Z : α) : (if c1 then (if c2 then (if c4 then X else Z) else Z) else Z) = if P then X else Z := by
  by_cases h1 : c1 <;> by_cases h2 : c2 <;> by_cases h4 : c4 <;> simp [h, h1, h2, h4]
theorem p21_l2_eq {k : Nat} {j : Option Int} {L : List Int} : ∀ (d i n : Nat), i + d = 4 → d < n → p21_l2 k j L n (i : Int) = if ∀ q, i ≤ q → q < 4 → bandOk (rVL q L) (rVH q L) then j else some 2
  | 0, i, n, h1, h2 => by
    obtain ⟨n, rfl⟩ : ∃ n', n = n' + 1 := ⟨n - 1, by omega⟩
    rw [p21_l2]
    simp only [lt_v, sp_d]
    rw [if_neg (by omega), if_pos (fun q h3 h4 => by omega)]
  | d + 1, i, n, h1, h2 => by
    obtain ⟨n, rfl⟩ : ∃ n', n = n' + 1 := ⟨n - 1, by omega⟩
    rw [p21_l2]
    simp only [lt_v, sp_d, p52_eq, cl_v, Int.toNat_natCast]
    rw [if_pos (by omega), gd_v (by omega)]
    have hw : wr .i64 ((i : Int) + 1) = ((i + 1 : Nat) : Int) := by rw [wr64 (by omega) (by omega)]; omega
    rw [hw, p21_l2_eq d (i + 1) n (by omega) (by omega)]
    have e0 : (List.take 2 (List.drop (3 + i * 2) L)).getD 0 0 = rVL i L := by simp [rVL, List.getD_eq_getElem?_getD]
    have e1 : (List.take 2 (List.drop (3 + i * 2) L)).getD 1 0 = rVH i L := by simp [rVH, List.getD_eq_getElem?_getD]
    rw [e0, e1]
    rw [if_all (P := ∀ q, i ≤ q → q < 4 → bandOk (rVL q L) (rVH q L)) (Q := bandOk (rVL i L) (rVH i L)) (S := ∀ q, i + 1 ≤ q → q < 4 → bandOk (rVL q L) (rVH q L)) ?_]
    constructor
    · intro h; exact ⟨h i (by omega) (by omega), fun q h3 h4 => h q (by omega) h4⟩
    · rintro ⟨h3, h4⟩ q h5 h6
      rcases Nat.eq_or_lt_of_le h5 with e | e
      · subst e; exact h3
      · exact h4 q e h6
def rowOkAt (R : List (List Int)) (i : Nat) : Prop := readOk (rd R i) ∧ (0 < i → rA (rd R (i - 1)) < rA (rd R i))
theorem p21_l1_eq {k : Nat} (hk : 5000 ≤ k) {R : List (List Int)} (hn : R.length ≤ 64) {j : Option Int} : ∀ (d i n : Nat), i + d = R.length → d < n → p21_l1 k R j n (i : Int) = if ∀ q, i ≤ q → q < R.length → rowOkAt R q then j else some 2
  | 0, i, n, h1, h2 => by
    obtain ⟨n, rfl⟩ : ∃ n', n = n' + 1 := ⟨n - 1, by omega⟩
    rw [p21_l1]
    simp only [lt_v, sp_d]
    rw [if_neg (by omega), if_pos (fun q h3 h4 => by omega)]
  | d + 1, i, n, h1, h2 => by
    obtain ⟨n, rfl⟩ : ∃ n', n = n' + 1 := ⟨n - 1, by omega⟩
    rw [p21_l1]
    simp only [lt_v, sp_d, p52_eq, p50_eq, cl_v, jn_v, Int.toNat_natCast]
    rw [if_pos (by omega), gd_v (by omega)]
    have hw : wr .i64 ((i : Int) + 1) = ((i + 1 : Nat) : Int) := by rw [wr64 (by omega) (by omega)]; omega
    rw [hw, p21_l1_eq hk hn d (i + 1) n (by omega) (by omega)]
    have h2' := p21_l2_eq (k := k) (j := if ∀ q, i + 1 ≤ q → q < R.length → rowOkAt R q then j else some 2) (L := rd R i) 4 0 k (by omega) (by omega)
    have hl2 : p21_l2 k (if ∀ q, i + 1 ≤ q → q < R.length → rowOkAt R q then j else some 2) (R.getD i []) k 0 = _ := h2'
    rw [hl2]
    have e0 : (List.take 2 (List.drop 1 (R.getD i []))).getD 0 0 = rPL (rd R i) := by simp [rPL, rd, List.getD_eq_getElem?_getD]
    have e1 : (List.take 2 (List.drop 1 (R.getD i []))).getD 1 0 = rPH (rd R i) := by simp [rPH, rd, List.getD_eq_getElem?_getD]
    rw [e0, e1]
    rw [if_all (P := ∀ q, i ≤ q → q < R.length → rowOkAt R q) (Q := rowOkAt R i) (S := ∀ q, i + 1 ≤ q → q < R.length → rowOkAt R q) (by
      constructor
      · intro h; exact ⟨h i (by omega) (by omega), fun q h3 h4 => h q (by omega) h4⟩
      · rintro ⟨h3, h4⟩ q h5 h6
        rcases Nat.eq_or_lt_of_le h5 with e | e
        · subst e; exact h3
        · exact h4 q e h6)]
    generalize hX : (if ∀ q, i + 1 ≤ q → q < R.length → rowOkAt R q then j else some 2) = X
    have hA : List.getD (R.getD i []) 0 0 = rA (rd R i) := rfl
    rw [hA]
    by_cases hi : 0 < i
    · have hw2 : wr .i64 ((i : Int) - 1) = ((i - 1 : Nat) : Int) := by rw [wr64 (by omega) (by omega)]; omega
      rw [if_pos (show (i : Int) > 0 by omega), hw2, gd_v (by omega)]
      simp only [Int.toNat_natCast, sp_tt, sp_nd]
      refine if_row (c3 := rA (rd R i) ≤ rA (rd R (i - 1))) ?_ _ _
      unfold rowOkAt readOk
      constructor
      · rintro ⟨⟨a1, a2, a3, a4⟩, a5⟩
        exact ⟨⟨a1, a2⟩, by have := a5 hi; omega, a3, fun q _ hq => a4 q hq⟩
      · rintro ⟨⟨a1, a2⟩, a3, a4, a5⟩
        exact ⟨⟨a1, a2, a4, fun q hq => a5 q (Nat.zero_le _) hq⟩, fun _ => by omega⟩
    · rw [if_neg (show ¬ (i : Int) > 0 by omega)]
      simp only [sp_tt, sp_nd]
      refine if_row0 ?_ _ _
      unfold rowOkAt readOk
      constructor
      · rintro ⟨⟨a1, a2, a3, a4⟩, a5⟩
        exact ⟨⟨a1, a2⟩, a3, fun q _ hq => a4 q hq⟩
      · rintro ⟨⟨a1, a2⟩, a4, a5⟩
        exact ⟨⟨a1, a2, a4, fun q hq => a5 q (Nat.zero_le _) hq⟩, fun h => absurd h hi⟩
theorem p21_l3_eq {k : Nat} {D : List Int} {j : Option Int} : ∀ (d i n : Nat), i + d = 4 → d < n → p21_l3 k D j n (i : Int) = if ∀ q, i ≤ q → q < 4 → 0 ≤ D.getD q 0 ∧ D.getD q 0 ≤ 1048576 then j else some 2
  | 0, i, n, h1, h2 => by
    obtain ⟨n, rfl⟩ : ∃ n', n = n' + 1 := ⟨n - 1, by omega⟩
    rw [p21_l3]
    simp only [lt_v, sp_d]
    rw [if_neg (by omega), if_pos (fun q h3 h4 => by omega)]
  | d + 1, i, n, h1, h2 => by
    obtain ⟨n, rfl⟩ : ∃ n', n = n' + 1 := ⟨n - 1, by omega⟩
    rw [p21_l3]
    simp only [lt_v, sp_d, p50_eq, cl_v, Int.toNat_natCast]
    rw [if_pos (by omega), gd_v (by omega)]
    have hw : wr .i64 ((i : Int) + 1) = ((i + 1 : Nat) : Int) := by rw [wr64 (by omega) (by omega)]; omega
    rw [hw, p21_l3_eq d (i + 1) n (by omega) (by omega)]
    rw [if_all (P := ∀ q, i ≤ q → q < 4 → 0 ≤ D.getD q 0 ∧ D.getD q 0 ≤ 1048576) (Q := 0 ≤ D.getD i 0 ∧ D.getD i 0 ≤ 1048576) (S := ∀ q, i + 1 ≤ q → q < 4 → 0 ≤ D.getD q 0 ∧ D.getD q 0 ≤ 1048576) ?_]
    · simp only [Nat.zero_add, Nat.mul_one]
    constructor
    · intro h; exact ⟨h i (by omega) (by omega), fun q h3 h4 => h q (by omega) h4⟩
    · rintro ⟨h3, h4⟩ q h5 h6
      rcases Nat.eq_or_lt_of_le h5 with e | e
      · subst e; exact h3
      · exact h4 q e h6
theorem p21_l5_eq {k : Nat} (hk : 5000 ≤ k) {R : List (List Int)} {D : List Int} (hn : R.length ≤ 64) (ha : ArgOk R D) {m : Int} (hm0 : 0 ≤ m) (hm1 : m ≤ lastI R) {j : Option Int} : ∀ (d i n : Nat), i + d = 4 → d < n → p21_l5 k R D m j n (i : Int) = if ∀ q, i ≤ q → q < 4 → vl R D q m ≤ vh R D q m then j else some 16
  | 0, i, n, h1, h2 => by
    obtain ⟨n, rfl⟩ : ∃ n', n = n' + 1 := ⟨n - 1, by omega⟩
    rw [p21_l5]
    simp only [lt_v, sp_d]
    rw [if_neg (by omega), if_pos (fun q h3 h4 => by omega)]
  | d + 1, i, n, h1, h2 => by
    obtain ⟨n, rfl⟩ : ∃ n', n = n' + 1 := ⟨n - 1, by omega⟩
    rw [p21_l5]
    simp only [lt_v, sp_d, p17_eq hk hn ha hm0 hm1 (show i < 4 by omega), cl_v]
    rw [if_pos (by omega), gd_v (c := [_, _].length = 2) rfl]
    have hw : wr .i64 ((i : Int) + 1) = ((i + 1 : Nat) : Int) := by rw [wr64 (by omega) (by omega)]; omega
    rw [hw, p21_l5_eq hk hn ha hm0 hm1 d (i + 1) n (by omega) (by omega)]
    simp only [List.getD_cons_zero, List.getD_cons_succ]
    rw [if_all (P := ∀ q, i ≤ q → q < 4 → vl R D q m ≤ vh R D q m) (Q := vl R D i m ≤ vh R D i m) (S := ∀ q, i + 1 ≤ q → q < 4 → vl R D q m ≤ vh R D q m) ?_]
    · by_cases c : vl R D i m ≤ vh R D i m
      · rw [if_pos c, if_neg (by omega)]
      · rw [if_neg c, if_pos (by omega)]
    constructor
    · intro h; exact ⟨h i (by omega) (by omega), fun q h3 h4 => h q (by omega) h4⟩
    · rintro ⟨h3, h4⟩ q h5 h6
      rcases Nat.eq_or_lt_of_le h5 with e | e
      · subst e; exact h3
      · exact h4 q e h6
theorem p21_l4_eq {k : Nat} (hk : 5000 ≤ k) {R : List (List Int)} {D : List Int} (hn : R.length ≤ 64) (ha : ArgOk R D) {j : Option Int} : ∀ (d n : Nat) (m : Int), 0 ≤ m → m + d = lastI R + 1 → d < n → p21_l4 k R D j n m = if ∀ q, m ≤ q → q ≤ lastI R → SumAt R D q then j else some 16
  | 0, n, m, h0, h1, h2 => by
    obtain ⟨n, rfl⟩ : ∃ n', n = n' + 1 := ⟨n - 1, by omega⟩
    have := ha.last
    have := ha.span
    have := ha.n2
    rw [p21_l4]
    simp only [lt_v, sp_d, p53_eq (k := k) (D := D) (by omega) hn (by omega) (by omega), cl_v]
    rw [if_neg (by omega), if_pos (fun q h3 h4 => by omega)]
  | d + 1, n, m, h0, h1, h2 => by
    obtain ⟨n, rfl⟩ : ∃ n', n = n' + 1 := ⟨n - 1, by omega⟩
    have := ha.last
    have := ha.span
    have := ha.n2
    have := ha.st
    rw [p21_l4]
    simp only [lt_v, sp_d, jn_v, p53_eq (k := k) (D := D) (by omega) hn (by omega) (by omega), p16_eq (D := D) hk (by omega) hn (show -9223372036854775808 ≤ stT R + m by omega) (by omega), cl_v]
    rw [if_pos (by omega), gd_v (c := [_, _].length = 2) rfl, wr64 (by omega) (by omega), p21_l4_eq hk hn ha d n (m + 1) (by omega) (by omega) (by omega)]
    have h5 := p21_l5_eq hk hn ha h0 (show m ≤ lastI R by omega) (j := if ∀ q, m + 1 ≤ q → q ≤ lastI R → SumAt R D q then j else some 16) 4 0 k (by omega) (by omega)
    rw [show (0 : Int) = ((0 : Nat) : Int) from rfl, h5]
    simp only [List.getD_cons_zero, List.getD_cons_succ]
    rw [if_all (P := ∀ q, m ≤ q → q ≤ lastI R → SumAt R D q) (Q := SumAt R D m) (S := ∀ q, m + 1 ≤ q → q ≤ lastI R → SumAt R D q) ?_]
    · by_cases c : pl R m ≤ ph R m <;> by_cases c2 : ∀ q, q < 4 → vl R D q m ≤ vh R D q m
      · rw [if_neg (by omega), if_pos (fun q _ => c2 q), if_pos (show SumAt R D m from ⟨c, c2⟩)]
      · rw [if_neg (by omega), if_neg (fun h => c2 fun q => h q (Nat.zero_le _)), if_neg (fun h : SumAt R D m => c2 h.2)]
      · rw [if_pos (by omega), if_neg (fun h : SumAt R D m => c h.1)]
      · rw [if_pos (by omega), if_neg (fun h : SumAt R D m => c h.1)]
    constructor
    · intro h; exact ⟨h m (by omega) (by omega), fun q h3 h4 => h q (by omega) h4⟩
    · rintro ⟨h3, h4⟩ q h5 h6
      by_cases e : q = m
      · subst e; exact h3
      · exact h4 q (by omega) h6
theorem p21_l1_eq0 {k : Nat} (hk : 5000 ≤ k) {R : List (List Int)} (hn : R.length ≤ 64) {j : Option Int} : p21_l1 k R j k 0 = if ∀ q, q < R.length → rowOkAt R q then j else some 2 := by
  have := p21_l1_eq hk hn (j := j) R.length 0 k (by omega) (by omega)
  simpa using this
theorem p21_l3_eq0 {k : Nat} (hk : 5 ≤ k) {D : List Int} {j : Option Int} : p21_l3 k D j k 0 = if ∀ q, q < 4 → 0 ≤ D.getD q 0 ∧ D.getD q 0 ≤ 1048576 then j else some 2 := by
  have := p21_l3_eq (k := k) (D := D) (j := j) 4 0 k (by omega) (by omega)
  simpa using this
theorem p21_eq {k : Nat} (hk : 5000 ≤ k) {R : List (List Int)} {D : List Int} (hD : D.length = 4) (hb : ∀ r ∈ R, ∀ z ∈ r, -9223372036854775808 ≤ z ∧ z ≤ 9223372036854775807) : p21 k R D = some (logE R D) := by
  unfold p21 logE
  simp only [lt_v, sp_d, jn_v]
  by_cases hn : 64 < R.length
  · rw [if_pos (by omega), if_pos hn]
  · rw [if_neg (by omega), if_neg hn]
    have hn' : R.length ≤ 64 := by omega
    by_cases h2 : R.length < 2
    · rw [if_pos (by omega), if_pos (fun h => by have := h.n2; omega)]
    · rw [if_neg (by omega)]
      rw [p21_l1_eq0 hk hn']
      by_cases hrow : ∀ q, q < R.length → rowOkAt R q
      · rw [if_pos hrow]
        have hasc : ∀ i, i + 1 < R.length → rA (rd R i) < rA (rd R (i + 1)) := fun i hi => by
          have := (hrow (i + 1) hi).2 (by omega)
          simpa using this
        have r0 := (hrow 0 (by omega)).1
        have r1 := (hrow (R.length - 1) (by omega)).1
        unfold readOk at r0 r1
        have hla : lastI R = rA (rd R (R.length - 1)) - rA (rd R 0) := rfl
        rw [wr64 (z := (R.length : Int) - 1) (by omega) (by omega), gd_v (by omega), gd_v (by omega), show ((R.length : Int) - 1).toNat = R.length - 1 from by omega]
        rw [show (R.getD (R.length - 1) []).getD 0 0 - (R.getD 0 []).getD 0 0 = lastI R from rfl, wr64 (z := lastI R) (by omega) (by omega)]
        by_cases hs : lastI R ≤ 2000
        · rw [if_neg (by omega), p21_l3_eq0 (by omega)]
          by_cases hd : ∀ q, q < 4 → 0 ≤ D.getD q 0 ∧ D.getD q 0 ≤ 1048576
          · have ha : ArgOk R D := ⟨by omega, fun i hi => (hrow i hi).1, hasc, hs, hd⟩
            rw [if_pos hd, if_neg (fun h => h ha)]
            have hla1 := ha.last
            rw [p21_l4_eq hk hn' ha (lastI R + 1).toNat k 0 (by omega) (by omega) (by omega)]
            by_cases hq : ∀ q, 0 ≤ q → q ≤ lastI R → SumAt R D q
            · rw [if_pos hq, if_neg (fun h : ¬ SumOk R D => h hq)]
            · rw [if_neg hq, if_pos (show ¬ SumOk R D from hq)]
          · rw [if_neg hd, if_pos (fun h => hd h.dr)]
        · rw [if_pos (by omega), if_pos (fun h => hs h.span)]
      · rw [if_neg hrow, if_pos]
        intro h
        refine hrow fun q hq => ⟨h.read q hq, fun h0 => ?_⟩
        have := h.asc (q - 1) (by omega)
        rw [show q - 1 + 1 = q from by omega] at this
        exact this
end Go.Proofs.Ythjkejbgknemgaa
namespace Go.Proofs.Ythjkejbgknemgaa
open Go.RowKit Classical
def ML : List (List Int) → Int → Int
  | [], a => a
  | r :: l, a => ML l (max a (r.getD 0 0))
def MH : List (List Int) → Int → Int
  | [], b => b
  | r :: l, b => MH l (min b (r.getD 1 0))
theorem p83_l1_eq {k : Nat} {P : List (List Int)} (hn : P.length ≤ 1000) (j : List Int → Option (List Int)) : ∀ (d i n : Nat) (a b : Int), i + d = P.length → d < n →
    p83_l1 k j P n (i : Int) [a, b] = j [ML (P.drop i) a, MH (P.drop i) b]
  | 0, i, n, a, b, h1, h2 => by
    obtain ⟨n, rfl⟩ : ∃ n', n = n' + 1 := ⟨n - 1, by omega⟩
    rw [p83_l1]
    simp only [lt_v, sp_d]
    rw [if_neg (by omega), List.drop_eq_nil_of_le (by omega)]
    rfl
  | d + 1, i, n, a, b, h1, h2 => by
    obtain ⟨n, rfl⟩ : ∃ n', n = n' + 1 := ⟨n - 1, by omega⟩
    rw [p83_l1]
    simp only [lt_v, sp_d, mx_eq, mn_eq, Int.toNat_natCast]
    have hw : wr .i64 ((i : Int) + 1) = ((i + 1 : Nat) : Int) := by rw [wr64 (by omega) (by omega)]; omega
    rw [if_pos (by omega), gd_v (by omega), hw]
    have e1 : ∀ a b x : Int, List.set [a, b] 0 x = [x, b] := fun _ _ _ => rfl
    have e2 : ∀ a b x : Int, List.set [a, b] 1 x = [a, x] := fun _ _ _ => rfl
    simp only [e1, e2, List.getD_cons_zero, List.getD_cons_succ]
    rw [p83_l1_eq hn j d (i + 1) n _ _ (by omega) (by omega), drop_rd (by omega : i < P.length)]
    rfl
theorem p83_eq {k : Nat} (hk : 5000 ≤ k) {a b : Int} {P : List (List Int)} (hn : P.length ≤ 100) : p83 k ([a, b] :: P) = some [ML P a, MH P b] := by
  unfold p83
  simp only [jn_v, lt_v]
  rw [gd_v (by simp), gd_v (by simp)]
  have hp : part ([a, b] :: P) ((1 : Int)).toNat ([a, b] :: P).length = P := by
    have : ((1 : Int)).toNat = 1 := rfl
    simp [part, this]
  rw [hp]
  have := p83_l1_eq (k := k) (P := P) (by omega) (fun L5 => some L5) P.length 0 k a b (by omega) (by omega)
  rw [List.drop_zero] at this
  exact this
theorem p83_two {k : Nat} (hk : 5000 ≤ k) {a b c d : Int} : p83 k [[a, b], [c, d]] = some [max a c, min b d] := by
  rw [p83_eq hk (by simp)]
  rfl
theorem PL_base {t b b' : Int} {l : List (List Int)} {r : List Int} (hr : r ∈ l) (ht : rA r ≤ t) (h1 : b ≤ rPL r) (h2 : b' ≤ rPL r) : PL t l b = PL t l b' := by
  have h3 : PL t l b ≤ PL t l b' := PL_le.2 ⟨Int.le_trans h1 ((PL_le.1 (Int.le_refl _)).2 r hr ht), fun q hq hqt => (PL_le.1 (Int.le_refl (PL t l b'))).2 q hq hqt⟩
  have h4 : PL t l b' ≤ PL t l b := PL_le.2 ⟨Int.le_trans h2 ((PL_le.1 (Int.le_refl _)).2 r hr ht), fun q hq hqt => (PL_le.1 (Int.le_refl (PL t l b))).2 q hq hqt⟩
  omega
theorem PH_base {t b b' : Int} {l : List (List Int)} {r : List Int} (hr : r ∈ l) (ht : t ≤ rA r) (h1 : rPH r ≤ b) (h2 : rPH r ≤ b') : PH t l b = PH t l b' := by
  have h3 : PH t l b ≤ PH t l b' := le_PH.2 ⟨Int.le_trans ((le_PH.1 (Int.le_refl _)).2 r hr ht) h2, fun q hq hqt => (le_PH.1 (Int.le_refl (PH t l b))).2 q hq hqt⟩
  have h4 : PH t l b' ≤ PH t l b := le_PH.2 ⟨Int.le_trans ((le_PH.1 (Int.le_refl _)).2 r hr ht) h1, fun q hq hqt => (le_PH.1 (Int.le_refl (PH t l b'))).2 q hq hqt⟩
  omega
theorem p73_l1_eq {k : Nat} (hk : 5000 ≤ k) {R : List (List Int)} {t : Int} (hn : R.length ≤ 64) (j : List Int → Option (List Int)) (hr : ∀ i, i < R.length → readOk (rd R i)) : ∀ (d i n : Nat) (a b : Int), i + d = R.length → d < n → -1073741824 ≤ a → b ≤ 1073741824 →
    p73_l1 k R t j n (i : Int) [a, b] = j [PL t (R.drop i) a, PH t (R.drop i) b]
  | 0, i, n, a, b, h1, h2, ha, hb => by
    obtain ⟨n, rfl⟩ : ∃ n', n = n' + 1 := ⟨n - 1, by omega⟩
    rw [p73_l1]
    simp only [lt_v, sp_d]
    rw [if_neg (by omega), List.drop_eq_nil_of_le (by omega)]
    rfl
  | d + 1, i, n, a, b, h1, h2, ha, hb => by
    obtain ⟨n, rfl⟩ : ∃ n', n = n' + 1 := ⟨n - 1, by omega⟩
    have hri := (hr i (by omega)).2.2.1
    unfold bandOk at hri
    rw [p73_l1]
    simp only [lt_v, sp_d, jn_v, Int.toNat_natCast]
    have hw : wr .i64 ((i : Int) + 1) = ((i + 1 : Nat) : Int) := by rw [wr64 (by omega) (by omega)]; omega
    rw [if_pos (by omega), gd_v (by omega), hw]
    rw [drop_rd (by omega : i < R.length)]
    simp only [PL, PH]
    have hg : ∀ (a b : Int) (x : Option (List Int)), gd ([a, b].length = 2) x = x := fun _ _ _ => rfl
    have ih := fun a b ha hb => p73_l1_eq (t := t) hk hn j hr d (i + 1) n a b (by omega) (by omega) ha hb
    simp only [p83_two hk, cl_v, hg, ge_iff_le]
    show (if rA (rd R i) ≤ t then (if t ≤ rA (rd R i) then p73_l1 k R t j n ((i + 1 : Nat) : Int) [max (max a (rPL (rd R i))) (-1073741824), min (min b 1073741824) (rPH (rd R i))] else p73_l1 k R t j n ((i + 1 : Nat) : Int) [max a (rPL (rd R i)), min b 1073741824]) else
      (if t ≤ rA (rd R i) then p73_l1 k R t j n ((i + 1 : Nat) : Int) [max a (-1073741824), min b (rPH (rd R i))] else p73_l1 k R t j n ((i + 1 : Nat) : Int) [a, b])) = _
    split <;> split
    · rw [show max (max a (rPL (rd R i))) (-1073741824) = max a (rPL (rd R i)) from by omega, show min (min b 1073741824) (rPH (rd R i)) = min b (rPH (rd R i)) from by omega]
      exact ih _ _ (by omega) (by omega)
    · rw [show min b 1073741824 = b from by omega]
      exact ih _ _ (by omega) (by omega)
    · rw [show max a (-1073741824) = a from by omega]
      exact ih _ _ (by omega) (by omega)
    · exact ih _ _ (by omega) (by omega)
theorem pl_base {R : List (List Int)} {D : List Int} (ha : ArgOk R D) {m : Int} (h0 : 0 ≤ m) : PL (stT R + m) R (-1073741824) = pl R m := by
  have h2 := ha.n2
  have hb := (ha.read 0 (by omega)).2.2.1
  unfold bandOk at hb
  exact PL_base (rd_mem (i := 0) (by omega)) (by have : stT R = rA (rd R 0) := rfl; omega) (by omega) (by omega)
theorem ph_base {R : List (List Int)} {D : List Int} (ha : ArgOk R D) {m : Int} (h1 : m ≤ lastI R) : PH (stT R + m) R 1073741824 = ph R m := by
  have h2 := ha.n2
  have hb := (ha.read (R.length - 1) (by omega)).2.2.1
  unfold bandOk at hb
  exact PH_base (rd_mem (i := R.length - 1) (by omega)) (by have : lastI R = rA (rd R (R.length - 1)) - stT R := rfl; omega) (by omega) (by omega)
theorem p73_eq {k : Nat} (hk : 5000 ≤ k) {R : List (List Int)} {D D' : List Int} {st : Int} {P V} (hn : R.length ≤ 64) (ha : ArgOk R D) {m : Int} (h0 : 0 ≤ m) (h1 : m ≤ lastI R) : p73 k R D' st P V (stT R + m) = some [pl R m, ph R m] := by
  unfold p73
  simp only [jn_v]
  have := p73_l1_eq hk (t := stT R + m) hn (fun L => some L) ha.read R.length 0 k (-1073741824) 1073741824 (by omega) (by omega) (by omega) (by omega)
  rw [List.drop_zero, pl_base ha h0, ph_base ha h1] at this
  exact this
def vrow (d : Int) (kk : Nat) (t : Int) (r : List Int) : List Int := [rVL kk r - d * ab (rA r - t), rVH kk r + d * ab (rA r - t)]
theorem p84_l1_eq {k : Nat} {R : List (List Int)} {D : List Int} {m : Int} {kk : Nat} (hn : R.length ≤ 64) (ha : ArgOk R D) (hm0 : 0 ≤ m) (hm1 : m ≤ lastI R) (hk4 : kk < 4) (j : List (List Int) → Option (List Int)) : ∀ (d i n : Nat) (W : List (List Int)), i + d = R.length → d < n → W.length = i →
    p84_l1 k (stT R + m) R D (kk : Int) j n (i : Int) W = j (W ++ (R.drop i).map (vrow (D.getD kk 0) kk (stT R + m)))
  | 0, i, n, W, h1, h2, hW => by
    obtain ⟨n, rfl⟩ : ∃ n', n = n' + 1 := ⟨n - 1, by omega⟩
    rw [p84_l1]
    simp only [lt_v, sp_d]
    rw [if_neg (by omega), List.drop_eq_nil_of_le (by omega)]
    simp
  | d + 1, i, n, W, h1, h2, hW => by
    obtain ⟨n, rfl⟩ : ∃ n', n = n' + 1 := ⟨n - 1, by omega⟩
    have hst := ha.st
    have hsp := ha.span
    have hrg := ha.range (i := i) (by omega)
    have hdr := ha.dr kk hk4
    have hrd := (ha.read i (by omega)).2.2.2 kk hk4
    have hmul := ab_mul hdr.1 hdr.2 (x := rA (rd R i) - (stT R + m)) (by omega) (by omega)
    have hw : wr .i64 ((i : Int) + 1) = ((i + 1 : Nat) : Int) := by rw [wr64 (by omega) (by omega)]; omega
    unfold bandOk at hrd
    rw [p84_l1]
    simp only [lt_v, sp_d, Int.toNat_natCast]
    rw [if_pos (by omega), gd_v (by omega), gd_v (by omega), gd_v (by omega), gd_v (by omega)]
    rw [show List.getD (List.getD R i []) 0 0 = rA (rd R i) from rfl]
    rw [wr64 (z := rA (rd R i) - (stT R + m)) (by omega) (by omega), wr64 (z := stT R + m - rA (rd R i)) (by omega) (by omega)]
    simp only [mx_eq]
    rw [show max (rA (rd R i) - (stT R + m)) (stT R + m - rA (rd R i)) = ab (rA (rd R i) - (stT R + m)) from by unfold ab; omega]
    rw [show D.getD (kk * 1) 0 = D.getD kk 0 from by rw [Nat.mul_one]]
    rw [wr64 (z := D.getD kk 0 * ab (rA (rd R i) - (stT R + m))) (by omega) (by omega)]
    rw [show List.getD (List.getD R i []) (3 + kk * 2 + 0) 0 = rVL kk (rd R i) from rfl, show List.getD (List.getD R i []) (3 + kk * 2 + 1) 0 = rVH kk (rd R i) from rfl]
    rw [wr64 (z := rVL kk (rd R i) - _) (by omega) (by omega), wr64 (z := rVH kk (rd R i) + _) (by omega) (by omega), hw]
    rw [gd_v (by simp; omega)]
    rw [p84_l1_eq hn ha hm0 hm1 hk4 j d (i + 1) n _ (by omega) (by omega) (by simp [hW]), drop_rd (by omega : i < R.length)]
    simp [vrow]
theorem ML_vrow {d t : Int} {kk : Nat} : ∀ {l : List (List Int)} {a : Int}, ML (l.map (vrow d kk t)) a = VL d kk t l a
  | [], a => rfl
  | r :: l, a => by
    simp only [List.map_cons, ML, VL]
    rw [ML_vrow]
    rfl
theorem MH_vrow {d t : Int} {kk : Nat} : ∀ {l : List (List Int)} {a : Int}, MH (l.map (vrow d kk t)) a = VH d kk t l a
  | [], a => rfl
  | r :: l, a => by
    simp only [List.map_cons, MH, VH]
    rw [MH_vrow]
    rfl
theorem p84_eq {k : Nat} (hk : 5000 ≤ k) {R : List (List Int)} {D : List Int} {st : Int} {P V} {m : Int} {kk : Nat} (hn : R.length ≤ 64) (ha : ArgOk R D) (hm0 : 0 ≤ m) (hm1 : m ≤ lastI R) (hk4 : kk < 4) : p84 k (stT R + m) R D st P V (kk : Int) = some [vl R D kk m, vh R D kk m] := by
  unfold p84
  simp only [jn_v]
  have := p84_l1_eq (k := k) hn ha hm0 hm1 hk4 (fun R2 => cl (p83 k R2) fun v30 => gd ((v30).length = 2) <| some v30) R.length 0 k [] (by omega) (by omega) rfl
  rw [show ((0 : Nat) : Int) = 0 from rfl] at this
  rw [this, List.drop_zero, List.nil_append]
  have h2 := ha.n2
  obtain ⟨r, l, rfl⟩ : ∃ r l, R = r :: l := by
    cases R with
    | nil => simp at h2
    | cons r l => exact ⟨r, l, rfl⟩
  have hst := ha.st
  have hsp := ha.span
  have hrg := ha.range (i := 0) (by simp)
  have hdr := ha.dr kk hk4
  have hrd := (ha.read 0 (by simp)).2.2.2 kk hk4
  have hmul := ab_mul hdr.1 hdr.2 (x := rA (rd (r :: l) 0) - (stT (r :: l) + m)) (by omega) (by omega)
  have hr0 : rd (r :: l) 0 = r := rfl
  rw [hr0] at hrd hmul
  unfold bandOk at hrd
  simp only [List.map_cons]
  rw [show vrow (D.getD kk 0) kk (stT (r :: l) + m) r = [rVL kk r - D.getD kk 0 * ab (rA r - (stT (r :: l) + m)), rVH kk r + D.getD kk 0 * ab (rA r - (stT (r :: l) + m))] from rfl]
  rw [p83_eq hk (by simp at hn ⊢; omega), cl_v, ML_vrow, MH_vrow]
  simp only [vl, vh, VL, VH]
  rw [show max (-1125899906842624) (rVL kk r - D.getD kk 0 * ab (rA r - (stT (r :: l) + m))) = rVL kk r - D.getD kk 0 * ab (rA r - (stT (r :: l) + m)) from by omega]
  rw [show min 1125899906842624 (rVH kk r + D.getD kk 0 * ab (rA r - (stT (r :: l) + m))) = rVH kk r + D.getD kk 0 * ab (rA r - (stT (r :: l) + m)) from by omega]
  rfl
end Go.Proofs.Ythjkejbgknemgaa
namespace Go.Proofs.Ythjkejbgknemgaa
open Go.RowKit Classical
theorem set_fill {α : Type} (g : Nat → α) (z : α) (i d : Nat) (x : α) (hx : x = g i) : ((List.range i).map g ++ List.replicate (d + 1) z).set i x = (List.range (i + 1)).map g ++ List.replicate d z := by
  subst hx
  rw [List.set_append_right _ _ (by simp)]
  simp [List.range_succ, List.replicate_succ]
theorem getD_fill {α : Type} (g : Nat → α) (z y : α) (i d : Nat) : ((List.range (i + 1)).map g ++ List.replicate d z).getD i y = g i := by
  simp [List.getD_eq_getElem?_getD, List.getElem?_append_left]
def pls (R : List (List Int)) (N : Nat) : List (List Int) := (List.range N).map fun m : Nat => [pl R (m : Int), ph R (m : Int)]
def vls (R : List (List Int)) (D : List Int) (kk N : Nat) : List (List Int) := (List.range N).map fun m : Nat => [vl R D kk (m : Int), vh R D kk (m : Int)]
theorem p72a_l1_eq {k : Nat} (hk : 5000 ≤ k) {R : List (List Int)} {D D' : List Int} {P V} (hn : R.length ≤ 64) (ha : ArgOk R D) {N : Nat} (hN : (N : Int) = lastI R + 1) (j : List (List Int) → Option (List (List Int) × Bool)) : ∀ (d i n : Nat), i + d = N → d < n →
    p72a_l1 k R D' (stT R) P V (N : Int) j n (i : Int) ((List.range i).map (fun m : Nat => [pl R (m : Int), ph R (m : Int)]) ++ List.replicate d [0, 0]) = if ∀ q : Nat, i ≤ q → q < N → pl R q ≤ ph R q then j (pls R N) else some ([], false)
  | 0, i, n, h1, h2 => by
    obtain ⟨n, rfl⟩ : ∃ n', n = n' + 1 := ⟨n - 1, by omega⟩
    rw [p72a_l1]
    simp only [lt_v, sp_d]
    rw [if_neg (by omega), if_pos (fun q h3 h4 => by omega), show i = N from by omega]
    simp [pls]
  | d + 1, i, n, h1, h2 => by
    obtain ⟨n, rfl⟩ : ∃ n', n = n' + 1 := ⟨n - 1, by omega⟩
    have hst := ha.st
    have hsp := ha.span
    have hw : wr .i64 ((i : Int) + 1) = ((i + 1 : Nat) : Int) := by rw [wr64 (by omega) (by omega)]; omega
    rw [p72a_l1]
    simp only [lt_v, sp_d, Int.toNat_natCast]
    rw [if_pos (by omega), wr64 (z := stT R + (i : Int)) (by omega) (by omega), p73_eq hk hn ha (by omega) (by omega), cl_v]
    rw [gd_v (c := [_, _].length = 2) rfl, gd_v (by simp; omega), set_fill (fun m : Nat => [pl R (m : Int), ph R (m : Int)]) [0, 0] i d _ rfl]
    rw [gd_v (by simp; omega), gd_v (by simp; omega), getD_fill (fun m : Nat => [pl R (m : Int), ph R (m : Int)]), hw]
    simp only [List.getD_cons_zero, List.getD_cons_succ]
    rw [p72a_l1_eq hk hn ha hN j d (i + 1) n (by omega) (by omega)]
    rw [if_all (P := ∀ q : Nat, i ≤ q → q < N → pl R q ≤ ph R q) (Q := pl R i ≤ ph R i) (S := ∀ q : Nat, i + 1 ≤ q → q < N → pl R q ≤ ph R q) ?_]
    · by_cases c : pl R i ≤ ph R i
      · rw [if_pos c, if_neg (by omega)]
      · rw [if_neg c, if_pos (by omega)]
    constructor
    · intro h; exact ⟨h i (by omega) (by omega), fun q h3 h4 => h q (by omega) h4⟩
    · rintro ⟨h3, h4⟩ q h5 h6
      rcases Nat.eq_or_lt_of_le h5 with e | e
      · subst e; exact h3
      · exact h4 q e h6
theorem p72a_eq {k : Nat} (hk : 5000 ≤ k) {R : List (List Int)} {D D' : List Int} {P V} (hn : R.length ≤ 64) (ha : ArgOk R D) {N : Nat} (hN : (N : Int) = lastI R + 1) : p72a k R D' (stT R) P V (N : Int) = if ∀ q : Nat, q < N → pl R q ≤ ph R q then some (pls R N, true) else some ([], false) := by
  have hsp := ha.span
  unfold p72a
  simp only [lt_v, jn_v, Int.toNat_natCast]
  rw [gd_v (by omega)]
  have := p72a_l1_eq (k := k) hk hn ha hN (D' := D') (P := P) (V := V) (fun R5 => some (R5, true)) N 0 k (by omega) (by omega)
  simpa using this
theorem p72b_l1_eq {k : Nat} (hk : 5000 ≤ k) {R : List (List Int)} {D : List Int} {P V} {kk : Nat} (hk4 : kk < 4) (hn : R.length ≤ 64) (ha : ArgOk R D) {N : Nat} (hN : (N : Int) = lastI R + 1) (j : List (List Int) → Option (List (List Int) × Bool)) : ∀ (d i n : Nat), i + d = N → d < n →
    p72b_l1 k R D (stT R) P V (N : Int) (kk : Int) j n (i : Int) ((List.range i).map (fun m : Nat => [vl R D kk (m : Int), vh R D kk (m : Int)]) ++ List.replicate d [0, 0]) = if ∀ q : Nat, i ≤ q → q < N → vl R D kk q ≤ vh R D kk q then j (vls R D kk N) else some ([], false)
  | 0, i, n, h1, h2 => by
    obtain ⟨n, rfl⟩ : ∃ n', n = n' + 1 := ⟨n - 1, by omega⟩
    rw [p72b_l1]
    simp only [lt_v, sp_d]
    rw [if_neg (by omega), if_pos (fun q h3 h4 => by omega), show i = N from by omega]
    simp [vls]
  | d + 1, i, n, h1, h2 => by
    obtain ⟨n, rfl⟩ : ∃ n', n = n' + 1 := ⟨n - 1, by omega⟩
    have hst := ha.st
    have hsp := ha.span
    have hw : wr .i64 ((i : Int) + 1) = ((i + 1 : Nat) : Int) := by rw [wr64 (by omega) (by omega)]; omega
    rw [p72b_l1]
    simp only [lt_v, sp_d, Int.toNat_natCast]
    rw [if_pos (by omega), wr64 (z := stT R + (i : Int)) (by omega) (by omega), p84_eq hk hn ha (by omega) (by omega) hk4, cl_v]
    rw [gd_v (c := [_, _].length = 2) rfl, gd_v (by simp; omega), set_fill (fun m : Nat => [vl R D kk (m : Int), vh R D kk (m : Int)]) [0, 0] i d _ rfl]
    rw [gd_v (by simp; omega), gd_v (by simp; omega), getD_fill (fun m : Nat => [vl R D kk (m : Int), vh R D kk (m : Int)]), hw]
    simp only [List.getD_cons_zero, List.getD_cons_succ]
    rw [p72b_l1_eq hk hk4 hn ha hN j d (i + 1) n (by omega) (by omega)]
    rw [if_all (P := ∀ q : Nat, i ≤ q → q < N → vl R D kk q ≤ vh R D kk q) (Q := vl R D kk i ≤ vh R D kk i) (S := ∀ q : Nat, i + 1 ≤ q → q < N → vl R D kk q ≤ vh R D kk q) ?_]
    · by_cases c : vl R D kk i ≤ vh R D kk i
      · rw [if_pos c, if_neg (by omega)]
      · rw [if_neg c, if_pos (by omega)]
    constructor
    · intro h; exact ⟨h i (by omega) (by omega), fun q h3 h4 => h q (by omega) h4⟩
    · rintro ⟨h3, h4⟩ q h5 h6
      rcases Nat.eq_or_lt_of_le h5 with e | e
      · subst e; exact h3
      · exact h4 q e h6
theorem p72b_eq {k : Nat} (hk : 5000 ≤ k) {R : List (List Int)} {D : List Int} {P V} {kk : Nat} (hk4 : kk < 4) (hn : R.length ≤ 64) (ha : ArgOk R D) {N : Nat} (hN : (N : Int) = lastI R + 1) : p72b k R D (stT R) P V (N : Int) (kk : Int) = if ∀ q : Nat, q < N → vl R D kk q ≤ vh R D kk q then some (vls R D kk N, true) else some ([], false) := by
  have hsp := ha.span
  unfold p72b
  simp only [lt_v, jn_v, Int.toNat_natCast]
  rw [gd_v (by omega)]
  have := p72b_l1_eq (k := k) hk hk4 hn ha hN (P := P) (V := V) (fun R5 => some (R5, true)) N 0 k (by omega) (by omega)
  simpa using this
theorem p81_l1_eq {k : Nat} {L : List Int} {j : Int} (hL : L.length ≤ 1000) (hj : j < 0) : ∀ (d i n : Nat), i + d = L.length → d < n → ∃ v, p81_l1 k L (some j) n (i : Int) = some v ∧ (0 ≤ v ↔ ∃ q, i ≤ q ∧ q < L.length ∧ ¬ (0 ≤ L.getD q 0 ∧ L.getD q 0 ≤ 1048576))
  | 0, i, n, h1, h2 => by
    obtain ⟨n, rfl⟩ : ∃ n', n = n' + 1 := ⟨n - 1, by omega⟩
    refine ⟨j, ?_, fun h => by omega, fun ⟨q, h3, h4, _⟩ => by omega⟩
    rw [p81_l1]
    simp only [lt_v, sp_d]
    rw [if_neg (by omega)]
  | d + 1, i, n, h1, h2 => by
    obtain ⟨n, rfl⟩ : ∃ n', n = n' + 1 := ⟨n - 1, by omega⟩
    rw [p81_l1]
    simp only [lt_v, sp_d, p69, p49_eq, cl_v, sp_nd, Int.toNat_natCast]
    have hw : wr .i64 ((i : Int) + 1) = ((i + 1 : Nat) : Int) := by rw [wr64 (by omega) (by omega)]; omega
    rw [if_pos (by omega), gd_v (by omega), hw]
    obtain ⟨v, h3, h4⟩ := p81_l1_eq (k := k) hL hj d (i + 1) n (by omega) (by omega)
    by_cases c : 0 ≤ L.getD i 0 ∧ L.getD i 0 ≤ 1048576
    · rw [if_pos c]
      refine ⟨v, h3, h4.trans ⟨fun ⟨q, a1, a2, a3⟩ => ⟨q, by omega, a2, a3⟩, fun ⟨q, a1, a2, a3⟩ => ⟨q, ?_, a2, a3⟩⟩⟩
      rcases Nat.eq_or_lt_of_le a1 with e | e
      · subst e; exact absurd c a3
      · exact e
    · rw [if_neg c]
      exact ⟨(i : Int), rfl, fun _ => ⟨i, Nat.le_refl _, by omega, c⟩, fun _ => by omega⟩
theorem p68_eq {k : Nat} (hk : 5000 ≤ k) {L : List Int} (hL : L.length ≤ 1000) : p68 k L = some (decide (∃ q, q < L.length ∧ ¬ (0 ≤ L.getD q 0 ∧ L.getD q 0 ≤ 1048576))) := by
  unfold p68 p81
  simp only [jn_v, lt_v]
  obtain ⟨v, h1, h2⟩ := p81_l1_eq (k := k) hL (show (-1 : Int) < 0 by omega) L.length 0 k (by omega) (by omega)
  rw [show ((0 : Nat) : Int) = 0 from rfl] at h1
  rw [h1, cl_v]
  refine congrArg some (decide_eq_decide.2 (h2.trans ?_))
  simp
theorem p82_l1_eq {k : Nat} {L : List (List Int)} {j : Int} (hL : L.length ≤ 1000) (hj : j < 0) : ∀ (d i n : Nat), i + d = L.length → d < n → ∃ v, p82_l1 k L (some j) n (i : Int) = some v ∧ (0 ≤ v ↔ ∃ q, i ≤ q ∧ q < L.length ∧ ¬ bandOk ((L.getD q []).getD 0 0) ((L.getD q []).getD 1 0))
  | 0, i, n, h1, h2 => by
    obtain ⟨n, rfl⟩ : ∃ n', n = n' + 1 := ⟨n - 1, by omega⟩
    refine ⟨j, ?_, fun h => by omega, fun ⟨q, h3, h4, _⟩ => by omega⟩
    rw [p82_l1]
    simp only [lt_v, sp_d]
    rw [if_neg (by omega)]
  | d + 1, i, n, h1, h2 => by
    obtain ⟨n, rfl⟩ : ∃ n', n = n' + 1 := ⟨n - 1, by omega⟩
    rw [p82_l1]
    simp only [lt_v, sp_d, p71, p61_eq, cl_v, sp_nd, Int.toNat_natCast]
    have hw : wr .i64 ((i : Int) + 1) = ((i + 1 : Nat) : Int) := by rw [wr64 (by omega) (by omega)]; omega
    rw [if_pos (by omega), gd_v (by omega), hw]
    obtain ⟨v, h3, h4⟩ := p82_l1_eq (k := k) hL hj d (i + 1) n (by omega) (by omega)
    by_cases c : bandOk ((L.getD i []).getD 0 0) ((L.getD i []).getD 1 0)
    · rw [if_pos c]
      refine ⟨v, h3, h4.trans ⟨fun ⟨q, a1, a2, a3⟩ => ⟨q, by omega, a2, a3⟩, fun ⟨q, a1, a2, a3⟩ => ⟨q, ?_, a2, a3⟩⟩⟩
      rcases Nat.eq_or_lt_of_le a1 with e | e
      · subst e; exact absurd c a3
      · exact e
    · rw [if_neg c]
      exact ⟨(i : Int), rfl, fun _ => ⟨i, Nat.le_refl _, by omega, c⟩, fun _ => by omega⟩
theorem p70_eq {k : Nat} (hk : 5000 ≤ k) {L : List (List Int)} (hL : L.length ≤ 1000) : p70 k L = some (decide (∃ q, q < L.length ∧ ¬ bandOk ((L.getD q []).getD 0 0) ((L.getD q []).getD 1 0))) := by
  unfold p70 p82
  simp only [jn_v, lt_v]
  obtain ⟨v, h1, h2⟩ := p82_l1_eq (k := k) hL (show (-1 : Int) < 0 by omega) L.length 0 k (by omega) (by omega)
  rw [show ((0 : Nat) : Int) = 0 from rfl] at h1
  rw [h1, cl_v]
  refine congrArg some (decide_eq_decide.2 (h2.trans ?_))
  simp
theorem bands4_get (L : List Int) : ∀ q, q < 4 → ((bands4 L).getD q []).getD 0 0 = rVL q L ∧ ((bands4 L).getD q []).getD 1 0 = rVH q L
  | 0, _ => by simp [bands4, rVL, rVH, List.getD_eq_getElem?_getD]
  | 1, _ => by simp [bands4, rVL, rVH, List.getD_eq_getElem?_getD]
  | 2, _ => by simp [bands4, rVL, rVH, List.getD_eq_getElem?_getD]
  | 3, _ => by simp [bands4, rVL, rVH, List.getD_eq_getElem?_getD]
  | q + 4, h => by omega
def valsOk (L : List Int) : Prop := ∀ q, q < 4 → bandOk (rVL q L) (rVH q L)
theorem p70_bands {k : Nat} (hk : 5000 ≤ k) (L : List Int) : p70 k (bands4 L) = some (!decide (valsOk L)) := by
  rw [p70_eq hk (show (bands4 L).length ≤ 1000 from (by show 4 ≤ 1000; omega)), ← decide_not]
  refine congrArg some (decide_eq_decide.2 ?_)
  unfold valsOk
  rw [Classical.not_forall]
  constructor
  · rintro ⟨q, h1, h2⟩
    have h1' : q < 4 := h1
    rw [(bands4_get L q h1').1, (bands4_get L q h1').2] at h2
    exact ⟨q, fun h => h2 (h h1')⟩
  · rintro ⟨q, h1⟩
    rw [Classical.not_imp] at h1
    refine ⟨q, h1.1, ?_⟩
    rw [(bands4_get L q h1.1).1, (bands4_get L q h1.1).2]
    exact h1.2
theorem p46_l1_eq {k : Nat} (hk : 5000 ≤ k) {R : List (List Int)} (hn : R.length ≤ 64) {j : Option (Option CT × Int)} : ∀ (d i n : Nat), i + d = R.length → d < n → p46_l1 k R j n (i : Int) = if ∀ q, i ≤ q → q < R.length → rowOkAt R q then j else some (none, 2)
  | 0, i, n, h1, h2 => by
    obtain ⟨n, rfl⟩ : ∃ n', n = n' + 1 := ⟨n - 1, by omega⟩
    rw [p46_l1]
    simp only [lt_v, sp_d]
    rw [if_neg (by omega), if_pos (fun q h3 h4 => by omega)]
  | d + 1, i, n, h1, h2 => by
    obtain ⟨n, rfl⟩ : ∃ n', n = n' + 1 := ⟨n - 1, by omega⟩
    have e0 : (List.take 2 (List.drop 1 (R.getD i []))).getD 0 0 = rPL (rd R i) := by simp [rPL, rd, List.getD_eq_getElem?_getD]
    have e1 : (List.take 2 (List.drop 1 (R.getD i []))).getD 1 0 = rPH (rd R i) := by simp [rPH, rd, List.getD_eq_getElem?_getD]
    have hA : List.getD (R.getD i []) 0 0 = rA (rd R i) := rfl
    have hw : wr .i64 ((i : Int) + 1) = ((i + 1 : Nat) : Int) := by rw [wr64 (by omega) (by omega)]; omega
    rw [p46_l1]
    simp only [lt_v, sp_d, p61_eq, p49_eq, p70_bands hk, cl_v, jn_v, sp_tt, sp_ff, sp_nd, Int.toNat_natCast, e0, e1, hA, hw]
    rw [if_pos (by omega), gd_v (by omega)]
    rw [p46_l1_eq hk hn d (i + 1) n (by omega) (by omega)]
    rw [if_all (P := ∀ q, i ≤ q → q < R.length → rowOkAt R q) (Q := rowOkAt R i) (S := ∀ q, i + 1 ≤ q → q < R.length → rowOkAt R q) (by
      constructor
      · intro h; exact ⟨h i (by omega) (by omega), fun q h3 h4 => h q (by omega) h4⟩
      · rintro ⟨h3, h4⟩ q h5 h6
        rcases Nat.eq_or_lt_of_le h5 with e | e
        · subst e; exact h3
        · exact h4 q e h6)]
    generalize hX : (if ∀ q, i + 1 ≤ q → q < R.length → rowOkAt R q then j else some (none, 2)) = X
    have hrd : R.getD i [] = rd R i := rfl
    rw [hrd]
    by_cases hi : 0 < i
    · have hw2 : wr .i64 ((i : Int) - 1) = ((i - 1 : Nat) : Int) := by rw [wr64 (by omega) (by omega)]; omega
      rw [if_pos (show (i : Int) > 0 by omega), hw2, gd_v (by omega)]
      simp only [Int.toNat_natCast]
      refine @if_row' _ _ _ (rA (rd R i) ≤ rA (rd R (i - 1))) _ _ _ _ _ _ _ ?_ _ _
      unfold rowOkAt readOk valsOk
      constructor
      · rintro ⟨⟨a1, a2, a3, a4⟩, a5⟩
        exact ⟨⟨a1, a2⟩, by have := a5 hi; omega, a3, a4⟩
      · rintro ⟨⟨a1, a2⟩, a3, a4, a5⟩
        exact ⟨⟨a1, a2, a4, a5⟩, fun _ => by omega⟩
    · rw [if_neg (show ¬ (i : Int) > 0 by omega)]
      refine @if_row0 _ _ _ _ _ _ _ _ _ ?_ _ _
      unfold rowOkAt readOk valsOk
      constructor
      · rintro ⟨⟨a1, a2, a3, a4⟩, a5⟩
        exact ⟨⟨a1, a2⟩, a3, a4⟩
      · rintro ⟨⟨a1, a2⟩, a4, a5⟩
        exact ⟨⟨a1, a2, a4, a5⟩, fun h => absurd h hi⟩
theorem p46_l1_eq0 {k : Nat} (hk : 5000 ≤ k) {R : List (List Int)} (hn : R.length ≤ 64) {j : Option (Option CT × Int)} : p46_l1 k R j k 0 = if ∀ q, q < R.length → rowOkAt R q then j else some (none, 2) := by
  have := p46_l1_eq hk hn (j := j) R.length 0 k (by omega) (by omega)
  simpa using this
def lastN (R : List (List Int)) : Nat := (lastI R).toNat
def crs (R : List (List Int)) (D : List Int) : CT := (R, D, stT R, pls R (lastN R + 1), [vls R D 0 (lastN R + 1), vls R D 1 (lastN R + 1), vls R D 2 (lastN R + 1), vls R D 3 (lastN R + 1)])
theorem p46_eq {k : Nat} (hk : 5000 ≤ k) {R : List (List Int)} {D : List Int} (hD : D.length = 4) : p46 k R D = some (if logE R D = 0 then some (crs R D) else none, logE R D) := by
  have hb : ∀ {x : Int} {y : Option CT}, logE R D = x → x ≠ 0 → some ((none : Option CT), x) = some (if logE R D = 0 then y else none, logE R D) := fun h h0 => by rw [h, if_neg h0]
  unfold p46
  simp only [lt_v, sp_d, jn_v]
  by_cases hn : 64 < R.length
  · rw [if_pos (by omega)]
    exact hb (by unfold logE; rw [if_pos hn]) (by omega)
  · rw [if_neg (by omega)]
    have hn' : R.length ≤ 64 := by omega
    by_cases h2 : R.length < 2
    · rw [if_pos (by omega)]
      exact hb (by unfold logE; rw [if_neg hn, if_pos (fun h => by have := h.n2; omega)]) (by omega)
    · rw [if_neg (by omega), p68_eq hk (by omega), cl_v, sp_d]
      by_cases hd : ∃ q, q < D.length ∧ ¬ (0 ≤ D.getD q 0 ∧ D.getD q 0 ≤ 1048576)
      · rw [if_pos hd]
        obtain ⟨q, q1, q2⟩ := hd
        exact hb (by unfold logE; rw [if_neg hn, if_pos (fun h => q2 (h.dr q (by omega)))]) (by omega)
      · rw [if_neg hd]
        have hdr : ∀ q, q < 4 → 0 ≤ D.getD q 0 ∧ D.getD q 0 ≤ 1048576 := fun q hq => Classical.byContradiction fun h => hd ⟨q, by omega, h⟩
        rw [p46_l1_eq0 hk hn']
        by_cases hrow : ∀ q, q < R.length → rowOkAt R q
        · rw [if_pos hrow]
          have hasc : ∀ i, i + 1 < R.length → rA (rd R i) < rA (rd R (i + 1)) := fun i hi => by
            have := (hrow (i + 1) hi).2 (by omega)
            simpa using this
          have r0 := (hrow 0 (by omega)).1
          have r1 := (hrow (R.length - 1) (by omega)).1
          unfold readOk at r0 r1
          have hla : lastI R = rA (rd R (R.length - 1)) - rA (rd R 0) := rfl
          rw [wr64 (z := (R.length : Int) - 1) (by omega) (by omega), gd_v (by omega), gd_v (by omega), show ((R.length : Int) - 1).toNat = R.length - 1 from by omega]
          rw [show (R.getD (R.length - 1) []).getD 0 0 - (R.getD 0 []).getD 0 0 = lastI R from rfl, wr64 (z := lastI R) (by omega) (by omega)]
          by_cases hs : lastI R ≤ 2000
          · have ha : ArgOk R D := ⟨by omega, fun i hi => (hrow i hi).1, hasc, hs, hdr⟩
            have hla1 := ha.last
            have hN : ((lastN R + 1 : Nat) : Int) = lastI R + 1 := by unfold lastN; omega
            rw [if_neg (by omega), wr64 (z := lastI R + 1) (by omega) (by omega), ← hN, show (R.getD 0 []).getD 0 0 = stT R from rfl]
            have hsum : ∀ {e : Int}, ¬ SumOk R D → logE R D = 16 := fun h => by unfold logE; rw [if_neg hn, if_neg (fun h => h ha), if_pos h]
            have hno : ¬ SumOk R D → some ((none : Option CT), (16 : Int)) = some (if logE R D = 0 then some (crs R D) else none, logE R D) := fun h => hb (hsum (e := 0) h) (by omega)
            have hin : ∀ q : Nat, q < lastN R + 1 → (0 : Int) ≤ q ∧ (q : Int) ≤ lastI R := fun q hq => by unfold lastN at hq; omega
            rw [p72a_eq hk hn' ha hN]
            by_cases c : ∀ q : Nat, q < lastN R + 1 → pl R q ≤ ph R q
            · rw [if_pos c, cl2_v, sp_tt]
              have key : ∀ kk, kk < 4 → ¬ (∀ q : Nat, q < lastN R + 1 → vl R D kk q ≤ vh R D kk q) → ¬ SumOk R D := fun kk hkk h hs => h fun q hq => (hs q (hin q hq).1 (hin q hq).2).2 kk hkk
              have b0 := fun P V => p72b_eq (k := k) (P := P) (V := V) hk (show 0 < 4 by omega) hn' ha hN
              have b1 := fun P V => p72b_eq (k := k) (P := P) (V := V) hk (show 1 < 4 by omega) hn' ha hN
              have b2 := fun P V => p72b_eq (k := k) (P := P) (V := V) hk (show 2 < 4 by omega) hn' ha hN
              have b3 := fun P V => p72b_eq (k := k) (P := P) (V := V) hk (show 3 < 4 by omega) hn' ha hN
              simp only [show ((0 : Nat) : Int) = 0 from rfl, show ((1 : Nat) : Int) = 1 from rfl, show ((2 : Nat) : Int) = 2 from rfl, show ((3 : Nat) : Int) = 3 from rfl] at b0 b1 b2 b3
              rw [b0]
              by_cases c0 : ∀ q : Nat, q < lastN R + 1 → vl R D 0 q ≤ vh R D 0 q
              · rw [if_pos c0, cl2_v, sp_tt, b1]
                by_cases c1 : ∀ q : Nat, q < lastN R + 1 → vl R D 1 q ≤ vh R D 1 q
                · rw [if_pos c1, cl2_v, sp_tt, b2]
                  by_cases c2 : ∀ q : Nat, q < lastN R + 1 → vl R D 2 q ≤ vh R D 2 q
                  · rw [if_pos c2, cl2_v, sp_tt, b3]
                    by_cases c3 : ∀ q : Nat, q < lastN R + 1 → vl R D 3 q ≤ vh R D 3 q
                    · rw [if_pos c3, cl2_v, sp_tt]
                      have hso : SumOk R D := fun m h0 h1 => by
                        obtain ⟨q, rfl⟩ : ∃ q : Nat, m = q := ⟨m.toNat, by omega⟩
                        have hq : q < lastN R + 1 := by unfold lastN; omega
                        refine ⟨c q hq, fun kk hkk => ?_⟩
                        match kk, hkk with
                        | 0, _ => exact c0 q hq
                        | 1, _ => exact c1 q hq
                        | 2, _ => exact c2 q hq
                        | 3, _ => exact c3 q hq
                      rw [show logE R D = 0 from logE_zero.2 ⟨hn', ha, hso⟩, if_pos rfl]
                      rfl
                    · rw [if_neg c3, cl2_v, sp_ff]; exact hno (key 3 (by omega) c3)
                  · rw [if_neg c2, cl2_v, sp_ff]; exact hno (key 2 (by omega) c2)
                · rw [if_neg c1, cl2_v, sp_ff]; exact hno (key 1 (by omega) c1)
              · rw [if_neg c0, cl2_v, sp_ff]; exact hno (key 0 (by omega) c0)
            · rw [if_neg c, cl2_v, sp_ff]
              exact hno fun hs => c fun q hq => (hs q (hin q hq).1 (hin q hq).2).1
          · rw [if_pos (by omega)]
            exact hb (by unfold logE; rw [if_neg hn, if_pos (fun h => hs h.span)]) (by omega)
        · rw [if_neg hrow]
          refine hb ?_ (by omega)
          unfold logE
          rw [if_neg hn, if_pos]
          intro h
          refine hrow fun q hq => ⟨h.read q hq, fun h0 => ?_⟩
          have := h.asc (q - 1) (by omega)
          rw [show q - 1 + 1 = q from by omega] at this
          exact this
end Go.Proofs.Ythjkejbgknemgaa
namespace Go.Proofs.Ythjkejbgknemgaa
open Go.RowKit Classical
theorem LogOk.N {R D} (h : LogOk R D) : ((lastN R + 1 : Nat) : Int) = lastI R + 1 := by
  have := h.arg.last
  unfold lastN; omega
theorem getD_map_range {α : Type} (f : Nat → α) (N i : Nat) (y : α) (h : i < N) : ((List.range N).map f).getD i y = f i := by
  simp [List.getD_eq_getElem?_getD, h]
theorem pls_get {R : List (List Int)} {N : Nat} {x : Int} (h0 : 0 ≤ x) (h1 : x < N) : (pls R N).getD x.toNat [] = [pl R x, ph R x] := by
  unfold pls
  rw [getD_map_range _ _ _ _ (by omega), show ((x.toNat : Nat) : Int) = x from by omega]
theorem vls_get {R : List (List Int)} {D : List Int} {kk N : Nat} {x : Int} (h0 : 0 ≤ x) (h1 : x < N) : (vls R D kk N).getD x.toNat [] = [vl R D kk x, vh R D kk x] := by
  unfold vls
  rw [getD_map_range _ _ _ _ (by omega), show ((x.toNat : Nat) : Int) = x from by omega]
theorem pls_len (R : List (List Int)) (N : Nat) : (pls R N).length = N := by simp [pls]
theorem vls_len (R : List (List Int)) (D : List Int) (kk N : Nat) : (vls R D kk N).length = N := by simp [vls]
theorem crsV_get (R : List (List Int)) (D : List Int) : ∀ kk, kk < 4 → ([vls R D 0 (lastN R + 1), vls R D 1 (lastN R + 1), vls R D 2 (lastN R + 1), vls R D 3 (lastN R + 1)]).getD kk [] = vls R D kk (lastN R + 1)
  | 0, _ => rfl
  | 1, _ => rfl
  | 2, _ => rfl
  | 3, _ => rfl
  | q + 4, h => by omega
theorem ne_zero_b (x : Int) : (x != 0) = !decide (x = 0) := by by_cases h : x = 0 <;> simp [h]
theorem eq_zero_b (x y : Int) : (x == y) = decide (x = y) := by by_cases h : x = y <;> simp [h]
theorem p12_eq {k : Nat} (hk : 5000 ≤ k) : p12 k = some true := by
  obtain ⟨j, rfl⟩ : ∃ j, k = j + 5000 := ⟨k - 5000, by omega⟩
  kernel_rfl
end Go.Proofs.Ythjkejbgknemgaa
namespace Go.Proofs.Ythjkejbgknemgaa
open Go.RowKit Classical
theorem pl_mono (R : List (List Int)) {a b : Int} (h : a ≤ b) : pl R a ≤ pl R b := by
  unfold pl
  rw [PL_le]
  have := PL_le.1 (Int.le_refl (PL (stT R + b) R (-1099511627776)))
  exact ⟨this.1, fun r hr ht => this.2 r hr (by omega)⟩
theorem ph_mono (R : List (List Int)) {a b : Int} (h : a ≤ b) : ph R a ≤ ph R b := by
  unfold ph
  rw [le_PH]
  have := le_PH.1 (Int.le_refl (PH (stT R + a) R 1099511627776))
  exact ⟨this.1, fun r hr ht => this.2 r hr (by omega)⟩
theorem ab_step (x : Int) : ab (x + 1) ≤ ab x + 1 ∧ ab (x - 1) ≤ ab x + 1 := by unfold ab; omega
theorem mul_step {d a b : Int} (hd : 0 ≤ d) (h : a ≤ b + 1) : d * a ≤ d * b + d := by
  have := Int.mul_le_mul_of_nonneg_left h hd
  rw [Int.mul_add, Int.mul_one] at this
  exact this
theorem vl_step (R : List (List Int)) (D : List Int) (k : Nat) (hd : 0 ≤ D.getD k 0) (a : Int) : vl R D k (a + 1) ≤ vl R D k a + D.getD k 0 ∧ vl R D k a ≤ vl R D k (a + 1) + D.getD k 0 := by
  unfold vl
  constructor
  · rw [VL_le]
    have := VL_le.1 (Int.le_refl (VL (D.getD k 0) k (stT R + a) R (-1125899906842624)))
    refine ⟨by omega, fun r hr => ?_⟩
    have h1 := this.2 r hr
    have h2 := mul_step hd (a := ab (rA r - (stT R + a))) (b := ab (rA r - (stT R + (a + 1)))) (by have := (ab_step (rA r - (stT R + (a + 1)))).1; rw [show rA r - (stT R + (a + 1)) + 1 = rA r - (stT R + a) from by omega] at this; exact this)
    omega
  · rw [VL_le]
    have := VL_le.1 (Int.le_refl (VL (D.getD k 0) k (stT R + (a + 1)) R (-1125899906842624)))
    refine ⟨by omega, fun r hr => ?_⟩
    have h1 := this.2 r hr
    have h2 := mul_step hd (a := ab (rA r - (stT R + (a + 1)))) (b := ab (rA r - (stT R + a))) (by have := (ab_step (rA r - (stT R + a))).2; rw [show rA r - (stT R + a) - 1 = rA r - (stT R + (a + 1)) from by omega] at this; exact this)
    omega
theorem vh_step (R : List (List Int)) (D : List Int) (k : Nat) (hd : 0 ≤ D.getD k 0) (a : Int) : vh R D k (a + 1) ≤ vh R D k a + D.getD k 0 ∧ vh R D k a ≤ vh R D k (a + 1) + D.getD k 0 := by
  unfold vh
  constructor
  · suffices h : VH (D.getD k 0) k (stT R + (a + 1)) R 1125899906842624 - D.getD k 0 ≤ VH (D.getD k 0) k (stT R + a) R 1125899906842624 by omega
    rw [le_VH]
    have := le_VH.1 (Int.le_refl (VH (D.getD k 0) k (stT R + (a + 1)) R 1125899906842624))
    refine ⟨by omega, fun r hr => ?_⟩
    have h1 := this.2 r hr
    have h2 := mul_step hd (a := ab (rA r - (stT R + (a + 1)))) (b := ab (rA r - (stT R + a))) (by have := (ab_step (rA r - (stT R + a))).2; rw [show rA r - (stT R + a) - 1 = rA r - (stT R + (a + 1)) from by omega] at this; exact this)
    omega
  · suffices h : VH (D.getD k 0) k (stT R + a) R 1125899906842624 - D.getD k 0 ≤ VH (D.getD k 0) k (stT R + (a + 1)) R 1125899906842624 by omega
    rw [le_VH]
    have := le_VH.1 (Int.le_refl (VH (D.getD k 0) k (stT R + a) R 1125899906842624))
    refine ⟨by omega, fun r hr => ?_⟩
    have h1 := this.2 r hr
    have h2 := mul_step hd (a := ab (rA r - (stT R + a))) (b := ab (rA r - (stT R + (a + 1)))) (by have := (ab_step (rA r - (stT R + (a + 1)))).1; rw [show rA r - (stT R + (a + 1)) + 1 = rA r - (stT R + a) from by omega] at this; exact this)
    omega
def PastP (R : List (List Int)) (u : List Int) (S : List Int) : Prop := ∃ a : Int, (∀ s ∈ S, s < a → pl R (s + 1) < u.getD 0 0) ∧ (∀ s ∈ S, a ≤ s → u.getD 1 0 < ph R s) ∧ ¬ (a - 1 ∈ S ∧ a ∈ S)
theorem getD_mem' {S : List Int} {i : Nat} (h : i < S.length) : S.getD i 0 ∈ S := by simp [List.getD_eq_getElem?_getD, List.getElem?_eq_getElem h]
theorem PastP.sub {R R' : List (List Int)} {u u' S S' : List Int} (h : PastP R' u' S') (hS : ∀ x ∈ S, x ∈ S') (h1 : ∀ x ∈ S, pl R (x + 1) ≤ pl R' (x + 1)) (h2 : ∀ x ∈ S, ph R' x ≤ ph R x) (h3 : u'.getD 0 0 ≤ u.getD 0 0) (h4 : u.getD 1 0 ≤ u'.getD 1 0) : PastP R u S := by
  obtain ⟨a, a1, a2, a3⟩ := h
  refine ⟨a, fun s hs hl => ?_, fun s hs hl => ?_, fun ⟨h5, h6⟩ => a3 ⟨hS _ h5, hS _ h6⟩⟩
  · have := a1 s (hS s hs) hl
    have := h1 s hs
    omega
  · have := a2 s (hS s hs) hl
    have := h2 s hs
    omega
theorem p18_some {k : Nat} {R : List (List Int)} {D : List Int} : ∃ b, p18 k R D = some b := by
  unfold p18
  simp only [jn_v, lt_v, sp_d]
  have tail : ∀ b : Bool, R.length ≤ 100 → ∃ c, sp b (some true) (if (R.length : Int) > 1 then gd ((0 : Int) ≤ wr .i64 ((R.length : Int) - 1) ∧ wr .i64 ((R.length : Int) - 1) < (R.length : Int)) (gd ((0 : Int) ≤ 0 ∧ (0 : Int) < (R.length : Int)) (if (R.getD (wr .i64 ((R.length : Int) - 1)).toNat []).getD 0 0 > (R.getD 0 []).getD 0 0 then gd ((0 : Int) ≤ wr .i64 ((R.length : Int) - 1) ∧ wr .i64 ((R.length : Int) - 1) < (R.length : Int)) (gd ((0 : Int) ≤ 0 ∧ (0 : Int) < (R.length : Int)) (if wr .i64 ((R.getD (wr .i64 ((R.length : Int) - 1)).toNat []).getD 0 0 - (R.getD 0 []).getD 0 0) > 120 then gd ((0 : Int) ≤ wr .i64 ((R.length : Int) - 1) ∧ wr .i64 ((R.length : Int) - 1) < (R.length : Int)) (gd ((0 : Int) ≤ 0 ∧ (0 : Int) < (R.length : Int)) (some (decide (wr .i64 ((R.getD (wr .i64 ((R.length : Int) - 1)).toNat []).getD 0 0 - (R.getD 0 []).getD 0 0) ≤ 2000)))) else some false)) else some false)) else some false) = some c := by
    intro b hb
    cases b with
    | true => exact ⟨true, rfl⟩
    | false =>
      rw [sp_ff]
      split
      · rename_i h1
        rw [wr64 (z := (R.length : Int) - 1) (by omega) (by omega), gd_v (by omega), gd_v (by omega)]
        split
        · rw [gd_v (by omega), gd_v (by omega)]
          split
          · rw [gd_v (by omega), gd_v (by omega)]; exact ⟨_, rfl⟩
          · exact ⟨_, rfl⟩
        · exact ⟨_, rfl⟩
      · exact ⟨_, rfl⟩
  by_cases h1 : (R.length : Int) > 100
  · rw [if_pos h1]; exact ⟨true, rfl⟩
  · rw [if_neg h1]
    by_cases h2 : (R.length : Int) > 20
    · rw [if_pos h2]
      by_cases h3 : (R.length : Int) ≤ 64
      · rw [if_pos h3]; exact ⟨true, rfl⟩
      · rw [if_neg h3]; exact tail false (by omega)
    · rw [if_neg h2]; exact tail false (by omega)
def Wf64 (R : List (List Int)) : Prop := ∀ r ∈ R, ∀ z ∈ r, -9223372036854775808 ≤ z ∧ z ≤ 9223372036854775807
end Go.Proofs.Ythjkejbgknemgaa
namespace Go.Proofs.Ythjkejbgknemgaa
open Go.RowKit Classical
theorem all_step {P : Nat → Prop} {i N : Nat} (h : i < N) : (∀ q, i ≤ q → q < N → P q) ↔ P i ∧ ∀ q, i + 1 ≤ q → q < N → P q :=
  ⟨fun hh => ⟨hh i (Nat.le_refl _) h, fun q h1 h2 => hh q (by omega) h2⟩, fun hh q h1 h2 => by
    rcases Nat.eq_or_lt_of_le h1 with e | e
    · subst e; exact hh.1
    · exact hh.2 q e h2⟩
theorem if_iff {α : Type} {P Q : Prop} [Decidable P] [Decidable Q] (h : P ↔ Q) (x y : α) : (if P then x else y) = if Q then x else y := by
  by_cases c : P
  · rw [if_pos c, if_pos (h.1 c)]
  · rw [if_neg c, if_neg (fun hh => c (h.2 hh))]
def hv (V : List (List Int)) (m q : Nat) : Int := (V.getD m []).getD q 0
def valOk (R : List (List Int)) (D : List Int) (V : List (List Int)) (m q : Nat) : Prop := (vl R D q m ≤ hv V m q ∧ hv V m q ≤ vh R D q m) ∧ (0 < m → hv V (m - 1) q - D.getD q 0 ≤ hv V m q ∧ hv V m q ≤ hv V (m - 1) q + D.getD q 0)
def plcOk (R : List (List Int)) (P : List Int) (m : Nat) : Prop := (pl R m ≤ P.getD m 0 ∧ P.getD m 0 ≤ ph R m) ∧ (0 < m → P.getD (m - 1) 0 ≤ P.getD m 0)
structure Fits (R : List (List Int)) (D : List Int) (P : List Int) (V : List (List Int)) : Prop where
  lp : P.length = lastN R + 1
  lv : V.length = lastN R + 1
  plc : ∀ m, m < lastN R + 1 → plcOk R P m
  val : ∀ m, m < lastN R + 1 → ∀ q, q < 4 → valOk R D V m q
theorem vl_ge (R : List (List Int)) (D : List Int) (q : Nat) (m : Int) : -1125899906842624 ≤ vl R D q m := (VL_le.1 (Int.le_refl (vl R D q m))).1
theorem vh_le (R : List (List Int)) (D : List Int) (q : Nat) (m : Int) : vh R D q m ≤ 1125899906842624 := (le_VH.1 (Int.le_refl (vh R D q m))).1
theorem pl_ge (R : List (List Int)) (m : Int) : -1099511627776 ≤ pl R m := (PL_le.1 (Int.le_refl (pl R m))).1
theorem ph_le (R : List (List Int)) (m : Int) : ph R m ≤ 1099511627776 := (le_PH.1 (Int.le_refl (ph R m))).1
theorem p22_l2_eq {k : Nat} {R : List (List Int)} {D : List Int} {V : List (List Int)} (h : LogOk R D) {m : Nat} (hm : m < lastN R + 1) (hV : V.length = lastN R + 1) (hp : 0 < m → ∀ q, q < 4 → -1125899906842624 ≤ hv V (m - 1) q ∧ hv V (m - 1) q ≤ 1125899906842624) (j : Option (Bool × Int)) : ∀ (d i n : Nat), i + d = 4 → d < n → p22_l2 k D V (m : Int) j (crs R D) (V.getD m []) n (i : Int) = if ∀ q, i ≤ q → q < 4 → valOk R D V m q then j else some (false, 0)
  | 0, i, n, h1, h2 => by
    obtain ⟨n, rfl⟩ : ∃ n', n = n' + 1 := ⟨n - 1, by omega⟩
    rw [p22_l2]
    simp only [lt_v, sp_d]
    rw [if_neg (by omega), if_pos (fun q _ _ => by omega)]
  | d + 1, i, n, h1, h2 => by
    obtain ⟨n, rfl⟩ : ∃ n', n = n' + 1 := ⟨n - 1, by omega⟩
    have hN := h.N
    have hsp := h.arg.span
    have hdr := h.arg.dr i (by omega)
    have hw : wr .i64 ((i : Int) + 1) = ((i + 1 : Nat) : Int) := by rw [wr64 (by omega) (by omega)]; omega
    have hcr : (crs R D).2.2.2.2.getD i [] = vls R D i (lastN R + 1) := crsV_get R D i (by omega)
    rw [p22_l2]
    simp only [lt_v, sp_d, Int.toNat_natCast, Nat.zero_add, Nat.mul_one, hw, hcr, jn_v]
    have hg : (vls R D i (lastN R + 1)).getD m [] = [vl R D i m, vh R D i m] := by
      have := vls_get (R := R) (D := D) (kk := i) (N := lastN R + 1) (x := (m : Int)) (by omega) (by omega)
      simpa using this
    rw [if_pos (by omega), gd_v (by omega), gd_v (by omega), gd_v (by rw [vls_len]; omega), hg]
    simp only [List.getD_cons_zero, List.getD_cons_succ, p49_eq, cl_v, sp_d, sp_ff]
    rw [p22_l2_eq h hm hV hp j d (i + 1) n (by omega) (by omega)]
    rw [if_iff (all_step (P := valOk R D V m) (show i < 4 by omega))]
    change (if vl R D i m ≤ hv V m i ∧ hv V m i ≤ vh R D i m then _ else _) = _
    by_cases c1 : vl R D i m ≤ hv V m i ∧ hv V m i ≤ vh R D i m
    · rw [if_pos c1]
      by_cases c2 : 0 < m
      · have hb := hp c2 i (by omega)
        have hw2 : wr .i64 ((m : Int) - 1) = ((m - 1 : Nat) : Int) := by rw [wr64 (by omega) (by omega)]; omega
        rw [if_pos (by omega), hw2, Int.toNat_natCast, gd_v (by omega), gd_v (by omega), gd_v (by omega), gd_v (by omega), gd_v (by omega), gd_v (by omega)]
        change sp (!decide (wr .i64 (hv V (m - 1) i - D.getD i 0) ≤ hv V m i ∧ hv V m i ≤ wr .i64 (hv V (m - 1) i + D.getD i 0))) _ _ = _
        rw [wr64 (by omega) (by omega), wr64 (by omega) (by omega), sp_nd]
        by_cases c3 : hv V (m - 1) i - D.getD i 0 ≤ hv V m i ∧ hv V m i ≤ hv V (m - 1) i + D.getD i 0
        · rw [if_pos c3]
          by_cases c4 : ∀ q, i + 1 ≤ q → q < 4 → valOk R D V m q
          · rw [if_pos c4, if_pos ⟨⟨c1, fun _ => c3⟩, c4⟩]
          · rw [if_neg c4, if_neg (fun hh => c4 hh.2)]
        · rw [if_neg c3, if_neg (fun hh => c3 (hh.1.2 c2))]
      · rw [if_neg (by omega)]
        by_cases c4 : ∀ q, i + 1 ≤ q → q < 4 → valOk R D V m q
        · rw [if_pos c4, if_pos ⟨⟨c1, fun hh => absurd hh c2⟩, c4⟩]
        · rw [if_neg c4, if_neg (fun hh => c4 hh.2)]
    · rw [if_neg c1, if_neg (fun hh => c1 hh.1.1)]
def minOk (R : List (List Int)) (D : List Int) (P : List Int) (V : List (List Int)) (m : Nat) : Prop := plcOk R P m ∧ ∀ q, q < 4 → valOk R D V m q
theorem p22_l1_eq {k : Nat} (hk : 5000 ≤ k) {R : List (List Int)} {D P : List Int} {V : List (List Int)} (h : LogOk R D) (hP : P.length = lastN R + 1) (hV : V.length = lastN R + 1) (j : Option (Bool × Int)) : ∀ (d m n : Nat), m + d = lastN R + 1 → d < n → (0 < m → ∀ q, q < 4 → -1125899906842624 ≤ hv V (m - 1) q ∧ hv V (m - 1) q ≤ 1125899906842624) → p22_l1 k D P V j (crs R D) n (m : Int) = if ∀ q, m ≤ q → q < lastN R + 1 → minOk R D P V q then j else some (false, 0)
  | 0, m, n, h1, h2, hp => by
    obtain ⟨n, rfl⟩ : ∃ n', n = n' + 1 := ⟨n - 1, by omega⟩
    rw [p22_l1]
    simp only [lt_v, sp_d]
    rw [if_neg (by omega), if_pos (fun q _ _ => by omega)]
  | d + 1, m, n, h1, h2, hp => by
    obtain ⟨n, rfl⟩ : ∃ n', n = n' + 1 := ⟨n - 1, by omega⟩
    have hN := h.N
    have hsp := h.arg.span
    have hw : wr .i64 ((m : Int) + 1) = ((m + 1 : Nat) : Int) := by rw [wr64 (by omega) (by omega)]; omega
    have hcl : ((crs R D).2.2.2.1.length : Int) = lastI R + 1 := by
      show ((pls R (lastN R + 1)).length : Int) = _
      rw [pls_len]; exact hN
    have hg : (crs R D).2.2.2.1.getD m [] = [pl R m, ph R m] := by
      have := pls_get (R := R) (N := lastN R + 1) (x := (m : Int)) (by omega) (by omega)
      rw [Int.toNat_natCast] at this
      exact this
    have hl2 := p22_l2_eq (k := k) h (m := m) (by omega) hV hp (p22_l1 k D P V j (crs R D) n ((m + 1 : Nat) : Int)) 4 0 k (by omega) (by omega)
    rw [show ((0 : Nat) : Int) = 0 from rfl] at hl2
    rw [p22_l1]
    simp only [lt_v, sp_d, Int.toNat_natCast, hw, jn_v, hg, p49_eq, cl_v, List.getD_cons_zero, List.getD_cons_succ, sp_ff, sp_tt, hl2]
    rw [if_pos (by omega), gd_v (c := 0 ≤ (m : Int) ∧ (m : Int) < (V.length : Int)) (by omega), gd_v (by omega), gd_v (by omega), gd_v (by omega)]
    rw [if_iff (all_step (P := minOk R D P V) (show m < lastN R + 1 by omega))]
    have tail : (if ∀ q, 0 ≤ q → q < 4 → valOk R D V m q then p22_l1 k D P V j (crs R D) n ((m + 1 : Nat) : Int) else some (false, 0)) = if (∀ q, q < 4 → valOk R D V m q) ∧ (∀ q, m + 1 ≤ q → q < lastN R + 1 → minOk R D P V q) then j else some (false, 0) := by
      by_cases c : ∀ q, q < 4 → valOk R D V m q
      · rw [if_pos (fun q _ h4 => c q h4), p22_l1_eq hk h hP hV j d (m + 1) n (by omega) (by omega) (fun _ q h4 => by
          have := (c q h4).1
          have := vl_ge R D q m
          have := vh_le R D q m
          rw [Nat.add_sub_cancel]; omega)]
        by_cases c2 : ∀ q, m + 1 ≤ q → q < lastN R + 1 → minOk R D P V q
        · rw [if_pos c2, if_pos ⟨c, c2⟩]
        · rw [if_neg c2, if_neg (fun hh => c2 hh.2)]
      · rw [if_neg (fun hh => c (fun q h4 => hh q (Nat.zero_le _) h4)), if_neg (fun hh => c hh.1)]
    rw [tail]
    by_cases c1 : pl R m ≤ P.getD m 0 ∧ P.getD m 0 ≤ ph R m
    · rw [if_pos c1]
      by_cases c2 : 0 < m
      · have hw2 : wr .i64 ((m : Int) - 1) = ((m - 1 : Nat) : Int) := by rw [wr64 (by omega) (by omega)]; omega
        rw [if_pos (by omega), hw2, Int.toNat_natCast, gd_v (by omega)]
        by_cases c3 : P.getD m 0 < P.getD (m - 1) 0
        · rw [if_pos c3, if_neg (fun hh => by have := hh.1.1.2 c2; omega)]
        · rw [if_neg c3]
          by_cases c4 : (∀ q, q < 4 → valOk R D V m q) ∧ (∀ q, m + 1 ≤ q → q < lastN R + 1 → minOk R D P V q)
          · rw [if_pos c4, if_pos ⟨⟨⟨c1, fun _ => by omega⟩, c4.1⟩, c4.2⟩]
          · rw [if_neg c4, if_neg (fun hh => c4 ⟨hh.1.2, hh.2⟩)]
      · rw [if_neg (by omega)]
        by_cases c4 : (∀ q, q < 4 → valOk R D V m q) ∧ (∀ q, m + 1 ≤ q → q < lastN R + 1 → minOk R D P V q)
        · rw [if_pos c4, if_pos ⟨⟨⟨c1, fun hh => absurd hh c2⟩, c4.1⟩, c4.2⟩]
        · rw [if_neg c4, if_neg (fun hh => c4 ⟨hh.1.2, hh.2⟩)]
    · rw [if_neg c1, if_neg (fun hh => c1 hh.1.1.1)]
theorem p54_eq {k : Nat} {R : List (List Int)} {D P : List Int} {V : List (List Int)} {D' W st} : p54 k R D' st (pls R (lastN R + 1)) W P V = some (decide (P.length = lastN R + 1 ∧ V.length = lastN R + 1)) := by
  unfold p54
  simp only [jn_v, lt_v, pls_len, eq_zero_b, sp_d]
  by_cases c1 : P.length = lastN R + 1
  · rw [if_pos (by omega)]
    exact congrArg some (decide_eq_decide.2 ⟨fun h => ⟨c1, by omega⟩, fun h => by omega⟩)
  · rw [if_neg (by omega)]
    exact congrArg some (decide_eq_false (fun h => c1 h.1)).symm
theorem p22_eq {k : Nat} (hk : 5000 ≤ k) {R : List (List Int)} {D P : List Int} {V : List (List Int)} (hD : D.length = 4) : p22 k R D P V = some (if logE R D = 0 then (decide (Fits R D P V), 0) else (false, logE R D)) := by
  unfold p22
  rw [p46_eq hk hD]
  simp only [cl2_v, lt_v, ne_zero_b, sp_nd]
  by_cases hl : logE R D = 0
  · have h := logE_zero.1 hl
    have e54 : p54 k (crs R D).1 (crs R D).2.1 (crs R D).2.2.1 (crs R D).2.2.2.1 (crs R D).2.2.2.2 P V = some (decide (P.length = lastN R + 1 ∧ V.length = lastN R + 1)) := p54_eq (D := D)
    rw [if_pos hl, if_pos hl, if_pos hl, cl_v, e54, cl_v, sp_d]
    by_cases c : P.length = lastN R + 1 ∧ V.length = lastN R + 1
    · rw [if_pos c, jn_v]
      have e := p22_l1_eq hk h c.1 c.2 (some (true, (0 : Int))) (lastN R + 1) 0 k (by omega) (by have := h.N; have := h.arg.span; omega) (fun hh => by omega)
      rw [show ((0 : Nat) : Int) = 0 from rfl] at e
      rw [e]
      by_cases f : Fits R D P V
      · rw [if_pos (fun q _ hq => ⟨f.plc q hq, f.val q hq⟩), decide_eq_true f]
      · rw [if_neg (fun hh => f ⟨c.1, c.2, fun m hm => (hh m (Nat.zero_le _) hm).1, fun m hm => (hh m (Nat.zero_le _) hm).2⟩), decide_eq_false f]
    · rw [if_neg c, decide_eq_false (fun f : Fits R D P V => c ⟨f.lp, f.lv⟩)]
  · rw [if_neg hl, if_neg hl]
end Go.Proofs.Ythjkejbgknemgaa
namespace Go.Proofs.Ythjkejbgknemgaa
open Go.RowKit Classical
def drOk (D : List Int) (V : List (List Int)) (m q : Nat) : Prop := (-1152921504606846976 ≤ hv V (m - 1) q ∧ hv V (m - 1) q ≤ 1152921504606846976) ∧ hv V (m - 1) q - D.getD q 0 ≤ hv V m q ∧ hv V m q ≤ hv V (m - 1) q + D.getD q 0
def stepOk (D P : List Int) (V : List (List Int)) (m : Nat) : Prop := P.getD (m - 1) 0 ≤ P.getD m 0 ∧ ∀ q, q < 4 → drOk D V m q
def atI (R : List (List Int)) (i : Nat) : Nat := (rA (rd R i) - stT R).toNat
def bandAt (R : List (List Int)) (V : List (List Int)) (i q : Nat) : Prop := rVL q (rd R i) ≤ hv V (atI R i) q ∧ hv V (atI R i) q ≤ rVH q (rd R i)
def readAt (R : List (List Int)) (P : List Int) (V : List (List Int)) (i : Nat) : Prop := (rPL (rd R i) ≤ P.getD (atI R i) 0 ∧ P.getD (atI R i) 0 ≤ rPH (rd R i)) ∧ ∀ q, q < 4 → bandAt R V i q
structure RFits (R : List (List Int)) (D : List Int) (P : List Int) (V : List (List Int)) : Prop where
  lp : P.length = lastN R + 1
  lv : V.length = lastN R + 1
  step : ∀ m, 1 ≤ m → m < lastN R + 1 → stepOk D P V m
  read : ∀ i, i < R.length → readAt R P V i
theorem RFits.mono {R D P V} (h : RFits R D P V) : ∀ (d a : Nat), a + d < lastN R + 1 → P.getD a 0 ≤ P.getD (a + d) 0
  | 0, a, _ => Int.le_refl _
  | d + 1, a, hd => by
    have h1 := h.mono d a (by omega)
    have h2 := (h.step (a + d + 1) (by omega) (by omega)).1
    rw [show a + d + 1 - 1 = a + d from by omega] at h2
    rw [show a + (d + 1) = a + d + 1 from by omega]
    omega
theorem ArgOk.N {R D} (h : ArgOk R D) : ((lastN R + 1 : Nat) : Int) = lastI R + 1 := by
  have := h.last
  unfold lastN; omega
end Go.Proofs.Ythjkejbgknemgaa
namespace Go.Proofs.Ythjkejbgknemgaa
open Go.RowKit Classical
theorem lastN_le {R D} (h : LogOk R D) : lastN R ≤ 2000 := by have := h.N; have := h.arg.span; omega
def spn (R : List (List Int)) (D : List Int) (m : Int) : List Int := [vl R D 0 m, vh R D 0 m, vl R D 1 m, vh R D 1 m, vl R D 2 m, vh R D 2 m, vl R D 3 m, vh R D 3 m]
noncomputable def spE (R : List (List Int)) (D : List Int) (m : Int) : List Int × List Int × Int :=
  if logE R D = 0 then (if 0 ≤ m ∧ m ≤ lastI R then ([pl R m, ph R m], spn R D m, 0) else ([0, 0], [0, 0, 0, 0, 0, 0, 0, 0], 3)) else ([0, 0], [0, 0, 0, 0, 0, 0, 0, 0], logE R D)
theorem p24_eq {k : Nat} (hk : 5000 ≤ k) {R : List (List Int)} {D : List Int} {m : Int} (hD : D.length = 4) : p24 k R D m = some (spE R D m) := by
  unfold p24 spE
  rw [p46_eq hk hD]
  simp only [cl2_v, lt_v, ne_zero_b, sp_nd]
  by_cases hl : logE R D = 0
  · have h := logE_zero.1 hl
    have hN := h.N
    have hcl : ((crs R D).2.2.2.1.length : Int) = lastI R + 1 := by
      show ((pls R (lastN R + 1)).length : Int) = _
      rw [pls_len]; exact hN
    rw [if_pos hl, if_pos hl, if_pos hl, cl_v]
    simp only [jn_v, sp_d, hcl, sp_tt]
    by_cases c1 : m < 0
    · rw [if_pos c1, if_neg (show ¬ (0 ≤ m ∧ m ≤ lastI R) from fun hh => by omega)]
    · rw [if_neg c1]
      by_cases c2 : m ≤ lastI R
      · rw [if_neg (show ¬ m ≥ lastI R + 1 by omega), if_pos (show 0 ≤ m ∧ m ≤ lastI R from ⟨by omega, c2⟩)]
        obtain ⟨n, rfl⟩ : ∃ n, k = n + 1 + 1 + 1 + 1 + 1 := ⟨k - 5, by omega⟩
        have hg := fun kk => vls_get (R := R) (D := D) (kk := kk) (N := lastN R + 1) (x := m) (by omega) (by omega)
        have hp := pls_get (R := R) (N := lastN R + 1) (x := m) (by omega) (by omega)
        have hq : (crs R D).2.2.2.1.getD m.toNat [] = [pl R m, ph R m] := hp
        have hs : ∀ kk, kk < 4 → (0 ≤ m ∧ m < ((List.getD (crs R D).2.2.2.2 kk []).length : Int)) := by
          intro kk hkk
          rw [show (crs R D).2.2.2.2.getD kk [] = vls R D kk (lastN R + 1) from crsV_get R D kk hkk, vls_len]
          omega
        have hr : ∀ kk, kk < 4 → ((crs R D).2.2.2.2.getD kk []).getD m.toNat [] = [vl R D kk m, vh R D kk m] := by
          intro kk hkk
          rw [show (crs R D).2.2.2.2.getD kk [] = vls R D kk (lastN R + 1) from crsV_get R D kk hkk]
          exact hg kk
        have w0 : wr .i64 ((0 : Int) + 1) = 1 := rfl
        have w1 : wr .i64 ((1 : Int) + 1) = 2 := rfl
        have w2 : wr .i64 ((2 : Int) + 1) = 3 := rfl
        have w3 : wr .i64 ((3 : Int) + 1) = 4 := rfl
        have t0 : ((0 : Int)).toNat = 0 := rfl
        have t1 : ((1 : Int)).toNat = 1 := rfl
        have t2 : ((2 : Int)).toNat = 2 := rfl
        have t3 : ((3 : Int)).toNat = 3 := rfl
        rw [p24_l1]
        simp only [lt_v, sp_d]
        rw [if_pos (by omega), gd_v (by omega), t0, gd_v (hs 0 (by omega)), hr 0 (by omega), w0, p24_l1]
        simp only [lt_v, sp_d]
        rw [if_pos (by omega), gd_v (by omega), gd_v (by omega), t1, gd_v (hs 1 (by omega)), hr 1 (by omega), w1, gd_v (by omega), p24_l1]
        simp only [lt_v, sp_d]
        rw [if_pos (by omega), gd_v (by omega), t2, gd_v (hs 2 (by omega)), hr 2 (by omega), w2, gd_v (by omega), p24_l1]
        simp only [lt_v, sp_d]
        rw [if_pos (by omega), gd_v (by omega), t3, gd_v (hs 3 (by omega)), hr 3 (by omega), w3, gd_v (by omega), p24_l1]
        simp only [lt_v, sp_d]
        rw [if_neg (by omega), gd_v (by omega), hq]
        rfl
      · rw [if_pos (show m ≥ lastI R + 1 by omega), if_neg (show ¬ (0 ≤ m ∧ m ≤ lastI R) from fun hh => c2 hh.2)]
  · rw [if_neg hl, if_neg hl]
noncomputable def mnE (R : List (List Int)) (D : List Int) : Int × Int := if logE R D = 0 then (lastI R + 1, 0) else (0, logE R D)
theorem p23_eq {k : Nat} (hk : 5000 ≤ k) {R : List (List Int)} {D : List Int} (hD : D.length = 4) : p23 k R D = some (mnE R D) := by
  unfold p23 mnE
  rw [p46_eq hk hD]
  simp only [cl2_v, lt_v, ne_zero_b, sp_nd]
  by_cases hl : logE R D = 0
  · have h := logE_zero.1 hl
    have hcl : ((crs R D).2.2.2.1.length : Int) = lastI R + 1 := by
      show ((pls R (lastN R + 1)).length : Int) = _
      rw [pls_len]; exact h.N
    rw [if_pos hl, if_pos hl, if_pos hl, cl_v, hcl]
  · rw [if_neg hl, if_neg hl]
theorem p30_eq {k : Nat} (hk : 5000 ≤ k) {R : List (List Int)} {D : List Int} (hD : D.length = 4) (hb : Wf64 R) : p30 k R D = some (mnE R D) := by
  unfold p30 mnE
  rw [p21_eq hk hD hb]
  simp only [cl_v, lt_v, ne_zero_b, sp_nd]
  by_cases hl : logE R D = 0
  · have h := logE_zero.1 hl
    have hsp := h.arg.span
    have hn := h.arg.n2
    have hla := h.arg.last
    rw [if_pos hl, if_pos hl, p53_eq (by omega) h.n64 (by omega) (by omega), cl_v, wr64 (by omega) (by omega)]
  · rw [if_neg hl, if_neg hl]
end Go.Proofs.Ythjkejbgknemgaa
namespace Go.Proofs.Ythjkejbgknemgaa
open Go.RowKit Classical
theorem take_set {α : Type} (v : α) : ∀ (i : Nat) (L : List α), i < L.length → L.take i ++ (v :: []) ++ L.drop (i + 1) = L.set i v
  | _, [], h => by simp at h
  | 0, a :: L, _ => by simp
  | i + 1, a :: L, h => by
    have := take_set v i L (by simpa using h)
    simpa using this
theorem getDset {α : Type} (L : List α) (i q : Nat) (v y : α) (h : i < L.length) : (L.set i v).getD q y = if q = i then v else L.getD q y := by
  by_cases c : q = i
  · subst c; simp [List.getD_eq_getElem?_getD, h]
  · rw [if_neg c]
    simp only [List.getD_eq_getElem?_getD]
    rw [List.getElem?_set_ne (fun hh => c hh.symm)]
theorem getD_app {α : Type} (L : List α) (v y : α) (q : Nat) : (L ++ [v]).getD q y = if q = L.length then v else L.getD q y := by
  simp only [List.getD_eq_getElem?_getD]
  by_cases c : q = L.length
  · subst c; simp
  · rw [if_neg c]
    by_cases c2 : q < L.length
    · rw [List.getElem?_append_left c2]
    · rw [List.getElem?_append_right (by omega), List.getElem?_eq_none (l := L) (by omega), List.getElem?_eq_none (by simp; omega)]
theorem p41_eq {k : Nat} {a b v : Int} (h : a ≤ b) (ha : -2251799813685248 ≤ a) (hb : b ≤ 2251799813685248) (h0 : 0 ≤ v) (h1 : v ≤ 255) : ∃ z, p41 k [a, b] v = some z ∧ a ≤ z ∧ z ≤ b := by
  have hm0 : 0 ≤ (b - a) * v := Int.mul_nonneg (by omega) h0
  have hm1 : (b - a) * v ≤ (b - a) * 255 := Int.mul_le_mul_of_nonneg_left h1 (by omega)
  have hd : Int.tdiv ((b - a) * v) 255 = (b - a) * v / 255 := Int.tdiv_eq_ediv_of_nonneg hm0
  refine ⟨a + (b - a) * v / 255, ?_, ?_, ?_⟩
  · unfold p41
    simp only [lt_v, List.getD_cons_zero, List.getD_cons_succ]
    rw [wr64 (z := b - a) (by omega) (by omega), wr64 (z := v) (by omega) (by omega), wr64 (z := (b - a) * v) (by omega) (by omega), hd, wr64 (z := (b - a) * v / 255) (by omega) (by omega), wr64 (by omega) (by omega)]
  · omega
  · omega
theorem p42_eq {k : Nat} {S : List Int} {i : Int} (hS : ∀ z ∈ S, 0 ≤ z ∧ z ≤ 255) (h0 : 0 ≤ i) : ∃ v, p42 k S i = some v ∧ 0 ≤ v ∧ v ≤ 255 := by
  unfold p42
  simp only [lt_v, sp_d]
  by_cases c : i < (S.length : Int)
  · rw [if_pos c, gd_v (by omega)]
    have := hS _ (getD_mem' (S := S) (i := i.toNat) (by omega))
    exact ⟨_, rfl, this⟩
  · rw [if_neg c]; exact ⟨0, rfl, by omega, by omega⟩
theorem p13_l2_eq {k : Nat} (hk : 5000 ≤ k) {R : List (List Int)} {D S : List Int} {W : List (List Int)} (h : LogOk R D) (hS : ∀ z ∈ S, 0 ≤ z ∧ z ≤ 255) {m : Nat} (hm : m < lastN R + 1) (hW : W.length = m) (hp : 0 < m → ∀ q, q < 4 → vl R D q (m - 1 : Nat) ≤ hv W (m - 1) q ∧ hv W (m - 1) q ≤ vh R D q (m - 1 : Nat)) (j : List Int → Option (List Int × List (List Int))) : ∀ (d i n : Nat) (L : List Int), i + d = 4 → d < n → L.length = 4 → (∀ q, q < i → (vl R D q m ≤ L.getD q 0 ∧ L.getD q 0 ≤ vh R D q m) ∧ (0 < m → hv W (m - 1) q - D.getD q 0 ≤ L.getD q 0 ∧ L.getD q 0 ≤ hv W (m - 1) q + D.getD q 0)) → ∃ L' : List Int, L'.length = 4 ∧ (∀ q, q < 4 → (vl R D q m ≤ L'.getD q 0 ∧ L'.getD q 0 ≤ vh R D q m) ∧ (0 < m → hv W (m - 1) q - D.getD q 0 ≤ L'.getD q 0 ∧ L'.getD q 0 ≤ hv W (m - 1) q + D.getD q 0)) ∧ p13_l2 k R D S (m : Int) W j n (i : Int) L = j L'
  | 0, i, n, L, h1, h2, hL, hq => by
    obtain ⟨n, rfl⟩ : ∃ n', n = n' + 1 := ⟨n - 1, by omega⟩
    refine ⟨L, hL, fun q h4 => hq q (by omega), ?_⟩
    rw [p13_l2]
    simp only [lt_v, sp_d]
    rw [if_neg (by omega)]
  | d + 1, i, n, L, h1, h2, hL, hq => by
    obtain ⟨n, rfl⟩ : ∃ n', n = n' + 1 := ⟨n - 1, by omega⟩
    have hN := h.N
    have hsp := h.arg.span
    have hdr := h.arg.dr i (by omega)
    have hsum := (h.sum m (by omega) (by omega)).2 i (by omega)
    have hw : wr .i64 ((i : Int) + 1) = ((i + 1 : Nat) : Int) := by rw [wr64 (by omega) (by omega)]; omega
    have e17 := p17_eq hk h.n64 h.arg (m := (m : Int)) (kk := i) (by omega) (by omega) (by omega)
    have hw5 : wr .i64 (5 * (m : Int)) = 5 * (m : Int) := wr64 (by omega) (by omega)
    have hw6 : wr .i64 (5 * (m : Int) + (i : Int)) = 5 * (m : Int) + (i : Int) := wr64 (by omega) (by omega)
    obtain ⟨v, hv42, hv0, hv1⟩ := p42_eq (k := k) (S := S) (i := 5 * (m : Int) + (i : Int)) hS (by omega)
    have hg : ∀ {α : Type} (a b : Int) (x : Option α), gd ([a, b].length = 2) x = x := fun _ _ _ => rfl
    have hb1 := vl_ge R D i (m : Int)
    have hb2 := vh_le R D i (m : Int)
    rw [p13_l2]
    simp only [lt_v, sp_d, e17, cl_v, hg, jn_v, hw5, hw6, hv42, Int.toNat_natCast, Nat.zero_add, Nat.mul_one, hw, List.getD_cons_zero, List.getD_cons_succ, mx_eq, mn_eq]
    rw [if_pos (by omega)]
    have fin : ∀ z : Int, ((vl R D i m ≤ z ∧ z ≤ vh R D i m) ∧ (0 < m → hv W (m - 1) i - D.getD i 0 ≤ z ∧ z ≤ hv W (m - 1) i + D.getD i 0)) → ∃ L' : List Int, L'.length = 4 ∧ (∀ q, q < 4 → (vl R D q m ≤ L'.getD q 0 ∧ L'.getD q 0 ≤ vh R D q m) ∧ (0 < m → hv W (m - 1) q - D.getD q 0 ≤ L'.getD q 0 ∧ L'.getD q 0 ≤ hv W (m - 1) q + D.getD q 0)) ∧ gd ((0 : Int) ≤ (i : Int) ∧ (i : Int) < ((4 : Nat) : Int)) (p13_l2 k R D S (m : Int) W j n ((i + 1 : Nat) : Int) (List.take i L ++ (z :: []) ++ List.drop (i + 1) L)) = j L' := by
      intro z hz
      rw [gd_v (by omega), take_set z i L (by omega)]
      refine p13_l2_eq hk h hS hm hW hp j d (i + 1) n (L.set i z) (by omega) (by omega) (by simpa using hL) (fun q hqi => ?_)
      rw [getDset L i q z 0 (by omega)]
      by_cases c : q = i
      · subst c; rw [if_pos rfl]; exact hz
      · rw [if_neg c]; exact hq q (by omega)
    by_cases c2 : 0 < m
    · have hp' := hp c2 i (by omega)
      have hw2 : wr .i64 ((m : Int) - 1) = ((m - 1 : Nat) : Int) := by rw [wr64 (by omega) (by omega)]; omega
      have hb3 := vl_ge R D i (m - 1 : Nat)
      have hb4 := vh_le R D i (m - 1 : Nat)
      have hs1 := vl_step R D i hdr.1 (m - 1 : Nat)
      have hs2 := vh_step R D i hdr.1 (m - 1 : Nat)
      rw [show ((m - 1 : Nat) : Int) + 1 = (m : Int) from by omega] at hs1 hs2
      have hx := hp' ; unfold hv at hx
      rw [if_pos (by omega), hw2, Int.toNat_natCast, gd_v (by omega), gd_v (by omega), gd_v (by omega), gd_v (by omega), gd_v (by omega), gd_v (by omega)]
      rw [wr64 (z := (W.getD (m - 1) []).getD i 0 - D.getD i 0) (by omega) (by omega), wr64 (z := (W.getD (m - 1) []).getD i 0 + D.getD i 0) (by omega) (by omega)]
      have hz : ((([vl R D i m, vh R D i m].set 0 (max (vl R D i m) ((W.getD (m - 1) []).getD i 0 - D.getD i 0))).set 1 (min (([vl R D i m, vh R D i m].set 0 (max (vl R D i m) ((W.getD (m - 1) []).getD i 0 - D.getD i 0))).getD 1 0) ((W.getD (m - 1) []).getD i 0 + D.getD i 0)))) = [max (vl R D i m) (hv W (m - 1) i - D.getD i 0), min (vh R D i m) (hv W (m - 1) i + D.getD i 0)] := rfl
      rw [hz]
      obtain ⟨z, hz1, hz2, hz3⟩ := p41_eq (k := k) (v := v) (a := max (vl R D i m) (hv W (m - 1) i - D.getD i 0)) (b := min (vh R D i m) (hv W (m - 1) i + D.getD i 0)) (by omega) (by omega) (by omega) hv0 hv1
      rw [hz1, cl_v]
      exact fin z ⟨by omega, fun _ => by omega⟩
    · rw [if_neg (by omega)]
      obtain ⟨z, hz1, hz2, hz3⟩ := p41_eq (k := k) (v := v) (a := vl R D i m) (b := vh R D i m) hsum (by omega) (by omega) hv0 hv1
      rw [hz1, cl_v]
      exact fin z ⟨⟨hz2, hz3⟩, fun hh => absurd hh c2⟩
theorem p13_l1_eq {k : Nat} (hk : 5000 ≤ k) {R : List (List Int)} {D S : List Int} (h : LogOk R D) (hS : ∀ z ∈ S, 0 ≤ z ∧ z ≤ 255) (j : List Int → List (List Int) → Option (List Int × List (List Int))) : ∀ (d m n : Nat) (P : List Int) (V : List (List Int)), m + d = lastN R + 1 → d < n → P.length = m → V.length = m → (∀ x, x < m → minOk R D P V x) → ∃ P' V', Fits R D P' V' ∧ p13_l1 k R D S j (lastI R + 1) n (m : Int) P V = j P' V'
  | 0, m, n, P, V, h1, h2, hP, hV, hq => by
    obtain ⟨n, rfl⟩ : ∃ n', n = n' + 1 := ⟨n - 1, by omega⟩
    have hN := h.N
    refine ⟨P, V, ⟨by omega, by omega, fun m hm => (hq m (by omega)).1, fun m hm => (hq m (by omega)).2⟩, ?_⟩
    rw [p13_l1]
    simp only [lt_v, sp_d]
    rw [if_neg (by omega)]
  | d + 1, m, n, P, V, h1, h2, hP, hV, hq => by
    obtain ⟨n, rfl⟩ : ∃ n', n = n' + 1 := ⟨n - 1, by omega⟩
    have hN := h.N
    have hsp := h.arg.span
    have hst := h.arg.st
    have hn := h.arg.n2
    have hsum := (h.sum m (by omega) (by omega)).1
    have hw : wr .i64 ((m : Int) + 1) = ((m + 1 : Nat) : Int) := by rw [wr64 (by omega) (by omega)]; omega
    have e16 := p16_eq hk (R := R) (D := D) (m := (m : Int)) (by omega) h.n64 (by omega) (by omega)
    have hw5 : wr .i64 (5 * (m : Int)) = 5 * (m : Int) := wr64 (by omega) (by omega)
    have hw6 : wr .i64 (5 * (m : Int) + 4) = 5 * (m : Int) + 4 := wr64 (by omega) (by omega)
    obtain ⟨v, hv42, hv0, hv1⟩ := p42_eq (k := k) (S := S) (i := 5 * (m : Int) + 4) hS (by omega)
    have hg : ∀ {α : Type} (a b : Int) (x : Option α), gd ([a, b].length = 2) x = x := fun _ _ _ => rfl
    have hb1 := pl_ge R (m : Int)
    have hb2 := ph_le R (m : Int)
    rw [p13_l1]
    simp only [lt_v, sp_d, e16, cl_v, hg, jn_v, hw5, hw6, hv42, Int.toNat_natCast, Nat.zero_add, Nat.mul_one, hw, List.getD_cons_zero, List.getD_cons_succ, mx_eq, mn_eq]
    rw [if_pos (by omega)]
    obtain ⟨L', hL', hok, heq⟩ := p13_l2_eq hk h hS (m := m) (by omega) hV (fun h0 q hq4 => (((hq (m - 1) (by omega)).2) q hq4).1) (fun L21 => if (m : Int) > 0 then gd ((0 : Int) ≤ wr .i64 ((m : Int) - 1) ∧ wr .i64 ((m : Int) - 1) < (P.length : Int)) (cl (p41 k ([pl R m, ph R m].set 0 (max (pl R m) (P.getD (wr .i64 ((m : Int) - 1)).toNat 0))) v) fun v71 => gd (((P.length + [v71].length) * 8) ≤ 140737488355328) (gd (((V.length + [L21].length) * 32) ≤ 140737488355328) (p13_l1 k R D S j (lastI R + 1) n ((m + 1 : Nat) : Int) (P ++ [v71]) (V ++ [L21])))) else cl (p41 k [pl R m, ph R m] v) fun v71 => gd (((P.length + [v71].length) * 8) ≤ 140737488355328) (gd (((V.length + [L21].length) * 32) ≤ 140737488355328) (p13_l1 k R D S j (lastI R + 1) n ((m + 1 : Nat) : Int) (P ++ [v71]) (V ++ [L21])))) 4 0 k [0, 0, 0, 0] (by omega) (by omega) rfl (fun q hq0 => by omega)
    rw [show ((0 : Nat) : Int) = 0 from rfl] at heq
    rw [heq]
    have fin : ∀ z : Int, ((pl R m ≤ z ∧ z ≤ ph R m) ∧ (0 < m → P.getD (m - 1) 0 ≤ z)) → ∃ P' V', Fits R D P' V' ∧ gd (((P.length + [z].length) * 8) ≤ 140737488355328) (gd (((V.length + [L'].length) * 32) ≤ 140737488355328) (p13_l1 k R D S j (lastI R + 1) n ((m + 1 : Nat) : Int) (P ++ [z]) (V ++ [L']))) = j P' V' := by
      intro z hz
      rw [gd_v (by simp only [List.length_cons, List.length_nil]; omega), gd_v (by simp only [List.length_cons, List.length_nil]; omega)]
      refine p13_l1_eq hk h hS j d (m + 1) n (P ++ [z]) (V ++ [L']) (by omega) (by omega) (by simp; omega) (by simp; omega) (fun x hx => ?_)
      have gP : ∀ q, (P ++ [z]).getD q 0 = if q = m then z else P.getD q 0 := fun q => by rw [getD_app, hP]
      have gV : ∀ q, (V ++ [L']).getD q [] = if q = m then L' else V.getD q [] := fun q => by rw [getD_app, hV]
      unfold minOk plcOk valOk hv
      simp only [gP, gV]
      by_cases c : x = m
      · subst c
        rw [if_pos rfl, if_pos rfl]
        refine ⟨⟨hz.1, fun h0 => ?_⟩, fun q hq4 => ⟨(hok q hq4).1, fun h0 => ?_⟩⟩
        · rw [if_neg (by omega)]; exact hz.2 h0
        · rw [if_neg (by omega)]; exact (hok q hq4).2 h0
      · rw [if_neg c, if_neg c, if_neg (by omega), if_neg (by omega)]
        exact hq x (by omega)
    by_cases c2 : 0 < m
    · have hq' := (hq (m - 1) (by omega)).1
      have hw2 : wr .i64 ((m : Int) - 1) = ((m - 1 : Nat) : Int) := by rw [wr64 (by omega) (by omega)]; omega
      have hmo := ph_mono R (a := ((m - 1 : Nat) : Int)) (b := (m : Int)) (by omega)
      have hx := hq'.1
      rw [if_pos (by omega), hw2, Int.toNat_natCast, gd_v (by omega)]
      obtain ⟨z, hz1, hz2, hz3⟩ := p41_eq (k := k) (v := v) (a := max (pl R m) (P.getD (m - 1) 0)) (b := ph R m) (by omega) (by omega) (by omega) hv0 hv1
      rw [show ([pl R m, ph R m].set 0 (max (pl R m) (P.getD (m - 1) 0))) = [max (pl R m) (P.getD (m - 1) 0), ph R m] from rfl, hz1, cl_v]
      exact fin z ⟨by omega, fun _ => by omega⟩
    · rw [if_neg (by omega)]
      obtain ⟨z, hz1, hz2, hz3⟩ := p41_eq (k := k) (v := v) (a := pl R m) (b := ph R m) hsum (by omega) (by omega) hv0 hv1
      rw [hz1, cl_v]
      exact fin z ⟨⟨hz2, hz3⟩, fun hh => absurd hh c2⟩
theorem p13_eq {k : Nat} (hk : 5000 ≤ k) {R : List (List Int)} {D S : List Int} (hD : D.length = 4) (hb : Wf64 R) (h : LogOk R D) (hS : ∀ z ∈ S, 0 ≤ z ∧ z ≤ 255) : ∃ P V, Fits R D P V ∧ p13 k R D S = some (P, V) := by
  unfold p13
  rw [p30_eq hk hD hb, cl2_v, jn_v]
  have hl := lastN_le h
  have e : (mnE R D).1 = lastI R + 1 := by unfold mnE; rw [if_pos (logE_zero.2 h)]
  rw [e]
  obtain ⟨P, V, hf, he⟩ := p13_l1_eq hk h hS (fun L11 R12 => some (L11, R12)) (lastN R + 1) 0 k [] [] (by omega) (by omega) rfl rfl (fun x hx => by omega)
  exact ⟨P, V, hf, he⟩
def eRow (R : List (List Int)) (D : List Int) (b : Bool) (m : Int) : List Int := if b then [vh R D 0 m, vh R D 1 m, vh R D 2 m, vh R D 3 m] else [vl R D 0 m, vl R D 1 m, vl R D 2 m, vl R D 3 m]
def ePl (R : List (List Int)) (b : Bool) (m : Int) : Int := if b then ph R m else pl R m
theorem eRow_get (R : List (List Int)) (D : List Int) (b : Bool) (m : Int) : ∀ q, q < 4 → (eRow R D b m).getD q 0 = if b then vh R D q m else vl R D q m := by
  cases b
  · intro q hq
    match q, hq with
    | 0, _ => rfl
    | 1, _ => rfl
    | 2, _ => rfl
    | 3, _ => rfl
  · intro q hq
    match q, hq with
    | 0, _ => rfl
    | 1, _ => rfl
    | 2, _ => rfl
    | 3, _ => rfl
def eP (R : List (List Int)) (b : Bool) (N : Nat) : List Int := (List.range N).map fun x : Nat => ePl R b x
def eV (R : List (List Int)) (D : List Int) (b : Bool) (N : Nat) : List (List Int) := (List.range N).map fun x : Nat => eRow R D b x
theorem eVal {R : List (List Int)} {D : List Int} (h : LogOk R D) (b : Bool) {m : Nat} (hm : m < lastN R + 1) {q : Nat} (hq : q < 4) : valOk R D (eV R D b (lastN R + 1)) m q := by
  have hN := h.N
  have hs := (h.sum m (by omega) (by omega)).2 q hq
  have hd := (h.arg.dr q hq).1
  have g : ∀ x, x < lastN R + 1 → hv (eV R D b (lastN R + 1)) x q = if b then vh R D q x else vl R D q x := fun x hx => by
    unfold hv eV
    rw [getD_map_range _ _ _ _ hx, eRow_get R D b x q hq]
  unfold valOk
  rw [g m hm, g (m - 1) (by omega)]
  have h1 := vl_step R D q hd (m - 1 : Nat)
  have h2 := vh_step R D q hd (m - 1 : Nat)
  refine ⟨?_, fun h0 => ?_⟩
  · cases b
    · exact ⟨Int.le_refl _, hs⟩
    · exact ⟨hs, Int.le_refl _⟩
  · rw [show ((m - 1 : Nat) : Int) + 1 = (m : Int) from by omega] at h1 h2
    cases b
    · show vl R D q _ - _ ≤ vl R D q _ ∧ vl R D q _ ≤ vl R D q _ + _
      omega
    · show vh R D q _ - _ ≤ vh R D q _ ∧ vh R D q _ ≤ vh R D q _ + _
      omega
theorem eFits {R : List (List Int)} {D : List Int} (h : LogOk R D) (b : Bool) : Fits R D (eP R b (lastN R + 1)) (eV R D b (lastN R + 1)) := by
  have hN := h.N
  refine ⟨by simp [eP], by simp [eV], fun m hm => ?_, fun m hm q hq => eVal h b hm hq⟩
  have hs := (h.sum m (by omega) (by omega)).1
  have g : ∀ x, x < lastN R + 1 → (eP R b (lastN R + 1)).getD x 0 = ePl R b x := fun x hx => getD_map_range _ _ _ _ hx
  unfold plcOk
  rw [g m hm, g (m - 1) (by omega)]
  have h1 := pl_mono R (a := ((m - 1 : Nat) : Int)) (b := (m : Int)) (by omega)
  have h2 := ph_mono R (a := ((m - 1 : Nat) : Int)) (b := (m : Int)) (by omega)
  cases b
  · exact ⟨⟨Int.le_refl _, hs⟩, fun _ => h1⟩
  · exact ⟨⟨hs, Int.le_refl _⟩, fun _ => h2⟩
end Go.Proofs.Ythjkejbgknemgaa
namespace Go.Proofs.Ythjkejbgknemgaa
open Go.ChangeShapes Go.WideShapes Go.ChangeAt Go.RowKit
def PlainClaimSpans : Prop := ∀ (u0_0 : List (List Int)) (u0_1 : List Int) (u1 : List Int) (u2 : Int) (u3 : Bool) (u4 : Int), u0_0.length ≤ maxLen → (∀ r ∈ u0_0, r.length = 11) → (∀ r ∈ u0_0, ∀ z ∈ r, Wfi .i64 z) → u0_1.length = 4 → (∀ z ∈ u0_1, Wfi .i64 z) → u1.length ≤ maxLen → (∀ z ∈ u1, Wfi .u8 z) → Wfi .u8 u2 → Wfi .u8 u4 → ∃ k, p7 k u0_0 u0_1 u1 u2 u3 u4 = some true
theorem own7 : ownKnob Try.prog.godebug = none := by kernel_rfl
theorem laid7 : laidOutB Try.prog = true := by kernel_rfl
set_option maxRecDepth 100000 in
theorem lifted7 (plain : PlainClaimSpans) (os : Os) (started : os.Started) (H : Type) (enc : TypeId × Value → H) :
    ReturnsInHanded {} Try.checked os 7 .any (Rows.claimSpansSpec.pre6 enc Try.prog Try.f7 Rows.claimSpansRow.domain false) (Rows.claimSpansSpec.post enc Try.prog Try.f7 false true false false) := by
  refine returnsInHanded_of_change (C := Try.checked) own7 started (by kernel_rfl) Try.func7
    (ChangeSpec.witness6 (enc := enc) (C := Try.checked) false ⟨#[], #[.agg #[.slice none 0 0, .int .i64 0, .int .i64 0, .int .i64 0, .int .i64 0], .slice none 0 0, .int .u8 0, .bool false, .int .u8 0], []⟩ 12 (by kernel_rfl) (by kernel_rfl) (by kernel_rfl) (by kernel_rfl)) ?_
  intro W base args ds gs before hval0 hW hcnd _
  have hval : ∀ (j : Nat) t v, Try.f7.params[j]? = some t → args[j]? = some v → Value.okWide Try.prog W .any base t v := hval0
  have hW' := hW
  obtain ⟨p, q, hA0, hV, rfl, hfz, hnd⟩ := hW
  have hA : DataW.TrodAll enc Try.prog W 0 (fun _ => true) true Try.f7.params.toList args.toList ds p := hA0
  rw [Try.params7] at hA hval
  obtain ⟨v0, vs0, d0, ds0, p0, q0, hargs, rfl, rfl, h0, r0⟩ := trodAll_cons hA
  obtain ⟨v1, vs1, d1, ds1, p1, q1, rfl, rfl, rfl, h1, r1⟩ := trodAll_cons r0
  obtain ⟨v2, vs2, d2, ds2, p2, q2, rfl, rfl, rfl, h2, r2⟩ := trodAll_cons r1
  obtain ⟨v3, vs3, d3, ds3, p3, q3, rfl, rfl, rfl, h3, r3⟩ := trodAll_cons r2
  obtain ⟨v4, vs4, d4, ds4, p4, q4, rfl, rfl, rfl, h4, r4⟩ := trodAll_cons r3
  obtain ⟨rfl, rfl, rfl⟩ := trodAll_nil r4
  obtain rfl : args = #[v0, v1, v2, v3, v4] := by cases args; simp_all
  obtain ⟨rfl, rfl⟩ := trodVars_none hV
  have k0 := h0
  have lt0 : ∀ x ∈ p0, x.block < W.heap.size := by obtain ⟨m, hm⟩ := k0; exact DataW.trod_lt m _ _ _ hm
  obtain ⟨cs0, fu0, rfl, hx0⟩ := open_agg Try.underlying25 rfl (hval 0 25 v0 rfl rfl) h0
  obtain ⟨c0a, c0b, fv0, y0a, y0b, rfl, hx0a, hx0b⟩ := open_two Try.underlying25 rfl (by kernel_rfl) (by kernel_rfl) hx0
  obtain ⟨Au0_0, u0_0, cu0_0, rfl, su0_0, mu0_0, zu0_0⟩ := open_rows (k := .i64) (d := 8) (m := 11) Try.underlying22 (by kernel_rfl) rfl (by kernel_rfl) hx0a
  obtain ⟨u0_1, rfl, lu0_1, zu0_1⟩ := open_ints' (k := .i64) (d := 8) (n := 4) (by kernel_rfl) hx0b
  have k1 := h1
  have lt1 : ∀ x ∈ p1, x.block < W.heap.size := by obtain ⟨m, hm⟩ := k1; exact DataW.trod_lt m _ _ _ hm
  obtain ⟨cs1, fu1, hcs1, hx1⟩ := open_slice Try.underlying28 (hval 1 28 v1 rfl rfl) h1
  obtain ⟨Au1, u1, cu1, rfl, su1, mu1, zu1⟩ := open_sint (k := .u8) (d := 8) Try.underlying28 (by kernel_rfl) (by kernel_rfl) hx1
  injection hcs1 with hcs1 _
  subst hcs1
  obtain ⟨u2, rfl, rfl, rfl, wu2⟩ := open_int Try.underlying5 (hval 2 5 v2 rfl rfl) h2
  obtain ⟨u3, rfl, rfl, rfl⟩ := open_bool Try.underlying4 (hval 3 4 v3 rfl rfl) h3
  obtain ⟨u4, rfl, rfl, rfl, wu4⟩ := open_int Try.underlying5 (hval 4 5 v4 rfl rfl) h4
  obtain ⟨k, hp⟩ := plain u0_0 u0_1 u1 u2 u3 u4 mu0_0 su0_0.1 zu0_0 lu0_1 zu0_1 mu1 zu1 wu2 wu4
  have hc := Fn.calls (Mem.le_refl _) ((w7 k su0_0 lu0_1 su1 hp).mono (R' := fun x _ => rval x = .bool true) (by rintro x M' _ rfl; rfl))
  clear hA0 hval0
  have hc2 : Calls Try.prog 7 #[.agg ([Value.slice Au0_0 (List.length u0_0) cu0_0] ++ ints .i64 u0_1).toArray, .slice Au1 (List.length u1) cu1, .int .u8 u2, .bool u3, .int .u8 u4] W fun e w' => e = .returned (.bool true) ∧ Below W.heap.size W w' := by
    simpa [rval, SV.val, sgCells, Sg.cells, Lf.val] using hc
  refine hc2.mono fun e W' ⟨he, bel⟩ => ?_
  subst he
  exact ⟨_, rfl, _, _, _, [], _, [], hW', trodAll_mk1 (shut_bool Try.underlying4 _), (trodAll_cons_mk (Below.trod laid7 (by kernel_rfl) (of_decide_eq_true (by kernel_rfl)) k0 bel lt0) (trodAll_cons_mk (Below.trod laid7 (by kernel_rfl) (of_decide_eq_true (by kernel_rfl)) k1 bel lt1) (trodAll_cons_mk (shut_int Try.underlying5 wu2) (trodAll_cons_mk (shut_bool Try.underlying4 _) (trodAll_cons_mk (shut_int Try.underlying5 wu4) trodAll_mk0))))), rfl, bel.frame _, fun h => by cases h⟩
theorem claimSpans_of (plain : PlainClaimSpans) : Rows.ClaimSpansSaid :=
  OpenClaim.holds_of_wide 7 Try.f7 rfl rfl rfl rfl rfl rfl rfl ⟨rfl, rfl, rfl, rfl, rfl⟩ rfl rfl rfl rfl rfl (by kernel_rfl) Try.func7 (by kernel_rfl)
    (of_decide_eq_true (by kernel_rfl)) (by unfold Func.isWrapper; first | (rw [if_pos (by decide +kernel)]; kernel_rfl) | (rw [if_neg (by decide +kernel)]; exact ⟨rfl, rfl⟩))
    (fun os started H enc _ => lifted7 plain os started H enc)
end Go.Proofs.Ythjkejbgknemgaa
namespace Go.Proofs.Ythjkejbgknemgaa
open Go.RowKit Classical
theorem spn_get (R : List (List Int)) (D : List Int) (m : Int) : ∀ q, q < 4 → (spn R D m).getD (q * 2 + 0) 0 = vl R D q m ∧ (spn R D m).getD (q * 2 + 1) 0 = vh R D q m
  | 0, _ => ⟨rfl, rfl⟩
  | 1, _ => ⟨rfl, rfl⟩
  | 2, _ => ⟨rfl, rfl⟩
  | 3, _ => ⟨rfl, rfl⟩
  | _ + 4, h => by omega
theorem p7_l2_eq {k : Nat} {R : List (List Int)} {D P : List Int} {V : List (List Int)} (h : LogOk R D) (hf : Fits R D P V) {m : Nat} (hm : m < lastN R + 1) (j : Option Bool) : ∀ (d i n : Nat), i + d = 4 → d < n → p7_l2 k (m : Int) j V (spn R D m) n (i : Int) = j
  | 0, i, n, h1, h2 => by
    obtain ⟨n, rfl⟩ : ∃ n', n = n' + 1 := ⟨n - 1, by omega⟩
    rw [p7_l2]
    simp only [lt_v, sp_d]
    rw [if_neg (by omega)]
  | d + 1, i, n, h1, h2 => by
    obtain ⟨n, rfl⟩ : ∃ n', n = n' + 1 := ⟨n - 1, by omega⟩
    have hw : wr .i64 ((i : Int) + 1) = ((i + 1 : Nat) : Int) := by rw [wr64 (by omega) (by omega)]; omega
    have hs := spn_get R D m i (by omega)
    have hv' := (hf.val m hm i (by omega)).1
    have hl := hf.lv
    unfold hv at hv'
    rw [p7_l2]
    simp only [lt_v, sp_d, jn_v, Int.toNat_natCast, Nat.zero_add, Nat.mul_one, hw, hs.1, hs.2, sp_tt]
    rw [if_pos (by omega), gd_v (by omega), gd_v (by omega), gd_v (by omega), if_neg (by omega), gd_v (by omega), gd_v (by omega), gd_v (by omega), if_neg (by omega)]
    exact p7_l2_eq h hf hm j d (i + 1) n (by omega) (by omega)
theorem spE_ok {R : List (List Int)} {D : List Int} (h : LogOk R D) {m : Nat} (hm : m < lastN R + 1) : spE R D m = ([pl R m, ph R m], spn R D m, 0) := by
  have hN := h.N
  unfold spE
  rw [if_pos (logE_zero.2 h), if_pos ⟨by omega, by omega⟩]
theorem p7_l1_eq {k : Nat} (hk : 5000 ≤ k) {R : List (List Int)} {D P : List Int} {V : List (List Int)} (hD : D.length = 4) (h : LogOk R D) (hf : Fits R D P V) (j : Option Bool) : ∀ (d m n : Nat), m + d = lastN R + 1 → d < n → p7_l1 k R D j P V (lastI R + 1) n (m : Int) = j
  | 0, m, n, h1, h2 => by
    obtain ⟨n, rfl⟩ : ∃ n', n = n' + 1 := ⟨n - 1, by omega⟩
    have hN := h.N
    rw [p7_l1]
    simp only [lt_v, sp_d]
    rw [if_neg (by omega)]
  | d + 1, m, n, h1, h2 => by
    obtain ⟨n, rfl⟩ : ∃ n', n = n' + 1 := ⟨n - 1, by omega⟩
    have hN := h.N
    have hsp := h.arg.span
    have hw : wr .i64 ((m : Int) + 1) = ((m + 1 : Nat) : Int) := by rw [wr64 (by omega) (by omega)]; omega
    have hl := hf.lp
    have hpl := (hf.plc m (by omega)).1
    have hl2 := p7_l2_eq (k := k) h hf (m := m) (by omega) (p7_l1 k R D j P V (lastI R + 1) n ((m + 1 : Nat) : Int)) 4 0 k (by omega) (by omega)
    rw [show ((0 : Nat) : Int) = 0 from rfl] at hl2
    have hg1 : ∀ {α : Type} (a b : Int) (x : Option α), gd ([a, b].length = 2) x = x := fun _ _ _ => rfl
    have hg2 : ∀ {α : Type} (x : Option α), gd ((spn R D m).length = 8) x = x := fun _ => rfl
    have e0 : ((0 : Int) != 0) = false := rfl
    rw [p7_l1, p24_eq hk hD, spE_ok h (by omega)]
    simp only [lt_v, sp_d, jn_v, cl3_v, hg1, hg2, e0, sp_ff, sp_tt, Int.toNat_natCast, hw, List.getD_cons_zero, List.getD_cons_succ, hl2]
    rw [if_pos (by omega), gd_v (by omega), if_neg (by omega), gd_v (by omega), if_neg (by omega)]
    exact p7_l1_eq hk hD h hf j d (m + 1) n (by omega) (by omega)
theorem p7_l4_eq {k : Nat} (hk : 5000 ≤ k) {R : List (List Int)} {D : List Int} {m : Int} (b : Bool) (j : Bool → List Int → Option Bool) : p7_l4 k j (spn R D m) k b 0 [0, 0, 0, 0] = j b (eRow R D b m) := by
  obtain ⟨n, rfl⟩ : ∃ n, k = n + 1 + 1 + 1 + 1 + 1 := ⟨k - 5, by omega⟩
  have w0 : wr .i64 ((0 : Int) + 1) = 1 := rfl
  have w1 : wr .i64 ((1 : Int) + 1) = 2 := rfl
  have w2 : wr .i64 ((2 : Int) + 1) = 3 := rfl
  have w3 : wr .i64 ((3 : Int) + 1) = 4 := rfl
  have d0 : decide ((0 : Int) < 4) = true := rfl
  have d1 : decide ((1 : Int) < 4) = true := rfl
  have d2 : decide ((2 : Int) < 4) = true := rfl
  have d3 : decide ((3 : Int) < 4) = true := rfl
  have d4 : decide ((4 : Int) < 4) = false := rfl
  have g0 : ∀ x : Option Bool, gd ((0 : Int) ≤ 0 ∧ (0 : Int) < ((4 : Nat) : Int)) x = x := fun x => gd_v (by omega) x
  have g1 : ∀ x : Option Bool, gd ((0 : Int) ≤ 1 ∧ (1 : Int) < ((4 : Nat) : Int)) x = x := fun x => gd_v (by omega) x
  have g2 : ∀ x : Option Bool, gd ((0 : Int) ≤ 2 ∧ (2 : Int) < ((4 : Nat) : Int)) x = x := fun x => gd_v (by omega) x
  have g3 : ∀ x : Option Bool, gd ((0 : Int) ≤ 3 ∧ (3 : Int) < ((4 : Nat) : Int)) x = x := fun x => gd_v (by omega) x
  cases b with
  | true =>
    rw [p7_l4]
    simp only [lt_v, jn_v, d0, sp_tt, g0, w0]
    rw [p7_l4]
    simp only [lt_v, jn_v, d1, sp_tt, g1, w1]
    rw [p7_l4]
    simp only [lt_v, jn_v, d2, sp_tt, g2, w2]
    rw [p7_l4]
    simp only [lt_v, jn_v, d3, sp_tt, g3, w3]
    rw [p7_l4]
    simp only [lt_v, jn_v, d4, sp_ff]
    rfl
  | false =>
    rw [p7_l4]
    simp only [lt_v, jn_v, d0, sp_tt, sp_ff, g0, w0]
    rw [p7_l4]
    simp only [lt_v, jn_v, d1, sp_tt, sp_ff, g1, w1]
    rw [p7_l4]
    simp only [lt_v, jn_v, d2, sp_tt, sp_ff, g2, w2]
    rw [p7_l4]
    simp only [lt_v, jn_v, d3, sp_tt, sp_ff, g3, w3]
    rw [p7_l4]
    simp only [lt_v, jn_v, d4, sp_ff]
    rfl
theorem p7_l3_eq {k : Nat} (hk : 5000 ≤ k) {R : List (List Int)} {D : List Int} (hD : D.length = 4) (h : LogOk R D) (b : Bool) (j : List Int → List (List Int) → Option Bool) : ∀ (d m n : Nat), m + d = lastN R + 1 → d < n → p7_l3 k R D j (lastI R + 1) n b (m : Int) (eP R b m) (eV R D b m) = j (eP R b (lastN R + 1)) (eV R D b (lastN R + 1))
  | 0, m, n, h1, h2 => by
    obtain ⟨n, rfl⟩ : ∃ n', n = n' + 1 := ⟨n - 1, by omega⟩
    have hN := h.N
    rw [p7_l3]
    simp only [lt_v, sp_d]
    rw [if_neg (by omega), show m = lastN R + 1 from by omega]
  | d + 1, m, n, h1, h2 => by
    obtain ⟨n, rfl⟩ : ∃ n', n = n' + 1 := ⟨n - 1, by omega⟩
    have hN := h.N
    have hsp := h.arg.span
    have hw : wr .i64 ((m : Int) + 1) = ((m + 1 : Nat) : Int) := by rw [wr64 (by omega) (by omega)]; omega
    have hg1 : ∀ {α : Type} (a b : Int) (x : Option α), gd ([a, b].length = 2) x = x := fun _ _ _ => rfl
    have hg2 : ∀ {α : Type} (x : Option α), gd ((spn R D m).length = 8) x = x := fun _ => rfl
    have hp1 : (eP R b m).length = m := by simp [eP]
    have hp2 : (eV R D b m).length = m := by simp [eV]
    have hs1 : eP R b m ++ [ePl R b m] = eP R b (m + 1) := by unfold eP; rw [List.range_succ, List.map_append]; rfl
    have hs2 : eV R D b m ++ [eRow R D b m] = eV R D b (m + 1) := by unfold eV; rw [List.range_succ, List.map_append]; rfl
    have ih := p7_l3_eq hk hD h b j d (m + 1) n (by omega) (by omega)
    rw [p7_l3, p24_eq hk hD, spE_ok h (by omega)]
    simp only [lt_v, sp_d, jn_v, cl3_v, hg1, hg2, p7_l4_eq hk, hw, List.getD_cons_zero, List.getD_cons_succ]
    rw [if_pos (by omega)]
    cases b with
    | true =>
      rw [sp_tt, gd_v (by rw [hp1]; simp only [List.length_cons, List.length_nil]; omega), gd_v (by rw [hp2]; simp only [List.length_cons, List.length_nil]; omega), hs2, show [ph R (m : Int)] = [ePl R true m] from rfl, hs1]
      exact ih
    | false =>
      rw [sp_ff, gd_v (by rw [hp1]; simp only [List.length_cons, List.length_nil]; omega), gd_v (by rw [hp2]; simp only [List.length_cons, List.length_nil]; omega), hs2, show [pl R (m : Int)] = [ePl R false m] from rfl, hs1]
      exact ih
theorem plain7 : PlainClaimSpans := by
  intro R D S u2 b u4 hlen hrow hR hD hDz hSl hSz hu2 hu4
  obtain ⟨k, hk⟩ : ∃ k, 5000 ≤ k := ⟨5000, Nat.le_refl _⟩
  refine ⟨k, ?_⟩
  have hb : Wf64 R := fun r hr z hz => bounds_i64 (hR r hr z hz)
  have hS : ∀ z ∈ S, 0 ≤ z ∧ z ≤ 255 := fun z hz => by
    have := bounds_u8 (hSz z hz)
    omega
  unfold p7
  obtain ⟨g, hg⟩ := p18_some (k := k) (R := R) (D := D)
  simp only [hg, p12_eq hk, p21_eq hk hD hb, jn_v, cl_v, lt_v, ne_zero_b, sp_nd]
  cases g with
  | true => rfl
  | false =>
    rw [sp_ff]
    by_cases hl : logE R D = 0
    · have h := logE_zero.1 hl
      rw [if_pos hl]
      have hmn : mnE R D = (lastI R + 1, 0) := by unfold mnE; rw [if_pos hl]
      obtain ⟨P, V, hf, h13⟩ := p13_eq (k := k) hk hD hb h hS
      have hN := h.N
      have hsp := h.arg.span
      have e22 : ∀ P V, Fits R D P V → p22 k R D P V = some (true, 0) := fun P V hf => by
        rw [p22_eq hk hD, if_pos hl, decide_eq_true hf]
      have e3 := p7_l3_eq hk hD h b (fun L66 R67 => cl2 (p22 k R D L66 R67) fun v116 v117 => jn (fun (b118 : Bool) => some b118) fun j119 => lt' (v117 == (0 : Int)) fun b120 => sp b120 (sp v116 (cl (some true) fun v121 => j119 v121) (j119 false)) (j119 false)) (lastN R + 1) 0 k (by omega) (by omega)
      have e1 := p7_l1_eq hk hD h hf (p7_l3 k R D (fun L66 R67 => cl2 (p22 k R D L66 R67) fun v116 v117 => jn (fun (b118 : Bool) => some b118) fun j119 => lt' (v117 == (0 : Int)) fun b120 => sp b120 (sp v116 (cl (some true) fun v121 => j119 v121) (j119 false)) (j119 false)) (lastI R + 1) k b 0 [] []) (lastN R + 1) 0 k (by omega) (by omega)
      rw [show ((0 : Nat) : Int) = 0 from rfl] at e1 e3
      have e3' : p7_l3 k R D (fun L66 R67 => cl2 (p22 k R D L66 R67) fun v116 v117 => jn (fun (b118 : Bool) => some b118) fun j119 => lt' (v117 == (0 : Int)) fun b120 => sp b120 (sp v116 (cl (some true) fun v121 => j119 v121) (j119 false)) (j119 false)) (lastI R + 1) k b 0 [] [] = _ := e3
      simp only [h13, cl2_v, e22 P V hf, p23_eq hk hD, hmn, sp_tt]
      simp only [jn_v, lt_v, cl_v] at e1 e3'
      have hle : (lastI R + 1 != (P.length : Int)) = false := by
        have := hf.lp
        simp; omega
      by_cases hlen2 : (S.length : Int) > 2000
      · rw [decide_eq_true hlen2]; rfl
      · rw [decide_eq_false hlen2, sp_ff]
        simp only [decide_true, sp_tt, if_true, hle, sp_ff]
        exact e1.trans (e3'.trans (by rw [e22 _ _ (eFits h b)]; rfl))
    · rw [if_neg hl]; rfl
theorem claimSpans_holds : Rows.ClaimSpansSaid := claimSpans_of plain7
end Go.Proofs.Ythjkejbgknemgaa
