/- Lemmas and walks for the law ClaimNarrower (part 5). No condition: every theorem names its own hypotheses. -/
import Derived.Test.YthjkejbgknemgaaK4
import Derived.Test.YthjkejbgknemgaaProg
import Derived.Test.YthjkejbgknemgaaRows
set_option linter.unusedVariables false
set_option linter.unusedSimpArgs false
set_option maxHeartbeats 4000000
namespace Go.Proofs.Ythjkejbgknemgaa
open Go.RowKit
def p3_l1 (k : Nat) (u3 : Int) (u4 : Int) (j34 : List (List Int) → Option Bool) (v7 : List (List Int)) (x19 : Int) (x24 : Int) : Nat → Int → List (List Int) → Option Bool
 | 0,_,_ => none
 | n37 + 1,x35,R36 => lt' (decide (x35 < (4 : Int))) fun b38 => sp b38 (gd ((0 : Int) ≤ x19 ∧ x19 < (R36.length : Int)) <| gd ((0 : Int) ≤ x35 ∧ x35 < ((4 : Nat) : Int)) <| lt' (List.take 2 (List.drop (3 + (x35).toNat * 2) (List.getD R36 ((x19).toNat) []))) fun L41 => gd ((0 : Int) ≤ x24 ∧ x24 < (v7.length : Int)) <| gd ((0 : Int) ≤ x35 ∧ x35 < ((4 : Nat) : Int)) <| lt' (List.getD (List.getD v7 ((x24).toNat) []) (0 + (x35).toNat * 1) 0) fun x44 => cl (p15 k L41 x44 u3 u4) fun v45 => gd ((v45).length = 2) <| gd ((0 : Int) ≤ x19 ∧ x19 < (R36.length : Int)) <| gd ((0 : Int) ≤ x35 ∧ x35 < ((4 : Nat) : Int)) <| lt' (rowSet R36 ((x19).toNat) (3 + (x35).toNat * 2) v45) fun R49 => lt' (wr .i64 (x35 + (1 : Int))) fun x50 => p3_l1 k u3 u4 j34 v7 x19 x24 n37 x50 R49) (j34 R36)
def p3_l2 (k : Nat) (u0_0 : List (List Int)) (u0_1 : List Int) (u3 : Int) (u4 : Int) (j88 : List Int → Option Bool) (v7 : List (List Int)) (x24 : Int) : Nat → Int → List Int → Option Bool
 | 0,_,_ => none
 | n91 + 1,x89,L90 => lt' (decide (x89 < (4 : Int))) fun b92 => sp b92 (lt' (wr .i64 (x24 + (1 : Int))) fun x93 => cl (p17 k u0_0 u0_1 x93 x89) fun v94 => gd ((v94).length = 2) <| lt' (wr .i64 (x24 + (1 : Int))) fun x96 => gd ((0 : Int) ≤ x96 ∧ x96 < (v7.length : Int)) <| gd ((0 : Int) ≤ x89 ∧ x89 < ((4 : Nat) : Int)) <| lt' (List.getD (List.getD v7 ((x96).toNat) []) (0 + (x89).toNat * 1) 0) fun x99 => cl (p15 k v94 x99 u3 u4) fun v100 => gd ((v100).length = 2) <| gd ((0 : Int) ≤ x89 ∧ x89 < ((4 : Nat) : Int)) <| lt' (List.take (3 + (x89).toNat * 2) L90 ++ (v100 ++ []) ++ List.drop (3 + (x89).toNat * 2 + 2) L90) fun L103 => jn (fun (b104 : Bool) => sp b104 (cl (p12 k ) fun v112 => some v112) (lt' (wr .i64 (x89 + (1 : Int))) fun x113 => p3_l2 k u0_0 u0_1 u3 u4 j88 v7 x24 n91 x113 L103)) fun j105 => gd ((0 : Int) ≤ x89 ∧ x89 < ((4 : Nat) : Int)) <| lt' (List.getD L103 (3 + (x89).toNat * 2 + 0) 0) fun x107 => lt' (decide (x107 < (-1073741824 : Int))) fun b108 => sp b108 (j105 true) (gd ((0 : Int) ≤ x89 ∧ x89 < ((4 : Nat) : Int)) <| lt' (List.getD L103 (3 + (x89).toNat * 2 + 1) 0) fun x110 => lt' (decide (x110 > (1073741824 : Int))) fun b111 => j105 b111)) (j88 L90)
def p3 (k : Nat) (u0_0 : List (List Int)) (u0_1 : List Int) (u1 : List Int) (u2 : List Int) (u3 : Int) (u4 : Int) (u5 : Int) : Option Bool :=
 jn (fun (b1 : Bool) => sp b1 (cl (p12 k ) fun v5 => some v5) (cl2 (p13 k u0_0 u0_1 u2) fun v6 v7 => cl2 (p14 k u0_0 u0_1 u1) fun v13 v14 => gd ((List.length ([] : List (List Int)) + List.length u0_0) * 88 ≤ 140737488355328) <| lt' (([] : List (List Int)) ++ u0_0) fun W16 => lt' (wr .i64 (u5)) fun x17 => gd ((W16.length : Int) ≠ 0) <| lt' (Int.tmod x17 (W16.length : Int)) fun x19 => gd ((0 : Int) ≤ x19 ∧ x19 < (W16.length : Int)) <| lt' (List.getD (List.getD W16 ((x19).toNat) []) 0 0) fun x21 => gd ((0 : Int) ≤ (0 : Int) ∧ (0 : Int) < (u0_0.length : Int)) <| lt' (List.getD (List.getD u0_0 0 []) 0 0) fun x23 => lt' (wr .i64 (x21 - x23)) fun x24 => gd ((0 : Int) ≤ x19 ∧ x19 < (W16.length : Int)) <| lt' (List.take 2 (List.drop 1 (List.getD W16 ((x19).toNat) []))) fun L26 => gd ((0 : Int) ≤ x24 ∧ x24 < (v6.length : Int)) <| lt' (List.getD v6 ((x24).toNat) 0) fun x28 => cl (p15 k L26 x28 u3 u4) fun v29 => gd ((v29).length = 2) <| gd ((0 : Int) ≤ x19 ∧ x19 < (W16.length : Int)) <| lt' (rowSet W16 ((x19).toNat) 1 v29) fun R32 => jn (fun (R33 : List (List Int)) => cl2 (p14 k R33 u0_1 u1) fun v54 v55 => jn (fun (b56 : Bool) => sp b56 (some false) (jn (fun (b62 : Bool) => sp b62 (cl (p12 k ) fun v74 => some v74) (gd ((0 : Int) ≤ x19 ∧ x19 < (u0_0.length : Int)) <| lt' (List.getD (List.getD u0_0 ((x19).toNat) []) 0 0) fun x76 => lt' (wr .i64 (x76 + (1 : Int))) fun x77 => lt' (wr .i64 (x24 + (1 : Int))) fun x78 => cl (p16 k u0_0 u0_1 x78) fun v79 => gd ((v79).length = 2) <| lt' (wr .i64 (x24 + (1 : Int))) fun x81 => gd ((0 : Int) ≤ x81 ∧ x81 < (v6.length : Int)) <| lt' (List.getD v6 ((x81).toNat) 0) fun x83 => cl (p15 k v79 x83 u3 u4) fun v84 => gd ((v84).length = 2) <| lt' (List.take 1 ([x77,(0 : Int),(0 : Int),(0 : Int),(0 : Int),(0 : Int),(0 : Int),(0 : Int),(0 : Int),(0 : Int),(0 : Int)]) ++ (v84 ++ []) ++ List.drop 3 ([x77,(0 : Int),(0 : Int),(0 : Int),(0 : Int),(0 : Int),(0 : Int),(0 : Int),(0 : Int),(0 : Int),(0 : Int)])) fun L86 => jn (fun (L87 : List Int) => lt' (wr .i64 (x19 + (1 : Int))) fun x114 => gd ((0 : Int) ≤ (0 : Int) ∧ (0 : Int) ≤ x114 ∧ 0 ≤ (x114).toNat ∧ (x114).toNat ≤ List.length u0_0) <| lt' (part u0_0 0 ((x114).toNat)) fun P116 => gd ((List.length ([] : List (List Int)) + List.length P116) * 88 ≤ 140737488355328) <| lt' (([] : List (List Int)) ++ P116) fun W118 => gd ((W118.length + List.length ([L87])) * 88 ≤ 140737488355328) <| lt' (W118 ++ ([L87])) fun W120 => lt' (wr .i64 (x19 + (1 : Int))) fun x121 => gd ((0 : Int) ≤ x121 ∧ (0 : Int) ≤ (0 : Int) ∧ (x121).toNat ≤ List.length u0_0 ∧ List.length u0_0 ≤ List.length u0_0) <| lt' (part u0_0 ((x121).toNat) (u0_0.length)) fun P123 => gd ((W120.length + List.length P123) * 88 ≤ 140737488355328) <| lt' (W120 ++ P123) fun W125 => cl2 (p14 k W125 u0_1 u1) fun v129 v130 => jn (fun (b131 : Bool) => some b131) fun j132 => lt' (v130 == (0 : Int)) fun b133 => sp b133 (lt' (v13 == (0 : Int)) fun b134 => sp b134 (cl (p12 k ) fun v135 => j132 v135) (lt' (v129 == v13) fun b136 => sp b136 (cl (p12 k ) fun v137 => j132 v137) (j132 false))) (j132 false)) fun j88 => p3_l2 k u0_0 u0_1 u3 u4 j88 v7 x24 k (0 : Int) L86)) fun j63 => lt' (wr .i64 (x19 + (1 : Int))) fun x64 => lt' (x64 == (u0_0.length : Int)) fun b65 => sp b65 (j63 true) (lt' (wr .i64 (x19 + (1 : Int))) fun x66 => gd ((0 : Int) ≤ x66 ∧ x66 < (u0_0.length : Int)) <| lt' (List.getD (List.getD u0_0 ((x66).toNat) []) 0 0) fun x68 => gd ((0 : Int) ≤ x19 ∧ x19 < (u0_0.length : Int)) <| lt' (List.getD (List.getD u0_0 ((x19).toNat) []) 0 0) fun x70 => lt' (wr .i64 (x70 + (1 : Int))) fun x71 => lt' (x68 == x71) fun b72 => sp b72 (j63 true) (lt' ((u0_0.length : Int) == (64 : Int)) fun b73 => j63 b73)))) fun j57 => lt' (v14 != (0 : Int)) fun b58 => sp b58 (j57 true) (lt' (v55 != (0 : Int)) fun b59 => sp b59 (j57 true) (lt' (v13 != (0 : Int)) fun b60 => sp b60 (lt' (v54 != v13) fun b61 => j57 b61) (j57 false)))) fun j34 => p3_l1 k u3 u4 j34 v7 x19 x24 k (0 : Int) R32)) fun j2 => cl (p11 k u0_0 u0_1 u1) fun v3 => sp v3 (lt' (decide ((u2.length : Int) > (2000 : Int))) fun b4 => j2 b4) (j2 true)
theorem hf3 : Try.prog.funcs[3]? = some Try.f3 := by kernel_rfl
set_option maxHeartbeats 16000000 in
theorem w3 (k : Nat) {M : Mem} {Au0_0 : Option Addr} {cu0_0 : Nat} {Au2 : Option Addr} {cu2 : Nat} {u0_0 : List (List Int)} {u0_1 : List Int} {u1 : List Int} {u2 : List Int} {u3 : Int} {u4 : Int} {u5 : Int} (hu0_0 : SlR M Au0_0 cu0_0 .i64 11 u0_0) (hu0_1 : u0_1.length = 4) (hu1 : u1.length = 7) (hu2 : SlI M Au2 cu2 .u8 u2) {r} (h : p3 k u0_0 u0_1 u1 u2 u3 u4 u5 = some r) :
  Fn Try.prog 3 [rval (.agg [.one (.v (.slice Au0_0 (u0_0.length) cu0_0)),.arr .i64 4 u0_1]),rval (.agg [.arr .i64 7 u1]),rval (.lf (.v (.slice Au2 (u2.length) cu2))),rval (.lf (.v (.int .u8 u3))),rval (.lf (.v (.int .u8 u4))),rval (.lf (.v (.int .u8 u5)))] M (fun x _ => x = vb r) := by
 unfold p3 at h
 refine Fn_of (P:=Try.prog) (fn:=Try.f3) (c:=bodyOf Try.f3) [.agg [.one (.v (.slice Au0_0 (u0_0.length) cu0_0)),.arr .i64 4 u0_1],.agg [.arr .i64 7 u1],.lf (.v (.slice Au2 (u2.length) cu2)),.lf (.v (.int .u8 u3)),.lf (.v (.int .u8 u4)),.lf (.v (.int .u8 u5))] hf3 (by kernel_rfl) (Nat.le_of_ble_eq_true (by kernel_rfl)) (args_ok (by kernel_rfl) ⟨⟨rfl,⟨hu0_1,trivial⟩⟩,⟨⟨hu1,trivial⟩,⟨trivial,⟨trivial,⟨trivial,⟨trivial,trivial⟩⟩⟩⟩⟩⟩) fun w => ?_
 change T _ _ _ (endQ _ _ _)
 refine T_seq (c1:=(sub [0] Bd3)) (c2:=(sub [1] Bd3)) (by kernel_rfl) ?_
 refine T_region (id:=0) (by kernel_rfl) ?_
 refine TI_segK (i:=0) (j:=3) (s':={ σ := [(2,.lf (.v (.slice Au2 (u2.length) cu2))),(3,.lf (.v (.int .u8 u3))),(4,.lf (.v (.int .u8 u4))),(5,.lf (.v (.int .u8 u5))),(6,.lf (.own 6 0)),(7,.lf (.own 7 0))],H := [(6,[.one (.v (.slice Au0_0 (u0_0.length) cu0_0)),.arr .i64 4 u0_1]),(7,[.arr .i64 7 u1])],V := [],M := M,ds := [] }) [2,3,4,5,6,7] [6,7] [] (by kernel_rfl) (by kernel_rfl) ?_
 refine TI_end (by kernel_rfl) ?_
 refine thenQ_n ?_
 refine T_sq (by kernel_rfl) ?_
 obtain ⟨j2,e_j2,h⟩ := jn_some h
 refine T_cut (c1:=(sub [1,0,0] Bd3)) (c2:=(sub [1,0,1] Bd3)) (fun s' => ∃ (b1 : Bool),Sub { σ := [(2,.lf (.v (.slice Au2 (u2.length) cu2))),(3,.lf (.v (.int .u8 u3))),(4,.lf (.v (.int .u8 u4))),(5,.lf (.v (.int .u8 u5))),(6,.lf (.own 6 0)),(7,.lf (.own 7 0)),(33,vb b1)],H := [(6,[.one (.v (.slice Au0_0 (u0_0.length) cu0_0)),.arr .i64 4 u0_1]),(7,[.arr .i64 7 u1])],V := [],M := M,ds := [] } s' ∧ j2 b1 = some r) (by kernel_rfl) ?_ ?_
 ·refine T_region (id:=1) (by kernel_rfl) ?_
  refine TI_segK (i:=0) (j:=2) (s':={ σ := [(2,.lf (.v (.slice Au2 (u2.length) cu2))),(3,.lf (.v (.int .u8 u3))),(4,.lf (.v (.int .u8 u4))),(5,.lf (.v (.int .u8 u5))),(6,.lf (.own 6 0)),(7,.lf (.own 7 0)),(25,.agg [.one (.v (.slice Au0_0 (u0_0.length) cu0_0)),.arr .i64 4 u0_1]),(26,.agg [.arr .i64 7 u1])],H := [(6,[.one (.v (.slice Au0_0 (u0_0.length) cu0_0)),.arr .i64 4 u0_1]),(7,[.arr .i64 7 u1])],V := [],M := M,ds := [] }) [2,3,4,5,6,7,25,26] [6,7] [] (by kernel_rfl) (by kernel_rfl) ?_
  obtain ⟨v3,c_v3,h⟩ := cl_some h
  refine TI_at (i:=2) (d:=27) (x:=vb v3) (At_call (d:=27) (f:=11) (args:=[rval (.agg [.one (.v (.slice Au0_0 (u0_0.length) cu0_0)),.arr .i64 4 u0_1]),rval (.agg [.arr .i64 7 u1])]) (x:=vb v3) (by kernel_rfl) (w11 k hu0_0 hu0_1 hu1 c_v3)) (by kernel_rfl) trivial ?_
  refine TI_segK (i:=3) (j:=5) (s':={ σ := [(2,.lf (.v (.slice Au2 (u2.length) cu2))),(3,.lf (.v (.int .u8 u3))),(4,.lf (.v (.int .u8 u4))),(5,.lf (.v (.int .u8 u5))),(6,.lf (.own 6 0)),(7,.lf (.own 7 0)),(29,vb (!v3))],H := [(6,[.one (.v (.slice Au0_0 (u0_0.length) cu0_0)),.arr .i64 4 u0_1]),(7,[.arr .i64 7 u1])],V := [],M := M,ds := [] }) [2,3,4,5,6,7,29] [6,7] [] (by kernel_rfl) (by kernel_rfl) ?_
  cases v3 with
  | true =>
   replace h := sp_t h
   obtain ⟨b4,e_b4,h⟩ := lt_some h
   refine TI_segS (i:=5) (j:=9) [(2,.lf (.v (.slice Au2 (u2.length) cu2))),(3,.lf (.v (.int .u8 u3))),(4,.lf (.v (.int .u8 u4))),(5,.lf (.v (.int .u8 u5))),(6,.lf (.own 6 0)),(7,.lf (.own 7 0)),(33,vb b4)] (by subst e_b4;kernel_rfl) (by kernel_rfl) ?_
   refine TI_end (by kernel_rfl) ?_
   refine thenQ_n ?_
   exact ⟨b4,keep_sub (ts:=[2,3,4,5,6,7,33]) (hs:=[6,7]) (vs:=[]) (by kernel_rfl),h⟩
  | false =>
   replace h := sp_f h
   refine TI_segS (i:=5) (j:=9) [(2,.lf (.v (.slice Au2 (u2.length) cu2))),(3,.lf (.v (.int .u8 u3))),(4,.lf (.v (.int .u8 u4))),(5,.lf (.v (.int .u8 u5))),(6,.lf (.own 6 0)),(7,.lf (.own 7 0)),(33,vb true)] (by kernel_rfl) (by kernel_rfl) ?_
   refine TI_end (by kernel_rfl) ?_
   refine thenQ_n ?_
   exact ⟨true,keep_sub (ts:=[2,3,4,5,6,7,33]) (hs:=[6,7]) (vs:=[]) (by kernel_rfl),h⟩
 ·rintro s' ⟨b1,hsub,h⟩
  subst e_j2
  refine T_sub hsub ?_
  cases b1 with
  | true =>
   replace h := sp_t h
   refine T_condT (x:=(.tmp 33)) (c1:=(sub [1,0,1,0] Bd3)) (c2:=(sub [1,0,1,1] Bd3)) (by kernel_rfl) (by kernel_rfl) ?_
   refine T_keep (s':={ σ := [],H := [],V := [],M := M,ds := [] }) [] [] [] (by kernel_rfl) ?_
   refine T_sq (by kernel_rfl) ?_
   refine T_region (id:=2) (by kernel_rfl) ?_
   obtain ⟨v5,c_v5,h⟩ := cl_some h
   refine TI_at (i:=0) (d:=34) (x:=vb v5) (At_call (d:=34) (f:=12) (args:=[]) (x:=vb v5) (by kernel_rfl) (w12 k  c_v5)) (by kernel_rfl) trivial ?_
   refine TI_segK (i:=1) (j:=2) (s':={ σ := [(12,vb v5)],H := [],V := [],M := M,ds := [] }) [12] [] [] (by kernel_rfl) (by kernel_rfl) ?_
   refine TI_end (by kernel_rfl) ?_
   refine thenQ_n ?_
   refine T_ret (by kernel_rfl) ?_
   refine thenQ_r ?_
   have h := Option.some.inj h
   subst h
   refine fin_ret (vb v5) (by kernel_rfl) (by kernel_rfl) rfl ?_
   rfl
  | false =>
   replace h := sp_f h
   refine T_condF (x:=(.tmp 33)) (c1:=(sub [1,0,1,0] Bd3)) (c2:=(sub [1,0,1,1] Bd3)) (by kernel_rfl) (by kernel_rfl) ?_
   refine T_keep (s':={ σ := [(2,.lf (.v (.slice Au2 (u2.length) cu2))),(3,.lf (.v (.int .u8 u3))),(4,.lf (.v (.int .u8 u4))),(5,.lf (.v (.int .u8 u5))),(6,.lf (.own 6 0)),(7,.lf (.own 7 0))],H := [(6,[.one (.v (.slice Au0_0 (u0_0.length) cu0_0)),.arr .i64 4 u0_1]),(7,[.arr .i64 7 u1])],V := [],M := M,ds := [] }) [2,3,4,5,6,7] [6,7] [] (by kernel_rfl) ?_
   refine T_skip (by kernel_rfl) ?_
   refine thenQ_n ?_
   refine T_sq (by kernel_rfl) ?_
   refine T_region (id:=3) (by kernel_rfl) ?_
   refine TI_segS (i:=0) (j:=2) [(3,.lf (.v (.int .u8 u3))),(4,.lf (.v (.int .u8 u4))),(5,.lf (.v (.int .u8 u5))),(6,.lf (.own 6 0)),(7,.lf (.own 7 0)),(35,.agg [.one (.v (.slice Au0_0 (u0_0.length) cu0_0)),.arr .i64 4 u0_1]),(36,.lf (.v (.slice Au2 (u2.length) cu2)))] (by kernel_rfl) (by kernel_rfl) ?_
   obtain ⟨v6,v7,c_v6,h⟩ := cl2_some h
   refine TI_of (i:=2) (by kernel_rfl) (TE_callR (d:=37) (f:=13) (args:=[rval (.agg [.one (.v (.slice Au0_0 (u0_0.length) cu0_0)),.arr .i64 4 u0_1]),rval (.lf (.v (.slice Au2 (u2.length) cu2)))]) (by kernel_rfl) (by kernel_rfl) (w13 k hu0_0 hu0_1 hu2 c_v6) ?_)
   rintro _ M12 _ hM12 _ ⟨A8,c9,A10,c11,rfl,fA8,fA10⟩
   refine TI_segK (i:=3) (j:=5) (s':={ σ := [(3,.lf (.v (.int .u8 u3))),(4,.lf (.v (.int .u8 u4))),(5,.lf (.v (.int .u8 u5))),(6,.lf (.own 6 0)),(7,.lf (.own 7 0)),(13,.lf (.own 13 0))],H := [(6,[.one (.v (.slice Au0_0 (u0_0.length) cu0_0)),.arr .i64 4 u0_1]),(7,[.arr .i64 7 u1]),(13,[.one (.v (.slice A8 (v6.length) c9)),.one (.v (.slice A10 (v7.length) c11))])],V := [],M := M12,ds := [] }) [3,4,5,6,7,13] [6,7,13] [] (by kernel_rfl) (by kernel_rfl) ?_
   refine TI_end (by kernel_rfl) ?_
   refine thenQ_n ?_
   refine T_sq (by kernel_rfl) ?_
   refine T_region (id:=4) (by kernel_rfl) ?_
   refine TI_segS (i:=0) (j:=2) [(3,.lf (.v (.int .u8 u3))),(4,.lf (.v (.int .u8 u4))),(5,.lf (.v (.int .u8 u5))),(6,.lf (.own 6 0)),(7,.lf (.own 7 0)),(13,.lf (.own 13 0)),(39,.agg [.one (.v (.slice Au0_0 (u0_0.length) cu0_0)),.arr .i64 4 u0_1]),(40,.agg [.arr .i64 7 u1])] (by kernel_rfl) (by kernel_rfl) ?_
   obtain ⟨v13,v14,c_v13,h⟩ := cl2_some h
   refine TI_at (i:=2) (d:=41) (x:=.tup [(some (.v (.int .i64 v13)),[]),(some (.v (.int .i64 v14)),[])]) (At_call (d:=41) (f:=14) (args:=[rval (.agg [.one (.v (.slice Au0_0 (u0_0.length) cu0_0)),.arr .i64 4 u0_1]),rval (.agg [.arr .i64 7 u1])]) (x:=.tup [(some (.v (.int .i64 v13)),[]),(some (.v (.int .i64 v14)),[])]) (by kernel_rfl) (w14 k (hu0_0.le hM12) hu0_1 hu1 c_v13)) (by kernel_rfl) (by intro y hy; simp only [List.mem_cons,List.mem_nil_iff,or_false] at hy; rcases hy with rfl | rfl <;> exact trivial) ?_
   refine TI_segK (i:=3) (j:=8) (s':={ σ := [(3,.lf (.v (.int .u8 u3))),(4,.lf (.v (.int .u8 u4))),(5,.lf (.v (.int .u8 u5))),(6,.lf (.own 6 0)),(7,.lf (.own 7 0)),(13,.lf (.own 13 0)),(14,vi v13),(15,vi v14)],H := [(6,[.one (.v (.slice Au0_0 (u0_0.length) cu0_0)),.arr .i64 4 u0_1]),(7,[.arr .i64 7 u1]),(13,[.one (.v (.slice A8 (v6.length) c9)),.one (.v (.slice A10 (v7.length) c11))])],V := [],M := M12,ds := [] }) [3,4,5,6,7,13,14,15] [6,7,13] [] (by kernel_rfl) (by kernel_rfl) ?_
   refine TI_end (by kernel_rfl) ?_
   refine thenQ_n ?_
   refine T_sq (by kernel_rfl) ?_
   refine T_region (id:=5) (by kernel_rfl) ?_
   refine TI_segK (i:=0) (j:=3) (s':={ σ := [(3,.lf (.v (.int .u8 u3))),(4,.lf (.v (.int .u8 u4))),(5,.lf (.v (.int .u8 u5))),(6,.lf (.own 6 0)),(7,.lf (.own 7 0)),(13,.lf (.own 13 0)),(14,vi v13),(15,vi v14),(16,.lf (.own 16 0))],H := [(6,[.one (.v (.slice Au0_0 (u0_0.length) cu0_0)),.arr .i64 4 u0_1]),(7,[.arr .i64 7 u1]),(13,[.one (.v (.slice A8 (v6.length) c9)),.one (.v (.slice A10 (v7.length) c11))]),(16,[.one (.v (.slice Au0_0 (u0_0.length) cu0_0)),.arr .i64 4 u0_1])],V := [],M := M12,ds := [] }) [3,4,5,6,7,13,14,15,16] [6,7,13,16] [] (by kernel_rfl) (by kernel_rfl) ?_
   refine TI_end (by kernel_rfl) ?_
   refine thenQ_n ?_
   refine T_sq (by kernel_rfl) ?_
   refine T_region (id:=6) (by kernel_rfl) ?_
   refine TI_of (i:=0) (by kernel_rfl) (TE_litC (d:=45) (e:=43) (sz:=11) (len:=0) (cs:=rowsC .i64 ([] : List (List Int))) (by kernel_rfl) (by kernel_rfl) (by kernel_rfl) ?_)
   refine TI_segK (i:=1) (j:=3) (s':={ σ := [(3,.lf (.v (.int .u8 u3))),(4,.lf (.v (.int .u8 u4))),(5,.lf (.v (.int .u8 u5))),(6,.lf (.own 6 0)),(7,.lf (.own 7 0)),(13,.lf (.own 13 0)),(14,vi v13),(15,vi v14),(16,.lf (.own 16 0)),(45,.lf (.vec 45)),(47,.lf (.v (.slice Au0_0 (u0_0.length) cu0_0)))],H := [(6,[.one (.v (.slice Au0_0 (u0_0.length) cu0_0)),.arr .i64 4 u0_1]),(7,[.arr .i64 7 u1]),(13,[.one (.v (.slice A8 (v6.length) c9)),.one (.v (.slice A10 (v7.length) c11))]),(16,[.one (.v (.slice Au0_0 (u0_0.length) cu0_0)),.arr .i64 4 u0_1])],V := [(45,⟨43,11,List.length ([] : List (List Int)),rowsC .i64 ([] : List (List Int))⟩)],M := M12,ds := [] }) [3,4,5,6,7,13,14,15,16,45,47] [6,7,13,16] [45] (by kernel_rfl) (by kernel_rfl) ?_
   obtain ⟨g15,h⟩ := gd_some h
   obtain ⟨W16,e_W16,h⟩ := lt_some h
   have r_W16 : ∀ r ∈ W16,r.length = 11 := by rw [e_W16]; exact rows_app rows_nil ((hu0_0.le hM12)).1
   refine TI_of (i:=3) (by kernel_rfl) (TE_appC (d:=48) (e:=43) (sz:=11) (bytes:=88) (n:=45) (x:=(.tmp 47)) (len:=List.length ([] : List (List Int))) (cs0:=rowsC .i64 ([] : List (List Int))) (cs2:=rowsC .i64 W16) (by subst e_W16;kernel_rfl) (by kernel_rfl) (by subst e_W16;kernel_rfl) (SlR.src (by subst e_W16;kernel_rfl) (hu0_0.le hM12) rfl) g15 rfl (len_app_eq e_W16) (rowsC_app_eq e_W16) ?_)
   refine TI_segK (i:=4) (j:=6) (s':={ σ := [(3,.lf (.v (.int .u8 u3))),(4,.lf (.v (.int .u8 u4))),(5,.lf (.v (.int .u8 u5))),(6,.lf (.own 6 0)),(7,.lf (.own 7 0)),(13,.lf (.own 13 0)),(14,vi v13),(15,vi v14),(16,.lf (.own 16 0))],H := [(6,[.one (.v (.slice Au0_0 (u0_0.length) cu0_0)),.arr .i64 4 u0_1]),(7,[.arr .i64 7 u1]),(13,[.one (.v (.slice A8 (v6.length) c9)),.one (.v (.slice A10 (v7.length) c11))]),(16,[.one (.vec 48),.arr .i64 4 u0_1])],V := [(48,⟨43,11,List.length W16,rowsC .i64 W16⟩)],M := M12,ds := [] }) [3,4,5,6,7,13,14,15,16] [6,7,13,16] [48] (by kernel_rfl) (by kernel_rfl) ?_
   refine TI_end (by kernel_rfl) ?_
   refine thenQ_n ?_
   refine T_sq (by kernel_rfl) ?_
   refine T_region (id:=7) (by kernel_rfl) ?_
   obtain ⟨x17,e_x17,h⟩ := lt_some h
   refine TI_segS (i:=0) (j:=5) [(3,.lf (.v (.int .u8 u3))),(4,.lf (.v (.int .u8 u4))),(6,.lf (.own 6 0)),(7,.lf (.own 7 0)),(13,.lf (.own 13 0)),(14,vi v13),(15,vi v14),(16,.lf (.own 16 0)),(51,vi x17),(54,vi (W16.length : Int))] (by subst e_x17;kernel_rfl) (by kernel_rfl) ?_
   obtain ⟨g18,h⟩ := gd_some h
   obtain ⟨x19,e_x19,h⟩ := lt_some h
   refine TI_at (i:=5) (d:=55) (x:=vi x19) (by rw [e_x19]; exact At_rem (d:=55) (k:=.i64) (m:=x17) (n:=(W16.length : Int)) (by subst e_x19; kernel_rfl) g18) (by kernel_rfl) trivial ?_
   refine TI_segK (i:=6) (j:=7) (s':={ σ := [(3,.lf (.v (.int .u8 u3))),(4,.lf (.v (.int .u8 u4))),(6,.lf (.own 6 0)),(7,.lf (.own 7 0)),(13,.lf (.own 13 0)),(14,vi v13),(15,vi v14),(16,.lf (.own 16 0)),(17,vi x19)],H := [(6,[.one (.v (.slice Au0_0 (u0_0.length) cu0_0)),.arr .i64 4 u0_1]),(7,[.arr .i64 7 u1]),(13,[.one (.v (.slice A8 (v6.length) c9)),.one (.v (.slice A10 (v7.length) c11))]),(16,[.one (.vec 48),.arr .i64 4 u0_1])],V := [(48,⟨43,11,List.length W16,rowsC .i64 W16⟩)],M := M12,ds := [] }) [3,4,6,7,13,14,15,16,17] [6,7,13,16] [48] (by kernel_rfl) (by kernel_rfl) ?_
   refine TI_end (by kernel_rfl) ?_
   refine thenQ_n ?_
   refine T_sq (by kernel_rfl) ?_
   obtain ⟨g20,h⟩ := gd_some h
   obtain ⟨x21,e_x21,h⟩ := lt_some h
   obtain ⟨g22,h⟩ := gd_some h
   obtain ⟨x23,e_x23,h⟩ := lt_some h
   obtain ⟨x24,e_x24,h⟩ := lt_some h
   refine T_draw' (id:=8) [] [0,0,0,0,0,0,0,0,0,0,0,0,0] (by kernel_rfl) (by kernel_rfl) (by kernel_rfl) (by kernel_rfl) [(56,.lf (.own 16 0)),(57,.lf (.vec 48)),(58,vi x19),(59,.lf (.vel 48 11 ((x19).toNat) 0)),(60,.lf (.vel 48 11 ((x19).toNat) 0)),(61,vi x21),(62,.lf (.own 6 0)),(63,.lf (.v (.slice Au0_0 (u0_0.length) cu0_0))),(64,.lf (.ep (.slice Au0_0 (u0_0.length) cu0_0) 11 0 0)),(65,.lf (.ep (.slice Au0_0 (u0_0.length) cu0_0) 11 0 0)),(66,vi x23),(67,vi x24),(18,vi x24)] (by kernel_rfl) (wfs_lf _ (by kernel_rfl)) ?_
   refine Stage_nil (stage_all' [0,1,2,4,6,7,9,11,12] [3,5,8,10] (by kernel_rfl) (by subst e_x24 e_x23 e_x21; kernel_rfl) (by kernel_rfl) ⟨QF_at (i:=3) (d:=59) (x:=.lf (.vel 48 11 ((x19).toNat) 0)) (show OpAt _ _ _ 3 59 _ from by exact At_idxV (d:=59) (z:=x19) (n:=48) (sz:=11) (v:=⟨43,11,List.length W16,rowsC .i64 W16⟩) (by subst e_x24 e_x23 e_x21; kernel_rfl) (by subst e_x24 e_x23 e_x21; kernel_rfl) g20) (by kernel_rfl) (by subst e_x24 e_x23 e_x21; kernel_rfl),⟨QF_at (i:=5) (d:=61) (x:=vi x21) (show OpAt _ _ _ 5 61 _ from by rw [e_x21]; exact At_ldVR1 (d:=61) (n:=48) (m:=11) (q:=(x19).toNat) (j:=0) (k:=.i64) (R:=W16) (by subst e_x24 e_x23 e_x21; kernel_rfl) (v:=⟨43,11,List.length W16,rowsC .i64 W16⟩) (by subst e_x24 e_x23 e_x21; kernel_rfl) rfl r_W16 (Nat.le_of_ble_eq_true rfl) (toNat_lt g20)) (by kernel_rfl) (by subst e_x24 e_x23 e_x21; kernel_rfl),⟨QF_at (i:=8) (d:=64) (x:=.lf (.ep (.slice Au0_0 (u0_0.length) cu0_0) 11 0 0)) (show OpAt _ _ _ 8 64 _ from by exact At_idxR (d:=64) (z:=(0 : Int)) (by subst e_x24 e_x23 e_x21; kernel_rfl) g22 (hu0_0.le hM12)) (by kernel_rfl) (by subst e_x24 e_x23 e_x21; kernel_rfl),⟨QF_at (i:=10) (d:=66) (x:=vi x23) (show OpAt _ _ _ 10 66 _ from by rw [e_x23]; exact At_ldR1 (d:=66) (q:=0) (j:=0) (by subst e_x24 e_x23 e_x21; kernel_rfl) rfl (toNat_lt g22) (hu0_0.le hM12)) (by kernel_rfl) (by subst e_x24 e_x23 e_x21; kernel_rfl),trivial⟩⟩⟩⟩) ?_
   refine thenQ_n ?_
   refine T_keep (s':={ σ := [(3,.lf (.v (.int .u8 u3))),(4,.lf (.v (.int .u8 u4))),(6,.lf (.own 6 0)),(7,.lf (.own 7 0)),(13,.lf (.own 13 0)),(14,vi v13),(15,vi v14),(16,.lf (.own 16 0)),(17,vi x19),(18,vi x24)],H := [(6,[.one (.v (.slice Au0_0 (u0_0.length) cu0_0)),.arr .i64 4 u0_1]),(7,[.arr .i64 7 u1]),(13,[.one (.v (.slice A8 (v6.length) c9)),.one (.v (.slice A10 (v7.length) c11))]),(16,[.one (.vec 48),.arr .i64 4 u0_1])],V := [(48,⟨43,11,List.length W16,rowsC .i64 W16⟩)],M := M12,ds := [] }) [3,4,6,7,13,14,15,16,17,18] [6,7,13,16] [48] (by subst e_x24 e_x23 e_x21;kernel_rfl) ?_
   refine T_sq (by kernel_rfl) ?_
   obtain ⟨g25,h⟩ := gd_some h
   obtain ⟨L26,e_L26,h⟩ := lt_some h
   have l_L26 : (L26).length = 2 := by rw [e_L26]; exact len_dt (rows_row r_W16 (toNat_lt g25)) (Nat.le_of_ble_eq_true rfl)
   obtain ⟨g27,h⟩ := gd_some h
   obtain ⟨x28,e_x28,h⟩ := lt_some h
   obtain ⟨v29,c_v29,h⟩ := cl_some h
   obtain ⟨g30,h⟩ := gd_some h
   obtain ⟨g31,h⟩ := gd_some h
   obtain ⟨R32,e_R32,h⟩ := lt_some h
   have r_R32 : ∀ r ∈ R32,r.length = 11 := by rw [e_R32]; exact rowSet_rows r_W16 (toNat_lt g31) (by rw [g30]; exact Nat.le_of_ble_eq_true rfl)
   refine T_draw' (id:=9) [19] [0,0,0,0,0,0,0,0,0,0,0,0,0,0,0,0,0,0,0,0] (by kernel_rfl) (by kernel_rfl) (by kernel_rfl) (by kernel_rfl) [(68,.lf (.own 16 0)),(69,.lf (.vec 48)),(70,vi x19),(71,.lf (.own 16 0)),(72,.lf (.vec 48)),(73,vi x19),(74,.lf (.vel 48 11 ((x19).toNat) 0)),(75,.lf (.vel 48 11 ((x19).toNat) 1)),(76,.agg [.arr .i64 2 L26]),(77,.lf (.own 13 0)),(78,.lf (.v (.slice A8 (v6.length) c9))),(79,vi x24),(80,.lf (.ep (.slice A8 (v6.length) c9) 1 ((x24).toNat) 0)),(81,vi x28),(82,.lf (.v (.int .u8 u3))),(83,.lf (.v (.int .u8 u4))),(84,.agg [.arr .i64 2 v29]),(85,.lf (.vel 48 11 ((x19).toNat) 0)),(86,.lf (.vel 48 11 ((x19).toNat) 1))] (by kernel_rfl) ⟨trivial,⟨trivial,⟨trivial,⟨trivial,⟨trivial,⟨trivial,⟨trivial,⟨trivial,⟨⟨l_L26,trivial⟩,⟨trivial,⟨trivial,⟨trivial,⟨trivial,⟨trivial,⟨trivial,⟨trivial,⟨⟨g30,trivial⟩,⟨trivial,⟨trivial,trivial⟩⟩⟩⟩⟩⟩⟩⟩⟩⟩⟩⟩⟩⟩⟩⟩⟩⟩⟩ ?_
   refine Stage_te (stage_all' [0,1,2,3,4,5,7,9,10,11,14,15,18] [6,8,12,13,16,17] (by kernel_rfl) (by subst e_R32 e_x28 e_L26; kernel_rfl) (by kernel_rfl) ⟨QF_at (i:=6) (d:=74) (x:=.lf (.vel 48 11 ((x19).toNat) 0)) (show OpAt _ _ _ 6 74 _ from by exact At_idxV (d:=74) (z:=x19) (n:=48) (sz:=11) (v:=⟨43,11,List.length W16,rowsC .i64 W16⟩) (by subst e_R32 e_x28 e_L26; kernel_rfl) (by subst e_R32 e_x28 e_L26; kernel_rfl) g25) (by kernel_rfl) (by subst e_R32 e_x28 e_L26; kernel_rfl),⟨QF_at (i:=8) (d:=76) (x:=.agg [.arr .i64 2 L26]) (show OpAt _ _ _ 8 76 _ from by rw [e_L26]; exact At_ldVR (d:=76) (n:=48) (m:=11) (q:=(x19).toNat) (j:=1) (k:=.i64) (R:=W16) (by subst e_R32 e_x28 e_L26; kernel_rfl) (v:=⟨43,11,List.length W16,rowsC .i64 W16⟩) (by subst e_R32 e_x28 e_L26; kernel_rfl) rfl r_W16 (Nat.le_of_ble_eq_true rfl) (toNat_lt g25)) (by kernel_rfl) (by subst e_R32 e_x28 e_L26; kernel_rfl),⟨QF_at (i:=12) (d:=80) (x:=.lf (.ep (.slice A8 (v6.length) c9) 1 ((x24).toNat) 0)) (show OpAt _ _ _ 12 80 _ from by exact At_idxI (d:=80) (z:=x24) (by subst e_R32 e_x28 e_L26; kernel_rfl) g27 fA8) (by kernel_rfl) (by subst e_R32 e_x28 e_L26; kernel_rfl),⟨QF_at (i:=13) (d:=81) (x:=vi x28) (show OpAt _ _ _ 13 81 _ from by rw [e_x28]; exact At_ldI (d:=81) (q:=(x24).toNat) (by subst e_R32 e_x28 e_L26; kernel_rfl) (toNat_lt g27) fA8) (by kernel_rfl) (by subst e_R32 e_x28 e_L26; kernel_rfl),⟨QF_at (i:=16) (d:=84) (x:=.agg [.arr .i64 2 v29]) (show OpAt _ _ _ 16 84 _ from by exact At_call (d:=84) (f:=15) (args:=[rval (.agg [.arr .i64 2 L26]),rval (vi x28),rval (.lf (.v (.int .u8 u3))),rval (.lf (.v (.int .u8 u4)))]) (x:=.agg [.arr .i64 2 v29]) (by subst e_R32 e_x28 e_L26; kernel_rfl) (w15 k l_L26 c_v29)) (by kernel_rfl) (by subst e_R32 e_x28 e_L26; kernel_rfl),⟨QF_at (i:=17) (d:=85) (x:=.lf (.vel 48 11 ((x19).toNat) 0)) (show OpAt _ _ _ 17 85 _ from by exact At_idxV (d:=85) (z:=x19) (n:=48) (sz:=11) (v:=⟨43,11,List.length W16,rowsC .i64 W16⟩) (by subst e_R32 e_x28 e_L26; kernel_rfl) (by subst e_R32 e_x28 e_L26; kernel_rfl) g31) (by kernel_rfl) (by subst e_R32 e_x28 e_L26; kernel_rfl),trivial⟩⟩⟩⟩⟩⟩) (TE_stC (len2:=List.length R32) (m:=2) (n:=48) (sz:=11) (j:=(x19).toNat) (q:=1) (e:=43) (len:=List.length W16) (c:=[.arr .i64 2 v29]) (cs0:=rowsC .i64 W16) (cs2:=rowsC .i64 R32) (by subst e_R32 e_x28 e_L26; kernel_rfl) (by kernel_rfl) (by subst e_R32 e_x28 e_L26; kernel_rfl) (vle2 (toNat_lt g31) (Nat.le_of_ble_eq_true rfl)) (by kernel_rfl) (by rw [e_R32]; exact setp_arr r_W16 (toNat_lt g31) g30 (Nat.le_of_ble_eq_true rfl)) (by rw [e_R32,rowSet_length]) ?_) 
   refine TL_nil (stageQ_of [] (by kernel_rfl) trivial ?_)
   refine Stage_nil (stage_all' [] [] (by kernel_rfl) (by subst e_R32 e_x28 e_L26;kernel_rfl) (by kernel_rfl) trivial) ?_
   refine thenQ_n ?_
   refine T_keep (s':={ σ := [(3,.lf (.v (.int .u8 u3))),(4,.lf (.v (.int .u8 u4))),(6,.lf (.own 6 0)),(7,.lf (.own 7 0)),(13,.lf (.own 13 0)),(14,vi v13),(15,vi v14),(16,.lf (.own 16 0)),(17,vi x19),(18,vi x24)],H := [(6,[.one (.v (.slice Au0_0 (u0_0.length) cu0_0)),.arr .i64 4 u0_1]),(7,[.arr .i64 7 u1]),(13,[.one (.v (.slice A8 (v6.length) c9)),.one (.v (.slice A10 (v7.length) c11))]),(16,[.one (.vec 48),.arr .i64 4 u0_1])],V := [(48,⟨43,11,List.length R32,rowsC .i64 R32⟩)],M := M12,ds := [] }) [3,4,6,7,13,14,15,16,17,18] [6,7,13,16] [48] (by subst e_R32 e_x28 e_L26;kernel_rfl) ?_
   refine T_sq (by kernel_rfl) ?_
   refine T_sq (by kernel_rfl) ?_
   refine T_region (id:=10) (by kernel_rfl) ?_
   refine TI_segS (i:=0) (j:=1) [(3,.lf (.v (.int .u8 u3))),(4,.lf (.v (.int .u8 u4))),(6,.lf (.own 6 0)),(7,.lf (.own 7 0)),(13,.lf (.own 13 0)),(14,vi v13),(15,vi v14),(16,.lf (.own 16 0)),(17,vi x19),(18,vi x24),(19,vi (0 : Int))] (by kernel_rfl) (by kernel_rfl) ?_
   refine TI_end (by kernel_rfl) ?_
   refine thenQ_n ?_
   obtain ⟨j34,e_j34,h⟩ := jn_some h
   refine T_bcut (id:=0) (c1:=(sub [1,1,1,1,1,1,1,1,1,0,1,0] Bd3)) (fun s' => ∃ (R33 : List (List Int)),Sub { σ := [(3,.lf (.v (.int .u8 u3))),(4,.lf (.v (.int .u8 u4))),(6,.lf (.own 6 0)),(7,.lf (.own 7 0)),(13,.lf (.own 13 0)),(14,vi v13),(15,vi v14),(16,.lf (.own 16 0)),(17,vi x19),(18,vi x24)],H := [(6,[.one (.v (.slice Au0_0 (u0_0.length) cu0_0)),.arr .i64 4 u0_1]),(7,[.arr .i64 7 u1]),(13,[.one (.v (.slice A8 (v6.length) c9)),.one (.v (.slice A10 (v7.length) c11))]),(16,[.one (.vec 48),.arr .i64 4 u0_1])],V := [(48,⟨43,11,List.length R33,rowsC .i64 R33⟩)],M := M12,ds := [] } s' ∧ (∀ r ∈ R33,r.length = 11) ∧ j34 R33 = some r) (by kernel_rfl) ?_ ?_
   ·refine T_loop (c1:=(sub [1,1,1,1,1,1,1,1,1,0,1,0,0] Bd3)) (by kernel_rfl) (fun n37 s' => ∃ (x35 : Int) (R36 : List (List Int)),Sub { σ := [(3,.lf (.v (.int .u8 u3))),(4,.lf (.v (.int .u8 u4))),(6,.lf (.own 6 0)),(7,.lf (.own 7 0)),(13,.lf (.own 13 0)),(14,vi v13),(15,vi v14),(16,.lf (.own 16 0)),(17,vi x19),(18,vi x24),(19,vi x35)],H := [(6,[.one (.v (.slice Au0_0 (u0_0.length) cu0_0)),.arr .i64 4 u0_1]),(7,[.arr .i64 7 u1]),(13,[.one (.v (.slice A8 (v6.length) c9)),.one (.v (.slice A10 (v7.length) c11))]),(16,[.one (.vec 48),.arr .i64 4 u0_1])],V := [(48,⟨43,11,List.length R36,rowsC .i64 R36⟩)],M := M12,ds := [] } s' ∧ (∀ r ∈ R36,r.length = 11) ∧ p3_l1 k u3 u4 j34 v7 x19 x24 n37 x35 R36 = some r) (k:=k) ⟨(0 : Int),R32,keep_sub (ts:=[3,4,6,7,13,14,15,16,17,18,19]) (hs:=[6,7,13,16]) (vs:=[48]) (by kernel_rfl),r_R32,h⟩ ?_
    rintro n37 s' ⟨x35,R36,hsub,r_R36,h⟩
    cases n37 with
    | zero => rw [p3_l1] at h;cases h
    | succ n37 =>
     rw [p3_l1] at h
     refine T_sub hsub ?_
     refine T_sq (by kernel_rfl) ?_
     refine T_sq (by kernel_rfl) ?_
     refine T_region (id:=11) (by kernel_rfl) ?_
     obtain ⟨b38,e_b38,h⟩ := lt_some h
     refine TI_segK (i:=0) (j:=2) (s':={ σ := [(3,.lf (.v (.int .u8 u3))),(4,.lf (.v (.int .u8 u4))),(6,.lf (.own 6 0)),(7,.lf (.own 7 0)),(13,.lf (.own 13 0)),(14,vi v13),(15,vi v14),(16,.lf (.own 16 0)),(17,vi x19),(18,vi x24),(19,vi x35),(88,vb b38)],H := [(6,[.one (.v (.slice Au0_0 (u0_0.length) cu0_0)),.arr .i64 4 u0_1]),(7,[.arr .i64 7 u1]),(13,[.one (.v (.slice A8 (v6.length) c9)),.one (.v (.slice A10 (v7.length) c11))]),(16,[.one (.vec 48),.arr .i64 4 u0_1])],V := [(48,⟨43,11,List.length R36,rowsC .i64 R36⟩)],M := M12,ds := [] }) [3,4,6,7,13,14,15,16,17,18,19,88] [6,7,13,16] [48] (by subst e_b38;kernel_rfl) (by kernel_rfl) ?_
     refine TI_end (by kernel_rfl) ?_
     refine thenQ_n ?_
     cases b38 with
     | true =>
      replace h := sp_t h
      refine T_condT (x:=(.tmp 88)) (c1:=(sub [1,1,1,1,1,1,1,1,1,0,1,0,0,0,1,0] Bd3)) (c2:=(sub [1,1,1,1,1,1,1,1,1,0,1,0,0,0,1,1] Bd3)) (by kernel_rfl) (by kernel_rfl) ?_
      refine T_keepS [(3,.lf (.v (.int .u8 u3))),(4,.lf (.v (.int .u8 u4))),(6,.lf (.own 6 0)),(7,.lf (.own 7 0)),(13,.lf (.own 13 0)),(14,vi v13),(15,vi v14),(16,.lf (.own 16 0)),(17,vi x19),(18,vi x24),(19,vi x35)] (by kernel_rfl) ?_
      refine T_skip (by kernel_rfl) ?_
      refine thenQ_n ?_
      refine T_sq (by kernel_rfl) ?_
      refine T_block (id:=1) (c1:=(sub [1,1,1,1,1,1,1,1,1,0,1,0,0,1,0,0] Bd3)) (by kernel_rfl) ?_
      obtain ⟨g39,h⟩ := gd_some h
      obtain ⟨g40,h⟩ := gd_some h
      obtain ⟨L41,e_L41,h⟩ := lt_some h
      have l_L41 : (L41).length = 2 := by rw [e_L41]; exact len_dt (rows_row r_R36 (toNat_lt g39)) (by omega)
      obtain ⟨g42,h⟩ := gd_some h
      obtain ⟨g43,h⟩ := gd_some h
      obtain ⟨x44,e_x44,h⟩ := lt_some h
      obtain ⟨v45,c_v45,h⟩ := cl_some h
      obtain ⟨g46,h⟩ := gd_some h
      obtain ⟨g47,h⟩ := gd_some h
      obtain ⟨g48,h⟩ := gd_some h
      obtain ⟨R49,e_R49,h⟩ := lt_some h
      have r_R49 : ∀ r ∈ R49,r.length = 11 := by rw [e_R49]; exact rowSet_rows r_R36 (toNat_lt g47) (by rw [g46]; omega)
      refine T_draw' (id:=13) [25] [0,0,0,0,0,0,0,0,0,0,0,0,0,0,0,0,0,0,0,0,0,0,0,0,0,0] (by kernel_rfl) (by kernel_rfl) (by kernel_rfl) (by kernel_rfl) [(91,.lf (.own 16 0)),(92,.lf (.vec 48)),(93,vi x19),(94,vi x35),(95,.lf (.own 16 0)),(96,.lf (.vec 48)),(97,vi x19),(98,vi x35),(99,.lf (.vel 48 11 ((x19).toNat) 0)),(100,.lf (.vel 48 11 ((x19).toNat) 3)),(101,.lf (.vel 48 11 ((x19).toNat) (3 + (x35).toNat * 2))),(102,.agg [.arr .i64 2 L41]),(103,.lf (.own 13 1)),(104,.lf (.v (.slice A10 (v7.length) c11))),(105,vi x24),(106,vi x35),(107,.lf (.ep (.slice A10 (v7.length) c11) 4 ((x24).toNat) 0)),(108,.lf (.ep (.slice A10 (v7.length) c11) 4 ((x24).toNat) (0 + (x35).toNat * 1))),(109,vi x44),(110,.lf (.v (.int .u8 u3))),(111,.lf (.v (.int .u8 u4))),(112,.agg [.arr .i64 2 v45]),(113,.lf (.vel 48 11 ((x19).toNat) 0)),(114,.lf (.vel 48 11 ((x19).toNat) 3)),(115,.lf (.vel 48 11 ((x19).toNat) (3 + (x35).toNat * 2)))] (by kernel_rfl) ⟨trivial,⟨trivial,⟨trivial,⟨trivial,⟨trivial,⟨trivial,⟨trivial,⟨trivial,⟨trivial,⟨trivial,⟨trivial,⟨⟨l_L41,trivial⟩,⟨trivial,⟨trivial,⟨trivial,⟨trivial,⟨trivial,⟨trivial,⟨trivial,⟨trivial,⟨trivial,⟨⟨g46,trivial⟩,⟨trivial,⟨trivial,⟨trivial,trivial⟩⟩⟩⟩⟩⟩⟩⟩⟩⟩⟩⟩⟩⟩⟩⟩⟩⟩⟩⟩⟩⟩⟩⟩⟩ ?_
      refine Stage_te (stage_all' [0,1,2,3,4,5,6,7,9,12,13,14,15,19,20,23] [8,10,11,16,17,18,21,22,24] (by kernel_rfl) (by subst e_R49 e_x44 e_L41; kernel_rfl) (by kernel_rfl) ⟨QF_at (i:=8) (d:=99) (x:=.lf (.vel 48 11 ((x19).toNat) 0)) (show OpAt _ _ _ 8 99 _ from by exact At_idxV (d:=99) (z:=x19) (n:=48) (sz:=11) (v:=⟨43,11,List.length R36,rowsC .i64 R36⟩) (by subst e_R49 e_x44 e_L41; kernel_rfl) (by subst e_R49 e_x44 e_L41; kernel_rfl) g39) (by kernel_rfl) (by subst e_R49 e_x44 e_L41; kernel_rfl),⟨QF_at (i:=10) (d:=101) (x:=.lf (.vel 48 11 ((x19).toNat) (3 + (x35).toNat * 2))) (show OpAt _ _ _ 10 101 _ from by exact At_idxW (d:=101) (z:=x35) (m:=48) (sz:=11) (q:=(x19).toNat) (j:=3) (es:=2) (n:=4) (by subst e_R49 e_x44 e_L41; kernel_rfl) g40) (by kernel_rfl) (by subst e_R49 e_x44 e_L41; kernel_rfl),⟨QF_at (i:=11) (d:=102) (x:=.agg [.arr .i64 2 L41]) (show OpAt _ _ _ 11 102 _ from by rw [e_L41]; exact At_ldVR (d:=102) (n:=48) (m:=11) (q:=(x19).toNat) (j:=3 + (x35).toNat * 2) (k:=.i64) (R:=R36) (by subst e_R49 e_x44 e_L41; kernel_rfl) (v:=⟨43,11,List.length R36,rowsC .i64 R36⟩) (by subst e_R49 e_x44 e_L41; kernel_rfl) rfl r_R36 (by omega) (toNat_lt g39)) (by kernel_rfl) (by subst e_R49 e_x44 e_L41; kernel_rfl),⟨QF_at (i:=16) (d:=107) (x:=.lf (.ep (.slice A10 (v7.length) c11) 4 ((x24).toNat) 0)) (show OpAt _ _ _ 16 107 _ from by exact At_idxR (d:=107) (z:=x24) (by subst e_R49 e_x44 e_L41; kernel_rfl) g42 fA10) (by kernel_rfl) (by subst e_R49 e_x44 e_L41; kernel_rfl),⟨QF_at (i:=17) (d:=108) (x:=.lf (.ep (.slice A10 (v7.length) c11) 4 ((x24).toNat) (0 + (x35).toNat * 1))) (show OpAt _ _ _ 17 108 _ from by exact At_idxE (d:=108) (z:=x35) (A:=(.slice A10 (v7.length) c11)) (sz:=4) (q:=(x24).toNat) (j:=0) (es:=1) (n:=4) (by subst e_R49 e_x44 e_L41; kernel_rfl) g43) (by kernel_rfl) (by subst e_R49 e_x44 e_L41; kernel_rfl),⟨QF_at (i:=18) (d:=109) (x:=vi x44) (show OpAt _ _ _ 18 109 _ from by rw [e_x44]; exact At_ldR1' (d:=109) (q:=(x24).toNat) (j:=0 + (x35).toNat * 1) (by subst e_R49 e_x44 e_L41; kernel_rfl) (by omega) (toNat_lt g42) fA10) (by kernel_rfl) (by subst e_R49 e_x44 e_L41; kernel_rfl),⟨QF_at (i:=21) (d:=112) (x:=.agg [.arr .i64 2 v45]) (show OpAt _ _ _ 21 112 _ from by exact At_call (d:=112) (f:=15) (args:=[rval (.agg [.arr .i64 2 L41]),rval (vi x44),rval (.lf (.v (.int .u8 u3))),rval (.lf (.v (.int .u8 u4)))]) (x:=.agg [.arr .i64 2 v45]) (by subst e_R49 e_x44 e_L41; kernel_rfl) (w15 k l_L41 c_v45)) (by kernel_rfl) (by subst e_R49 e_x44 e_L41; kernel_rfl),⟨QF_at (i:=22) (d:=113) (x:=.lf (.vel 48 11 ((x19).toNat) 0)) (show OpAt _ _ _ 22 113 _ from by exact At_idxV (d:=113) (z:=x19) (n:=48) (sz:=11) (v:=⟨43,11,List.length R36,rowsC .i64 R36⟩) (by subst e_R49 e_x44 e_L41; kernel_rfl) (by subst e_R49 e_x44 e_L41; kernel_rfl) g47) (by kernel_rfl) (by subst e_R49 e_x44 e_L41; kernel_rfl),⟨QF_at (i:=24) (d:=115) (x:=.lf (.vel 48 11 ((x19).toNat) (3 + (x35).toNat * 2))) (show OpAt _ _ _ 24 115 _ from by exact At_idxW (d:=115) (z:=x35) (m:=48) (sz:=11) (q:=(x19).toNat) (j:=3) (es:=2) (n:=4) (by subst e_R49 e_x44 e_L41; kernel_rfl) g48) (by kernel_rfl) (by subst e_R49 e_x44 e_L41; kernel_rfl),trivial⟩⟩⟩⟩⟩⟩⟩⟩⟩) (TE_stC (len2:=List.length R49) (m:=2) (n:=48) (sz:=11) (j:=(x19).toNat) (q:=3 + (x35).toNat * 2) (e:=43) (len:=List.length R36) (c:=[.arr .i64 2 v45]) (cs0:=rowsC .i64 R36) (cs2:=rowsC .i64 R49) (by subst e_R49 e_x44 e_L41; kernel_rfl) (by kernel_rfl) (by subst e_R49 e_x44 e_L41; kernel_rfl) (vle2 (toNat_lt g47) (by omega)) (by kernel_rfl) (by rw [e_R49]; exact setp_arr r_R36 (toNat_lt g47) g46 (by omega)) (by rw [e_R49,rowSet_length]) ?_) 
      refine TL_nil (stageQ_of [] (by kernel_rfl) trivial ?_)
      refine Stage_nil (stage_all' [] [] (by kernel_rfl) (by subst e_R49 e_x44 e_L41;kernel_rfl) (by kernel_rfl) trivial) ?_
      refine blockQ_n ?_
      refine thenQ_n ?_
      refine T_keep (s':={ σ := [(3,.lf (.v (.int .u8 u3))),(4,.lf (.v (.int .u8 u4))),(6,.lf (.own 6 0)),(7,.lf (.own 7 0)),(13,.lf (.own 13 0)),(14,vi v13),(15,vi v14),(16,.lf (.own 16 0)),(17,vi x19),(18,vi x24),(19,vi x35)],H := [(6,[.one (.v (.slice Au0_0 (u0_0.length) cu0_0)),.arr .i64 4 u0_1]),(7,[.arr .i64 7 u1]),(13,[.one (.v (.slice A8 (v6.length) c9)),.one (.v (.slice A10 (v7.length) c11))]),(16,[.one (.vec 48),.arr .i64 4 u0_1])],V := [(48,⟨43,11,List.length R49,rowsC .i64 R49⟩)],M := M12,ds := [] }) [3,4,6,7,13,14,15,16,17,18,19] [6,7,13,16] [48] (by subst e_R49 e_x44 e_L41;kernel_rfl) ?_
      refine T_region (id:=12) (by kernel_rfl) ?_
      obtain ⟨x50,e_x50,h⟩ := lt_some h
      refine TI_segS (i:=0) (j:=3) [(3,.lf (.v (.int .u8 u3))),(4,.lf (.v (.int .u8 u4))),(6,.lf (.own 6 0)),(7,.lf (.own 7 0)),(13,.lf (.own 13 0)),(14,vi v13),(15,vi v14),(16,.lf (.own 16 0)),(17,vi x19),(18,vi x24),(19,vi x50)] (by subst e_x50;kernel_rfl) (by kernel_rfl) ?_
      refine TI_end (by kernel_rfl) ?_
      refine thenQ_n ?_
      exact ⟨n37,Nat.lt_succ_self _,x50,R49,keep_sub (ts:=[3,4,6,7,13,14,15,16,17,18,19]) (hs:=[6,7,13,16]) (vs:=[48]) (by kernel_rfl),r_R49,h⟩
     | false =>
      replace h := sp_f h
      refine T_condF (x:=(.tmp 88)) (c1:=(sub [1,1,1,1,1,1,1,1,1,0,1,0,0,0,1,0] Bd3)) (c2:=(sub [1,1,1,1,1,1,1,1,1,0,1,0,0,0,1,1] Bd3)) (by kernel_rfl) (by kernel_rfl) ?_
      refine T_keepS [(3,.lf (.v (.int .u8 u3))),(4,.lf (.v (.int .u8 u4))),(6,.lf (.own 6 0)),(7,.lf (.own 7 0)),(13,.lf (.own 13 0)),(14,vi v13),(15,vi v14),(16,.lf (.own 16 0)),(17,vi x19),(18,vi x24)] (by kernel_rfl) ?_
      refine T_exit (id:=0) (by kernel_rfl) ?_
      refine thenQ_x ?_
      refine thenQ_x ?_
      refine blockQ_x ?_
      refine thenQ_n ?_
      exact ⟨R36,keep_sub (ts:=[3,4,6,7,13,14,15,16,17,18]) (hs:=[6,7,13,16]) (vs:=[48]) (by kernel_rfl),r_R36,h⟩
   ·rintro s' ⟨R33,hsub,r_R33,h⟩
    subst e_j34
    refine thenQ_n ?_
    refine T_sub hsub ?_
    refine T_sq (by kernel_rfl) ?_
    refine T_region (id:=14) (by kernel_rfl) ?_
    refine TI_segK (i:=0) (j:=2) (s':={ σ := [(3,.lf (.v (.int .u8 u3))),(4,.lf (.v (.int .u8 u4))),(6,.lf (.own 6 0)),(7,.lf (.own 7 0)),(13,.lf (.own 13 0)),(14,vi v13),(15,vi v14),(17,vi x19),(18,vi x24),(117,.agg [.one (.vec 48),.arr .i64 4 u0_1]),(118,.agg [.arr .i64 7 u1])],H := [(6,[.one (.v (.slice Au0_0 (u0_0.length) cu0_0)),.arr .i64 4 u0_1]),(7,[.arr .i64 7 u1]),(13,[.one (.v (.slice A8 (v6.length) c9)),.one (.v (.slice A10 (v7.length) c11))])],V := [(48,⟨43,11,List.length R33,rowsC .i64 R33⟩)],M := M12,ds := [] }) [3,4,6,7,13,14,15,17,18,117,118] [6,7,13] [48] (by kernel_rfl) (by kernel_rfl) ?_
    refine TI_turn (turn_pubV 48 (v:=⟨43,11,List.length R33,rowsC .i64 R33⟩) (by kernel_rfl)) ?_
    rintro _ ⟨A51,c52,M53,rfl,hSA51,hcA51,-,hNA51,hM53⟩
    have fA51 : SlR M53 A51 c52 .i64 11 R33 := ⟨r_R33,hSA51,hcA51⟩
    obtain ⟨v54,v55,c_v54,h⟩ := cl2_some h
    refine TI_at (i:=2) (d:=119) (x:=.tup [(some (.v (.int .i64 v54)),[]),(some (.v (.int .i64 v55)),[])]) (At_call (d:=119) (f:=14) (args:=[rval (.agg [.one (.v (.slice A51 (R33.length) c52)),.arr .i64 4 u0_1]),rval (.agg [.arr .i64 7 u1])]) (x:=.tup [(some (.v (.int .i64 v54)),[]),(some (.v (.int .i64 v55)),[])]) (by kernel_rfl) (w14 k fA51 hu0_1 hu1 c_v54)) (by kernel_rfl) (by intro y hy; simp only [List.mem_cons,List.mem_nil_iff,or_false] at hy; rcases hy with rfl | rfl <;> exact trivial) ?_
    refine TI_segK (i:=3) (j:=8) (s':={ σ := [(3,.lf (.v (.int .u8 u3))),(4,.lf (.v (.int .u8 u4))),(6,.lf (.own 6 0)),(7,.lf (.own 7 0)),(13,.lf (.own 13 0)),(14,vi v13),(15,vi v14),(17,vi x19),(18,vi x24),(20,vi v54),(21,vi v55)],H := [(6,[.one (.v (.slice Au0_0 (u0_0.length) cu0_0)),.arr .i64 4 u0_1]),(7,[.arr .i64 7 u1]),(13,[.one (.v (.slice A8 (v6.length) c9)),.one (.v (.slice A10 (v7.length) c11))])],V := [],M := M53,ds := [] }) [3,4,6,7,13,14,15,17,18,20,21] [6,7,13] [] (by kernel_rfl) (by kernel_rfl) ?_
    refine TI_end (by kernel_rfl) ?_
    refine thenQ_n ?_
    refine T_sq (by kernel_rfl) ?_
    obtain ⟨j57,e_j57,h⟩ := jn_some h
    refine T_cut (c1:=(sub [1,1,1,1,1,1,1,1,1,1,1,0,0] Bd3)) (c2:=(sub [1,1,1,1,1,1,1,1,1,1,1,0,1] Bd3)) (fun s' => ∃ (b56 : Bool),Sub { σ := [(3,.lf (.v (.int .u8 u3))),(4,.lf (.v (.int .u8 u4))),(6,.lf (.own 6 0)),(7,.lf (.own 7 0)),(13,.lf (.own 13 0)),(14,vi v13),(17,vi x19),(18,vi x24),(136,vb b56)],H := [(6,[.one (.v (.slice Au0_0 (u0_0.length) cu0_0)),.arr .i64 4 u0_1]),(7,[.arr .i64 7 u1]),(13,[.one (.v (.slice A8 (v6.length) c9)),.one (.v (.slice A10 (v7.length) c11))])],V := [],M := M53,ds := [] } s' ∧ j57 b56 = some r) (by kernel_rfl) ?_ ?_
    ·refine T_region (id:=15) (by kernel_rfl) ?_
     obtain ⟨b58,e_b58,h⟩ := lt_some h
     refine TI_segK (i:=0) (j:=3) (s':={ σ := [(3,.lf (.v (.int .u8 u3))),(4,.lf (.v (.int .u8 u4))),(6,.lf (.own 6 0)),(7,.lf (.own 7 0)),(13,.lf (.own 13 0)),(14,vi v13),(17,vi x19),(18,vi x24),(20,vi v54),(21,vi v55),(124,vb b58)],H := [(6,[.one (.v (.slice Au0_0 (u0_0.length) cu0_0)),.arr .i64 4 u0_1]),(7,[.arr .i64 7 u1]),(13,[.one (.v (.slice A8 (v6.length) c9)),.one (.v (.slice A10 (v7.length) c11))])],V := [],M := M53,ds := [] }) [3,4,6,7,13,14,17,18,20,21,124] [6,7,13] [] (by subst e_b58;kernel_rfl) (by kernel_rfl) ?_
     cases b58 with
     | true =>
      replace h := sp_t h
      refine TI_segS (i:=3) (j:=15) [(3,.lf (.v (.int .u8 u3))),(4,.lf (.v (.int .u8 u4))),(6,.lf (.own 6 0)),(7,.lf (.own 7 0)),(13,.lf (.own 13 0)),(14,vi v13),(17,vi x19),(18,vi x24),(136,vb true)] (by kernel_rfl) (by kernel_rfl) ?_
      refine TI_end (by kernel_rfl) ?_
      refine thenQ_n ?_
      exact ⟨true,keep_sub (ts:=[3,4,6,7,13,14,17,18,136]) (hs:=[6,7,13]) (vs:=[]) (by kernel_rfl),h⟩
     | false =>
      replace h := sp_f h
      obtain ⟨b59,e_b59,h⟩ := lt_some h
      refine TI_segS (i:=3) (j:=7) [(3,.lf (.v (.int .u8 u3))),(4,.lf (.v (.int .u8 u4))),(6,.lf (.own 6 0)),(7,.lf (.own 7 0)),(13,.lf (.own 13 0)),(14,vi v13),(17,vi x19),(18,vi x24),(20,vi v54),(128,vb b59)] (by subst e_b59;kernel_rfl) (by kernel_rfl) ?_
      cases b59 with
      | true =>
       replace h := sp_t h
       refine TI_segS (i:=7) (j:=15) [(3,.lf (.v (.int .u8 u3))),(4,.lf (.v (.int .u8 u4))),(6,.lf (.own 6 0)),(7,.lf (.own 7 0)),(13,.lf (.own 13 0)),(14,vi v13),(17,vi x19),(18,vi x24),(136,vb true)] (by kernel_rfl) (by kernel_rfl) ?_
       refine TI_end (by kernel_rfl) ?_
       refine thenQ_n ?_
       exact ⟨true,keep_sub (ts:=[3,4,6,7,13,14,17,18,136]) (hs:=[6,7,13]) (vs:=[]) (by kernel_rfl),h⟩
      | false =>
       replace h := sp_f h
       obtain ⟨b60,e_b60,h⟩ := lt_some h
       refine TI_segS (i:=7) (j:=10) [(3,.lf (.v (.int .u8 u3))),(4,.lf (.v (.int .u8 u4))),(6,.lf (.own 6 0)),(7,.lf (.own 7 0)),(13,.lf (.own 13 0)),(14,vi v13),(17,vi x19),(18,vi x24),(20,vi v54),(128,vb false),(131,vb b60)] (by subst e_b60;kernel_rfl) (by kernel_rfl) ?_
       cases b60 with
       | true =>
        replace h := sp_t h
        obtain ⟨b61,e_b61,h⟩ := lt_some h
        refine TI_segS (i:=10) (j:=15) [(3,.lf (.v (.int .u8 u3))),(4,.lf (.v (.int .u8 u4))),(6,.lf (.own 6 0)),(7,.lf (.own 7 0)),(13,.lf (.own 13 0)),(14,vi v13),(17,vi x19),(18,vi x24),(136,vb b61)] (by subst e_b61;kernel_rfl) (by kernel_rfl) ?_
        refine TI_end (by kernel_rfl) ?_
        refine thenQ_n ?_
        exact ⟨b61,keep_sub (ts:=[3,4,6,7,13,14,17,18,136]) (hs:=[6,7,13]) (vs:=[]) (by kernel_rfl),h⟩
       | false =>
        replace h := sp_f h
        refine TI_segS (i:=10) (j:=15) [(3,.lf (.v (.int .u8 u3))),(4,.lf (.v (.int .u8 u4))),(6,.lf (.own 6 0)),(7,.lf (.own 7 0)),(13,.lf (.own 13 0)),(14,vi v13),(17,vi x19),(18,vi x24),(136,vb false)] (by kernel_rfl) (by kernel_rfl) ?_
        refine TI_end (by kernel_rfl) ?_
        refine thenQ_n ?_
        exact ⟨false,keep_sub (ts:=[3,4,6,7,13,14,17,18,136]) (hs:=[6,7,13]) (vs:=[]) (by kernel_rfl),h⟩
    ·rintro s' ⟨b56,hsub,h⟩
     subst e_j57
     refine T_sub hsub ?_
     cases b56 with
     | true =>
      replace h := sp_t h
      refine T_condT (x:=(.tmp 136)) (c1:=(sub [1,1,1,1,1,1,1,1,1,1,1,0,1,0] Bd3)) (c2:=(sub [1,1,1,1,1,1,1,1,1,1,1,0,1,1] Bd3)) (by kernel_rfl) (by kernel_rfl) ?_
      refine T_keep (s':={ σ := [],H := [],V := [],M := M53,ds := [] }) [] [] [] (by kernel_rfl) ?_
      refine T_sq (by kernel_rfl) ?_
      refine T_region (id:=16) (by kernel_rfl) ?_
      refine TI_segS (i:=0) (j:=1) [(12,vb false)] (by kernel_rfl) (by kernel_rfl) ?_
      refine TI_end (by kernel_rfl) ?_
      refine thenQ_n ?_
      refine T_ret (by kernel_rfl) ?_
      refine thenQ_r ?_
      have h := Option.some.inj h
      subst h
      refine fin_ret (vb false) (by kernel_rfl) (by kernel_rfl) rfl ?_
      rfl
     | false =>
      replace h := sp_f h
      refine T_condF (x:=(.tmp 136)) (c1:=(sub [1,1,1,1,1,1,1,1,1,1,1,0,1,0] Bd3)) (c2:=(sub [1,1,1,1,1,1,1,1,1,1,1,0,1,1] Bd3)) (by kernel_rfl) (by kernel_rfl) ?_
      refine T_keep (s':={ σ := [(3,.lf (.v (.int .u8 u3))),(4,.lf (.v (.int .u8 u4))),(6,.lf (.own 6 0)),(7,.lf (.own 7 0)),(13,.lf (.own 13 0)),(14,vi v13),(17,vi x19),(18,vi x24)],H := [(6,[.one (.v (.slice Au0_0 (u0_0.length) cu0_0)),.arr .i64 4 u0_1]),(7,[.arr .i64 7 u1]),(13,[.one (.v (.slice A8 (v6.length) c9)),.one (.v (.slice A10 (v7.length) c11))])],V := [],M := M53,ds := [] }) [3,4,6,7,13,14,17,18] [6,7,13] [] (by kernel_rfl) ?_
      refine T_skip (by kernel_rfl) ?_
      refine thenQ_n ?_
      refine T_sq (by kernel_rfl) ?_
      obtain ⟨j63,e_j63,h⟩ := jn_some h
      refine T_cut (c1:=(sub [1,1,1,1,1,1,1,1,1,1,1,1,0,0] Bd3)) (c2:=(sub [1,1,1,1,1,1,1,1,1,1,1,1,0,1] Bd3)) (fun s' => ∃ (b62 : Bool),Sub { σ := [(3,.lf (.v (.int .u8 u3))),(4,.lf (.v (.int .u8 u4))),(6,.lf (.own 6 0)),(7,.lf (.own 7 0)),(13,.lf (.own 13 0)),(14,vi v13),(17,vi x19),(18,vi x24),(165,vb b62)],H := [(6,[.one (.v (.slice Au0_0 (u0_0.length) cu0_0)),.arr .i64 4 u0_1]),(7,[.arr .i64 7 u1]),(13,[.one (.v (.slice A8 (v6.length) c9)),.one (.v (.slice A10 (v7.length) c11))])],V := [],M := M53,ds := [] } s' ∧ j63 b62 = some r) (by kernel_rfl) ?_ ?_
      ·obtain ⟨x64,e_x64,h⟩ := lt_some h
       obtain ⟨b65,e_b65,h⟩ := lt_some h
       cases b65 with
       | true =>
        replace h := sp_t h
        refine T_draw' (id:=17) [] [0,0,0,0,0,0,0,0,0,0,0,0,0,0,0,0,0,0,0,0,0,0,0,0,0,0,0,0,0] (by kernel_rfl) (by kernel_rfl) (by kernel_rfl) (by kernel_rfl) ((137,vi x19)::(138,vi x64)::(139,.lf (.own 6 0))::(140,.lf (.v (.slice Au0_0 (u0_0.length) cu0_0)))::(141,vi (u0_0.length : Int))::(142,vb true)::(143,vb true)::(144,.tup [])::(145,.tup [])::(146,.tup [])::(147,.tup [])::(148,.tup [])::(149,.tup [])::(150,.tup [])::(151,.tup [])::(152,.tup [])::(153,.tup [])::(154,.tup [])::(155,.tup [])::(156,.tup [])::(157,.tup [])::(158,.tup [])::(159,vb true)::(160,vb true)::(161,.tup [])::(162,.tup [])::(163,.tup [])::(164,.tup [])::(165,vb true)::[]) (by kernel_rfl) ⟨trivial,⟨trivial,⟨trivial,⟨trivial,⟨trivial,⟨trivial,⟨trivial,⟨(by intro y hy;cases hy),⟨(by intro y hy;cases hy),⟨(by intro y hy;cases hy),⟨(by intro y hy;cases hy),⟨(by intro y hy;cases hy),⟨(by intro y hy;cases hy),⟨(by intro y hy;cases hy),⟨(by intro y hy;cases hy),⟨(by intro y hy;cases hy),⟨(by intro y hy;cases hy),⟨(by intro y hy;cases hy),⟨(by intro y hy;cases hy),⟨(by intro y hy;cases hy),⟨(by intro y hy;cases hy),⟨(by intro y hy;cases hy),⟨trivial,⟨trivial,⟨(by intro y hy;cases hy),⟨(by intro y hy;cases hy),⟨(by intro y hy;cases hy),⟨(by intro y hy;cases hy),⟨trivial,trivial⟩⟩⟩⟩⟩⟩⟩⟩⟩⟩⟩⟩⟩⟩⟩⟩⟩⟩⟩⟩⟩⟩⟩⟩⟩⟩⟩⟩⟩ ?_
        refine Stage_nil (stage_all' [0,1,2,3,4,6,7,8,9,10,11,12,13,14,15,16,17,18,19,20,21,22,23,24,25,26,27,28] [5] (by kernel_rfl) (by subst e_x64;kernel_rfl) (by kernel_rfl) ⟨QF_at (i:=5) (d:=142) (x:=vb true) (show OpAt _ _ _ 5 142 _ from by exact At_bin (d:=142) (b:=.eql) (u:=.int .i64 x64) (v:=.int .i64 (u0_0.length : Int)) (w':=.bool true) (by subst e_x64;kernel_rfl) (by rw [show exBin .eql (.int .i64 x64) (.int .i64 (u0_0.length : Int)) = some (.bool (x64 == (u0_0.length : Int))) from by kernel_rfl,← e_b65])) (by kernel_rfl) (by subst e_x64;kernel_rfl),trivial⟩) ?_
        refine thenQ_n ?_
        exact ⟨true,keep_sub (ts:=[3,4,6,7,13,14,17,18,165]) (hs:=[6,7,13]) (vs:=[]) (by subst e_x64;kernel_rfl),h⟩
       | false =>
        replace h := sp_f h
        obtain ⟨x66,e_x66,h⟩ := lt_some h
        obtain ⟨g67,h⟩ := gd_some h
        obtain ⟨x68,e_x68,h⟩ := lt_some h
        obtain ⟨g69,h⟩ := gd_some h
        obtain ⟨x70,e_x70,h⟩ := lt_some h
        obtain ⟨x71,e_x71,h⟩ := lt_some h
        obtain ⟨b72,e_b72,h⟩ := lt_some h
        cases b72 with
        | true =>
         replace h := sp_t h
         refine T_draw' (id:=17) [] [0,0,0,0,0,0,0,0,0,0,0,0,0,0,0,0,0,0,0,0,0,0,0,0,0,0,0,0,0] (by kernel_rfl) (by kernel_rfl) (by kernel_rfl) (by kernel_rfl) ((137,vi x19)::(138,vi x64)::(139,.lf (.own 6 0))::(140,.lf (.v (.slice Au0_0 (u0_0.length) cu0_0)))::(141,vi (u0_0.length : Int))::(142,vb false)::(143,vb false)::(144,.lf (.own 6 0))::(145,.lf (.v (.slice Au0_0 (u0_0.length) cu0_0)))::(146,vi x19)::(147,vi x66)::(148,.lf (.ep (.slice Au0_0 (u0_0.length) cu0_0) 11 ((x66).toNat) 0))::(149,.lf (.ep (.slice Au0_0 (u0_0.length) cu0_0) 11 ((x66).toNat) 0))::(150,vi x68)::(151,.lf (.own 6 0))::(152,.lf (.v (.slice Au0_0 (u0_0.length) cu0_0)))::(153,vi x19)::(154,.lf (.ep (.slice Au0_0 (u0_0.length) cu0_0) 11 ((x19).toNat) 0))::(155,.lf (.ep (.slice Au0_0 (u0_0.length) cu0_0) 11 ((x19).toNat) 0))::(156,vi x70)::(157,vi x71)::(158,vb true)::(159,vb true)::(160,vb true)::(161,.tup [])::(162,.tup [])::(163,.tup [])::(164,.tup [])::(165,vb true)::[]) (by kernel_rfl) ⟨trivial,⟨trivial,⟨trivial,⟨trivial,⟨trivial,⟨trivial,⟨trivial,⟨trivial,⟨trivial,⟨trivial,⟨trivial,⟨trivial,⟨trivial,⟨trivial,⟨trivial,⟨trivial,⟨trivial,⟨trivial,⟨trivial,⟨trivial,⟨trivial,⟨trivial,⟨trivial,⟨trivial,⟨(by intro y hy;cases hy),⟨(by intro y hy;cases hy),⟨(by intro y hy;cases hy),⟨(by intro y hy;cases hy),⟨trivial,trivial⟩⟩⟩⟩⟩⟩⟩⟩⟩⟩⟩⟩⟩⟩⟩⟩⟩⟩⟩⟩⟩⟩⟩⟩⟩⟩⟩⟩⟩ ?_
         refine Stage_nil (stage_all' [0,1,2,3,4,6,7,8,9,10,12,14,15,16,18,20,22,23,24,25,26,27,28] [5,11,13,17,19,21] (by kernel_rfl) (by subst e_x71 e_x70 e_x68 e_x66 e_x64; kernel_rfl) (by kernel_rfl) ⟨QF_at (i:=5) (d:=142) (x:=vb false) (show OpAt _ _ _ 5 142 _ from by exact At_bin (d:=142) (b:=.eql) (u:=.int .i64 x64) (v:=.int .i64 (u0_0.length : Int)) (w':=.bool false) (by subst e_x71 e_x70 e_x68 e_x66 e_x64; kernel_rfl) (by rw [show exBin .eql (.int .i64 x64) (.int .i64 (u0_0.length : Int)) = some (.bool (x64 == (u0_0.length : Int))) from by kernel_rfl,← e_b65])) (by kernel_rfl) (by subst e_x71 e_x70 e_x68 e_x66 e_x64; kernel_rfl),⟨QF_at (i:=11) (d:=148) (x:=.lf (.ep (.slice Au0_0 (u0_0.length) cu0_0) 11 ((x66).toNat) 0)) (show OpAt _ _ _ 11 148 _ from by exact At_idxR (d:=148) (z:=x66) (by subst e_x71 e_x70 e_x68 e_x66 e_x64; kernel_rfl) g67 ((hu0_0.le hM12).le hM53)) (by kernel_rfl) (by subst e_x71 e_x70 e_x68 e_x66 e_x64; kernel_rfl),⟨QF_at (i:=13) (d:=150) (x:=vi x68) (show OpAt _ _ _ 13 150 _ from by rw [e_x68]; exact At_ldR1 (d:=150) (q:=(x66).toNat) (j:=0) (by subst e_x71 e_x70 e_x68 e_x66 e_x64; kernel_rfl) rfl (toNat_lt g67) ((hu0_0.le hM12).le hM53)) (by kernel_rfl) (by subst e_x71 e_x70 e_x68 e_x66 e_x64; kernel_rfl),⟨QF_at (i:=17) (d:=154) (x:=.lf (.ep (.slice Au0_0 (u0_0.length) cu0_0) 11 ((x19).toNat) 0)) (show OpAt _ _ _ 17 154 _ from by exact At_idxR (d:=154) (z:=x19) (by subst e_x71 e_x70 e_x68 e_x66 e_x64; kernel_rfl) g69 ((hu0_0.le hM12).le hM53)) (by kernel_rfl) (by subst e_x71 e_x70 e_x68 e_x66 e_x64; kernel_rfl),⟨QF_at (i:=19) (d:=156) (x:=vi x70) (show OpAt _ _ _ 19 156 _ from by rw [e_x70]; exact At_ldR1 (d:=156) (q:=(x19).toNat) (j:=0) (by subst e_x71 e_x70 e_x68 e_x66 e_x64; kernel_rfl) rfl (toNat_lt g69) ((hu0_0.le hM12).le hM53)) (by kernel_rfl) (by subst e_x71 e_x70 e_x68 e_x66 e_x64; kernel_rfl),⟨QF_at (i:=21) (d:=158) (x:=vb true) (show OpAt _ _ _ 21 158 _ from by exact At_bin (d:=158) (b:=.eql) (u:=.int .i64 x68) (v:=.int .i64 x71) (w':=.bool true) (by subst e_x71 e_x70 e_x68 e_x66 e_x64; kernel_rfl) (by rw [show exBin .eql (.int .i64 x68) (.int .i64 x71) = some (.bool (x68 == x71)) from by kernel_rfl,← e_b72])) (by kernel_rfl) (by subst e_x71 e_x70 e_x68 e_x66 e_x64; kernel_rfl),trivial⟩⟩⟩⟩⟩⟩) ?_
         refine thenQ_n ?_
         exact ⟨true,keep_sub (ts:=[3,4,6,7,13,14,17,18,165]) (hs:=[6,7,13]) (vs:=[]) (by subst e_x71 e_x70 e_x68 e_x66 e_x64;kernel_rfl),h⟩
        | false =>
         replace h := sp_f h
         obtain ⟨b73,e_b73,h⟩ := lt_some h
         refine T_draw' (id:=17) [] [0,0,0,0,0,0,0,0,0,0,0,0,0,0,0,0,0,0,0,0,0,0,0,0,0,0,0,0,0] (by kernel_rfl) (by kernel_rfl) (by kernel_rfl) (by kernel_rfl) ((137,vi x19)::(138,vi x64)::(139,.lf (.own 6 0))::(140,.lf (.v (.slice Au0_0 (u0_0.length) cu0_0)))::(141,vi (u0_0.length : Int))::(142,vb false)::(143,vb false)::(144,.lf (.own 6 0))::(145,.lf (.v (.slice Au0_0 (u0_0.length) cu0_0)))::(146,vi x19)::(147,vi x66)::(148,.lf (.ep (.slice Au0_0 (u0_0.length) cu0_0) 11 ((x66).toNat) 0))::(149,.lf (.ep (.slice Au0_0 (u0_0.length) cu0_0) 11 ((x66).toNat) 0))::(150,vi x68)::(151,.lf (.own 6 0))::(152,.lf (.v (.slice Au0_0 (u0_0.length) cu0_0)))::(153,vi x19)::(154,.lf (.ep (.slice Au0_0 (u0_0.length) cu0_0) 11 ((x19).toNat) 0))::(155,.lf (.ep (.slice Au0_0 (u0_0.length) cu0_0) 11 ((x19).toNat) 0))::(156,vi x70)::(157,vi x71)::(158,vb false)::(159,vb false)::(160,vb false)::(161,.lf (.own 6 0))::(162,.lf (.v (.slice Au0_0 (u0_0.length) cu0_0)))::(163,vi (u0_0.length : Int))::(164,vb b73)::(165,vb b73)::[]) (by kernel_rfl) (wfs_lf _ (by kernel_rfl)) ?_
         refine Stage_nil (stage_all' [0,1,2,3,4,6,7,8,9,10,12,14,15,16,18,20,22,23,24,25,26,27,28] [5,11,13,17,19,21] (by kernel_rfl) (by subst e_b73 e_x71 e_x70 e_x68 e_x66 e_x64; kernel_rfl) (by kernel_rfl) ⟨QF_at (i:=5) (d:=142) (x:=vb false) (show OpAt _ _ _ 5 142 _ from by exact At_bin (d:=142) (b:=.eql) (u:=.int .i64 x64) (v:=.int .i64 (u0_0.length : Int)) (w':=.bool false) (by subst e_b73 e_x71 e_x70 e_x68 e_x66 e_x64; kernel_rfl) (by rw [show exBin .eql (.int .i64 x64) (.int .i64 (u0_0.length : Int)) = some (.bool (x64 == (u0_0.length : Int))) from by kernel_rfl,← e_b65])) (by kernel_rfl) (by subst e_b73 e_x71 e_x70 e_x68 e_x66 e_x64; kernel_rfl),⟨QF_at (i:=11) (d:=148) (x:=.lf (.ep (.slice Au0_0 (u0_0.length) cu0_0) 11 ((x66).toNat) 0)) (show OpAt _ _ _ 11 148 _ from by exact At_idxR (d:=148) (z:=x66) (by subst e_b73 e_x71 e_x70 e_x68 e_x66 e_x64; kernel_rfl) g67 ((hu0_0.le hM12).le hM53)) (by kernel_rfl) (by subst e_b73 e_x71 e_x70 e_x68 e_x66 e_x64; kernel_rfl),⟨QF_at (i:=13) (d:=150) (x:=vi x68) (show OpAt _ _ _ 13 150 _ from by rw [e_x68]; exact At_ldR1 (d:=150) (q:=(x66).toNat) (j:=0) (by subst e_b73 e_x71 e_x70 e_x68 e_x66 e_x64; kernel_rfl) rfl (toNat_lt g67) ((hu0_0.le hM12).le hM53)) (by kernel_rfl) (by subst e_b73 e_x71 e_x70 e_x68 e_x66 e_x64; kernel_rfl),⟨QF_at (i:=17) (d:=154) (x:=.lf (.ep (.slice Au0_0 (u0_0.length) cu0_0) 11 ((x19).toNat) 0)) (show OpAt _ _ _ 17 154 _ from by exact At_idxR (d:=154) (z:=x19) (by subst e_b73 e_x71 e_x70 e_x68 e_x66 e_x64; kernel_rfl) g69 ((hu0_0.le hM12).le hM53)) (by kernel_rfl) (by subst e_b73 e_x71 e_x70 e_x68 e_x66 e_x64; kernel_rfl),⟨QF_at (i:=19) (d:=156) (x:=vi x70) (show OpAt _ _ _ 19 156 _ from by rw [e_x70]; exact At_ldR1 (d:=156) (q:=(x19).toNat) (j:=0) (by subst e_b73 e_x71 e_x70 e_x68 e_x66 e_x64; kernel_rfl) rfl (toNat_lt g69) ((hu0_0.le hM12).le hM53)) (by kernel_rfl) (by subst e_b73 e_x71 e_x70 e_x68 e_x66 e_x64; kernel_rfl),⟨QF_at (i:=21) (d:=158) (x:=vb false) (show OpAt _ _ _ 21 158 _ from by exact At_bin (d:=158) (b:=.eql) (u:=.int .i64 x68) (v:=.int .i64 x71) (w':=.bool false) (by subst e_b73 e_x71 e_x70 e_x68 e_x66 e_x64; kernel_rfl) (by rw [show exBin .eql (.int .i64 x68) (.int .i64 x71) = some (.bool (x68 == x71)) from by kernel_rfl,← e_b72])) (by kernel_rfl) (by subst e_b73 e_x71 e_x70 e_x68 e_x66 e_x64; kernel_rfl),trivial⟩⟩⟩⟩⟩⟩) ?_
         refine thenQ_n ?_
         exact ⟨b73,keep_sub (ts:=[3,4,6,7,13,14,17,18,165]) (hs:=[6,7,13]) (vs:=[]) (by subst e_b73 e_x71 e_x70 e_x68 e_x66 e_x64;kernel_rfl),h⟩
      ·rintro s' ⟨b62,hsub,h⟩
       subst e_j63
       refine T_sub hsub ?_
       cases b62 with
       | true =>
        replace h := sp_t h
        refine T_condT (x:=(.tmp 165)) (c1:=(sub [1,1,1,1,1,1,1,1,1,1,1,1,0,1,0] Bd3)) (c2:=(sub [1,1,1,1,1,1,1,1,1,1,1,1,0,1,1] Bd3)) (by kernel_rfl) (by kernel_rfl) ?_
        refine T_keep (s':={ σ := [],H := [],V := [],M := M53,ds := [] }) [] [] [] (by kernel_rfl) ?_
        refine T_sq (by kernel_rfl) ?_
        refine T_region (id:=18) (by kernel_rfl) ?_
        obtain ⟨v74,c_v74,h⟩ := cl_some h
        refine TI_at (i:=0) (d:=166) (x:=vb v74) (At_call (d:=166) (f:=12) (args:=[]) (x:=vb v74) (by kernel_rfl) (w12 k  c_v74)) (by kernel_rfl) trivial ?_
        refine TI_segK (i:=1) (j:=2) (s':={ σ := [(12,vb v74)],H := [],V := [],M := M53,ds := [] }) [12] [] [] (by kernel_rfl) (by kernel_rfl) ?_
        refine TI_end (by kernel_rfl) ?_
        refine thenQ_n ?_
        refine T_ret (by kernel_rfl) ?_
        refine thenQ_r ?_
        have h := Option.some.inj h
        subst h
        refine fin_ret (vb v74) (by kernel_rfl) (by kernel_rfl) rfl ?_
        rfl
       | false =>
        replace h := sp_f h
        refine T_condF (x:=(.tmp 165)) (c1:=(sub [1,1,1,1,1,1,1,1,1,1,1,1,0,1,0] Bd3)) (c2:=(sub [1,1,1,1,1,1,1,1,1,1,1,1,0,1,1] Bd3)) (by kernel_rfl) (by kernel_rfl) ?_
        refine T_keep (s':={ σ := [(3,.lf (.v (.int .u8 u3))),(4,.lf (.v (.int .u8 u4))),(6,.lf (.own 6 0)),(7,.lf (.own 7 0)),(13,.lf (.own 13 0)),(14,vi v13),(17,vi x19),(18,vi x24)],H := [(6,[.one (.v (.slice Au0_0 (u0_0.length) cu0_0)),.arr .i64 4 u0_1]),(7,[.arr .i64 7 u1]),(13,[.one (.v (.slice A8 (v6.length) c9)),.one (.v (.slice A10 (v7.length) c11))])],V := [],M := M53,ds := [] }) [3,4,6,7,13,14,17,18] [6,7,13] [] (by kernel_rfl) ?_
        refine T_skip (by kernel_rfl) ?_
        refine thenQ_n ?_
        refine T_sq (by kernel_rfl) ?_
        obtain ⟨g75,h⟩ := gd_some h
        obtain ⟨x76,e_x76,h⟩ := lt_some h
        obtain ⟨x77,e_x77,h⟩ := lt_some h
        obtain ⟨x78,e_x78,h⟩ := lt_some h
        obtain ⟨v79,c_v79,h⟩ := cl_some h
        obtain ⟨g80,h⟩ := gd_some h
        obtain ⟨x81,e_x81,h⟩ := lt_some h
        obtain ⟨g82,h⟩ := gd_some h
        obtain ⟨x83,e_x83,h⟩ := lt_some h
        obtain ⟨v84,c_v84,h⟩ := cl_some h
        obtain ⟨g85,h⟩ := gd_some h
        obtain ⟨L86,e_L86,h⟩ := lt_some h
        have l_L86 : (L86).length = 11 := by rw [e_L86]; exact (by have q0 := (show ([x77,(0 : Int),(0 : Int),(0 : Int),(0 : Int),(0 : Int),(0 : Int),(0 : Int),(0 : Int),(0 : Int),(0 : Int)]).length = 11 from rfl); have q1 := (show (v84).length = 2 from g85); simp only [List.length_append,List.length_take,List.length_drop,List.length_cons,List.length_nil]; omega)
        refine T_draw' (id:=19) [21,22] [0,0,0,0,0,0,0,0,0,0,0,0,0,0,0,0,0,0,0,0,0,0,0] (by kernel_rfl) (by kernel_rfl) (by kernel_rfl) (by kernel_rfl) [(167,.lf (.own 6 0)),(168,.lf (.v (.slice Au0_0 (u0_0.length) cu0_0))),(169,vi x19),(170,.lf (.ep (.slice Au0_0 (u0_0.length) cu0_0) 11 ((x19).toNat) 0)),(171,.lf (.ep (.slice Au0_0 (u0_0.length) cu0_0) 11 ((x19).toNat) 0)),(172,vi x76),(173,vi x77),(174,.agg [.one (.v (.slice Au0_0 (u0_0.length) cu0_0)),.arr .i64 4 u0_1]),(175,vi x24),(176,vi x78),(177,.agg [.arr .i64 2 v79]),(178,.lf (.own 13 0)),(179,.lf (.v (.slice A8 (v6.length) c9))),(180,vi x24),(181,vi x81),(182,.lf (.ep (.slice A8 (v6.length) c9) 1 ((x81).toNat) 0)),(183,vi x83),(184,.lf (.v (.int .u8 u3))),(185,.lf (.v (.int .u8 u4))),(186,.agg [.arr .i64 2 v84]),(187,.agg [.arr .i64 11 L86])] (by kernel_rfl) ⟨trivial,⟨trivial,⟨trivial,⟨trivial,⟨trivial,⟨trivial,⟨trivial,⟨⟨rfl,⟨hu0_1,trivial⟩⟩,⟨trivial,⟨trivial,⟨⟨g80,trivial⟩,⟨trivial,⟨trivial,⟨trivial,⟨trivial,⟨trivial,⟨trivial,⟨trivial,⟨trivial,⟨⟨g85,trivial⟩,⟨⟨l_L86,trivial⟩,trivial⟩⟩⟩⟩⟩⟩⟩⟩⟩⟩⟩⟩⟩⟩⟩⟩⟩⟩⟩⟩⟩ ?_
        refine Stage_ex (stage_all' [0,1,2,4,6,7,8,9,11,12,13,14,17,18,20] [3,5,10,15,16,19] (by kernel_rfl) (by subst e_L86 e_x83 e_x81 e_x78 e_x77 e_x76; kernel_rfl) (by kernel_rfl) ⟨QF_at (i:=3) (d:=170) (x:=.lf (.ep (.slice Au0_0 (u0_0.length) cu0_0) 11 ((x19).toNat) 0)) (show OpAt _ _ _ 3 170 _ from by exact At_idxR (d:=170) (z:=x19) (by subst e_L86 e_x83 e_x81 e_x78 e_x77 e_x76; kernel_rfl) g75 ((hu0_0.le hM12).le hM53)) (by kernel_rfl) (by subst e_L86 e_x83 e_x81 e_x78 e_x77 e_x76; kernel_rfl),⟨QF_at (i:=5) (d:=172) (x:=vi x76) (show OpAt _ _ _ 5 172 _ from by rw [e_x76]; exact At_ldR1 (d:=172) (q:=(x19).toNat) (j:=0) (by subst e_L86 e_x83 e_x81 e_x78 e_x77 e_x76; kernel_rfl) rfl (toNat_lt g75) ((hu0_0.le hM12).le hM53)) (by kernel_rfl) (by subst e_L86 e_x83 e_x81 e_x78 e_x77 e_x76; kernel_rfl),⟨QF_at (i:=10) (d:=177) (x:=.agg [.arr .i64 2 v79]) (show OpAt _ _ _ 10 177 _ from by exact At_call (d:=177) (f:=16) (args:=[rval (.agg [.one (.v (.slice Au0_0 (u0_0.length) cu0_0)),.arr .i64 4 u0_1]),rval (vi x78)]) (x:=.agg [.arr .i64 2 v79]) (by subst e_L86 e_x83 e_x81 e_x78 e_x77 e_x76; kernel_rfl) (w16 k ((hu0_0.le hM12).le hM53) hu0_1 c_v79)) (by kernel_rfl) (by subst e_L86 e_x83 e_x81 e_x78 e_x77 e_x76; kernel_rfl),⟨QF_at (i:=15) (d:=182) (x:=.lf (.ep (.slice A8 (v6.length) c9) 1 ((x81).toNat) 0)) (show OpAt _ _ _ 15 182 _ from by exact At_idxI (d:=182) (z:=x81) (by subst e_L86 e_x83 e_x81 e_x78 e_x77 e_x76; kernel_rfl) g82 (fA8.le hM53)) (by kernel_rfl) (by subst e_L86 e_x83 e_x81 e_x78 e_x77 e_x76; kernel_rfl),⟨QF_at (i:=16) (d:=183) (x:=vi x83) (show OpAt _ _ _ 16 183 _ from by rw [e_x83]; exact At_ldI (d:=183) (q:=(x81).toNat) (by subst e_L86 e_x83 e_x81 e_x78 e_x77 e_x76; kernel_rfl) (toNat_lt g82) (fA8.le hM53)) (by kernel_rfl) (by subst e_L86 e_x83 e_x81 e_x78 e_x77 e_x76; kernel_rfl),⟨QF_at (i:=19) (d:=186) (x:=.agg [.arr .i64 2 v84]) (show OpAt _ _ _ 19 186 _ from by exact At_call (d:=186) (f:=15) (args:=[rval (.agg [.arr .i64 2 v79]),rval (vi x83),rval (.lf (.v (.int .u8 u3))),rval (.lf (.v (.int .u8 u4)))]) (x:=.agg [.arr .i64 2 v84]) (by subst e_L86 e_x83 e_x81 e_x78 e_x77 e_x76; kernel_rfl) (w15 k g80 c_v84)) (by kernel_rfl) (by subst e_L86 e_x83 e_x81 e_x78 e_x77 e_x76; kernel_rfl),trivial⟩⟩⟩⟩⟩⟩) ({ σ := ((22,.lf (.own 22 0))::(167,.lf (.own 6 0))::(168,.lf (.v (.slice Au0_0 (u0_0.length) cu0_0)))::(169,vi x19)::(170,.lf (.ep (.slice Au0_0 (u0_0.length) cu0_0) 11 ((x19).toNat) 0))::(171,.lf (.ep (.slice Au0_0 (u0_0.length) cu0_0) 11 ((x19).toNat) 0))::(172,vi x76)::(173,vi x77)::(174,.agg [.one (.v (.slice Au0_0 (u0_0.length) cu0_0)),.arr .i64 4 u0_1])::(175,vi x24)::(176,vi x78)::(177,.agg [.arr .i64 2 v79])::(178,.lf (.own 13 0))::(179,.lf (.v (.slice A8 (v6.length) c9)))::(180,vi x24)::(181,vi x81)::(182,.lf (.ep (.slice A8 (v6.length) c9) 1 ((x81).toNat) 0))::(183,vi x83)::(184,.lf (.v (.int .u8 u3)))::(185,.lf (.v (.int .u8 u4)))::(186,.agg [.arr .i64 2 v84])::(187,.agg [.arr .i64 11 L86])::(3,.lf (.v (.int .u8 u3)))::(4,.lf (.v (.int .u8 u4)))::(6,.lf (.own 6 0))::(7,.lf (.own 7 0))::(13,.lf (.own 13 0))::(14,vi v13)::(17,vi x19)::(18,vi x24)::[]),H := [(22,[.arr .i64 11 [(0 : Int),(0 : Int),(0 : Int),(0 : Int),(0 : Int),(0 : Int),(0 : Int),(0 : Int),(0 : Int),(0 : Int),(0 : Int)]]),(6,[.one (.v (.slice Au0_0 (u0_0.length) cu0_0)),.arr .i64 4 u0_1]),(7,[.arr .i64 7 u1]),(13,[.one (.v (.slice A8 (v6.length) c9)),.one (.v (.slice A10 (v7.length) c11))])],V := [],M := M53,ds := [] }) (by subst e_L86 e_x83 e_x81 e_x78 e_x77 e_x76; kernel_rfl) [] (by kernel_rfl) trivial ?_
        refine Stage_ex (stage_all' [0,1,2,4,6,7,8,9,11,12,13,14,17,18,20] [3,5,10,15,16,19] (by kernel_rfl) (by subst e_L86 e_x83 e_x81 e_x78 e_x77 e_x76; kernel_rfl) (by kernel_rfl) ⟨QF_at (i:=3) (d:=170) (x:=.lf (.ep (.slice Au0_0 (u0_0.length) cu0_0) 11 ((x19).toNat) 0)) (show OpAt _ _ _ 3 170 _ from by exact At_idxR (d:=170) (z:=x19) (by subst e_L86 e_x83 e_x81 e_x78 e_x77 e_x76; kernel_rfl) g75 ((hu0_0.le hM12).le hM53)) (by kernel_rfl) (by subst e_L86 e_x83 e_x81 e_x78 e_x77 e_x76; kernel_rfl),⟨QF_at (i:=5) (d:=172) (x:=vi x76) (show OpAt _ _ _ 5 172 _ from by rw [e_x76]; exact At_ldR1 (d:=172) (q:=(x19).toNat) (j:=0) (by subst e_L86 e_x83 e_x81 e_x78 e_x77 e_x76; kernel_rfl) rfl (toNat_lt g75) ((hu0_0.le hM12).le hM53)) (by kernel_rfl) (by subst e_L86 e_x83 e_x81 e_x78 e_x77 e_x76; kernel_rfl),⟨QF_at (i:=10) (d:=177) (x:=.agg [.arr .i64 2 v79]) (show OpAt _ _ _ 10 177 _ from by exact At_call (d:=177) (f:=16) (args:=[rval (.agg [.one (.v (.slice Au0_0 (u0_0.length) cu0_0)),.arr .i64 4 u0_1]),rval (vi x78)]) (x:=.agg [.arr .i64 2 v79]) (by subst e_L86 e_x83 e_x81 e_x78 e_x77 e_x76; kernel_rfl) (w16 k ((hu0_0.le hM12).le hM53) hu0_1 c_v79)) (by kernel_rfl) (by subst e_L86 e_x83 e_x81 e_x78 e_x77 e_x76; kernel_rfl),⟨QF_at (i:=15) (d:=182) (x:=.lf (.ep (.slice A8 (v6.length) c9) 1 ((x81).toNat) 0)) (show OpAt _ _ _ 15 182 _ from by exact At_idxI (d:=182) (z:=x81) (by subst e_L86 e_x83 e_x81 e_x78 e_x77 e_x76; kernel_rfl) g82 (fA8.le hM53)) (by kernel_rfl) (by subst e_L86 e_x83 e_x81 e_x78 e_x77 e_x76; kernel_rfl),⟨QF_at (i:=16) (d:=183) (x:=vi x83) (show OpAt _ _ _ 16 183 _ from by rw [e_x83]; exact At_ldI (d:=183) (q:=(x81).toNat) (by subst e_L86 e_x83 e_x81 e_x78 e_x77 e_x76; kernel_rfl) (toNat_lt g82) (fA8.le hM53)) (by kernel_rfl) (by subst e_L86 e_x83 e_x81 e_x78 e_x77 e_x76; kernel_rfl),⟨QF_at (i:=19) (d:=186) (x:=.agg [.arr .i64 2 v84]) (show OpAt _ _ _ 19 186 _ from by exact At_call (d:=186) (f:=15) (args:=[rval (.agg [.arr .i64 2 v79]),rval (vi x83),rval (.lf (.v (.int .u8 u3))),rval (.lf (.v (.int .u8 u4)))]) (x:=.agg [.arr .i64 2 v84]) (by subst e_L86 e_x83 e_x81 e_x78 e_x77 e_x76; kernel_rfl) (w15 k g80 c_v84)) (by kernel_rfl) (by subst e_L86 e_x83 e_x81 e_x78 e_x77 e_x76; kernel_rfl),trivial⟩⟩⟩⟩⟩⟩) ({ σ := ((22,.lf (.own 22 0))::(167,.lf (.own 6 0))::(168,.lf (.v (.slice Au0_0 (u0_0.length) cu0_0)))::(169,vi x19)::(170,.lf (.ep (.slice Au0_0 (u0_0.length) cu0_0) 11 ((x19).toNat) 0))::(171,.lf (.ep (.slice Au0_0 (u0_0.length) cu0_0) 11 ((x19).toNat) 0))::(172,vi x76)::(173,vi x77)::(174,.agg [.one (.v (.slice Au0_0 (u0_0.length) cu0_0)),.arr .i64 4 u0_1])::(175,vi x24)::(176,vi x78)::(177,.agg [.arr .i64 2 v79])::(178,.lf (.own 13 0))::(179,.lf (.v (.slice A8 (v6.length) c9)))::(180,vi x24)::(181,vi x81)::(182,.lf (.ep (.slice A8 (v6.length) c9) 1 ((x81).toNat) 0))::(183,vi x83)::(184,.lf (.v (.int .u8 u3)))::(185,.lf (.v (.int .u8 u4)))::(186,.agg [.arr .i64 2 v84])::(187,.agg [.arr .i64 11 L86])::(3,.lf (.v (.int .u8 u3)))::(4,.lf (.v (.int .u8 u4)))::(6,.lf (.own 6 0))::(7,.lf (.own 7 0))::(13,.lf (.own 13 0))::(14,vi v13)::(17,vi x19)::(18,vi x24)::[]),H := [(22,[.arr .i64 11 L86]),(22,[.arr .i64 11 [(0 : Int),(0 : Int),(0 : Int),(0 : Int),(0 : Int),(0 : Int),(0 : Int),(0 : Int),(0 : Int),(0 : Int),(0 : Int)]]),(6,[.one (.v (.slice Au0_0 (u0_0.length) cu0_0)),.arr .i64 4 u0_1]),(7,[.arr .i64 7 u1]),(13,[.one (.v (.slice A8 (v6.length) c9)),.one (.v (.slice A10 (v7.length) c11))])],V := [],M := M53,ds := [] }) (by subst e_L86 e_x83 e_x81 e_x78 e_x77 e_x76; kernel_rfl) [] (by kernel_rfl) trivial ?_
        refine Stage_nil (stage_all' [] [] (by kernel_rfl) (by subst e_L86 e_x83 e_x81 e_x78 e_x77 e_x76;kernel_rfl) (by kernel_rfl) trivial) ?_
        refine thenQ_n ?_
        refine T_keep (s':={ σ := [(3,.lf (.v (.int .u8 u3))),(4,.lf (.v (.int .u8 u4))),(6,.lf (.own 6 0)),(7,.lf (.own 7 0)),(13,.lf (.own 13 0)),(14,vi v13),(17,vi x19),(18,vi x24),(22,.lf (.own 22 0))],H := [(6,[.one (.v (.slice Au0_0 (u0_0.length) cu0_0)),.arr .i64 4 u0_1]),(7,[.arr .i64 7 u1]),(13,[.one (.v (.slice A8 (v6.length) c9)),.one (.v (.slice A10 (v7.length) c11))]),(22,[.arr .i64 11 L86])],V := [],M := M53,ds := [] }) [3,4,6,7,13,14,17,18,22] [6,7,13,22] [] (by subst e_L86 e_x83 e_x81 e_x78 e_x77 e_x76;kernel_rfl) ?_
        refine T_sq (by kernel_rfl) ?_
        refine T_sq (by kernel_rfl) ?_
        refine T_region (id:=20) (by kernel_rfl) ?_
        refine TI_segS (i:=0) (j:=1) [(3,.lf (.v (.int .u8 u3))),(4,.lf (.v (.int .u8 u4))),(6,.lf (.own 6 0)),(7,.lf (.own 7 0)),(13,.lf (.own 13 0)),(14,vi v13),(17,vi x19),(18,vi x24),(22,.lf (.own 22 0)),(23,vi (0 : Int))] (by kernel_rfl) (by kernel_rfl) ?_
        refine TI_end (by kernel_rfl) ?_
        refine thenQ_n ?_
        obtain ⟨j88,e_j88,h⟩ := jn_some h
        refine T_bcut (id:=2) (c1:=(sub [1,1,1,1,1,1,1,1,1,1,1,1,1,1,0,1,0] Bd3)) (fun s' => ∃ (L87 : List Int),Sub { σ := [(6,.lf (.own 6 0)),(7,.lf (.own 7 0)),(14,vi v13),(17,vi x19),(22,.lf (.own 22 0))],H := [(6,[.one (.v (.slice Au0_0 (u0_0.length) cu0_0)),.arr .i64 4 u0_1]),(7,[.arr .i64 7 u1]),(22,[.arr .i64 11 L87])],V := [],M := M53,ds := [] } s' ∧ (L87).length = 11 ∧ j88 L87 = some r) (by kernel_rfl) ?_ ?_
        ·refine T_loop (c1:=(sub [1,1,1,1,1,1,1,1,1,1,1,1,1,1,0,1,0,0] Bd3)) (by kernel_rfl) (fun n91 s' => ∃ (x89 : Int) (L90 : List Int),Sub { σ := [(3,.lf (.v (.int .u8 u3))),(4,.lf (.v (.int .u8 u4))),(6,.lf (.own 6 0)),(7,.lf (.own 7 0)),(13,.lf (.own 13 0)),(14,vi v13),(17,vi x19),(18,vi x24),(22,.lf (.own 22 0)),(23,vi x89)],H := [(6,[.one (.v (.slice Au0_0 (u0_0.length) cu0_0)),.arr .i64 4 u0_1]),(7,[.arr .i64 7 u1]),(13,[.one (.v (.slice A8 (v6.length) c9)),.one (.v (.slice A10 (v7.length) c11))]),(22,[.arr .i64 11 L90])],V := [],M := M53,ds := [] } s' ∧ (L90).length = 11 ∧ p3_l2 k u0_0 u0_1 u3 u4 j88 v7 x24 n91 x89 L90 = some r) (k:=k) ⟨(0 : Int),L86,keep_sub (ts:=[3,4,6,7,13,14,17,18,22,23]) (hs:=[6,7,13,22]) (vs:=[]) (by kernel_rfl),l_L86,h⟩ ?_
         rintro n91 s' ⟨x89,L90,hsub,l_L90,h⟩
         cases n91 with
         | zero => rw [p3_l2] at h;cases h
         | succ n91 =>
          rw [p3_l2] at h
          refine T_sub hsub ?_
          refine T_sq (by kernel_rfl) ?_
          refine T_sq (by kernel_rfl) ?_
          refine T_region (id:=21) (by kernel_rfl) ?_
          obtain ⟨b92,e_b92,h⟩ := lt_some h
          refine TI_segK (i:=0) (j:=2) (s':={ σ := [(3,.lf (.v (.int .u8 u3))),(4,.lf (.v (.int .u8 u4))),(6,.lf (.own 6 0)),(7,.lf (.own 7 0)),(13,.lf (.own 13 0)),(14,vi v13),(17,vi x19),(18,vi x24),(22,.lf (.own 22 0)),(23,vi x89),(189,vb b92)],H := [(6,[.one (.v (.slice Au0_0 (u0_0.length) cu0_0)),.arr .i64 4 u0_1]),(7,[.arr .i64 7 u1]),(13,[.one (.v (.slice A8 (v6.length) c9)),.one (.v (.slice A10 (v7.length) c11))]),(22,[.arr .i64 11 L90])],V := [],M := M53,ds := [] }) [3,4,6,7,13,14,17,18,22,23,189] [6,7,13,22] [] (by subst e_b92;kernel_rfl) (by kernel_rfl) ?_
          refine TI_end (by kernel_rfl) ?_
          refine thenQ_n ?_
          cases b92 with
          | true =>
           replace h := sp_t h
           refine T_condT (x:=(.tmp 189)) (c1:=(sub [1,1,1,1,1,1,1,1,1,1,1,1,1,1,0,1,0,0,0,1,0] Bd3)) (c2:=(sub [1,1,1,1,1,1,1,1,1,1,1,1,1,1,0,1,0,0,0,1,1] Bd3)) (by kernel_rfl) (by kernel_rfl) ?_
           refine T_keepS [(3,.lf (.v (.int .u8 u3))),(4,.lf (.v (.int .u8 u4))),(6,.lf (.own 6 0)),(7,.lf (.own 7 0)),(13,.lf (.own 13 0)),(14,vi v13),(17,vi x19),(18,vi x24),(22,.lf (.own 22 0)),(23,vi x89)] (by kernel_rfl) ?_
           refine T_skip (by kernel_rfl) ?_
           refine thenQ_n ?_
           refine T_sq (by kernel_rfl) ?_
           refine T_block (id:=3) (c1:=(sub [1,1,1,1,1,1,1,1,1,1,1,1,1,1,0,1,0,0,1,0,0] Bd3)) (by kernel_rfl) ?_
           refine T_sq (by kernel_rfl) ?_
           obtain ⟨x93,e_x93,h⟩ := lt_some h
           obtain ⟨v94,c_v94,h⟩ := cl_some h
           obtain ⟨g95,h⟩ := gd_some h
           obtain ⟨x96,e_x96,h⟩ := lt_some h
           obtain ⟨g97,h⟩ := gd_some h
           obtain ⟨g98,h⟩ := gd_some h
           obtain ⟨x99,e_x99,h⟩ := lt_some h
           obtain ⟨v100,c_v100,h⟩ := cl_some h
           obtain ⟨g101,h⟩ := gd_some h
           obtain ⟨g102,h⟩ := gd_some h
           obtain ⟨L103,e_L103,h⟩ := lt_some h
           have l_L103 : (L103).length = 11 := by rw [e_L103]; have q0 := (show (L90).length = 11 from l_L90); have q1 := (show (v100).length = 2 from g101); simp only [List.length_append,List.length_take,List.length_drop,List.length_cons,List.length_nil]; omega
           refine T_draw' (id:=23) [19] [0,0,0,0,0,0,0,0,0,0,0,0,0,0,0,0,0,0,0,0] (by kernel_rfl) (by kernel_rfl) (by kernel_rfl) (by kernel_rfl) [(192,vi x89),(193,.agg [.one (.v (.slice Au0_0 (u0_0.length) cu0_0)),.arr .i64 4 u0_1]),(194,vi x24),(195,vi x93),(196,vi x89),(197,.agg [.arr .i64 2 v94]),(198,.lf (.own 13 1)),(199,.lf (.v (.slice A10 (v7.length) c11))),(200,vi x24),(201,vi x96),(202,vi x89),(203,.lf (.ep (.slice A10 (v7.length) c11) 4 ((x96).toNat) 0)),(204,.lf (.ep (.slice A10 (v7.length) c11) 4 ((x96).toNat) (0 + (x89).toNat * 1))),(205,vi x99),(206,.lf (.v (.int .u8 u3))),(207,.lf (.v (.int .u8 u4))),(208,.agg [.arr .i64 2 v100]),(209,.lf (.own 22 3)),(210,.lf (.oel 22 (3 + (x89).toNat * 2)))] (by kernel_rfl) ⟨trivial,⟨⟨rfl,⟨hu0_1,trivial⟩⟩,⟨trivial,⟨trivial,⟨trivial,⟨⟨g95,trivial⟩,⟨trivial,⟨trivial,⟨trivial,⟨trivial,⟨trivial,⟨trivial,⟨trivial,⟨trivial,⟨trivial,⟨trivial,⟨⟨g101,trivial⟩,⟨trivial,⟨trivial,trivial⟩⟩⟩⟩⟩⟩⟩⟩⟩⟩⟩⟩⟩⟩⟩⟩⟩⟩⟩ ?_
           refine Stage_te (stage_all' [0,1,2,3,4,6,7,8,9,10,14,15,17] [5,11,12,13,16,18] (by kernel_rfl) (by subst e_L103 e_x99 e_x96 e_x93; kernel_rfl) (by kernel_rfl) ⟨QF_at (i:=5) (d:=197) (x:=.agg [.arr .i64 2 v94]) (show OpAt _ _ _ 5 197 _ from by exact At_call (d:=197) (f:=17) (args:=[rval (.agg [.one (.v (.slice Au0_0 (u0_0.length) cu0_0)),.arr .i64 4 u0_1]),rval (vi x93),rval (vi x89)]) (x:=.agg [.arr .i64 2 v94]) (by subst e_L103 e_x99 e_x96 e_x93; kernel_rfl) (w17 k ((hu0_0.le hM12).le hM53) hu0_1 c_v94)) (by kernel_rfl) (by subst e_L103 e_x99 e_x96 e_x93; kernel_rfl),⟨QF_at (i:=11) (d:=203) (x:=.lf (.ep (.slice A10 (v7.length) c11) 4 ((x96).toNat) 0)) (show OpAt _ _ _ 11 203 _ from by exact At_idxR (d:=203) (z:=x96) (by subst e_L103 e_x99 e_x96 e_x93; kernel_rfl) g97 (fA10.le hM53)) (by kernel_rfl) (by subst e_L103 e_x99 e_x96 e_x93; kernel_rfl),⟨QF_at (i:=12) (d:=204) (x:=.lf (.ep (.slice A10 (v7.length) c11) 4 ((x96).toNat) (0 + (x89).toNat * 1))) (show OpAt _ _ _ 12 204 _ from by exact At_idxE (d:=204) (z:=x89) (A:=(.slice A10 (v7.length) c11)) (sz:=4) (q:=(x96).toNat) (j:=0) (es:=1) (n:=4) (by subst e_L103 e_x99 e_x96 e_x93; kernel_rfl) g98) (by kernel_rfl) (by subst e_L103 e_x99 e_x96 e_x93; kernel_rfl),⟨QF_at (i:=13) (d:=205) (x:=vi x99) (show OpAt _ _ _ 13 205 _ from by rw [e_x99]; exact At_ldR1' (d:=205) (q:=(x96).toNat) (j:=0 + (x89).toNat * 1) (by subst e_L103 e_x99 e_x96 e_x93; kernel_rfl) (by omega) (toNat_lt g97) (fA10.le hM53)) (by kernel_rfl) (by subst e_L103 e_x99 e_x96 e_x93; kernel_rfl),⟨QF_at (i:=16) (d:=208) (x:=.agg [.arr .i64 2 v100]) (show OpAt _ _ _ 16 208 _ from by exact At_call (d:=208) (f:=15) (args:=[rval (.agg [.arr .i64 2 v94]),rval (vi x99),rval (.lf (.v (.int .u8 u3))),rval (.lf (.v (.int .u8 u4)))]) (x:=.agg [.arr .i64 2 v100]) (by subst e_L103 e_x99 e_x96 e_x93; kernel_rfl) (w15 k g95 c_v100)) (by kernel_rfl) (by subst e_L103 e_x99 e_x96 e_x93; kernel_rfl),⟨QF_at (i:=18) (d:=210) (x:=.lf (.oel 22 (3 + (x89).toNat * 2))) (show OpAt _ _ _ 18 210 _ from by exact At_idxO (d:=210) (z:=x89) (b:=22) (off:=3) (sz:=2) (n:=4) (by subst e_L103 e_x99 e_x96 e_x93; kernel_rfl) g102) (by kernel_rfl) (by subst e_L103 e_x99 e_x96 e_x93; kernel_rfl),trivial⟩⟩⟩⟩⟩⟩) (TE_stOC (m:=2) (b:=22) (off:=3 + (x89).toNat * 2) (base:=0) (q:=3 + (x89).toNat * 2) (n:=11) (k:=.i64) (L:=L90) (L2:=L103) (Z:=(v100 ++ [])) (e:=[.arr .i64 2 v100]) (c':=[.arr .i64 11 L103]) (by subst e_L103 e_x99 e_x96 e_x93; kernel_rfl) (by kernel_rfl) (by subst e_L103 e_x99 e_x96 e_x93; kernel_rfl) (by omega) (by omega) (by kernel_rfl) (by kernel_rfl) e_L103 (by kernel_rfl) ?_) 
           refine TL_nil (stageQ_of [] (by kernel_rfl) trivial ?_)
           refine Stage_nil (stage_all' [] [] (by kernel_rfl) (by subst e_L103 e_x99 e_x96 e_x93;kernel_rfl) (by kernel_rfl) trivial) ?_
           refine thenQ_n ?_
           refine T_keep (s':={ σ := [(3,.lf (.v (.int .u8 u3))),(4,.lf (.v (.int .u8 u4))),(6,.lf (.own 6 0)),(7,.lf (.own 7 0)),(13,.lf (.own 13 0)),(14,vi v13),(17,vi x19),(18,vi x24),(22,.lf (.own 22 0)),(23,vi x89)],H := [(6,[.one (.v (.slice Au0_0 (u0_0.length) cu0_0)),.arr .i64 4 u0_1]),(7,[.arr .i64 7 u1]),(13,[.one (.v (.slice A8 (v6.length) c9)),.one (.v (.slice A10 (v7.length) c11))]),(22,[.arr .i64 11 L103])],V := [],M := M53,ds := [] }) [3,4,6,7,13,14,17,18,22,23] [6,7,13,22] [] (by subst e_L103 e_x99 e_x96 e_x93;kernel_rfl) ?_
           obtain ⟨j105,e_j105,h⟩ := jn_some h
           refine T_cut (c1:=(sub [1,1,1,1,1,1,1,1,1,1,1,1,1,1,0,1,0,0,1,0,0,1,0] Bd3)) (c2:=(sub [1,1,1,1,1,1,1,1,1,1,1,1,1,1,0,1,0,0,1,0,0,1,1] Bd3)) (fun s' => ∃ (b104 : Bool),Sub { σ := [(3,.lf (.v (.int .u8 u3))),(4,.lf (.v (.int .u8 u4))),(6,.lf (.own 6 0)),(7,.lf (.own 7 0)),(13,.lf (.own 13 0)),(14,vi v13),(17,vi x19),(18,vi x24),(22,.lf (.own 22 0)),(23,vi x89),(224,vb b104)],H := [(6,[.one (.v (.slice Au0_0 (u0_0.length) cu0_0)),.arr .i64 4 u0_1]),(7,[.arr .i64 7 u1]),(13,[.one (.v (.slice A8 (v6.length) c9)),.one (.v (.slice A10 (v7.length) c11))]),(22,[.arr .i64 11 L103])],V := [],M := M53,ds := [] } s' ∧ j105 b104 = some r) (by kernel_rfl) ?_ ?_
           ·refine T_region (id:=24) (by kernel_rfl) ?_
            refine TI_segK (i:=0) (j:=2) (s':={ σ := [(3,.lf (.v (.int .u8 u3))),(4,.lf (.v (.int .u8 u4))),(6,.lf (.own 6 0)),(7,.lf (.own 7 0)),(13,.lf (.own 13 0)),(14,vi v13),(17,vi x19),(18,vi x24),(22,.lf (.own 22 0)),(23,vi x89),(211,vi x89),(212,.lf (.own 22 3))],H := [(6,[.one (.v (.slice Au0_0 (u0_0.length) cu0_0)),.arr .i64 4 u0_1]),(7,[.arr .i64 7 u1]),(13,[.one (.v (.slice A8 (v6.length) c9)),.one (.v (.slice A10 (v7.length) c11))]),(22,[.arr .i64 11 L103])],V := [],M := M53,ds := [] }) [3,4,6,7,13,14,17,18,22,23,211,212] [6,7,13,22] [] (by kernel_rfl) (by kernel_rfl) ?_
            obtain ⟨g106,h⟩ := gd_some h
            refine TI_at (i:=2) (d:=213) (x:=.lf (.oel 22 (3 + (x89).toNat * 2))) (by exact At_idxO (d:=213) (z:=x89) (b:=22) (off:=3) (sz:=2) (n:=4) (by kernel_rfl) g106) (by kernel_rfl) trivial ?_
            refine TI_segK (i:=3) (j:=4) (s':={ σ := [(3,.lf (.v (.int .u8 u3))),(4,.lf (.v (.int .u8 u4))),(6,.lf (.own 6 0)),(7,.lf (.own 7 0)),(13,.lf (.own 13 0)),(14,vi v13),(17,vi x19),(18,vi x24),(22,.lf (.own 22 0)),(23,vi x89),(214,.lf (.oel 22 (3 + (x89).toNat * 2 + 0)))],H := [(6,[.one (.v (.slice Au0_0 (u0_0.length) cu0_0)),.arr .i64 4 u0_1]),(7,[.arr .i64 7 u1]),(13,[.one (.v (.slice A8 (v6.length) c9)),.one (.v (.slice A10 (v7.length) c11))]),(22,[.arr .i64 11 L103])],V := [],M := M53,ds := [] }) [3,4,6,7,13,14,17,18,22,23,214] [6,7,13,22] [] (by kernel_rfl) (by kernel_rfl) ?_
            obtain ⟨x107,e_x107,h⟩ := lt_some h
            refine TI_at (i:=4) (d:=215) (x:=vi x107) (by rw [e_x107]; exact At_ldO1 (d:=215) (b:=22) (off:=3 + (x89).toNat * 2 + 0) (base:=0) (q:=3 + (x89).toNat * 2 + 0) (n:=11) (k:=.i64) (L:=L103) (by subst e_x107; kernel_rfl) (by subst e_x107; kernel_rfl) (by omega) (by omega)) (by kernel_rfl) trivial ?_
            obtain ⟨b108,e_b108,h⟩ := lt_some h
            refine TI_segK (i:=5) (j:=7) (s':={ σ := [(3,.lf (.v (.int .u8 u3))),(4,.lf (.v (.int .u8 u4))),(6,.lf (.own 6 0)),(7,.lf (.own 7 0)),(13,.lf (.own 13 0)),(14,vi v13),(17,vi x19),(18,vi x24),(22,.lf (.own 22 0)),(23,vi x89),(217,vb b108)],H := [(6,[.one (.v (.slice Au0_0 (u0_0.length) cu0_0)),.arr .i64 4 u0_1]),(7,[.arr .i64 7 u1]),(13,[.one (.v (.slice A8 (v6.length) c9)),.one (.v (.slice A10 (v7.length) c11))]),(22,[.arr .i64 11 L103])],V := [],M := M53,ds := [] }) [3,4,6,7,13,14,17,18,22,23,217] [6,7,13,22] [] (by subst e_b108;kernel_rfl) (by kernel_rfl) ?_
            cases b108 with
            | true =>
             replace h := sp_t h
             refine TI_segS (i:=7) (j:=14) [(3,.lf (.v (.int .u8 u3))),(4,.lf (.v (.int .u8 u4))),(6,.lf (.own 6 0)),(7,.lf (.own 7 0)),(13,.lf (.own 13 0)),(14,vi v13),(17,vi x19),(18,vi x24),(22,.lf (.own 22 0)),(23,vi x89),(224,vb true)] (by kernel_rfl) (by kernel_rfl) ?_
             refine TI_end (by kernel_rfl) ?_
             refine thenQ_n ?_
             exact ⟨true,keep_sub (ts:=[3,4,6,7,13,14,17,18,22,23,224]) (hs:=[6,7,13,22]) (vs:=[]) (by kernel_rfl),h⟩
            | false =>
             replace h := sp_f h
             refine TI_segS (i:=7) (j:=9) [(3,.lf (.v (.int .u8 u3))),(4,.lf (.v (.int .u8 u4))),(6,.lf (.own 6 0)),(7,.lf (.own 7 0)),(13,.lf (.own 13 0)),(14,vi v13),(17,vi x19),(18,vi x24),(22,.lf (.own 22 0)),(23,vi x89),(217,vb false),(218,vi x89),(219,.lf (.own 22 3))] (by kernel_rfl) (by kernel_rfl) ?_
             obtain ⟨g109,h⟩ := gd_some h
             refine TI_at (i:=9) (d:=220) (x:=.lf (.oel 22 (3 + (x89).toNat * 2))) (by exact At_idxO (d:=220) (z:=x89) (b:=22) (off:=3) (sz:=2) (n:=4) (by kernel_rfl) g109) (by kernel_rfl) trivial ?_
             refine TI_segK (i:=10) (j:=11) (s':={ σ := [(3,.lf (.v (.int .u8 u3))),(4,.lf (.v (.int .u8 u4))),(6,.lf (.own 6 0)),(7,.lf (.own 7 0)),(13,.lf (.own 13 0)),(14,vi v13),(17,vi x19),(18,vi x24),(22,.lf (.own 22 0)),(23,vi x89),(217,vb false),(221,.lf (.oel 22 (3 + (x89).toNat * 2 + 1)))],H := [(6,[.one (.v (.slice Au0_0 (u0_0.length) cu0_0)),.arr .i64 4 u0_1]),(7,[.arr .i64 7 u1]),(13,[.one (.v (.slice A8 (v6.length) c9)),.one (.v (.slice A10 (v7.length) c11))]),(22,[.arr .i64 11 L103])],V := [],M := M53,ds := [] }) [3,4,6,7,13,14,17,18,22,23,217,221] [6,7,13,22] [] (by kernel_rfl) (by kernel_rfl) ?_
             obtain ⟨x110,e_x110,h⟩ := lt_some h
             refine TI_at (i:=11) (d:=222) (x:=vi x110) (by rw [e_x110]; exact At_ldO1 (d:=222) (b:=22) (off:=3 + (x89).toNat * 2 + 1) (base:=0) (q:=3 + (x89).toNat * 2 + 1) (n:=11) (k:=.i64) (L:=L103) (by subst e_x110; kernel_rfl) (by subst e_x110; kernel_rfl) (by omega) (by omega)) (by kernel_rfl) trivial ?_
             obtain ⟨b111,e_b111,h⟩ := lt_some h
             refine TI_segK (i:=12) (j:=14) (s':={ σ := [(3,.lf (.v (.int .u8 u3))),(4,.lf (.v (.int .u8 u4))),(6,.lf (.own 6 0)),(7,.lf (.own 7 0)),(13,.lf (.own 13 0)),(14,vi v13),(17,vi x19),(18,vi x24),(22,.lf (.own 22 0)),(23,vi x89),(224,vb b111)],H := [(6,[.one (.v (.slice Au0_0 (u0_0.length) cu0_0)),.arr .i64 4 u0_1]),(7,[.arr .i64 7 u1]),(13,[.one (.v (.slice A8 (v6.length) c9)),.one (.v (.slice A10 (v7.length) c11))]),(22,[.arr .i64 11 L103])],V := [],M := M53,ds := [] }) [3,4,6,7,13,14,17,18,22,23,224] [6,7,13,22] [] (by subst e_b111;kernel_rfl) (by kernel_rfl) ?_
             refine TI_end (by kernel_rfl) ?_
             refine thenQ_n ?_
             exact ⟨b111,keep_sub (ts:=[3,4,6,7,13,14,17,18,22,23,224]) (hs:=[6,7,13,22]) (vs:=[]) (by kernel_rfl),h⟩
           ·rintro s' ⟨b104,hsub,h⟩
            subst e_j105
            refine T_sub hsub ?_
            cases b104 with
            | true =>
             replace h := sp_t h
             refine T_condT (x:=(.tmp 224)) (c1:=(sub [1,1,1,1,1,1,1,1,1,1,1,1,1,1,0,1,0,0,1,0,0,1,1,0] Bd3)) (c2:=(sub [1,1,1,1,1,1,1,1,1,1,1,1,1,1,0,1,0,0,1,0,0,1,1,1] Bd3)) (by kernel_rfl) (by kernel_rfl) ?_
             refine T_keep (s':={ σ := [],H := [],V := [],M := M53,ds := [] }) [] [] [] (by kernel_rfl) ?_
             refine T_sq (by kernel_rfl) ?_
             refine T_region (id:=25) (by kernel_rfl) ?_
             obtain ⟨v112,c_v112,h⟩ := cl_some h
             refine TI_at (i:=0) (d:=225) (x:=vb v112) (At_call (d:=225) (f:=12) (args:=[]) (x:=vb v112) (by kernel_rfl) (w12 k  c_v112)) (by kernel_rfl) trivial ?_
             refine TI_segK (i:=1) (j:=2) (s':={ σ := [(12,vb v112)],H := [],V := [],M := M53,ds := [] }) [12] [] [] (by kernel_rfl) (by kernel_rfl) ?_
             refine TI_end (by kernel_rfl) ?_
             refine thenQ_n ?_
             refine T_ret (by kernel_rfl) ?_
             refine blockQ_r ?_
             refine thenQ_r ?_
             refine thenQ_r ?_
             refine blockQ_r ?_
             refine thenQ_r ?_
             refine thenQ_r ?_
             have h := Option.some.inj h
             subst h
             refine fin_ret (vb v112) (by kernel_rfl) (by kernel_rfl) rfl ?_
             rfl
            | false =>
             replace h := sp_f h
             refine T_condF (x:=(.tmp 224)) (c1:=(sub [1,1,1,1,1,1,1,1,1,1,1,1,1,1,0,1,0,0,1,0,0,1,1,0] Bd3)) (c2:=(sub [1,1,1,1,1,1,1,1,1,1,1,1,1,1,0,1,0,0,1,0,0,1,1,1] Bd3)) (by kernel_rfl) (by kernel_rfl) ?_
             refine T_keep (s':={ σ := [(3,.lf (.v (.int .u8 u3))),(4,.lf (.v (.int .u8 u4))),(6,.lf (.own 6 0)),(7,.lf (.own 7 0)),(13,.lf (.own 13 0)),(14,vi v13),(17,vi x19),(18,vi x24),(22,.lf (.own 22 0)),(23,vi x89)],H := [(6,[.one (.v (.slice Au0_0 (u0_0.length) cu0_0)),.arr .i64 4 u0_1]),(7,[.arr .i64 7 u1]),(13,[.one (.v (.slice A8 (v6.length) c9)),.one (.v (.slice A10 (v7.length) c11))]),(22,[.arr .i64 11 L103])],V := [],M := M53,ds := [] }) [3,4,6,7,13,14,17,18,22,23] [6,7,13,22] [] (by kernel_rfl) ?_
             refine T_skip (by kernel_rfl) ?_
             refine blockQ_n ?_
             refine thenQ_n ?_
             refine T_region (id:=22) (by kernel_rfl) ?_
             obtain ⟨x113,e_x113,h⟩ := lt_some h
             refine TI_segS (i:=0) (j:=3) [(3,.lf (.v (.int .u8 u3))),(4,.lf (.v (.int .u8 u4))),(6,.lf (.own 6 0)),(7,.lf (.own 7 0)),(13,.lf (.own 13 0)),(14,vi v13),(17,vi x19),(18,vi x24),(22,.lf (.own 22 0)),(23,vi x113)] (by subst e_x113;kernel_rfl) (by kernel_rfl) ?_
             refine TI_end (by kernel_rfl) ?_
             refine thenQ_n ?_
             exact ⟨n91,Nat.lt_succ_self _,x113,L103,keep_sub (ts:=[3,4,6,7,13,14,17,18,22,23]) (hs:=[6,7,13,22]) (vs:=[]) (by kernel_rfl),l_L103,h⟩
          | false =>
           replace h := sp_f h
           refine T_condF (x:=(.tmp 189)) (c1:=(sub [1,1,1,1,1,1,1,1,1,1,1,1,1,1,0,1,0,0,0,1,0] Bd3)) (c2:=(sub [1,1,1,1,1,1,1,1,1,1,1,1,1,1,0,1,0,0,0,1,1] Bd3)) (by kernel_rfl) (by kernel_rfl) ?_
           refine T_keep (s':={ σ := [(6,.lf (.own 6 0)),(7,.lf (.own 7 0)),(14,vi v13),(17,vi x19),(22,.lf (.own 22 0))],H := [(6,[.one (.v (.slice Au0_0 (u0_0.length) cu0_0)),.arr .i64 4 u0_1]),(7,[.arr .i64 7 u1]),(22,[.arr .i64 11 L90])],V := [],M := M53,ds := [] }) [6,7,14,17,22] [6,7,22] [] (by kernel_rfl) ?_
           refine T_exit (id:=2) (by kernel_rfl) ?_
           refine thenQ_x ?_
           refine thenQ_x ?_
           refine blockQ_x ?_
           refine thenQ_n ?_
           exact ⟨L90,keep_sub (ts:=[6,7,14,17,22]) (hs:=[6,7,22]) (vs:=[]) (by kernel_rfl),l_L90,h⟩
        ·rintro s' ⟨L87,hsub,l_L87,h⟩
         subst e_j88
         refine thenQ_n ?_
         refine T_sub hsub ?_
         refine T_sq (by kernel_rfl) ?_
         refine T_region (id:=26) (by kernel_rfl) ?_
         refine TI_segK (i:=0) (j:=3) (s':={ σ := [(6,.lf (.own 6 0)),(7,.lf (.own 7 0)),(14,vi v13),(17,vi x19),(22,.lf (.own 22 0)),(24,.lf (.own 24 0))],H := [(6,[.one (.v (.slice Au0_0 (u0_0.length) cu0_0)),.arr .i64 4 u0_1]),(7,[.arr .i64 7 u1]),(22,[.arr .i64 11 L87]),(24,[.one (.v (.slice Au0_0 (u0_0.length) cu0_0)),.arr .i64 4 u0_1])],V := [],M := M53,ds := [] }) [6,7,14,17,22,24] [6,7,22,24] [] (by kernel_rfl) (by kernel_rfl) ?_
         refine TI_end (by kernel_rfl) ?_
         refine thenQ_n ?_
         refine T_sq (by kernel_rfl) ?_
         obtain ⟨x114,e_x114,h⟩ := lt_some h
         obtain ⟨g115,h⟩ := gd_some h
         obtain ⟨P116,e_P116,h⟩ := lt_some h
         obtain ⟨g117,h⟩ := gd_some h
         obtain ⟨W118,e_W118,h⟩ := lt_some h
         have r_W118 : ∀ r ∈ W118,r.length = 11 := by rw [e_W118]; exact rows_app rows_nil ((SlR.part ((hu0_0.le hM12).le hM53) e_P116 g115.2.2.1 g115.2.2.2)).1
         obtain ⟨g119,h⟩ := gd_some h
         obtain ⟨W120,e_W120,h⟩ := lt_some h
         have r_W120 : ∀ r ∈ W120,r.length = 11 := by rw [e_W120]; exact rows_app r_W118 (rows_cons l_L87 rows_nil)
         obtain ⟨x121,e_x121,h⟩ := lt_some h
         obtain ⟨g122,h⟩ := gd_some h
         obtain ⟨P123,e_P123,h⟩ := lt_some h
         obtain ⟨g124,h⟩ := gd_some h
         obtain ⟨W125,e_W125,h⟩ := lt_some h
         have r_W125 : ∀ r ∈ W125,r.length = 11 := by rw [e_W125]; exact rows_app r_W120 ((SlR.part ((hu0_0.le hM12).le hM53) e_P123 g122.2.2.1 g122.2.2.2)).1
         refine T_rcut ({ σ := [(7,.lf (.own 7 0)),(14,vi v13),(24,.lf (.own 24 0))],H := [(7,[.arr .i64 7 u1]),(24,[.one (.vec 242),.arr .i64 4 u0_1])],V := [(242,⟨43,11,List.length W125,rowsC .i64 W125⟩)],M := M53,ds := [] }) ?_ ?_
         ·refine T_drawT (id:=27) 6 [0,6,8,9,15,17] [[],[],[],[],[],[],[],[],[],[],[],[],[],[],[],[],[0,6,8,9,15],[]] (by kernel_rfl) (by kernel_rfl) (by kernel_rfl) (by kernel_rfl) [(228,.lf (.own 6 0)),(229,.lf (.v (.slice Au0_0 (u0_0.length) cu0_0))),(230,vi x19),(231,vi x114),(232,.lf (.v (.slice (cutA Au0_0 cu0_0 0 11) (P116.length) (cu0_0 - 0)))),(234,.agg [.arr .i64 11 L87]),(237,.lf (.own 6 0)),(238,.lf (.v (.slice Au0_0 (u0_0.length) cu0_0))),(239,vi x19),(240,vi x121),(241,.lf (.v (.slice (cutA Au0_0 cu0_0 ((x121).toNat) 11) (P123.length) (cu0_0 - (x121).toNat))))] (by kernel_rfl) ⟨trivial,⟨trivial,⟨trivial,⟨trivial,⟨trivial,⟨⟨l_L87,trivial⟩,⟨trivial,⟨trivial,⟨trivial,⟨trivial,⟨trivial,trivial⟩⟩⟩⟩⟩⟩⟩⟩⟩⟩⟩ ?_
          refine StageT_cons [0,8] (stageT_all [1,2,3,4,7,10,11,12,13] [5,14] (by kernel_rfl) (by subst e_W125 e_P123 e_x121 e_W120 e_W118 e_P116 e_x114;kernel_rfl) (by kernel_rfl) ⟨QF_at (i:=5) (d:=232) (x:=.lf (.v (.slice (cutA Au0_0 cu0_0 0 11) (P116.length) (cu0_0 - 0)))) (show OpAt _ _ _ 5 232 _ from by exact At_slR (d:=232) (a:=none) (b:=(some x114)) (P:=P116) (by subst e_W125 e_P123 e_x121 e_W120 e_W118 e_P116 e_x114;kernel_rfl) ((hu0_0.le hM12).le hM53) none_nn (some_nn g115.2.1) g115.2.2.1 g115.2.2.2 e_P116) (by kernel_rfl) (by subst e_W125 e_P123 e_x121 e_W120 e_W118 e_P116 e_x114;kernel_rfl),⟨QF_at (i:=14) (d:=241) (x:=.lf (.v (.slice (cutA Au0_0 cu0_0 ((x121).toNat) 11) (P123.length) (cu0_0 - (x121).toNat)))) (show OpAt _ _ _ 14 241 _ from by exact At_slR (d:=241) (a:=(some x121)) (b:=none) (P:=P123) (by subst e_W125 e_P123 e_x121 e_W120 e_W118 e_P116 e_x114;kernel_rfl) ((hu0_0.le hM12).le hM53) (some_nn g122.1) none_nn g122.2.2.1 g122.2.2.2 e_P123) (by kernel_rfl) (by subst e_W125 e_P123 e_x121 e_W120 e_W118 e_P116 e_x114;kernel_rfl),trivial⟩⟩) (by kernel_rfl) (by kernel_rfl) ⟨?_,?_,trivial⟩
          ·refine TE_litC (d:=227) (e:=43) (sz:=11) (len:=0) (cs:=rowsC .i64 ([] : List (List Int))) (by subst e_W125 e_P123 e_x121 e_W120 e_W118 e_P116 e_x114;kernel_rfl) (by kernel_rfl) (by kernel_rfl) ?_
           refine TL_nil (stageTQ_of [] (by kernel_rfl) trivial ?_)
           refine StageT_cons [6,8] (stageT_all [1,2,3,4,7,10,11,12,13] [5,14] (by kernel_rfl) (by subst e_W125 e_P123 e_x121 e_W120 e_W118 e_P116 e_x114;kernel_rfl) (by kernel_rfl) ⟨QF_at (i:=5) (d:=232) (x:=.lf (.v (.slice (cutA Au0_0 cu0_0 0 11) (P116.length) (cu0_0 - 0)))) (show OpAt _ _ _ 5 232 _ from by exact At_slR (d:=232) (a:=none) (b:=(some x114)) (P:=P116) (by subst e_W125 e_P123 e_x121 e_W120 e_W118 e_P116 e_x114;kernel_rfl) ((hu0_0.le hM12).le hM53) none_nn (some_nn g115.2.1) g115.2.2.1 g115.2.2.2 e_P116) (by kernel_rfl) (by subst e_W125 e_P123 e_x121 e_W120 e_W118 e_P116 e_x114;kernel_rfl),⟨QF_at (i:=14) (d:=241) (x:=.lf (.v (.slice (cutA Au0_0 cu0_0 ((x121).toNat) 11) (P123.length) (cu0_0 - (x121).toNat)))) (show OpAt _ _ _ 14 241 _ from by exact At_slR (d:=241) (a:=(some x121)) (b:=none) (P:=P123) (by subst e_W125 e_P123 e_x121 e_W120 e_W118 e_P116 e_x114;kernel_rfl) ((hu0_0.le hM12).le hM53) (some_nn g122.1) none_nn g122.2.2.1 g122.2.2.2 e_P123) (by kernel_rfl) (by subst e_W125 e_P123 e_x121 e_W120 e_W118 e_P116 e_x114;kernel_rfl),trivial⟩⟩) (by kernel_rfl) (by kernel_rfl) ⟨?_,?_,trivial⟩
           ·refine TE_appC (d:=233) (e:=43) (sz:=11) (bytes:=88) (n:=227) (x:=(.tmp 232)) (len:=List.length ([] : List (List Int))) (cs0:=rowsC .i64 ([] : List (List Int))) (cs2:=rowsC .i64 W118) (by subst e_W125 e_P123 e_x121 e_W120 e_W118 e_P116 e_x114;kernel_rfl) (by kernel_rfl) (by subst e_W125 e_P123 e_x121 e_W120 e_W118 e_P116 e_x114;kernel_rfl) (SlR.src (by subst e_W125 e_P123 e_x121 e_W120 e_W118 e_P116 e_x114;kernel_rfl) (SlR.part ((hu0_0.le hM12).le hM53) e_P116 g115.2.2.1 g115.2.2.2) rfl) g117 rfl (len_app_eq e_W118) (rowsC_app_eq e_W118) ?_
            refine TL_nil (stageTQ_of [] (by kernel_rfl) trivial ?_)
            refine StageT_cons [8] (stageT_all [7,10,11,12,13] [14] (by kernel_rfl) (by subst e_W125 e_P123 e_x121 e_W120 e_W118 e_P116 e_x114;kernel_rfl) (by kernel_rfl) ⟨QF_at (i:=14) (d:=241) (x:=.lf (.v (.slice (cutA Au0_0 cu0_0 ((x121).toNat) 11) (P123.length) (cu0_0 - (x121).toNat)))) (show OpAt _ _ _ 14 241 _ from by exact At_slR (d:=241) (a:=(some x121)) (b:=none) (P:=P123) (by subst e_W125 e_P123 e_x121 e_W120 e_W118 e_P116 e_x114;kernel_rfl) ((hu0_0.le hM12).le hM53) (some_nn g122.1) none_nn g122.2.2.1 g122.2.2.2 e_P123) (by kernel_rfl) (by subst e_W125 e_P123 e_x121 e_W120 e_W118 e_P116 e_x114;kernel_rfl),trivial⟩) (by kernel_rfl) (by kernel_rfl) ⟨?_,trivial⟩
            ·refine TE_litC (d:=235) (e:=43) (sz:=11) (len:=1) (cs:=rowsC .i64 ([L87])) (by subst e_W125 e_P123 e_x121 e_W120 e_W118 e_P116 e_x114;kernel_rfl) (by kernel_rfl) (by kernel_rfl) ?_
             refine TL_nil (stageTQ_of [] (by kernel_rfl) trivial ?_)
             refine StageT_cons [9] (stageT_all [10,11,12,13] [14] (by kernel_rfl) (by subst e_W125 e_P123 e_x121 e_W120 e_W118 e_P116 e_x114;kernel_rfl) (by kernel_rfl) ⟨QF_at (i:=14) (d:=241) (x:=.lf (.v (.slice (cutA Au0_0 cu0_0 ((x121).toNat) 11) (P123.length) (cu0_0 - (x121).toNat)))) (show OpAt _ _ _ 14 241 _ from by exact At_slR (d:=241) (a:=(some x121)) (b:=none) (P:=P123) (by subst e_W125 e_P123 e_x121 e_W120 e_W118 e_P116 e_x114;kernel_rfl) ((hu0_0.le hM12).le hM53) (some_nn g122.1) none_nn g122.2.2.1 g122.2.2.2 e_P123) (by kernel_rfl) (by subst e_W125 e_P123 e_x121 e_W120 e_W118 e_P116 e_x114;kernel_rfl),trivial⟩) (by kernel_rfl) (by kernel_rfl) ⟨?_,trivial⟩
             ·refine TE_appC (d:=236) (e:=43) (sz:=11) (bytes:=88) (n:=233) (x:=(.tmp 235)) (len:=List.length W118) (cs0:=rowsC .i64 W118) (cs2:=rowsC .i64 W120) (by subst e_W125 e_P123 e_x121 e_W120 e_W118 e_P116 e_x114;kernel_rfl) (by kernel_rfl) (by subst e_W125 e_P123 e_x121 e_W120 e_W118 e_P116 e_x114;kernel_rfl) (vecR_src (n:=235) (e:=43) (k:=.i64) (m:=11) (R:=[L87]) (by subst e_W125 e_P123 e_x121 e_W120 e_W118 e_P116 e_x114;kernel_rfl) (by subst e_W125 e_P123 e_x121 e_W120 e_W118 e_P116 e_x114;kernel_rfl) (rows_cons l_L87 rows_nil)) g119 rfl (len_app_eq e_W120) (rowsC_app_eq e_W120) ?_
              refine TL_nil (stageTQ_of [] (by kernel_rfl) trivial ?_)
              refine StageT_cons [15] (stageT_all [10,11,12,13] [14] (by kernel_rfl) (by subst e_W125 e_P123 e_x121 e_W120 e_W118 e_P116 e_x114;kernel_rfl) (by kernel_rfl) ⟨QF_at (i:=14) (d:=241) (x:=.lf (.v (.slice (cutA Au0_0 cu0_0 ((x121).toNat) 11) (P123.length) (cu0_0 - (x121).toNat)))) (show OpAt _ _ _ 14 241 _ from by exact At_slR (d:=241) (a:=(some x121)) (b:=none) (P:=P123) (by subst e_W125 e_P123 e_x121 e_W120 e_W118 e_P116 e_x114;kernel_rfl) ((hu0_0.le hM12).le hM53) (some_nn g122.1) none_nn g122.2.2.1 g122.2.2.2 e_P123) (by kernel_rfl) (by subst e_W125 e_P123 e_x121 e_W120 e_W118 e_P116 e_x114;kernel_rfl),trivial⟩) (by kernel_rfl) (by kernel_rfl) ⟨?_,trivial⟩
              ·refine TE_appC (d:=242) (e:=43) (sz:=11) (bytes:=88) (n:=236) (x:=(.tmp 241)) (len:=List.length W120) (cs0:=rowsC .i64 W120) (cs2:=rowsC .i64 W125) (by subst e_W125 e_P123 e_x121 e_W120 e_W118 e_P116 e_x114;kernel_rfl) (by kernel_rfl) (by subst e_W125 e_P123 e_x121 e_W120 e_W118 e_P116 e_x114;kernel_rfl) (SlR.src (by subst e_W125 e_P123 e_x121 e_W120 e_W118 e_P116 e_x114;kernel_rfl) (SlR.part ((hu0_0.le hM12).le hM53) e_P123 g122.2.2.1 g122.2.2.2) rfl) g124 rfl (len_app_eq e_W125) (rowsC_app_eq e_W125) ?_
               refine TL_nil (stageTQ_of [(243,.lf (.own 24 0))] (by kernel_rfl) ⟨trivial,trivial⟩ ?_)
               refine StageT_cons [17] (stageT_all [16] [] (by kernel_rfl) (by subst e_W125 e_P123 e_x121 e_W120 e_W118 e_P116 e_x114;kernel_rfl) (by kernel_rfl) trivial) (by kernel_rfl) (by kernel_rfl) ⟨?_,trivial⟩
               ·refine StepT_ex ({ σ := [(243,.lf (.own 24 0)),(242,.lf (.vec 242)),(236,.lf (.vec 236)),(235,.lf (.vec 235)),(233,.lf (.vec 233)),(227,.lf (.vec 227)),(228,.lf (.own 6 0)),(229,.lf (.v (.slice Au0_0 (u0_0.length) cu0_0))),(230,vi x19),(231,vi x114),(232,.lf (.v (.slice (cutA Au0_0 cu0_0 0 11) (P116.length) (cu0_0 - 0)))),(234,.agg [.arr .i64 11 L87]),(237,.lf (.own 6 0)),(238,.lf (.v (.slice Au0_0 (u0_0.length) cu0_0))),(239,vi x19),(240,vi x121),(241,.lf (.v (.slice (cutA Au0_0 cu0_0 ((x121).toNat) 11) (P123.length) (cu0_0 - (x121).toNat)))),(6,.lf (.own 6 0)),(7,.lf (.own 7 0)),(14,vi v13),(17,vi x19),(22,.lf (.own 22 0)),(24,.lf (.own 24 0))],H := [(24,[.one (.vec 242),.arr .i64 4 u0_1]),(6,[.one (.v (.slice Au0_0 (u0_0.length) cu0_0)),.arr .i64 4 u0_1]),(7,[.arr .i64 7 u1]),(22,[.arr .i64 11 L87]),(24,[.one (.v (.slice Au0_0 (u0_0.length) cu0_0)),.arr .i64 4 u0_1])],V := [(242,⟨43,11,List.length W125,rowsC .i64 W125⟩),(235,⟨43,11,List.length ([L87]),rowsC .i64 ([L87])⟩)],M := M53,ds := [] }) (by subst e_W125 e_P123 e_x121 e_W120 e_W118 e_P116 e_x114;kernel_rfl) [] (by kernel_rfl) trivial ?_
                refine StageT_leaf (stageT_all [] [] (by kernel_rfl) (by subst e_W125 e_P123 e_x121 e_W120 e_W118 e_P116 e_x114;kernel_rfl) (by kernel_rfl) trivial) (by kernel_rfl) ?_
                exact ⟨rfl,keep_sub (s':={ σ := [(7,.lf (.own 7 0)),(14,vi v13),(24,.lf (.own 24 0))],H := [(7,[.arr .i64 7 u1]),(24,[.one (.vec 242),.arr .i64 4 u0_1])],V := [(242,⟨43,11,List.length W125,rowsC .i64 W125⟩)],M := M53,ds := [] }) (ts:=[7,14,24]) (hs:=[7,24]) (vs:=[242]) (by subst e_W125 e_P123 e_x121 e_W120 e_W118 e_P116 e_x114;kernel_rfl)⟩
           ·refine TE_litC (d:=235) (e:=43) (sz:=11) (len:=1) (cs:=rowsC .i64 ([L87])) (by subst e_W125 e_P123 e_x121 e_W120 e_W118 e_P116 e_x114;kernel_rfl) (by kernel_rfl) (by kernel_rfl) ?_
            refine TL_nil (stageTQ_of [] (by kernel_rfl) trivial ?_)
            refine StageT_cons [6] (stageT_all [1,2,3,4,10,11,12,13] [5,14] (by kernel_rfl) (by subst e_W125 e_P123 e_x121 e_W120 e_W118 e_P116 e_x114;kernel_rfl) (by kernel_rfl) ⟨QF_at (i:=5) (d:=232) (x:=.lf (.v (.slice (cutA Au0_0 cu0_0 0 11) (P116.length) (cu0_0 - 0)))) (show OpAt _ _ _ 5 232 _ from by exact At_slR (d:=232) (a:=none) (b:=(some x114)) (P:=P116) (by subst e_W125 e_P123 e_x121 e_W120 e_W118 e_P116 e_x114;kernel_rfl) ((hu0_0.le hM12).le hM53) none_nn (some_nn g115.2.1) g115.2.2.1 g115.2.2.2 e_P116) (by kernel_rfl) (by subst e_W125 e_P123 e_x121 e_W120 e_W118 e_P116 e_x114;kernel_rfl),⟨QF_at (i:=14) (d:=241) (x:=.lf (.v (.slice (cutA Au0_0 cu0_0 ((x121).toNat) 11) (P123.length) (cu0_0 - (x121).toNat)))) (show OpAt _ _ _ 14 241 _ from by exact At_slR (d:=241) (a:=(some x121)) (b:=none) (P:=P123) (by subst e_W125 e_P123 e_x121 e_W120 e_W118 e_P116 e_x114;kernel_rfl) ((hu0_0.le hM12).le hM53) (some_nn g122.1) none_nn g122.2.2.1 g122.2.2.2 e_P123) (by kernel_rfl) (by subst e_W125 e_P123 e_x121 e_W120 e_W118 e_P116 e_x114;kernel_rfl),trivial⟩⟩) (by kernel_rfl) (by kernel_rfl) ⟨?_,trivial⟩
            ·refine TE_appC (d:=233) (e:=43) (sz:=11) (bytes:=88) (n:=227) (x:=(.tmp 232)) (len:=List.length ([] : List (List Int))) (cs0:=rowsC .i64 ([] : List (List Int))) (cs2:=rowsC .i64 W118) (by subst e_W125 e_P123 e_x121 e_W120 e_W118 e_P116 e_x114;kernel_rfl) (by kernel_rfl) (by subst e_W125 e_P123 e_x121 e_W120 e_W118 e_P116 e_x114;kernel_rfl) (SlR.src (by subst e_W125 e_P123 e_x121 e_W120 e_W118 e_P116 e_x114;kernel_rfl) (SlR.part ((hu0_0.le hM12).le hM53) e_P116 g115.2.2.1 g115.2.2.2) rfl) g117 rfl (len_app_eq e_W118) (rowsC_app_eq e_W118) ?_
             refine TL_nil (stageTQ_of [] (by kernel_rfl) trivial ?_)
             refine StageT_cons [9] (stageT_all [10,11,12,13] [14] (by kernel_rfl) (by subst e_W125 e_P123 e_x121 e_W120 e_W118 e_P116 e_x114;kernel_rfl) (by kernel_rfl) ⟨QF_at (i:=14) (d:=241) (x:=.lf (.v (.slice (cutA Au0_0 cu0_0 ((x121).toNat) 11) (P123.length) (cu0_0 - (x121).toNat)))) (show OpAt _ _ _ 14 241 _ from by exact At_slR (d:=241) (a:=(some x121)) (b:=none) (P:=P123) (by subst e_W125 e_P123 e_x121 e_W120 e_W118 e_P116 e_x114;kernel_rfl) ((hu0_0.le hM12).le hM53) (some_nn g122.1) none_nn g122.2.2.1 g122.2.2.2 e_P123) (by kernel_rfl) (by subst e_W125 e_P123 e_x121 e_W120 e_W118 e_P116 e_x114;kernel_rfl),trivial⟩) (by kernel_rfl) (by kernel_rfl) ⟨?_,trivial⟩
             ·refine TE_appC (d:=236) (e:=43) (sz:=11) (bytes:=88) (n:=233) (x:=(.tmp 235)) (len:=List.length W118) (cs0:=rowsC .i64 W118) (cs2:=rowsC .i64 W120) (by subst e_W125 e_P123 e_x121 e_W120 e_W118 e_P116 e_x114;kernel_rfl) (by kernel_rfl) (by subst e_W125 e_P123 e_x121 e_W120 e_W118 e_P116 e_x114;kernel_rfl) (vecR_src (n:=235) (e:=43) (k:=.i64) (m:=11) (R:=[L87]) (by subst e_W125 e_P123 e_x121 e_W120 e_W118 e_P116 e_x114;kernel_rfl) (by subst e_W125 e_P123 e_x121 e_W120 e_W118 e_P116 e_x114;kernel_rfl) (rows_cons l_L87 rows_nil)) g119 rfl (len_app_eq e_W120) (rowsC_app_eq e_W120) ?_
              refine TL_nil (stageTQ_of [] (by kernel_rfl) trivial ?_)
              refine StageT_cons [15] (stageT_all [10,11,12,13] [14] (by kernel_rfl) (by subst e_W125 e_P123 e_x121 e_W120 e_W118 e_P116 e_x114;kernel_rfl) (by kernel_rfl) ⟨QF_at (i:=14) (d:=241) (x:=.lf (.v (.slice (cutA Au0_0 cu0_0 ((x121).toNat) 11) (P123.length) (cu0_0 - (x121).toNat)))) (show OpAt _ _ _ 14 241 _ from by exact At_slR (d:=241) (a:=(some x121)) (b:=none) (P:=P123) (by subst e_W125 e_P123 e_x121 e_W120 e_W118 e_P116 e_x114;kernel_rfl) ((hu0_0.le hM12).le hM53) (some_nn g122.1) none_nn g122.2.2.1 g122.2.2.2 e_P123) (by kernel_rfl) (by subst e_W125 e_P123 e_x121 e_W120 e_W118 e_P116 e_x114;kernel_rfl),trivial⟩) (by kernel_rfl) (by kernel_rfl) ⟨?_,trivial⟩
              ·refine TE_appC (d:=242) (e:=43) (sz:=11) (bytes:=88) (n:=236) (x:=(.tmp 241)) (len:=List.length W120) (cs0:=rowsC .i64 W120) (cs2:=rowsC .i64 W125) (by subst e_W125 e_P123 e_x121 e_W120 e_W118 e_P116 e_x114;kernel_rfl) (by kernel_rfl) (by subst e_W125 e_P123 e_x121 e_W120 e_W118 e_P116 e_x114;kernel_rfl) (SlR.src (by subst e_W125 e_P123 e_x121 e_W120 e_W118 e_P116 e_x114;kernel_rfl) (SlR.part ((hu0_0.le hM12).le hM53) e_P123 g122.2.2.1 g122.2.2.2) rfl) g124 rfl (len_app_eq e_W125) (rowsC_app_eq e_W125) ?_
               refine TL_nil (stageTQ_of [(243,.lf (.own 24 0))] (by kernel_rfl) ⟨trivial,trivial⟩ ?_)
               refine StageT_cons [17] (stageT_all [16] [] (by kernel_rfl) (by subst e_W125 e_P123 e_x121 e_W120 e_W118 e_P116 e_x114;kernel_rfl) (by kernel_rfl) trivial) (by kernel_rfl) (by kernel_rfl) ⟨?_,trivial⟩
               ·refine StepT_ex ({ σ := [(243,.lf (.own 24 0)),(242,.lf (.vec 242)),(236,.lf (.vec 236)),(233,.lf (.vec 233)),(235,.lf (.vec 235)),(227,.lf (.vec 227)),(228,.lf (.own 6 0)),(229,.lf (.v (.slice Au0_0 (u0_0.length) cu0_0))),(230,vi x19),(231,vi x114),(232,.lf (.v (.slice (cutA Au0_0 cu0_0 0 11) (P116.length) (cu0_0 - 0)))),(234,.agg [.arr .i64 11 L87]),(237,.lf (.own 6 0)),(238,.lf (.v (.slice Au0_0 (u0_0.length) cu0_0))),(239,vi x19),(240,vi x121),(241,.lf (.v (.slice (cutA Au0_0 cu0_0 ((x121).toNat) 11) (P123.length) (cu0_0 - (x121).toNat)))),(6,.lf (.own 6 0)),(7,.lf (.own 7 0)),(14,vi v13),(17,vi x19),(22,.lf (.own 22 0)),(24,.lf (.own 24 0))],H := [(24,[.one (.vec 242),.arr .i64 4 u0_1]),(6,[.one (.v (.slice Au0_0 (u0_0.length) cu0_0)),.arr .i64 4 u0_1]),(7,[.arr .i64 7 u1]),(22,[.arr .i64 11 L87]),(24,[.one (.v (.slice Au0_0 (u0_0.length) cu0_0)),.arr .i64 4 u0_1])],V := [(242,⟨43,11,List.length W125,rowsC .i64 W125⟩),(235,⟨43,11,List.length ([L87]),rowsC .i64 ([L87])⟩)],M := M53,ds := [] }) (by subst e_W125 e_P123 e_x121 e_W120 e_W118 e_P116 e_x114;kernel_rfl) [] (by kernel_rfl) trivial ?_
                refine StageT_leaf (stageT_all [] [] (by kernel_rfl) (by subst e_W125 e_P123 e_x121 e_W120 e_W118 e_P116 e_x114;kernel_rfl) (by kernel_rfl) trivial) (by kernel_rfl) ?_
                exact ⟨rfl,keep_sub (s':={ σ := [(7,.lf (.own 7 0)),(14,vi v13),(24,.lf (.own 24 0))],H := [(7,[.arr .i64 7 u1]),(24,[.one (.vec 242),.arr .i64 4 u0_1])],V := [(242,⟨43,11,List.length W125,rowsC .i64 W125⟩)],M := M53,ds := [] }) (ts:=[7,14,24]) (hs:=[7,24]) (vs:=[242]) (by subst e_W125 e_P123 e_x121 e_W120 e_W118 e_P116 e_x114;kernel_rfl)⟩
          ·refine TE_litC (d:=235) (e:=43) (sz:=11) (len:=1) (cs:=rowsC .i64 ([L87])) (by subst e_W125 e_P123 e_x121 e_W120 e_W118 e_P116 e_x114;kernel_rfl) (by kernel_rfl) (by kernel_rfl) ?_
           refine TL_nil (stageTQ_of [] (by kernel_rfl) trivial ?_)
           refine StageT_cons [0] (stageT_all [1,2,3,4,10,11,12,13] [5,14] (by kernel_rfl) (by subst e_W125 e_P123 e_x121 e_W120 e_W118 e_P116 e_x114;kernel_rfl) (by kernel_rfl) ⟨QF_at (i:=5) (d:=232) (x:=.lf (.v (.slice (cutA Au0_0 cu0_0 0 11) (P116.length) (cu0_0 - 0)))) (show OpAt _ _ _ 5 232 _ from by exact At_slR (d:=232) (a:=none) (b:=(some x114)) (P:=P116) (by subst e_W125 e_P123 e_x121 e_W120 e_W118 e_P116 e_x114;kernel_rfl) ((hu0_0.le hM12).le hM53) none_nn (some_nn g115.2.1) g115.2.2.1 g115.2.2.2 e_P116) (by kernel_rfl) (by subst e_W125 e_P123 e_x121 e_W120 e_W118 e_P116 e_x114;kernel_rfl),⟨QF_at (i:=14) (d:=241) (x:=.lf (.v (.slice (cutA Au0_0 cu0_0 ((x121).toNat) 11) (P123.length) (cu0_0 - (x121).toNat)))) (show OpAt _ _ _ 14 241 _ from by exact At_slR (d:=241) (a:=(some x121)) (b:=none) (P:=P123) (by subst e_W125 e_P123 e_x121 e_W120 e_W118 e_P116 e_x114;kernel_rfl) ((hu0_0.le hM12).le hM53) (some_nn g122.1) none_nn g122.2.2.1 g122.2.2.2 e_P123) (by kernel_rfl) (by subst e_W125 e_P123 e_x121 e_W120 e_W118 e_P116 e_x114;kernel_rfl),trivial⟩⟩) (by kernel_rfl) (by kernel_rfl) ⟨?_,trivial⟩
           ·refine TE_litC (d:=227) (e:=43) (sz:=11) (len:=0) (cs:=rowsC .i64 ([] : List (List Int))) (by subst e_W125 e_P123 e_x121 e_W120 e_W118 e_P116 e_x114;kernel_rfl) (by kernel_rfl) (by kernel_rfl) ?_
            refine TL_nil (stageTQ_of [] (by kernel_rfl) trivial ?_)
            refine StageT_cons [6] (stageT_all [1,2,3,4,10,11,12,13] [5,14] (by kernel_rfl) (by subst e_W125 e_P123 e_x121 e_W120 e_W118 e_P116 e_x114;kernel_rfl) (by kernel_rfl) ⟨QF_at (i:=5) (d:=232) (x:=.lf (.v (.slice (cutA Au0_0 cu0_0 0 11) (P116.length) (cu0_0 - 0)))) (show OpAt _ _ _ 5 232 _ from by exact At_slR (d:=232) (a:=none) (b:=(some x114)) (P:=P116) (by subst e_W125 e_P123 e_x121 e_W120 e_W118 e_P116 e_x114;kernel_rfl) ((hu0_0.le hM12).le hM53) none_nn (some_nn g115.2.1) g115.2.2.1 g115.2.2.2 e_P116) (by kernel_rfl) (by subst e_W125 e_P123 e_x121 e_W120 e_W118 e_P116 e_x114;kernel_rfl),⟨QF_at (i:=14) (d:=241) (x:=.lf (.v (.slice (cutA Au0_0 cu0_0 ((x121).toNat) 11) (P123.length) (cu0_0 - (x121).toNat)))) (show OpAt _ _ _ 14 241 _ from by exact At_slR (d:=241) (a:=(some x121)) (b:=none) (P:=P123) (by subst e_W125 e_P123 e_x121 e_W120 e_W118 e_P116 e_x114;kernel_rfl) ((hu0_0.le hM12).le hM53) (some_nn g122.1) none_nn g122.2.2.1 g122.2.2.2 e_P123) (by kernel_rfl) (by subst e_W125 e_P123 e_x121 e_W120 e_W118 e_P116 e_x114;kernel_rfl),trivial⟩⟩) (by kernel_rfl) (by kernel_rfl) ⟨?_,trivial⟩
            ·refine TE_appC (d:=233) (e:=43) (sz:=11) (bytes:=88) (n:=227) (x:=(.tmp 232)) (len:=List.length ([] : List (List Int))) (cs0:=rowsC .i64 ([] : List (List Int))) (cs2:=rowsC .i64 W118) (by subst e_W125 e_P123 e_x121 e_W120 e_W118 e_P116 e_x114;kernel_rfl) (by kernel_rfl) (by subst e_W125 e_P123 e_x121 e_W120 e_W118 e_P116 e_x114;kernel_rfl) (SlR.src (by subst e_W125 e_P123 e_x121 e_W120 e_W118 e_P116 e_x114;kernel_rfl) (SlR.part ((hu0_0.le hM12).le hM53) e_P116 g115.2.2.1 g115.2.2.2) rfl) g117 rfl (len_app_eq e_W118) (rowsC_app_eq e_W118) ?_
             refine TL_nil (stageTQ_of [] (by kernel_rfl) trivial ?_)
             refine StageT_cons [9] (stageT_all [10,11,12,13] [14] (by kernel_rfl) (by subst e_W125 e_P123 e_x121 e_W120 e_W118 e_P116 e_x114;kernel_rfl) (by kernel_rfl) ⟨QF_at (i:=14) (d:=241) (x:=.lf (.v (.slice (cutA Au0_0 cu0_0 ((x121).toNat) 11) (P123.length) (cu0_0 - (x121).toNat)))) (show OpAt _ _ _ 14 241 _ from by exact At_slR (d:=241) (a:=(some x121)) (b:=none) (P:=P123) (by subst e_W125 e_P123 e_x121 e_W120 e_W118 e_P116 e_x114;kernel_rfl) ((hu0_0.le hM12).le hM53) (some_nn g122.1) none_nn g122.2.2.1 g122.2.2.2 e_P123) (by kernel_rfl) (by subst e_W125 e_P123 e_x121 e_W120 e_W118 e_P116 e_x114;kernel_rfl),trivial⟩) (by kernel_rfl) (by kernel_rfl) ⟨?_,trivial⟩
             ·refine TE_appC (d:=236) (e:=43) (sz:=11) (bytes:=88) (n:=233) (x:=(.tmp 235)) (len:=List.length W118) (cs0:=rowsC .i64 W118) (cs2:=rowsC .i64 W120) (by subst e_W125 e_P123 e_x121 e_W120 e_W118 e_P116 e_x114;kernel_rfl) (by kernel_rfl) (by subst e_W125 e_P123 e_x121 e_W120 e_W118 e_P116 e_x114;kernel_rfl) (vecR_src (n:=235) (e:=43) (k:=.i64) (m:=11) (R:=[L87]) (by subst e_W125 e_P123 e_x121 e_W120 e_W118 e_P116 e_x114;kernel_rfl) (by subst e_W125 e_P123 e_x121 e_W120 e_W118 e_P116 e_x114;kernel_rfl) (rows_cons l_L87 rows_nil)) g119 rfl (len_app_eq e_W120) (rowsC_app_eq e_W120) ?_
              refine TL_nil (stageTQ_of [] (by kernel_rfl) trivial ?_)
              refine StageT_cons [15] (stageT_all [10,11,12,13] [14] (by kernel_rfl) (by subst e_W125 e_P123 e_x121 e_W120 e_W118 e_P116 e_x114;kernel_rfl) (by kernel_rfl) ⟨QF_at (i:=14) (d:=241) (x:=.lf (.v (.slice (cutA Au0_0 cu0_0 ((x121).toNat) 11) (P123.length) (cu0_0 - (x121).toNat)))) (show OpAt _ _ _ 14 241 _ from by exact At_slR (d:=241) (a:=(some x121)) (b:=none) (P:=P123) (by subst e_W125 e_P123 e_x121 e_W120 e_W118 e_P116 e_x114;kernel_rfl) ((hu0_0.le hM12).le hM53) (some_nn g122.1) none_nn g122.2.2.1 g122.2.2.2 e_P123) (by kernel_rfl) (by subst e_W125 e_P123 e_x121 e_W120 e_W118 e_P116 e_x114;kernel_rfl),trivial⟩) (by kernel_rfl) (by kernel_rfl) ⟨?_,trivial⟩
              ·refine TE_appC (d:=242) (e:=43) (sz:=11) (bytes:=88) (n:=236) (x:=(.tmp 241)) (len:=List.length W120) (cs0:=rowsC .i64 W120) (cs2:=rowsC .i64 W125) (by subst e_W125 e_P123 e_x121 e_W120 e_W118 e_P116 e_x114;kernel_rfl) (by kernel_rfl) (by subst e_W125 e_P123 e_x121 e_W120 e_W118 e_P116 e_x114;kernel_rfl) (SlR.src (by subst e_W125 e_P123 e_x121 e_W120 e_W118 e_P116 e_x114;kernel_rfl) (SlR.part ((hu0_0.le hM12).le hM53) e_P123 g122.2.2.1 g122.2.2.2) rfl) g124 rfl (len_app_eq e_W125) (rowsC_app_eq e_W125) ?_
               refine TL_nil (stageTQ_of [(243,.lf (.own 24 0))] (by kernel_rfl) ⟨trivial,trivial⟩ ?_)
               refine StageT_cons [17] (stageT_all [16] [] (by kernel_rfl) (by subst e_W125 e_P123 e_x121 e_W120 e_W118 e_P116 e_x114;kernel_rfl) (by kernel_rfl) trivial) (by kernel_rfl) (by kernel_rfl) ⟨?_,trivial⟩
               ·refine StepT_ex ({ σ := [(243,.lf (.own 24 0)),(242,.lf (.vec 242)),(236,.lf (.vec 236)),(233,.lf (.vec 233)),(227,.lf (.vec 227)),(235,.lf (.vec 235)),(228,.lf (.own 6 0)),(229,.lf (.v (.slice Au0_0 (u0_0.length) cu0_0))),(230,vi x19),(231,vi x114),(232,.lf (.v (.slice (cutA Au0_0 cu0_0 0 11) (P116.length) (cu0_0 - 0)))),(234,.agg [.arr .i64 11 L87]),(237,.lf (.own 6 0)),(238,.lf (.v (.slice Au0_0 (u0_0.length) cu0_0))),(239,vi x19),(240,vi x121),(241,.lf (.v (.slice (cutA Au0_0 cu0_0 ((x121).toNat) 11) (P123.length) (cu0_0 - (x121).toNat)))),(6,.lf (.own 6 0)),(7,.lf (.own 7 0)),(14,vi v13),(17,vi x19),(22,.lf (.own 22 0)),(24,.lf (.own 24 0))],H := [(24,[.one (.vec 242),.arr .i64 4 u0_1]),(6,[.one (.v (.slice Au0_0 (u0_0.length) cu0_0)),.arr .i64 4 u0_1]),(7,[.arr .i64 7 u1]),(22,[.arr .i64 11 L87]),(24,[.one (.v (.slice Au0_0 (u0_0.length) cu0_0)),.arr .i64 4 u0_1])],V := [(242,⟨43,11,List.length W125,rowsC .i64 W125⟩),(235,⟨43,11,List.length ([L87]),rowsC .i64 ([L87])⟩)],M := M53,ds := [] }) (by subst e_W125 e_P123 e_x121 e_W120 e_W118 e_P116 e_x114;kernel_rfl) [] (by kernel_rfl) trivial ?_
                refine StageT_leaf (stageT_all [] [] (by kernel_rfl) (by subst e_W125 e_P123 e_x121 e_W120 e_W118 e_P116 e_x114;kernel_rfl) (by kernel_rfl) trivial) (by kernel_rfl) ?_
                exact ⟨rfl,keep_sub (s':={ σ := [(7,.lf (.own 7 0)),(14,vi v13),(24,.lf (.own 24 0))],H := [(7,[.arr .i64 7 u1]),(24,[.one (.vec 242),.arr .i64 4 u0_1])],V := [(242,⟨43,11,List.length W125,rowsC .i64 W125⟩)],M := M53,ds := [] }) (ts:=[7,14,24]) (hs:=[7,24]) (vs:=[242]) (by subst e_W125 e_P123 e_x121 e_W120 e_W118 e_P116 e_x114;kernel_rfl)⟩
         ·intro s' hsub
          refine thenQ_n ?_
          refine T_sub hsub ?_
          refine T_sq (by kernel_rfl) ?_
          refine T_region (id:=28) (by kernel_rfl) ?_
          refine TI_segK (i:=0) (j:=2) (s':={ σ := [(14,vi v13),(245,.agg [.one (.vec 242),.arr .i64 4 u0_1]),(246,.agg [.arr .i64 7 u1])],H := [],V := [(242,⟨43,11,List.length W125,rowsC .i64 W125⟩)],M := M53,ds := [] }) [14,245,246] [] [242] (by kernel_rfl) (by kernel_rfl) ?_
          refine TI_turn (turn_pubV 242 (v:=⟨43,11,List.length W125,rowsC .i64 W125⟩) (by kernel_rfl)) ?_
          rintro _ ⟨A126,c127,M128,rfl,hSA126,hcA126,-,hNA126,hM128⟩
          have fA126 : SlR M128 A126 c127 .i64 11 W125 := ⟨r_W125,hSA126,hcA126⟩
          obtain ⟨v129,v130,c_v129,h⟩ := cl2_some h
          refine TI_at (i:=2) (d:=247) (x:=.tup [(some (.v (.int .i64 v129)),[]),(some (.v (.int .i64 v130)),[])]) (At_call (d:=247) (f:=14) (args:=[rval (.agg [.one (.v (.slice A126 (W125.length) c127)),.arr .i64 4 u0_1]),rval (.agg [.arr .i64 7 u1])]) (x:=.tup [(some (.v (.int .i64 v129)),[]),(some (.v (.int .i64 v130)),[])]) (by kernel_rfl) (w14 k fA126 hu0_1 hu1 c_v129)) (by kernel_rfl) (by intro y hy; simp only [List.mem_cons,List.mem_nil_iff,or_false] at hy; rcases hy with rfl | rfl <;> exact trivial) ?_
          refine TI_segK (i:=3) (j:=8) (s':={ σ := [(14,vi v13),(20,vi v129),(21,vi v130)],H := [],V := [],M := M128,ds := [] }) [14,20,21] [] [] (by kernel_rfl) (by kernel_rfl) ?_
          refine TI_end (by kernel_rfl) ?_
          refine thenQ_n ?_
          obtain ⟨j132,e_j132,h⟩ := jn_some h
          refine T_cut (c1:=(sub [1,1,1,1,1,1,1,1,1,1,1,1,1,1,1,1,1,1,0] Bd3)) (c2:=(sub [1,1,1,1,1,1,1,1,1,1,1,1,1,1,1,1,1,1,1] Bd3)) (fun s' => ∃ (b131 : Bool),Sub { σ := [(12,vb b131)],H := [],V := [],M := M128,ds := [] } s' ∧ j132 b131 = some r) (by kernel_rfl) ?_ ?_
          ·refine T_region (id:=29) (by kernel_rfl) ?_
           obtain ⟨b133,e_b133,h⟩ := lt_some h
           refine TI_segK (i:=0) (j:=3) (s':={ σ := [(14,vi v13),(20,vi v129),(252,vb b133)],H := [],V := [],M := M128,ds := [] }) [14,20,252] [] [] (by subst e_b133;kernel_rfl) (by kernel_rfl) ?_
           cases b133 with
           | true =>
            replace h := sp_t h
            obtain ⟨b134,e_b134,h⟩ := lt_some h
            refine TI_segS (i:=3) (j:=6) [(14,vi v13),(20,vi v129),(252,vb true),(255,vb b134)] (by subst e_b134;kernel_rfl) (by kernel_rfl) ?_
            cases b134 with
            | true =>
             replace h := sp_t h
             refine TI_segS (i:=6) (j:=12) [(261,vb true)] (by kernel_rfl) (by kernel_rfl) ?_
             obtain ⟨v135,c_v135,h⟩ := cl_some h
             refine TI_at (i:=12) (d:=262) (x:=vb v135) (At_call (d:=262) (f:=12) (args:=[]) (x:=vb v135) (by kernel_rfl) (w12 k  c_v135)) (by kernel_rfl) trivial ?_
             refine TI_segK (i:=13) (j:=15) (s':={ σ := [(12,vb v135)],H := [],V := [],M := M128,ds := [] }) [12] [] [] (by kernel_rfl) (by kernel_rfl) ?_
             refine TI_end (by kernel_rfl) ?_
             refine thenQ_n ?_
             exact ⟨v135,keep_sub (ts:=[12]) (hs:=[]) (vs:=[]) (by kernel_rfl),h⟩
            | false =>
             replace h := sp_f h
             obtain ⟨b136,e_b136,h⟩ := lt_some h
             refine TI_segS (i:=6) (j:=12) [(261,vb b136)] (by subst e_b136;kernel_rfl) (by kernel_rfl) ?_
             cases b136 with
             | true =>
              replace h := sp_t h
              obtain ⟨v137,c_v137,h⟩ := cl_some h
              refine TI_at (i:=12) (d:=262) (x:=vb v137) (At_call (d:=262) (f:=12) (args:=[]) (x:=vb v137) (by kernel_rfl) (w12 k  c_v137)) (by kernel_rfl) trivial ?_
              refine TI_segK (i:=13) (j:=15) (s':={ σ := [(12,vb v137)],H := [],V := [],M := M128,ds := [] }) [12] [] [] (by kernel_rfl) (by kernel_rfl) ?_
              refine TI_end (by kernel_rfl) ?_
              refine thenQ_n ?_
              exact ⟨v137,keep_sub (ts:=[12]) (hs:=[]) (vs:=[]) (by kernel_rfl),h⟩
             | false =>
              replace h := sp_f h
              refine TI_segS (i:=12) (j:=15) [(12,vb false)] (by kernel_rfl) (by kernel_rfl) ?_
              refine TI_end (by kernel_rfl) ?_
              refine thenQ_n ?_
              exact ⟨false,keep_sub (ts:=[12]) (hs:=[]) (vs:=[]) (by kernel_rfl),h⟩
           | false =>
            replace h := sp_f h
            refine TI_segS (i:=3) (j:=15) [(12,vb false)] (by kernel_rfl) (by kernel_rfl) ?_
            refine TI_end (by kernel_rfl) ?_
            refine thenQ_n ?_
            exact ⟨false,keep_sub (ts:=[12]) (hs:=[]) (vs:=[]) (by kernel_rfl),h⟩
          ·rintro s' ⟨b131,hsub,h⟩
           subst e_j132
           refine T_sub hsub ?_
           refine T_ret (by kernel_rfl) ?_
           have h := Option.some.inj h
           subst h
           refine fin_ret (vb b131) (by kernel_rfl) (by kernel_rfl) rfl ?_
           rfl
end Go.Proofs.Ythjkejbgknemgaa
namespace Go.Proofs.Ythjkejbgknemgaa
open Go.RowKit Classical
theorem wr64 {z : Int} (h1 : -9223372036854775808 ≤ z) (h2 : z ≤ 9223372036854775807) : wr .i64 z = z := by
  simp only [wr, IntKind.wrap, IntKind.signed, IntKind.bits]
  simp
  omega
theorem mx_eq (x y : Int) : mx x y = max x y := by unfold mx; omega
theorem mn_eq (x y : Int) : mn x y = min x y := by unfold mn; omega
theorem lt_v {α β : Type} (x : β) (F : β → Option α) : lt' x F = F x := rfl
theorem jn_v {α β : Type} (F : β) (G : β → Option α) : jn F G = G F := rfl
theorem cl_v {α β : Type} (v : β) (F : β → Option α) : cl (some v) F = F v := rfl
theorem cl2_v {α β γ : Type} (a : α) (b : β) (F : α → β → Option γ) : cl2 (some (a, b)) F = F a b := rfl
theorem sp_tt {α : Type} (x y : Option α) : sp true x y = x := rfl
theorem sp_ff {α : Type} (x y : Option α) : sp false x y = y := rfl
theorem sp_d {α : Type} {c : Prop} [h : Decidable c] (x y : Option α) : sp (decide c) x y = if c then x else y := by
  cases h <;> rfl
theorem sp_nd {α : Type} {c : Prop} [h : Decidable c] (x y : Option α) : sp (!decide c) x y = if c then y else x := by
  cases h <;> rfl
theorem gd_v {α : Type} {c : Prop} [Decidable c] (h : c) (x : Option α) : gd c x = x := by unfold gd; rw [if_pos h]
def rA (r : List Int) : Int := r.getD 0 0
def rPL (r : List Int) : Int := r.getD 1 0
def rPH (r : List Int) : Int := r.getD 2 0
def rVL (k : Nat) (r : List Int) : Int := r.getD (3 + k * 2 + 0) 0
def rVH (k : Nat) (r : List Int) : Int := r.getD (3 + k * 2 + 1) 0
def bandOk (a b : Int) : Prop := -1073741824 ≤ a ∧ a ≤ b ∧ b ≤ 1073741824
instance bandDec (a b : Int) : Decidable (bandOk a b) := inferInstanceAs (Decidable (-1073741824 ≤ a ∧ a ≤ b ∧ b ≤ 1073741824))
def readOk (r : List Int) : Prop := 0 ≤ rA r ∧ rA r ≤ 1099511627776 ∧ bandOk (rPL r) (rPH r) ∧ ∀ k, k < 4 → bandOk (rVL k r) (rVH k r)
def rd (R : List (List Int)) (i : Nat) : List Int := R.getD i []
def stT (R : List (List Int)) : Int := rA (rd R 0)
def lastI (R : List (List Int)) : Int := rA (rd R (R.length - 1)) - stT R
structure ArgOk (R : List (List Int)) (D : List Int) : Prop where
  n2 : 2 ≤ R.length
  read : ∀ i, i < R.length → readOk (rd R i)
  asc : ∀ i, i + 1 < R.length → rA (rd R i) < rA (rd R (i + 1))
  span : lastI R ≤ 2000
  dr : ∀ k, k < 4 → 0 ≤ D.getD k 0 ∧ D.getD k 0 ≤ 1048576
def ab (x : Int) : Int := max x (-x)
def PL (t : Int) : List (List Int) → Int → Int
  | [], b => b
  | r :: l, b => PL t l (if rA r ≤ t then max b (rPL r) else b)
def PH (t : Int) : List (List Int) → Int → Int
  | [], b => b
  | r :: l, b => PH t l (if t ≤ rA r then min b (rPH r) else b)
def VL (d : Int) (k : Nat) (t : Int) : List (List Int) → Int → Int
  | [], b => b
  | r :: l, b => VL d k t l (max b (rVL k r - d * ab (rA r - t)))
def VH (d : Int) (k : Nat) (t : Int) : List (List Int) → Int → Int
  | [], b => b
  | r :: l, b => VH d k t l (min b (rVH k r + d * ab (rA r - t)))
def pl (R : List (List Int)) (m : Int) : Int := PL (stT R + m) R (-1099511627776)
def ph (R : List (List Int)) (m : Int) : Int := PH (stT R + m) R 1099511627776
def vl (R : List (List Int)) (D : List Int) (k : Nat) (m : Int) : Int := VL (D.getD k 0) k (stT R + m) R (-1125899906842624)
def vh (R : List (List Int)) (D : List Int) (k : Nat) (m : Int) : Int := VH (D.getD k 0) k (stT R + m) R 1125899906842624
def SumAt (R : List (List Int)) (D : List Int) (m : Int) : Prop := pl R m ≤ ph R m ∧ ∀ k, k < 4 → vl R D k m ≤ vh R D k m
def SumOk (R : List (List Int)) (D : List Int) : Prop := ∀ m : Int, 0 ≤ m → m ≤ lastI R → SumAt R D m
noncomputable def logE (R : List (List Int)) (D : List Int) : Int := if 64 < R.length then 6 else if ¬ ArgOk R D then 2 else if ¬ SumOk R D then 16 else 0
structure LogOk (R : List (List Int)) (D : List Int) : Prop where
  n64 : R.length ≤ 64
  arg : ArgOk R D
  sum : SumOk R D
theorem logE_zero {R D} : logE R D = 0 ↔ LogOk R D := by
  unfold logE
  constructor
  · intro h
    split at h
    · omega
    · split at h
      · omega
      · split at h
        · omega
        · rename_i h1 h2 h3
          exact ⟨by omega, Classical.not_not.1 h2, Classical.not_not.1 h3⟩
  · intro h
    rw [if_neg (by have := h.n64; omega), if_neg (by have := h.arg; simpa using this), if_neg (by have := h.sum; simpa using this)]
theorem PL_le {t x : Int} : ∀ {l : List (List Int)} {b : Int}, PL t l b ≤ x ↔ b ≤ x ∧ ∀ r ∈ l, rA r ≤ t → rPL r ≤ x
  | [], b => by simp [PL]
  | r :: l, b => by
    simp only [PL]
    rw [PL_le]
    simp only [List.mem_cons, forall_eq_or_imp]
    split
    · rename_i h; constructor
      · rintro ⟨h1, h2⟩; exact ⟨by omega, fun _ => by omega, h2⟩
      · rintro ⟨h1, h2, h3⟩; have := h2 h; exact ⟨by omega, h3⟩
    · rename_i h; constructor
      · rintro ⟨h1, h2⟩; exact ⟨h1, fun hh => absurd hh h, h2⟩
      · rintro ⟨h1, _, h3⟩; exact ⟨h1, h3⟩
theorem le_PH {t x : Int} : ∀ {l : List (List Int)} {b : Int}, x ≤ PH t l b ↔ x ≤ b ∧ ∀ r ∈ l, t ≤ rA r → x ≤ rPH r
  | [], b => by simp [PH]
  | r :: l, b => by
    simp only [PH]
    rw [le_PH]
    simp only [List.mem_cons, forall_eq_or_imp]
    split
    · rename_i h; constructor
      · rintro ⟨h1, h2⟩; exact ⟨by omega, fun _ => by omega, h2⟩
      · rintro ⟨h1, h2, h3⟩; have := h2 h; exact ⟨by omega, h3⟩
    · rename_i h; constructor
      · rintro ⟨h1, h2⟩; exact ⟨h1, fun hh => absurd hh h, h2⟩
      · rintro ⟨h1, _, h3⟩; exact ⟨h1, h3⟩
theorem VL_le {d t x : Int} {k : Nat} : ∀ {l : List (List Int)} {b : Int}, VL d k t l b ≤ x ↔ b ≤ x ∧ ∀ r ∈ l, rVL k r - d * ab (rA r - t) ≤ x
  | [], b => by simp [VL]
  | r :: l, b => by
    simp only [VL]
    rw [VL_le]
    simp only [List.mem_cons, forall_eq_or_imp]
    constructor
    · rintro ⟨h1, h2⟩; exact ⟨by omega, by omega, h2⟩
    · rintro ⟨h1, h2, h3⟩; exact ⟨by omega, h3⟩
theorem le_VH {d t x : Int} {k : Nat} : ∀ {l : List (List Int)} {b : Int}, x ≤ VH d k t l b ↔ x ≤ b ∧ ∀ r ∈ l, x ≤ rVH k r + d * ab (rA r - t)
  | [], b => by simp [VH]
  | r :: l, b => by
    simp only [VH]
    rw [le_VH]
    simp only [List.mem_cons, forall_eq_or_imp]
    constructor
    · rintro ⟨h1, h2⟩; exact ⟨by omega, by omega, h2⟩
    · rintro ⟨h1, h2, h3⟩; exact ⟨by omega, h3⟩
theorem p49_eq (k : Nat) (x a b : Int) : p49 k x a b = some (decide (a ≤ x ∧ x ≤ b)) := by
  unfold p49
  simp only [jn_v, lt_v, sp_d]
  repeat' split
  all_goals first | exact congrArg some (decide_eq_decide.2 (by omega)) | exact congrArg some (decide_eq_false (by omega)).symm
theorem p50_eq (k : Nat) (x a b : Int) : p50 k x a b = some (decide (a ≤ x ∧ x ≤ b)) := by
  unfold p50
  simp only [jn_v, lt_v, sp_d]
  repeat' split
  all_goals first | exact congrArg some (decide_eq_decide.2 (by omega)) | exact congrArg some (decide_eq_false (by omega)).symm
theorem p52_eq (k : Nat) (L : List Int) : p52 k L = some (decide (bandOk (L.getD 0 0) (L.getD 1 0))) := by
  unfold p52 bandOk
  simp only [jn_v, lt_v, sp_d]
  generalize L.getD 0 0 = a
  generalize L.getD 1 0 = b
  repeat' split
  all_goals first | exact congrArg some (decide_eq_decide.2 (by omega)) | exact congrArg some (decide_eq_false (by omega)).symm
theorem p61_eq (k : Nat) (L : List Int) : p61 k L = some (decide (bandOk (L.getD 0 0) (L.getD 1 0))) := by
  unfold p61 bandOk
  simp only [jn_v, lt_v, p49_eq, cl_v, sp_d]
  generalize L.getD 0 0 = a
  generalize L.getD 1 0 = b
  repeat' split
  all_goals first | exact congrArg some (decide_eq_decide.2 (by omega)) | exact congrArg some (decide_eq_false (by omega)).symm
def ClaimOk (u : List Int) : Prop :=
  -1073741824 ≤ u.getD 0 0 ∧ u.getD 0 0 ≤ u.getD 1 0 ∧ u.getD 1 0 ≤ 1073741824 ∧ 0 ≤ u.getD 2 0 ∧ u.getD 2 0 < 4 ∧ -1073741824 ≤ u.getD 3 0 ∧ u.getD 3 0 ≤ 1073741824 ∧
  0 ≤ u.getD 4 0 ∧ u.getD 4 0 ≤ u.getD 5 0 ∧ u.getD 5 0 ≤ 1099511627776 ∧ 0 ≤ u.getD 6 0 ∧ u.getD 6 0 ≤ 67108864
noncomputable def claimE (u : List Int) : Int := if ClaimOk u then 0 else 2
theorem claimE_zero {u} : claimE u = 0 ↔ ClaimOk u := by
  unfold claimE
  split
  · rename_i h; exact ⟨fun _ => h, fun _ => rfl⟩
  · rename_i h; exact ⟨fun hh => by omega, fun hh => absurd hh h⟩
theorem p32_eq (k : Nat) (u : List Int) : p32 k u = some (claimE u) := by
  unfold p32 claimE ClaimOk
  simp only [jn_v, lt_v, p49_eq, p61_eq, cl_v, sp_d, bandOk, List.getD_cons_zero, List.getD_cons_succ]
  generalize u.getD 0 0 = a0
  generalize u.getD 1 0 = a1
  generalize u.getD 2 0 = a2
  generalize u.getD 3 0 = a3
  generalize u.getD 4 0 = a4
  generalize u.getD 5 0 = a5
  generalize u.getD 6 0 = a6
  simp only [← decide_not, sp_tt, sp_ff, sp_d]
  repeat' split
  all_goals first | rfl | (exfalso; omega)
theorem p33_eq (k : Nat) (u : List Int) : p33 k u = some (claimE u) := by
  unfold p33 claimE ClaimOk
  simp only [jn_v, lt_v, p50_eq, cl_v, sp_d]
  generalize u.getD 0 0 = a0
  generalize u.getD 1 0 = a1
  generalize u.getD 2 0 = a2
  generalize u.getD 3 0 = a3
  generalize u.getD 4 0 = a4
  generalize u.getD 5 0 = a5
  generalize u.getD 6 0 = a6
  simp only [← decide_not, sp_tt, sp_ff, sp_d]
  repeat' split
  all_goals first | rfl | (exfalso; omega)
end Go.Proofs.Ythjkejbgknemgaa
namespace Go.Proofs.Ythjkejbgknemgaa
open Go.RowKit Classical
theorem drop_rd {R : List (List Int)} {i : Nat} (h : i < R.length) : R.drop i = rd R i :: R.drop (i + 1) := by
  rw [List.drop_eq_getElem_cons h]
  simp [rd, List.getD_eq_getElem?_getD, List.getElem?_eq_getElem h]
theorem mem_rd {R : List (List Int)} {r : List Int} (h : r ∈ R) : ∃ i, i < R.length ∧ rd R i = r := by
  obtain ⟨i, hi, rfl⟩ := List.getElem_of_mem h
  exact ⟨i, hi, by simp [rd, List.getD_eq_getElem?_getD, List.getElem?_eq_getElem hi]⟩
theorem rd_mem {R : List (List Int)} {i : Nat} (h : i < R.length) : rd R i ∈ R := by
  simp only [rd, List.getD_eq_getElem?_getD, List.getElem?_eq_getElem h, Option.getD_some]
  exact List.getElem_mem h
theorem asc_lt {R : List (List Int)} (ha : ∀ i, i + 1 < R.length → rA (rd R i) < rA (rd R (i + 1))) : ∀ {d i : Nat}, i + d + 1 < R.length → rA (rd R i) < rA (rd R (i + d + 1))
  | 0, i, h => ha i h
  | d + 1, i, h => by
    have h1 := asc_lt ha (d := d) (i := i) (by omega)
    have h2 := ha (i + d + 1) (by omega)
    have : i + (d + 1) + 1 = i + d + 1 + 1 := by omega
    rw [this]; omega
theorem asc_le {R : List (List Int)} (ha : ∀ i, i + 1 < R.length → rA (rd R i) < rA (rd R (i + 1))) {i j : Nat} (hij : i ≤ j) (hj : j < R.length) : rA (rd R i) ≤ rA (rd R j) := by
  rcases Nat.eq_or_lt_of_le hij with e | e
  · rw [e]; exact Int.le_refl _
  · have := asc_lt ha (d := j - i - 1) (i := i) (by omega)
    rw [show i + (j - i - 1) + 1 = j from by omega] at this
    omega
theorem ArgOk.range {R D} (h : ArgOk R D) {i : Nat} (hi : i < R.length) : stT R ≤ rA (rd R i) ∧ rA (rd R i) ≤ stT R + lastI R := by
  have := h.n2
  refine ⟨asc_le h.asc (Nat.zero_le _) hi, ?_⟩
  have := asc_le h.asc (i := i) (j := R.length - 1) (by omega) (by omega)
  unfold lastI
  omega
theorem ArgOk.st {R D} (h : ArgOk R D) : 0 ≤ stT R ∧ stT R ≤ 1099511627776 := by
  have := h.n2
  have := h.read 0 (by omega)
  exact ⟨this.1, this.2.1⟩
theorem ArgOk.last {R D} (h : ArgOk R D) : 1 ≤ lastI R := by
  have h2 := h.n2
  have := h.asc 0 (by omega)
  rw [Nat.zero_add] at this
  have h3 := asc_le h.asc (i := 1) (j := R.length - 1) (by omega) (by omega)
  unfold lastI stT
  omega
theorem p45_eq {k : Nat} {R : List (List Int)} {D : List Int} {m : Int} (h0 : 0 < R.length) (h1 : -9223372036854775808 ≤ stT R + m) (h2 : stT R + m ≤ 9223372036854775807) : p45 k R D m = some (stT R + m) := by
  unfold p45
  rw [gd_v (by omega)]
  simp only [lt_v]
  rw [show (R.getD 0 []).getD 0 0 + m = stT R + m from rfl, wr64 h1 h2]
theorem p53_eq {k : Nat} {R : List (List Int)} {D : List Int} (h0 : 0 < R.length) (hn : R.length ≤ 64) (h1 : -9223372036854775808 ≤ lastI R) (h2 : lastI R ≤ 9223372036854775807) : p53 k R D = some (lastI R) := by
  unfold p53
  simp only [lt_v]
  rw [wr64 (by omega) (by omega), gd_v (by omega), gd_v (by omega)]
  rw [show ((R.length : Int) - 1).toNat = R.length - 1 from by omega]
  rw [show (R.getD (R.length - 1) []).getD 0 0 - (R.getD 0 []).getD 0 0 = lastI R from rfl, wr64 h1 h2]
theorem p16_l1_eq {k : Nat} {R : List (List Int)} {D : List Int} {m t : Int} (hn : R.length ≤ 64) (ht : p45 k R D m = some t) (j : List Int → Option (List Int)) : ∀ (d i n : Nat) (a b : Int), i + d = R.length → d < n →
    p16_l1 k R D m j n (i : Int) [a, b] = j [PL t (R.drop i) a, PH t (R.drop i) b]
  | 0, i, n, a, b, h1, h2 => by
    obtain ⟨n, rfl⟩ : ∃ n', n = n' + 1 := ⟨n - 1, by omega⟩
    rw [p16_l1]
    simp only [lt_v, sp_d]
    rw [if_neg (by omega), List.drop_eq_nil_of_le (by omega)]
    rfl
  | d + 1, i, n, a, b, h1, h2 => by
    obtain ⟨n, rfl⟩ : ∃ n', n = n' + 1 := ⟨n - 1, by omega⟩
    rw [p16_l1]
    simp only [lt_v, sp_d, jn_v]
    rw [if_pos (by omega), gd_v (by omega)]
    simp only [ht, cl_v, mx_eq, mn_eq, Int.toNat_natCast]
    have hw : wr .i64 ((i : Int) + 1) = ((i + 1 : Nat) : Int) := by rw [wr64 (by omega) (by omega)]; omega
    rw [drop_rd (by omega : i < R.length)]
    simp only [PL, PH]
    have ih := fun a b => p16_l1_eq hn ht j d (i + 1) n a b (by omega) (by omega)
    show (if rA (rd R i) ≤ t then _ else _) = _
    have e1 : ∀ a b x : Int, List.set [a, b] 0 x = [x, b] := fun _ _ _ => rfl
    have e2 : ∀ a b x : Int, List.set [a, b] 1 x = [a, x] := fun _ _ _ => rfl
    simp only [e1, e2, List.getD_cons_zero, List.getD_cons_succ, hw, ih, ge_iff_le]
    show (if rA (rd R i) ≤ t then (if t ≤ rA (rd R i) then _ else _) else (if t ≤ rA (rd R i) then _ else _)) = _
    split <;> split <;> rfl
theorem p16_eq {k : Nat} (hk : 5000 ≤ k) {R : List (List Int)} {D : List Int} {m : Int} (h0 : 0 < R.length) (hn : R.length ≤ 64) (h1 : -9223372036854775808 ≤ stT R + m) (h2 : stT R + m ≤ 9223372036854775807) : p16 k R D m = some [pl R m, ph R m] := by
  unfold p16
  simp only [jn_v]
  have := p16_l1_eq hn (p45_eq (k := k) (D := D) h0 h1 h2) (fun L => some L) R.length 0 k (-1099511627776) 1099511627776 (by omega) (by omega)
  rw [List.drop_zero] at this
  exact this
theorem ab_mul {d x : Int} (h0 : 0 ≤ d) (h1 : d ≤ 1048576) (h2 : -2001 ≤ x) (h3 : x ≤ 2001) : 0 ≤ d * ab x ∧ d * ab x ≤ 2098200576 := by
  have : 0 ≤ ab x ∧ ab x ≤ 2001 := by unfold ab; omega
  constructor
  · exact Int.mul_nonneg h0 this.1
  · calc d * ab x ≤ 1048576 * 2001 := Int.mul_le_mul h1 this.2 this.1 (by omega)
      _ = 2098200576 := by rfl
theorem p17_l1_eq {k : Nat} {R : List (List Int)} {D : List Int} {m : Int} {kk : Nat} (hn : R.length ≤ 64) (ha : ArgOk R D) (hm0 : 0 ≤ m) (hm1 : m ≤ lastI R) (hk4 : kk < 4) (j : List Int → Option (List Int)) : ∀ (d i n : Nat) (a b : Int), i + d = R.length → d < n →
    p17_l1 k R D m (kk : Int) j n (i : Int) [a, b] = j [VL (D.getD kk 0) kk (stT R + m) (R.drop i) a, VH (D.getD kk 0) kk (stT R + m) (R.drop i) b]
  | 0, i, n, a, b, h1, h2 => by
    obtain ⟨n, rfl⟩ : ∃ n', n = n' + 1 := ⟨n - 1, by omega⟩
    rw [p17_l1]
    simp only [lt_v, sp_d]
    rw [if_neg (by omega), List.drop_eq_nil_of_le (by omega)]
    rfl
  | d + 1, i, n, a, b, h1, h2 => by
    obtain ⟨n, rfl⟩ : ∃ n', n = n' + 1 := ⟨n - 1, by omega⟩
    have hst := ha.st
    have hsp := ha.span
    have hrg := ha.range (i := i) (by omega)
    have hdr := ha.dr kk hk4
    have hrd := (ha.read i (by omega)).2.2.2 kk hk4
    have h45 : p45 k R D m = some (stT R + m) := p45_eq (by omega) (by omega) (by omega)
    have hmul := ab_mul hdr.1 hdr.2 (x := rA (rd R i) - (stT R + m)) (by omega) (by omega)
    have hw : wr .i64 ((i : Int) + 1) = ((i + 1 : Nat) : Int) := by rw [wr64 (by omega) (by omega)]; omega
    rw [p17_l1]
    simp only [lt_v, sp_d, h45, cl_v, Int.toNat_natCast]
    rw [if_pos (by omega), gd_v (by omega), gd_v (by omega), gd_v (by omega), gd_v (by omega), gd_v (by omega)]
    rw [show List.getD (List.getD R i []) 0 0 = rA (rd R i) from rfl]
    rw [wr64 (z := rA (rd R i) - (stT R + m)) (by omega) (by omega), wr64 (z := stT R + m - rA (rd R i)) (by omega) (by omega)]
    simp only [mx_eq, mn_eq]
    rw [show max (rA (rd R i) - (stT R + m)) (stT R + m - rA (rd R i)) = ab (rA (rd R i) - (stT R + m)) from by unfold ab; omega]
    rw [show D.getD (0 + kk * 1) 0 = D.getD kk 0 from by rw [Nat.zero_add, Nat.mul_one]]
    rw [wr64 (z := D.getD kk 0 * ab (rA (rd R i) - (stT R + m))) (by omega) (by omega)]
    rw [show List.getD (List.getD R i []) (3 + kk * 2 + 0) 0 = rVL kk (rd R i) from rfl, show List.getD (List.getD R i []) (3 + kk * 2 + 1) 0 = rVH kk (rd R i) from rfl]
    unfold bandOk at hrd
    rw [wr64 (z := rVL kk (rd R i) - _) (by omega) (by omega), wr64 (z := rVH kk (rd R i) + _) (by omega) (by omega), hw]
    have e1 : ∀ a b x : Int, List.set [a, b] 0 x = [x, b] := fun _ _ _ => rfl
    have e2 : ∀ a b x : Int, List.set [a, b] 1 x = [a, x] := fun _ _ _ => rfl
    simp only [e1, e2, List.getD_cons_zero, List.getD_cons_succ]
    rw [p17_l1_eq hn ha hm0 hm1 hk4 j d (i + 1) n _ _ (by omega) (by omega), drop_rd (by omega : i < R.length)]
    rfl
theorem p17_eq {k : Nat} (hk : 5000 ≤ k) {R : List (List Int)} {D : List Int} {m : Int} {kk : Nat} (hn : R.length ≤ 64) (ha : ArgOk R D) (hm0 : 0 ≤ m) (hm1 : m ≤ lastI R) (hk4 : kk < 4) : p17 k R D m (kk : Int) = some [vl R D kk m, vh R D kk m] := by
  unfold p17
  simp only [jn_v]
  have := p17_l1_eq (k := k) hn ha hm0 hm1 hk4 (fun L => some L) R.length 0 k (-1125899906842624) 1125899906842624 (by omega) (by omega)
  rw [List.drop_zero] at this
  exact this
theorem if_all {α : Type} {P Q S : Prop} [Decidable P] [Decidable Q] [Decidable S] (h : P ↔ Q ∧ S) (x y : α) : (if P then x else y) = if Q then (if S then x else y) else y := by
  by_cases hq : Q <;> by_cases hs : S <;> simp [h, hq, hs]
theorem if_row {α : Type} {c1 c2 c3 c4 P : Prop} [Decidable c1] [Decidable c2] [Decidable c3] [Decidable c4] [Decidable P] (h : P ↔ c1 ∧ ¬ c3 ∧ c2 ∧ c4) (X Z : α) : (if c1 then (if c3 then Z else (if c2 then (if c4 then X else Z) else Z)) else Z) = if P then X else Z := by
  by_cases h1 : c1 <;> by_cases h2 : c2 <;> by_cases h3 : c3 <;> by_cases h4 : c4 <;> simp [h, h1, h2, h3, h4]
theorem if_row' {α : Type} {c1 c2 c3 c4 P : Prop} [Decidable c1] [Decidable c2] [Decidable c3] [Decidable c4] [Decidable P] (h : P ↔ c1 ∧ ¬ c3 ∧ c2 ∧ c4) (X Z : α) : (if c1 then (if c2 then (if c3 then Z else (if c4 then X else Z)) else Z) else Z) = if P then X else Z := by
  by_cases h1 : c1 <;> by_cases h2 : c2 <;> by_cases h3 : c3 <;> by_cases h4 : c4 <;> simp [h, h1, h2, h3, h4]
theorem if_row0 {α : Type} {c1 c2 c4 P : Prop} [Decidable c1] [Decidable c2] [Decidable c4] [Decidable P] (h : P ↔ c1 ∧ c2 ∧ c4) (X Z : α) : (if c1 then (if c2 then (if c4 then X else Z) else Z) else Z) = if P then X else Z := by
  by_cases h1 : c1 <;> by_cases h2 : c2 <;> by_cases h4 : c4 <;> simp [h, h1, h2, h4]
theorem p21_l2_eq {k : Nat} {j : Option Int} {L : List Int} : ∀ (d i n : Nat), i + d = 4 → d < n → p21_l2 k j L n (i : Int) = if ∀ q, i ≤ q → q < 4 → bandOk (rVL q L) (rVH q L) then j else some 2
  | 0, i, n, h1, h2 => by
    obtain ⟨n, rfl⟩ : ∃ n', n = n' + 1 := ⟨n - 1, by omega⟩
    rw [p21_l2]
    simp only [lt_v, sp_d]
    rw [if_neg (by omega), if_pos (fun q h3 h4 => by omega)]
  | d + 1, i, n, h1, h2 => by
    obtain ⟨n, rfl⟩ : ∃ n', n = n' + 1 := ⟨n - 1, by omega⟩
    rw [p21_l2]
    simp only [lt_v, sp_d, p52_eq, cl_v, Int.toNat_natCast]
    rw [if_pos (by omega), gd_v (by omega)]
    have hw : wr .i64 ((i : Int) + 1) = ((i + 1 : Nat) : Int) := by rw [wr64 (by omega) (by omega)]; omega
    rw [hw, p21_l2_eq d (i + 1) n (by omega) (by omega)]
    have e0 : (List.take 2 (List.drop (3 + i * 2) L)).getD 0 0 = rVL i L := by simp [rVL, List.getD_eq_getElem?_getD]
    have e1 : (List.take 2 (List.drop (3 + i * 2) L)).getD 1 0 = rVH i L := by simp [rVH, List.getD_eq_getElem?_getD]
    rw [e0, e1]
    rw [if_all (P := ∀ q, i ≤ q → q < 4 → bandOk (rVL q L) (rVH q L)) (Q := bandOk (rVL i L) (rVH i L)) (S := ∀ q, i + 1 ≤ q → q < 4 → bandOk (rVL q L) (rVH q L)) ?_]
    constructor
    · intro h; exact ⟨h i (by omega) (by omega), fun q h3 h4 => h q (by omega) h4⟩
    · rintro ⟨h3, h4⟩ q h5 h6
      rcases Nat.eq_or_lt_of_le h5 with e | e
      · subst e; exact h3
      · exact h4 q e h6
def rowOkAt (R : List (List Int)) (i : Nat) : Prop := readOk (rd R i) ∧ (0 < i → rA (rd R (i - 1)) < rA (rd R i))
theorem p21_l1_eq {k : Nat} (hk : 5000 ≤ k) {R : List (List Int)} (hn : R.length ≤ 64) {j : Option Int} : ∀ (d i n : Nat), i + d = R.length → d < n → p21_l1 k R j n (i : Int) = if ∀ q, i ≤ q → q < R.length → rowOkAt R q then j else some 2
  | 0, i, n, h1, h2 => by
    obtain ⟨n, rfl⟩ : ∃ n', n = n' + 1 := ⟨n - 1, by omega⟩
    rw [p21_l1]
    simp only [lt_v, sp_d]
    rw [if_neg (by omega), if_pos (fun q h3 h4 => by omega)]
  | d + 1, i, n, h1, h2 => by
    obtain ⟨n, rfl⟩ : ∃ n', n = n' + 1 := ⟨n - 1, by omega⟩
    rw [p21_l1]
    simp only [lt_v, sp_d, p52_eq, p50_eq, cl_v, jn_v, Int.toNat_natCast]
    rw [if_pos (by omega), gd_v (by omega)]
    have hw : wr .i64 ((i : Int) + 1) = ((i + 1 : Nat) : Int) := by rw [wr64 (by omega) (by omega)]; omega
    rw [hw, p21_l1_eq hk hn d (i + 1) n (by omega) (by omega)]
    have h2' := p21_l2_eq (k := k) (j := if ∀ q, i + 1 ≤ q → q < R.length → rowOkAt R q then j else some 2) (L := rd R i) 4 0 k (by omega) (by omega)
    have hl2 : p21_l2 k (if ∀ q, i + 1 ≤ q → q < R.length → rowOkAt R q then j else some 2) (R.getD i []) k 0 = _ := h2'
    rw [hl2]
    have e0 : (List.take 2 (List.drop 1 (R.getD i []))).getD 0 0 = rPL (rd R i) := by simp [rPL, rd, List.getD_eq_getElem?_getD]
    have e1 : (List.take 2 (List.drop 1 (R.getD i []))).getD 1 0 = rPH (rd R i) := by simp [rPH, rd, List.getD_eq_getElem?_getD]
    rw [e0, e1]
    rw [if_all (P := ∀ q, i ≤ q → q < R.length → rowOkAt R q) (Q := rowOkAt R i) (S := ∀ q, i + 1 ≤ q → q < R.length → rowOkAt R q) (by
      constructor
      · intro h; exact ⟨h i (by omega) (by omega), fun q h3 h4 => h q (by omega) h4⟩
      · rintro ⟨h3, h4⟩ q h5 h6
        rcases Nat.eq_or_lt_of_le h5 with e | e
        · subst e; exact h3
        · exact h4 q e h6)]
    generalize hX : (if ∀ q, i + 1 ≤ q → q < R.length → rowOkAt R q then j else some 2) = X
    have hA : List.getD (R.getD i []) 0 0 = rA (rd R i) := rfl
    rw [hA]
    by_cases hi : 0 < i
    · have hw2 : wr .i64 ((i : Int) - 1) = ((i - 1 : Nat) : Int) := by rw [wr64 (by omega) (by omega)]; omega
      rw [if_pos (show (i : Int) > 0 by omega), hw2, gd_v (by omega)]
      simp only [Int.toNat_natCast, sp_tt, sp_nd]
      refine if_row (c3 := rA (rd R i) ≤ rA (rd R (i - 1))) ?_ _ _
      unfold rowOkAt readOk
      constructor
      · rintro ⟨⟨a1, a2, a3, a4⟩, a5⟩
        exact ⟨⟨a1, a2⟩, by have := a5 hi; omega, a3, fun q _ hq => a4 q hq⟩
      · rintro ⟨⟨a1, a2⟩, a3, a4, a5⟩
        exact ⟨⟨a1, a2, a4, fun q hq => a5 q (Nat.zero_le _) hq⟩, fun _ => by omega⟩
    · rw [if_neg (show ¬ (i : Int) > 0 by omega)]
      simp only [sp_tt, sp_nd]
      refine if_row0 ?_ _ _
      unfold rowOkAt readOk
      constructor
      · rintro ⟨⟨a1, a2, a3, a4⟩, a5⟩
        exact ⟨⟨a1, a2⟩, a3, fun q _ hq => a4 q hq⟩
      · rintro ⟨⟨a1, a2⟩, a4, a5⟩
        exact ⟨⟨a1, a2, a4, fun q hq => a5 q (Nat.zero_le _) hq⟩, fun h => absurd h hi⟩
theorem p21_l3_eq {k : Nat} {D : List Int} {j : Option Int} : ∀ (d i n : Nat), i + d = 4 → d < n → p21_l3 k D j n (i : Int) = if ∀ q, i ≤ q → q < 4 → 0 ≤ D.getD q 0 ∧ D.getD q 0 ≤ 1048576 then j else some 2
  | 0, i, n, h1, h2 => by
    obtain ⟨n, rfl⟩ : ∃ n', n = n' + 1 := ⟨n - 1, by omega⟩
    rw [p21_l3]
    simp only [lt_v, sp_d]
    rw [if_neg (by omega), if_pos (fun q h3 h4 => by omega)]
  | d + 1, i, n, h1, h2 => by
    obtain ⟨n, rfl⟩ : ∃ n', n = n' + 1 := ⟨n - 1, by omega⟩
    rw [p21_l3]
    simp only [lt_v, sp_d, p50_eq, cl_v, Int.toNat_natCast]
    rw [if_pos (by omega), gd_v (by omega)]
    have hw : wr .i64 ((i : Int) + 1) = ((i + 1 : Nat) : Int) := by rw [wr64 (by omega) (by omega)]; omega
    rw [hw, p21_l3_eq d (i + 1) n (by omega) (by omega)]
    rw [if_all (P := ∀ q, i ≤ q → q < 4 → 0 ≤ D.getD q 0 ∧ D.getD q 0 ≤ 1048576) (Q := 0 ≤ D.getD i 0 ∧ D.getD i 0 ≤ 1048576) (S := ∀ q, i + 1 ≤ q → q < 4 → 0 ≤ D.getD q 0 ∧ D.getD q 0 ≤ 1048576) ?_]
    · simp only [Nat.zero_add, Nat.mul_one]
    constructor
    · intro h; exact ⟨h i (by omega) (by omega), fun q h3 h4 => h q (by omega) h4⟩
    · rintro ⟨h3, h4⟩ q h5 h6
      rcases Nat.eq_or_lt_of_le h5 with e | e
      · subst e; exact h3
      · exact h4 q e h6
theorem p21_l5_eq {k : Nat} (hk : 5000 ≤ k) {R : List (List Int)} {D : List Int} (hn : R.length ≤ 64) (ha : ArgOk R D) {m : Int} (hm0 : 0 ≤ m) (hm1 : m ≤ lastI R) {j : Option Int} : ∀ (d i n : Nat), i + d = 4 → d < n → p21_l5 k R D m j n (i : Int) = if ∀ q, i ≤ q → q < 4 → vl R D q m ≤ vh R D q m then j else some 16
  | 0, i, n, h1, h2 => by
    obtain ⟨n, rfl⟩ : ∃ n', n = n' + 1 := ⟨n - 1, by omega⟩
    rw [p21_l5]
    simp only [lt_v, sp_d]
    rw [if_neg (by omega), if_pos (fun q h3 h4 => by omega)]
  | d + 1, i, n, h1, h2 => by
    obtain ⟨n, rfl⟩ : ∃ n', n = n' + 1 := ⟨n - 1, by omega⟩
    rw [p21_l5]
    simp only [lt_v, sp_d, p17_eq hk hn ha hm0 hm1 (show i < 4 by omega), cl_v]
    rw [if_pos (by omega), gd_v (c := [_, _].length = 2) rfl]
    have hw : wr .i64 ((i : Int) + 1) = ((i + 1 : Nat) : Int) := by rw [wr64 (by omega) (by omega)]; omega
    rw [hw, p21_l5_eq hk hn ha hm0 hm1 d (i + 1) n (by omega) (by omega)]
    simp only [List.getD_cons_zero, List.getD_cons_succ]
    rw [if_all (P := ∀ q, i ≤ q → q < 4 → vl R D q m ≤ vh R D q m) (Q := vl R D i m ≤ vh R D i m) (S := ∀ q, i + 1 ≤ q → q < 4 → vl R D q m ≤ vh R D q m) ?_]
    · by_cases c : vl R D i m ≤ vh R D i m
      · rw [if_pos c, if_neg (by omega)]
      · rw [if_neg c, if_pos (by omega)]
    constructor
    · intro h; exact ⟨h i (by omega) (by omega), fun q h3 h4 => h q (by omega) h4⟩
    · rintro ⟨h3, h4⟩ q h5 h6
      rcases Nat.eq_or_lt_of_le h5 with e | e
      · subst e; exact h3
      · exact h4 q e h6
theorem p21_l4_eq {k : Nat} (hk : 5000 ≤ k) {R : List (List Int)} {D : List Int} (hn : R.length ≤ 64) (ha : ArgOk R D) {j : Option Int} : ∀ (d n : Nat) (m : Int), 0 ≤ m → m + d = lastI R + 1 → d < n → p21_l4 k R D j n m = if ∀ q, m ≤ q → q ≤ lastI R → SumAt R D q then j else some 16
  | 0, n, m, h0, h1, h2 => by
    obtain ⟨n, rfl⟩ : ∃ n', n = n' + 1 := ⟨n - 1, by omega⟩
    have := ha.last
    have := ha.span
    have := ha.n2
    rw [p21_l4]
    simp only [lt_v, sp_d, p53_eq (k := k) (D := D) (by omega) hn (by omega) (by omega), cl_v]
    rw [if_neg (by omega), if_pos (fun q h3 h4 => by omega)]
  | d + 1, n, m, h0, h1, h2 => by
    obtain ⟨n, rfl⟩ : ∃ n', n = n' + 1 := ⟨n - 1, by omega⟩
    have := ha.last
    have := ha.span
    have := ha.n2
    have := ha.st
    rw [p21_l4]
    simp only [lt_v, sp_d, jn_v, p53_eq (k := k) (D := D) (by omega) hn (by omega) (by omega), p16_eq (D := D) hk (by omega) hn (show -9223372036854775808 ≤ stT R + m by omega) (by omega), cl_v]
    rw [if_pos (by omega), gd_v (c := [_, _].length = 2) rfl, wr64 (by omega) (by omega), p21_l4_eq hk hn ha d n (m + 1) (by omega) (by omega) (by omega)]
    have h5 := p21_l5_eq hk hn ha h0 (show m ≤ lastI R by omega) (j := if ∀ q, m + 1 ≤ q → q ≤ lastI R → SumAt R D q then j else some 16) 4 0 k (by omega) (by omega)
    rw [show (0 : Int) = ((0 : Nat) : Int) from rfl, h5]
    simp only [List.getD_cons_zero, List.getD_cons_succ]
    rw [if_all (P := ∀ q, m ≤ q → q ≤ lastI R → SumAt R D q) (Q := SumAt R D m) (S := ∀ q, m + 1 ≤ q → q ≤ lastI R → SumAt R D q) ?_]
    · by_cases c : pl R m ≤ ph R m <;> by_cases c2 : ∀ q, q < 4 → vl R D q m ≤ vh R D q m
      · rw [if_neg (by omega), if_pos (fun q _ => c2 q), if_pos (show SumAt R D m from ⟨c, c2⟩)]
      · rw [if_neg (by omega), if_neg (fun h => c2 fun q => h q (Nat.zero_le _)), if_neg (fun h : SumAt R D m => c2 h.2)]
      · rw [if_pos (by omega), if_neg (fun h : SumAt R D m => c h.1)]
      · rw [if_pos (by omega), if_neg (fun h : SumAt R D m => c h.1)]
    constructor
    · intro h; exact ⟨h m (by omega) (by omega), fun q h3 h4 => h q (by omega) h4⟩
    · rintro ⟨h3, h4⟩ q h5 h6
      by_cases e : q = m
      · subst e; exact h3
      · exact h4 q (by omega) h6
theorem p21_l1_eq0 {k : Nat} (hk : 5000 ≤ k) {R : List (List Int)} (hn : R.length ≤ 64) {j : Option Int} : p21_l1 k R j k 0 = if ∀ q, q < R.length → rowOkAt R q then j else some 2 := by
  have := p21_l1_eq hk hn (j := j) R.length 0 k (by omega) (by omega)
  simpa using this
theorem p21_l3_eq0 {k : Nat} (hk : 5 ≤ k) {D : List Int} {j : Option Int} : p21_l3 k D j k 0 = if ∀ q, q < 4 → 0 ≤ D.getD q 0 ∧ D.getD q 0 ≤ 1048576 then j else some 2 := by
  have := p21_l3_eq (k := k) (D := D) (j := j) 4 0 k (by omega) (by omega)
  simpa using this
theorem p21_eq {k : Nat} (hk : 5000 ≤ k) {R : List (List Int)} {D : List Int} (hD : D.length = 4) (hb : ∀ r ∈ R, ∀ z ∈ r, -9223372036854775808 ≤ z ∧ z ≤ 9223372036854775807) : p21 k R D = some (logE R D) := by
  unfold p21 logE
  simp only [lt_v, sp_d, jn_v]
  by_cases hn : 64 < R.length
  · rw [if_pos (by omega), if_pos hn]
  · rw [if_neg (by omega), if_neg hn]
    have hn' : R.length ≤ 64 := by omega
    by_cases h2 : R.length < 2
    · rw [if_pos (by omega), if_pos (fun h => by have := h.n2; omega)]
    · rw [if_neg (by omega)]
      rw [p21_l1_eq0 hk hn']
      by_cases hrow : ∀ q, q < R.length → rowOkAt R q
      · rw [if_pos hrow]
        have hasc : ∀ i, i + 1 < R.length → rA (rd R i) < rA (rd R (i + 1)) := fun i hi => by
          have := (hrow (i + 1) hi).2 (by omega)
          simpa using this
        have r0 := (hrow 0 (by omega)).1
        have r1 := (hrow (R.length - 1) (by omega)).1
        unfold readOk at r0 r1
        have hla : lastI R = rA (rd R (R.length - 1)) - rA (rd R 0) := rfl
        rw [wr64 (z := (R.length : Int) - 1) (by omega) (by omega), gd_v (by omega), gd_v (by omega), show ((R.length : Int) - 1).toNat = R.length - 1 from by omega]
        rw [show (R.getD (R.length - 1) []).getD 0 0 - (R.getD 0 []).getD 0 0 = lastI R from rfl, wr64 (z := lastI R) (by omega) (by omega)]
        by_cases hs : lastI R ≤ 2000
        · rw [if_neg (by omega), p21_l3_eq0 (by omega)]
          by_cases hd : ∀ q, q < 4 → 0 ≤ D.getD q 0 ∧ D.getD q 0 ≤ 1048576
          · have ha : ArgOk R D := ⟨by omega, fun i hi => (hrow i hi).1, hasc, hs, hd⟩
            rw [if_pos hd, if_neg (fun h => h ha)]
            have hla1 := ha.last
            rw [p21_l4_eq hk hn' ha (lastI R + 1).toNat k 0 (by omega) (by omega) (by omega)]
            by_cases hq : ∀ q, 0 ≤ q → q ≤ lastI R → SumAt R D q
            · rw [if_pos hq, if_neg (fun h : ¬ SumOk R D => h hq)]
            · rw [if_neg hq, if_pos (show ¬ SumOk R D from hq)]
          · rw [if_neg hd, if_pos (fun h => hd h.dr)]
        · rw [if_pos (by omega), if_pos (fun h => hs h.span)]
      · rw [if_neg hrow, if_pos]
        intro h
        refine hrow fun q hq => ⟨h.read q hq, fun h0 => ?_⟩
        have := h.asc (q - 1) (by omega)
        rw [show q - 1 + 1 = q from by omega] at this
        exact this
end Go.Proofs.Ythjkejbgknemgaa
namespace Go.Proofs.Ythjkejbgknemgaa
open Go.RowKit Classical
def ML : List (List Int) → Int → Int
  | [], a => a
  | r :: l, a => ML l (max a (r.getD 0 0))
def MH : List (List Int) → Int → Int
  | [], b => b
  | r :: l, b => MH l (min b (r.getD 1 0))
theorem p83_l1_eq {k : Nat} {P : List (List Int)} (hn : P.length ≤ 1000) (j : List Int → Option (List Int)) : ∀ (d i n : Nat) (a b : Int), i + d = P.length → d < n →
    p83_l1 k j P n (i : Int) [a, b] = j [ML (P.drop i) a, MH (P.drop i) b]
  | 0, i, n, a, b, h1, h2 => by
    obtain ⟨n, rfl⟩ : ∃ n', n = n' + 1 := ⟨n - 1, by omega⟩
    rw [p83_l1]
    simp only [lt_v, sp_d]
    rw [if_neg (by omega), List.drop_eq_nil_of_le (by omega)]
    rfl
  | d + 1, i, n, a, b, h1, h2 => by
    obtain ⟨n, rfl⟩ : ∃ n', n = n' + 1 := ⟨n - 1, by omega⟩
    rw [p83_l1]
    simp only [lt_v, sp_d, mx_eq, mn_eq, Int.toNat_natCast]
    have hw : wr .i64 ((i : Int) + 1) = ((i + 1 : Nat) : Int) := by rw [wr64 (by omega) (by omega)]; omega
    rw [if_pos (by omega), gd_v (by omega), hw]
    have e1 : ∀ a b x : Int, List.set [a, b] 0 x = [x, b] := fun _ _ _ => rfl
    have e2 : ∀ a b x : Int, List.set [a, b] 1 x = [a, x] := fun _ _ _ => rfl
    simp only [e1, e2, List.getD_cons_zero, List.getD_cons_succ]
    rw [p83_l1_eq hn j d (i + 1) n _ _ (by omega) (by omega), drop_rd (by omega : i < P.length)]
    rfl
theorem p83_eq {k : Nat} (hk : 5000 ≤ k) {a b : Int} {P : List (List Int)} (hn : P.length ≤ 100) : p83 k ([a, b] :: P) = some [ML P a, MH P b] := by
  unfold p83
  simp only [jn_v, lt_v]
  rw [gd_v (by simp), gd_v (by simp)]
  have hp : part ([a, b] :: P) ((1 : Int)).toNat ([a, b] :: P).length = P := by
    have : ((1 : Int)).toNat = 1 := rfl
    simp [part, this]
  rw [hp]
  have := p83_l1_eq (k := k) (P := P) (by omega) (fun L5 => some L5) P.length 0 k a b (by omega) (by omega)
  rw [List.drop_zero] at this
  exact this
theorem p83_two {k : Nat} (hk : 5000 ≤ k) {a b c d : Int} : p83 k [[a, b], [c, d]] = some [max a c, min b d] := by
  rw [p83_eq hk (by simp)]
  rfl
theorem PL_base {t b b' : Int} {l : List (List Int)} {r : List Int} (hr : r ∈ l) (ht : rA r ≤ t) (h1 : b ≤ rPL r) (h2 : b' ≤ rPL r) : PL t l b = PL t l b' := by
  have h3 : PL t l b ≤ PL t l b' := PL_le.2 ⟨Int.le_trans h1 ((PL_le.1 (Int.le_refl _)).2 r hr ht), fun q hq hqt => (PL_le.1 (Int.le_refl (PL t l b'))).2 q hq hqt⟩
  have h4 : PL t l b' ≤ PL t l b := PL_le.2 ⟨Int.le_trans h2 ((PL_le.1 (Int.le_refl _)).2 r hr ht), fun q hq hqt => (PL_le.1 (Int.le_refl (PL t l b))).2 q hq hqt⟩
  omega
theorem PH_base {t b b' : Int} {l : List (List Int)} {r : List Int} (hr : r ∈ l) (ht : t ≤ rA r) (h1 : rPH r ≤ b) (h2 : rPH r ≤ b') : PH t l b = PH t l b' := by
  have h3 : PH t l b ≤ PH t l b' := le_PH.2 ⟨Int.le_trans ((le_PH.1 (Int.le_refl _)).2 r hr ht) h2, fun q hq hqt => (le_PH.1 (Int.le_refl (PH t l b))).2 q hq hqt⟩
  have h4 : PH t l b' ≤ PH t l b := le_PH.2 ⟨Int.le_trans ((le_PH.1 (Int.le_refl _)).2 r hr ht) h1, fun q hq hqt => (le_PH.1 (Int.le_refl (PH t l b'))).2 q hq hqt⟩
  omega
theorem p73_l1_eq {k : Nat} (hk : 5000 ≤ k) {R : List (List Int)} {t : Int} (hn : R.length ≤ 64) (j : List Int → Option (List Int)) (hr : ∀ i, i < R.length → readOk (rd R i)) : ∀ (d i n : Nat) (a b : Int), i + d = R.length → d < n → -1073741824 ≤ a → b ≤ 1073741824 →
    p73_l1 k R t j n (i : Int) [a, b] = j [PL t (R.drop i) a, PH t (R.drop i) b]
  | 0, i, n, a, b, h1, h2, ha, hb => by
    obtain ⟨n, rfl⟩ : ∃ n', n = n' + 1 := ⟨n - 1, by omega⟩
    rw [p73_l1]
    simp only [lt_v, sp_d]
    rw [if_neg (by omega), List.drop_eq_nil_of_le (by omega)]
    rfl
  | d + 1, i, n, a, b, h1, h2, ha, hb => by
    obtain ⟨n, rfl⟩ : ∃ n', n = n' + 1 := ⟨n - 1, by omega⟩
    have hri := (hr i (by omega)).2.2.1
    unfold bandOk at hri
    rw [p73_l1]
    simp only [lt_v, sp_d, jn_v, Int.toNat_natCast]
    have hw : wr .i64 ((i : Int) + 1) = ((i + 1 : Nat) : Int) := by rw [wr64 (by omega) (by omega)]; omega
    rw [if_pos (by omega), gd_v (by omega), hw]
    rw [drop_rd (by omega : i < R.length)]
    simp only [PL, PH]
    have hg : ∀ (a b : Int) (x : Option (List Int)), gd ([a, b].length = 2) x = x := fun _ _ _ => rfl
    have ih := fun a b ha hb => p73_l1_eq (t := t) hk hn j hr d (i + 1) n a b (by omega) (by omega) ha hb
    simp only [p83_two hk, cl_v, hg, ge_iff_le]
    show (if rA (rd R i) ≤ t then (if t ≤ rA (rd R i) then p73_l1 k R t j n ((i + 1 : Nat) : Int) [max (max a (rPL (rd R i))) (-1073741824), min (min b 1073741824) (rPH (rd R i))] else p73_l1 k R t j n ((i + 1 : Nat) : Int) [max a (rPL (rd R i)), min b 1073741824]) else
      (if t ≤ rA (rd R i) then p73_l1 k R t j n ((i + 1 : Nat) : Int) [max a (-1073741824), min b (rPH (rd R i))] else p73_l1 k R t j n ((i + 1 : Nat) : Int) [a, b])) = _
    split <;> split
    · rw [show max (max a (rPL (rd R i))) (-1073741824) = max a (rPL (rd R i)) from by omega, show min (min b 1073741824) (rPH (rd R i)) = min b (rPH (rd R i)) from by omega]
      exact ih _ _ (by omega) (by omega)
    · rw [show min b 1073741824 = b from by omega]
      exact ih _ _ (by omega) (by omega)
    · rw [show max a (-1073741824) = a from by omega]
      exact ih _ _ (by omega) (by omega)
    · exact ih _ _ (by omega) (by omega)
theorem pl_base {R : List (List Int)} {D : List Int} (ha : ArgOk R D) {m : Int} (h0 : 0 ≤ m) : PL (stT R + m) R (-1073741824) = pl R m := by
  have h2 := ha.n2
  have hb := (ha.read 0 (by omega)).2.2.1
  unfold bandOk at hb
  exact PL_base (rd_mem (i := 0) (by omega)) (by have : stT R = rA (rd R 0) := rfl; omega) (by omega) (by omega)
theorem ph_base {R : List (List Int)} {D : List Int} (ha : ArgOk R D) {m : Int} (h1 : m ≤ lastI R) : PH (stT R + m) R 1073741824 = ph R m := by
  have h2 := ha.n2
  have hb := (ha.read (R.length - 1) (by omega)).2.2.1
  unfold bandOk at hb
  exact PH_base (rd_mem (i := R.length - 1) (by omega)) (by have : lastI R = rA (rd R (R.length - 1)) - stT R := rfl; omega) (by omega) (by omega)
theorem p73_eq {k : Nat} (hk : 5000 ≤ k) {R : List (List Int)} {D D' : List Int} {st : Int} {P V} (hn : R.length ≤ 64) (ha : ArgOk R D) {m : Int} (h0 : 0 ≤ m) (h1 : m ≤ lastI R) : p73 k R D' st P V (stT R + m) = some [pl R m, ph R m] := by
  unfold p73
  simp only [jn_v]
  have := p73_l1_eq hk (t := stT R + m) hn (fun L => some L) ha.read R.length 0 k (-1073741824) 1073741824 (by omega) (by omega) (by omega) (by omega)
  rw [List.drop_zero, pl_base ha h0, ph_base ha h1] at this
  exact this
def vrow (d : Int) (kk : Nat) (t : Int) (r : List Int) : List Int := [rVL kk r - d * ab (rA r - t), rVH kk r + d * ab (rA r - t)]
theorem p84_l1_eq {k : Nat} {R : List (List Int)} {D : List Int} {m : Int} {kk : Nat} (hn : R.length ≤ 64) (ha : ArgOk R D) (hm0 : 0 ≤ m) (hm1 : m ≤ lastI R) (hk4 : kk < 4) (j : List (List Int) → Option (List Int)) : ∀ (d i n : Nat) (W : List (List Int)), i + d = R.length → d < n → W.length = i →
    p84_l1 k (stT R + m) R D (kk : Int) j n (i : Int) W = j (W ++ (R.drop i).map (vrow (D.getD kk 0) kk (stT R + m)))
  | 0, i, n, W, h1, h2, hW => by
    obtain ⟨n, rfl⟩ : ∃ n', n = n' + 1 := ⟨n - 1, by omega⟩
    rw [p84_l1]
    simp only [lt_v, sp_d]
    rw [if_neg (by omega), List.drop_eq_nil_of_le (by omega)]
    simp
  | d + 1, i, n, W, h1, h2, hW => by
    obtain ⟨n, rfl⟩ : ∃ n', n = n' + 1 := ⟨n - 1, by omega⟩
    have hst := ha.st
    have hsp := ha.span
    have hrg := ha.range (i := i) (by omega)
    have hdr := ha.dr kk hk4
    have hrd := (ha.read i (by omega)).2.2.2 kk hk4
    have hmul := ab_mul hdr.1 hdr.2 (x := rA (rd R i) - (stT R + m)) (by omega) (by omega)
    have hw : wr .i64 ((i : Int) + 1) = ((i + 1 : Nat) : Int) := by rw [wr64 (by omega) (by omega)]; omega
    unfold bandOk at hrd
    rw [p84_l1]
    simp only [lt_v, sp_d, Int.toNat_natCast]
    rw [if_pos (by omega), gd_v (by omega), gd_v (by omega), gd_v (by omega), gd_v (by omega)]
    rw [show List.getD (List.getD R i []) 0 0 = rA (rd R i) from rfl]
    rw [wr64 (z := rA (rd R i) - (stT R + m)) (by omega) (by omega), wr64 (z := stT R + m - rA (rd R i)) (by omega) (by omega)]
    simp only [mx_eq]
    rw [show max (rA (rd R i) - (stT R + m)) (stT R + m - rA (rd R i)) = ab (rA (rd R i) - (stT R + m)) from by unfold ab; omega]
    rw [show D.getD (kk * 1) 0 = D.getD kk 0 from by rw [Nat.mul_one]]
    rw [wr64 (z := D.getD kk 0 * ab (rA (rd R i) - (stT R + m))) (by omega) (by omega)]
    rw [show List.getD (List.getD R i []) (3 + kk * 2 + 0) 0 = rVL kk (rd R i) from rfl, show List.getD (List.getD R i []) (3 + kk * 2 + 1) 0 = rVH kk (rd R i) from rfl]
    rw [wr64 (z := rVL kk (rd R i) - _) (by omega) (by omega), wr64 (z := rVH kk (rd R i) + _) (by omega) (by omega), hw]
    rw [gd_v (by simp; omega)]
    rw [p84_l1_eq hn ha hm0 hm1 hk4 j d (i + 1) n _ (by omega) (by omega) (by simp [hW]), drop_rd (by omega : i < R.length)]
    simp [vrow]
theorem ML_vrow {d t : Int} {kk : Nat} : ∀ {l : List (List Int)} {a : Int}, ML (l.map (vrow d kk t)) a = VL d kk t l a
  | [], a => rfl
  | r :: l, a => by
    simp only [List.map_cons, ML, VL]
    rw [ML_vrow]
    rfl
theorem MH_vrow {d t : Int} {kk : Nat} : ∀ {l : List (List Int)} {a : Int}, MH (l.map (vrow d kk t)) a = VH d kk t l a
  | [], a => rfl
  | r :: l, a => by
    simp only [List.map_cons, MH, VH]
    rw [MH_vrow]
    rfl
theorem p84_eq {k : Nat} (hk : 5000 ≤ k) {R : List (List Int)} {D : List Int} {st : Int} {P V} {m : Int} {kk : Nat} (hn : R.length ≤ 64) (ha : ArgOk R D) (hm0 : 0 ≤ m) (hm1 : m ≤ lastI R) (hk4 : kk < 4) : p84 k (stT R + m) R D st P V (kk : Int) = some [vl R D kk m, vh R D kk m] := by
  unfold p84
  simp only [jn_v]
  have := p84_l1_eq (k := k) hn ha hm0 hm1 hk4 (fun R2 => cl (p83 k R2) fun v30 => gd ((v30).length = 2) <| some v30) R.length 0 k [] (by omega) (by omega) rfl
  rw [show ((0 : Nat) : Int) = 0 from rfl] at this
  rw [this, List.drop_zero, List.nil_append]
  have h2 := ha.n2
  obtain ⟨r, l, rfl⟩ : ∃ r l, R = r :: l := by
    cases R with
    | nil => simp at h2
    | cons r l => exact ⟨r, l, rfl⟩
  have hst := ha.st
  have hsp := ha.span
  have hrg := ha.range (i := 0) (by simp)
  have hdr := ha.dr kk hk4
  have hrd := (ha.read 0 (by simp)).2.2.2 kk hk4
  have hmul := ab_mul hdr.1 hdr.2 (x := rA (rd (r :: l) 0) - (stT (r :: l) + m)) (by omega) (by omega)
  have hr0 : rd (r :: l) 0 = r := rfl
  rw [hr0] at hrd hmul
  unfold bandOk at hrd
  simp only [List.map_cons]
  rw [show vrow (D.getD kk 0) kk (stT (r :: l) + m) r = [rVL kk r - D.getD kk 0 * ab (rA r - (stT (r :: l) + m)), rVH kk r + D.getD kk 0 * ab (rA r - (stT (r :: l) + m))] from rfl]
  rw [p83_eq hk (by simp at hn ⊢; omega), cl_v, ML_vrow, MH_vrow]
  simp only [vl, vh, VL, VH]
  rw [show max (-1125899906842624) (rVL kk r - D.getD kk 0 * ab (rA r - (stT (r :: l) + m))) = rVL kk r - D.getD kk 0 * ab (rA r - (stT (r :: l) + m)) from by omega]
  rw [show min 1125899906842624 (rVH kk r + D.getD kk 0 * ab (rA r - (stT (r :: l) + m))) = rVH kk r + D.getD kk 0 * ab (rA r - (stT (r :: l) + m)) from by omega]
  rfl
end Go.Proofs.Ythjkejbgknemgaa
namespace Go.Proofs.Ythjkejbgknemgaa
open Go.RowKit Classical
theorem set_fill {α : Type} (g : Nat → α) (z : α) (i d : Nat) (x : α) (hx : x = g i) : ((List.range i).map g ++ List.replicate (d + 1) z).set i x = (List.range (i + 1)).map g ++ List.replicate d z := by
  subst hx
  rw [List.set_append_right _ _ (by simp)]
  simp [List.range_succ, List.replicate_succ]
theorem getD_fill {α : Type} (g : Nat → α) (z y : α) (i d : Nat) : ((List.range (i + 1)).map g ++ List.replicate d z).getD i y = g i := by
  simp [List.getD_eq_getElem?_getD, List.getElem?_append_left]
def pls (R : List (List Int)) (N : Nat) : List (List Int) := (List.range N).map fun m : Nat => [pl R (m : Int), ph R (m : Int)]
def vls (R : List (List Int)) (D : List Int) (kk N : Nat) : List (List Int) := (List.range N).map fun m : Nat => [vl R D kk (m : Int), vh R D kk (m : Int)]
theorem p72a_l1_eq {k : Nat} (hk : 5000 ≤ k) {R : List (List Int)} {D D' : List Int} {P V} (hn : R.length ≤ 64) (ha : ArgOk R D) {N : Nat} (hN : (N : Int) = lastI R + 1) (j : List (List Int) → Option (List (List Int) × Bool)) : ∀ (d i n : Nat), i + d = N → d < n →
    p72a_l1 k R D' (stT R) P V (N : Int) j n (i : Int) ((List.range i).map (fun m : Nat => [pl R (m : Int), ph R (m : Int)]) ++ List.replicate d [0, 0]) = if ∀ q : Nat, i ≤ q → q < N → pl R q ≤ ph R q then j (pls R N) else some ([], false)
  | 0, i, n, h1, h2 => by
    obtain ⟨n, rfl⟩ : ∃ n', n = n' + 1 := ⟨n - 1, by omega⟩
    rw [p72a_l1]
    simp only [lt_v, sp_d]
    rw [if_neg (by omega), if_pos (fun q h3 h4 => by omega), show i = N from by omega]
    simp [pls]
  | d + 1, i, n, h1, h2 => by
    obtain ⟨n, rfl⟩ : ∃ n', n = n' + 1 := ⟨n - 1, by omega⟩
    have hst := ha.st
    have hsp := ha.span
    have hw : wr .i64 ((i : Int) + 1) = ((i + 1 : Nat) : Int) := by rw [wr64 (by omega) (by omega)]; omega
    rw [p72a_l1]
    simp only [lt_v, sp_d, Int.toNat_natCast]
    rw [if_pos (by omega), wr64 (z := stT R + (i : Int)) (by omega) (by omega), p73_eq hk hn ha (by omega) (by omega), cl_v]
    rw [gd_v (c := [_, _].length = 2) rfl, gd_v (by simp; omega), set_fill (fun m : Nat => [pl R (m : Int), ph R (m : Int)]) [0, 0] i d _ rfl]
    rw [gd_v (by simp; omega), gd_v (by simp; omega), getD_fill (fun m : Nat => [pl R (m : Int), ph R (m : Int)]), hw]
    simp only [List.getD_cons_zero, List.getD_cons_succ]
    rw [p72a_l1_eq hk hn ha hN j d (i + 1) n (by omega) (by omega)]
    rw [if_all (P := ∀ q : Nat, i ≤ q → q < N → pl R q ≤ ph R q) (Q := pl R i ≤ ph R i) (S := ∀ q : Nat, i + 1 ≤ q → q < N → pl R q ≤ ph R q) ?_]
    · by_cases c : pl R i ≤ ph R i
      · rw [if_pos c, if_neg (by omega)]
      · rw [if_neg c, if_pos (by omega)]
    constructor
    · intro h; exact ⟨h i (by omega) (by omega), fun q h3 h4 => h q (by omega) h4⟩
    · rintro ⟨h3, h4⟩ q h5 h6
      rcases Nat.eq_or_lt_of_le h5 with e | e
      · subst e; exact h3
      · exact h4 q e h6
theorem p72a_eq {k : Nat} (hk : 5000 ≤ k) {R : List (List Int)} {D D' : List Int} {P V} (hn : R.length ≤ 64) (ha : ArgOk R D) {N : Nat} (hN : (N : Int) = lastI R + 1) : p72a k R D' (stT R) P V (N : Int) = if ∀ q : Nat, q < N → pl R q ≤ ph R q then some (pls R N, true) else some ([], false) := by
  have hsp := ha.span
  unfold p72a
  simp only [lt_v, jn_v, Int.toNat_natCast]
  rw [gd_v (by omega)]
  have := p72a_l1_eq (k := k) hk hn ha hN (D' := D') (P := P) (V := V) (fun R5 => some (R5, true)) N 0 k (by omega) (by omega)
  simpa using this
theorem p72b_l1_eq {k : Nat} (hk : 5000 ≤ k) {R : List (List Int)} {D : List Int} {P V} {kk : Nat} (hk4 : kk < 4) (hn : R.length ≤ 64) (ha : ArgOk R D) {N : Nat} (hN : (N : Int) = lastI R + 1) (j : List (List Int) → Option (List (List Int) × Bool)) : ∀ (d i n : Nat), i + d = N → d < n →
    p72b_l1 k R D (stT R) P V (N : Int) (kk : Int) j n (i : Int) ((List.range i).map (fun m : Nat => [vl R D kk (m : Int), vh R D kk (m : Int)]) ++ List.replicate d [0, 0]) = if ∀ q : Nat, i ≤ q → q < N → vl R D kk q ≤ vh R D kk q then j (vls R D kk N) else some ([], false)
  | 0, i, n, h1, h2 => by
    obtain ⟨n, rfl⟩ : ∃ n', n = n' + 1 := ⟨n - 1, by omega⟩
    rw [p72b_l1]
    simp only [lt_v, sp_d]
    rw [if_neg (by omega), if_pos (fun q h3 h4 => by omega), show i = N from by omega]
    simp [vls]
  | d + 1, i, n, h1, h2 => by
    obtain ⟨n, rfl⟩ : ∃ n', n = n' + 1 := ⟨n - 1, by omega⟩
    have hst := ha.st
    have hsp := ha.span
    have hw : wr .i64 ((i : Int) + 1) = ((i + 1 : Nat) : Int) := by rw [wr64 (by omega) (by omega)]; omega
    rw [p72b_l1]
    simp only [lt_v, sp_d, Int.toNat_natCast]
    rw [if_pos (by omega), wr64 (z := stT R + (i : Int)) (by omega) (by omega), p84_eq hk hn ha (by omega) (by omega) hk4, cl_v]
    rw [gd_v (c := [_, _].length = 2) rfl, gd_v (by simp; omega), set_fill (fun m : Nat => [vl R D kk (m : Int), vh R D kk (m : Int)]) [0, 0] i d _ rfl]
    rw [gd_v (by simp; omega), gd_v (by simp; omega), getD_fill (fun m : Nat => [vl R D kk (m : Int), vh R D kk (m : Int)]), hw]
    simp only [List.getD_cons_zero, List.getD_cons_succ]
    rw [p72b_l1_eq hk hk4 hn ha hN j d (i + 1) n (by omega) (by omega)]
    rw [if_all (P := ∀ q : Nat, i ≤ q → q < N → vl R D kk q ≤ vh R D kk q) (Q := vl R D kk i ≤ vh R D kk i) (S := ∀ q : Nat, i + 1 ≤ q → q < N → vl R D kk q ≤ vh R D kk q) ?_]
    · by_cases c : vl R D kk i ≤ vh R D kk i
      · rw [if_pos c, if_neg (by omega)]
      · rw [if_neg c, if_pos (by omega)]
    constructor
    · intro h; exact ⟨h i (by omega) (by omega), fun q h3 h4 => h q (by omega) h4⟩
    · rintro ⟨h3, h4⟩ q h5 h6
      rcases Nat.eq_or_lt_of_le h5 with e | e
      · subst e; exact h3
      · exact h4 q e h6
theorem p72b_eq {k : Nat} (hk : 5000 ≤ k) {R : List (List Int)} {D : List Int} {P V} {kk : Nat} (hk4 : kk < 4) (hn : R.length ≤ 64) (ha : ArgOk R D) {N : Nat} (hN : (N : Int) = lastI R + 1) : p72b k R D (stT R) P V (N : Int) (kk : Int) = if ∀ q : Nat, q < N → vl R D kk q ≤ vh R D kk q then some (vls R D kk N, true) else some ([], false) := by
  have hsp := ha.span
  unfold p72b
  simp only [lt_v, jn_v, Int.toNat_natCast]
  rw [gd_v (by omega)]
  have := p72b_l1_eq (k := k) hk hk4 hn ha hN (P := P) (V := V) (fun R5 => some (R5, true)) N 0 k (by omega) (by omega)
  simpa using this
theorem p81_l1_eq {k : Nat} {L : List Int} {j : Int} (hL : L.length ≤ 1000) (hj : j < 0) : ∀ (d i n : Nat), i + d = L.length → d < n → ∃ v, p81_l1 k L (some j) n (i : Int) = some v ∧ (0 ≤ v ↔ ∃ q, i ≤ q ∧ q < L.length ∧ ¬ (0 ≤ L.getD q 0 ∧ L.getD q 0 ≤ 1048576))
  | 0, i, n, h1, h2 => by
    obtain ⟨n, rfl⟩ : ∃ n', n = n' + 1 := ⟨n - 1, by omega⟩
    refine ⟨j, ?_, fun h => by omega, fun ⟨q, h3, h4, _⟩ => by omega⟩
    rw [p81_l1]
    simp only [lt_v, sp_d]
    rw [if_neg (by omega)]
  | d + 1, i, n, h1, h2 => by
    obtain ⟨n, rfl⟩ : ∃ n', n = n' + 1 := ⟨n - 1, by omega⟩
    rw [p81_l1]
    simp only [lt_v, sp_d, p69, p49_eq, cl_v, sp_nd, Int.toNat_natCast]
    have hw : wr .i64 ((i : Int) + 1) = ((i + 1 : Nat) : Int) := by rw [wr64 (by omega) (by omega)]; omega
    rw [if_pos (by omega), gd_v (by omega), hw]
    obtain ⟨v, h3, h4⟩ := p81_l1_eq (k := k) hL hj d (i + 1) n (by omega) (by omega)
    by_cases c : 0 ≤ L.getD i 0 ∧ L.getD i 0 ≤ 1048576
    · rw [if_pos c]
      refine ⟨v, h3, h4.trans ⟨fun ⟨q, a1, a2, a3⟩ => ⟨q, by omega, a2, a3⟩, fun ⟨q, a1, a2, a3⟩ => ⟨q, ?_, a2, a3⟩⟩⟩
      rcases Nat.eq_or_lt_of_le a1 with e | e
      · subst e; exact absurd c a3
      · exact e
    · rw [if_neg c]
      exact ⟨(i : Int), rfl, fun _ => ⟨i, Nat.le_refl _, by omega, c⟩, fun _ => by omega⟩
theorem p68_eq {k : Nat} (hk : 5000 ≤ k) {L : List Int} (hL : L.length ≤ 1000) : p68 k L = some (decide (∃ q, q < L.length ∧ ¬ (0 ≤ L.getD q 0 ∧ L.getD q 0 ≤ 1048576))) := by
  unfold p68 p81
  simp only [jn_v, lt_v]
  obtain ⟨v, h1, h2⟩ := p81_l1_eq (k := k) hL (show (-1 : Int) < 0 by omega) L.length 0 k (by omega) (by omega)
  rw [show ((0 : Nat) : Int) = 0 from rfl] at h1
  rw [h1, cl_v]
  refine congrArg some (decide_eq_decide.2 (h2.trans ?_))
  simp
theorem p82_l1_eq {k : Nat} {L : List (List Int)} {j : Int} (hL : L.length ≤ 1000) (hj : j < 0) : ∀ (d i n : Nat), i + d = L.length → d < n → ∃ v, p82_l1 k L (some j) n (i : Int) = some v ∧ (0 ≤ v ↔ ∃ q, i ≤ q ∧ q < L.length ∧ ¬ bandOk ((L.getD q []).getD 0 0) ((L.getD q []).getD 1 0))
  | 0, i, n, h1, h2 => by
    obtain ⟨n, rfl⟩ : ∃ n', n = n' + 1 := ⟨n - 1, by omega⟩
    refine ⟨j, ?_, fun h => by omega, fun ⟨q, h3, h4, _⟩ => by omega⟩
    rw [p82_l1]
    simp only [lt_v, sp_d]
    rw [if_neg (by omega)]
  | d + 1, i, n, h1, h2 => by
    obtain ⟨n, rfl⟩ : ∃ n', n = n' + 1 := ⟨n - 1, by omega⟩
    rw [p82_l1]
    simp only [lt_v, sp_d, p71, p61_eq, cl_v, sp_nd, Int.toNat_natCast]
    have hw : wr .i64 ((i : Int) + 1) = ((i + 1 : Nat) : Int) := by rw [wr64 (by omega) (by omega)]; omega
    rw [if_pos (by omega), gd_v (by omega), hw]
    obtain ⟨v, h3, h4⟩ := p82_l1_eq (k := k) hL hj d (i + 1) n (by omega) (by omega)
    by_cases c : bandOk ((L.getD i []).getD 0 0) ((L.getD i []).getD 1 0)
    · rw [if_pos c]
      refine ⟨v, h3, h4.trans ⟨fun ⟨q, a1, a2, a3⟩ => ⟨q, by omega, a2, a3⟩, fun ⟨q, a1, a2, a3⟩ => ⟨q, ?_, a2, a3⟩⟩⟩
      rcases Nat.eq_or_lt_of_le a1 with e | e
      · subst e; exact absurd c a3
      · exact e
    · rw [if_neg c]
      exact ⟨(i : Int), rfl, fun _ => ⟨i, Nat.le_refl _, by omega, c⟩, fun _ => by omega⟩
theorem p70_eq {k : Nat} (hk : 5000 ≤ k) {L : List (List Int)} (hL : L.length ≤ 1000) : p70 k L = some (decide (∃ q, q < L.length ∧ ¬ bandOk ((L.getD q []).getD 0 0) ((L.getD q []).getD 1 0))) := by
  unfold p70 p82
  simp only [jn_v, lt_v]
  obtain ⟨v, h1, h2⟩ := p82_l1_eq (k := k) hL (show (-1 : Int) < 0 by omega) L.length 0 k (by omega) (by omega)
  rw [show ((0 : Nat) : Int) = 0 from rfl] at h1
  rw [h1, cl_v]
  refine congrArg some (decide_eq_decide.2 (h2.trans ?_))
  simp
theorem bands4_get (L : List Int) : ∀ q, q < 4 → ((bands4 L).getD q []).getD 0 0 = rVL q L ∧ ((bands4 L).getD q []).getD 1 0 = rVH q L
  | 0, _ => by simp [bands4, rVL, rVH, List.getD_eq_getElem?_getD]
  | 1, _ => by simp [bands4, rVL, rVH, List.getD_eq_getElem?_getD]
  | 2, _ => by simp [bands4, rVL, rVH, List.getD_eq_getElem?_getD]
  | 3, _ => by simp [bands4, rVL, rVH, List.getD_eq_getElem?_getD]
  | q + 4, h => by omega
def valsOk (L : List Int) : Prop := ∀ q, q < 4 → bandOk (rVL q L) (rVH q L)
theorem p70_bands {k : Nat} (hk : 5000 ≤ k) (L : List Int) : p70 k (bands4 L) = some (!decide (valsOk L)) := by
  rw [p70_eq hk (show (bands4 L).length ≤ 1000 from (by show 4 ≤ 1000; omega)), ← decide_not]
  refine congrArg some (decide_eq_decide.2 ?_)
  unfold valsOk
  rw [Classical.not_forall]
  constructor
  · rintro ⟨q, h1, h2⟩
    have h1' : q < 4 := h1
    rw [(bands4_get L q h1').1, (bands4_get L q h1').2] at h2
    exact ⟨q, fun h => h2 (h h1')⟩
  · rintro ⟨q, h1⟩
    rw [Classical.not_imp] at h1
    refine ⟨q, h1.1, ?_⟩
    rw [(bands4_get L q h1.1).1, (bands4_get L q h1.1).2]
    exact h1.2
theorem p46_l1_eq {k : Nat} (hk : 5000 ≤ k) {R : List (List Int)} (hn : R.length ≤ 64) {j : Option (Option CT × Int)} : ∀ (d i n : Nat), i + d = R.length → d < n → p46_l1 k R j n (i : Int) = if ∀ q, i ≤ q → q < R.length → rowOkAt R q then j else some (none, 2)
  | 0, i, n, h1, h2 => by
    obtain ⟨n, rfl⟩ : ∃ n', n = n' + 1 := ⟨n - 1, by omega⟩
    rw [p46_l1]
    simp only [lt_v, sp_d]
    rw [if_neg (by omega), if_pos (fun q h3 h4 => by omega)]
  | d + 1, i, n, h1, h2 => by
    obtain ⟨n, rfl⟩ : ∃ n', n = n' + 1 := ⟨n - 1, by omega⟩
    have e0 : (List.take 2 (List.drop 1 (R.getD i []))).getD 0 0 = rPL (rd R i) := by simp [rPL, rd, List.getD_eq_getElem?_getD]
    have e1 : (List.take 2 (List.drop 1 (R.getD i []))).getD 1 0 = rPH (rd R i) := by simp [rPH, rd, List.getD_eq_getElem?_getD]
    have hA : List.getD (R.getD i []) 0 0 = rA (rd R i) := rfl
    have hw : wr .i64 ((i : Int) + 1) = ((i + 1 : Nat) : Int) := by rw [wr64 (by omega) (by omega)]; omega
    rw [p46_l1]
    simp only [lt_v, sp_d, p61_eq, p49_eq, p70_bands hk, cl_v, jn_v, sp_tt, sp_ff, sp_nd, Int.toNat_natCast, e0, e1, hA, hw]
    rw [if_pos (by omega), gd_v (by omega)]
    rw [p46_l1_eq hk hn d (i + 1) n (by omega) (by omega)]
    rw [if_all (P := ∀ q, i ≤ q → q < R.length → rowOkAt R q) (Q := rowOkAt R i) (S := ∀ q, i + 1 ≤ q → q < R.length → rowOkAt R q) (by
      constructor
      · intro h; exact ⟨h i (by omega) (by omega), fun q h3 h4 => h q (by omega) h4⟩
      · rintro ⟨h3, h4⟩ q h5 h6
        rcases Nat.eq_or_lt_of_le h5 with e | e
        · subst e; exact h3
        · exact h4 q e h6)]
    generalize hX : (if ∀ q, i + 1 ≤ q → q < R.length → rowOkAt R q then j else some (none, 2)) = X
    have hrd : R.getD i [] = rd R i := rfl
    rw [hrd]
    by_cases hi : 0 < i
    · have hw2 : wr .i64 ((i : Int) - 1) = ((i - 1 : Nat) : Int) := by rw [wr64 (by omega) (by omega)]; omega
      rw [if_pos (show (i : Int) > 0 by omega), hw2, gd_v (by omega)]
      simp only [Int.toNat_natCast]
      refine @if_row' _ _ _ (rA (rd R i) ≤ rA (rd R (i - 1))) _ _ _ _ _ _ _ ?_ _ _
      unfold rowOkAt readOk valsOk
      constructor
      · rintro ⟨⟨a1, a2, a3, a4⟩, a5⟩
        exact ⟨⟨a1, a2⟩, by have := a5 hi; omega, a3, a4⟩
      · rintro ⟨⟨a1, a2⟩, a3, a4, a5⟩
        exact ⟨⟨a1, a2, a4, a5⟩, fun _ => by omega⟩
    · rw [if_neg (show ¬ (i : Int) > 0 by omega)]
      refine @if_row0 _ _ _ _ _ _ _ _ _ ?_ _ _
      unfold rowOkAt readOk valsOk
      constructor
      · rintro ⟨⟨a1, a2, a3, a4⟩, a5⟩
        exact ⟨⟨a1, a2⟩, a3, a4⟩
      · rintro ⟨⟨a1, a2⟩, a4, a5⟩
        exact ⟨⟨a1, a2, a4, a5⟩, fun h => absurd h hi⟩
theorem p46_l1_eq0 {k : Nat} (hk : 5000 ≤ k) {R : List (List Int)} (hn : R.length ≤ 64) {j : Option (Option CT × Int)} : p46_l1 k R j k 0 = if ∀ q, q < R.length → rowOkAt R q then j else some (none, 2) := by
  have := p46_l1_eq hk hn (j := j) R.length 0 k (by omega) (by omega)
  simpa using this
def lastN (R : List (List Int)) : Nat := (lastI R).toNat
def crs (R : List (List Int)) (D : List Int) : CT := (R, D, stT R, pls R (lastN R + 1), [vls R D 0 (lastN R + 1), vls R D 1 (lastN R + 1), vls R D 2 (lastN R + 1), vls R D 3 (lastN R + 1)])
theorem p46_eq {k : Nat} (hk : 5000 ≤ k) {R : List (List Int)} {D : List Int} (hD : D.length = 4) : p46 k R D = some (if logE R D = 0 then some (crs R D) else none, logE R D) := by
  have hb : ∀ {x : Int} {y : Option CT}, logE R D = x → x ≠ 0 → some ((none : Option CT), x) = some (if logE R D = 0 then y else none, logE R D) := fun h h0 => by rw [h, if_neg h0]
  unfold p46
  simp only [lt_v, sp_d, jn_v]
  by_cases hn : 64 < R.length
  · rw [if_pos (by omega)]
    exact hb (by unfold logE; rw [if_pos hn]) (by omega)
  · rw [if_neg (by omega)]
    have hn' : R.length ≤ 64 := by omega
    by_cases h2 : R.length < 2
    · rw [if_pos (by omega)]
      exact hb (by unfold logE; rw [if_neg hn, if_pos (fun h => by have := h.n2; omega)]) (by omega)
    · rw [if_neg (by omega), p68_eq hk (by omega), cl_v, sp_d]
      by_cases hd : ∃ q, q < D.length ∧ ¬ (0 ≤ D.getD q 0 ∧ D.getD q 0 ≤ 1048576)
      · rw [if_pos hd]
        obtain ⟨q, q1, q2⟩ := hd
        exact hb (by unfold logE; rw [if_neg hn, if_pos (fun h => q2 (h.dr q (by omega)))]) (by omega)
      · rw [if_neg hd]
        have hdr : ∀ q, q < 4 → 0 ≤ D.getD q 0 ∧ D.getD q 0 ≤ 1048576 := fun q hq => Classical.byContradiction fun h => hd ⟨q, by omega, h⟩
        rw [p46_l1_eq0 hk hn']
        by_cases hrow : ∀ q, q < R.length → rowOkAt R q
        · rw [if_pos hrow]
          have hasc : ∀ i, i + 1 < R.length → rA (rd R i) < rA (rd R (i + 1)) := fun i hi => by
            have := (hrow (i + 1) hi).2 (by omega)
            simpa using this
          have r0 := (hrow 0 (by omega)).1
          have r1 := (hrow (R.length - 1) (by omega)).1
          unfold readOk at r0 r1
          have hla : lastI R = rA (rd R (R.length - 1)) - rA (rd R 0) := rfl
          rw [wr64 (z := (R.length : Int) - 1) (by omega) (by omega), gd_v (by omega), gd_v (by omega), show ((R.length : Int) - 1).toNat = R.length - 1 from by omega]
          rw [show (R.getD (R.length - 1) []).getD 0 0 - (R.getD 0 []).getD 0 0 = lastI R from rfl, wr64 (z := lastI R) (by omega) (by omega)]
          by_cases hs : lastI R ≤ 2000
          · have ha : ArgOk R D := ⟨by omega, fun i hi => (hrow i hi).1, hasc, hs, hdr⟩
            have hla1 := ha.last
            have hN : ((lastN R + 1 : Nat) : Int) = lastI R + 1 := by unfold lastN; omega
            rw [if_neg (by omega), wr64 (z := lastI R + 1) (by omega) (by omega), ← hN, show (R.getD 0 []).getD 0 0 = stT R from rfl]
            have hsum : ∀ {e : Int}, ¬ SumOk R D → logE R D = 16 := fun h => by unfold logE; rw [if_neg hn, if_neg (fun h => h ha), if_pos h]
            have hno : ¬ SumOk R D → some ((none : Option CT), (16 : Int)) = some (if logE R D = 0 then some (crs R D) else none, logE R D) := fun h => hb (hsum (e := 0) h) (by omega)
            have hin : ∀ q : Nat, q < lastN R + 1 → (0 : Int) ≤ q ∧ (q : Int) ≤ lastI R := fun q hq => by unfold lastN at hq; omega
            rw [p72a_eq hk hn' ha hN]
            by_cases c : ∀ q : Nat, q < lastN R + 1 → pl R q ≤ ph R q
            · rw [if_pos c, cl2_v, sp_tt]
              have key : ∀ kk, kk < 4 → ¬ (∀ q : Nat, q < lastN R + 1 → vl R D kk q ≤ vh R D kk q) → ¬ SumOk R D := fun kk hkk h hs => h fun q hq => (hs q (hin q hq).1 (hin q hq).2).2 kk hkk
              have b0 := fun P V => p72b_eq (k := k) (P := P) (V := V) hk (show 0 < 4 by omega) hn' ha hN
              have b1 := fun P V => p72b_eq (k := k) (P := P) (V := V) hk (show 1 < 4 by omega) hn' ha hN
              have b2 := fun P V => p72b_eq (k := k) (P := P) (V := V) hk (show 2 < 4 by omega) hn' ha hN
              have b3 := fun P V => p72b_eq (k := k) (P := P) (V := V) hk (show 3 < 4 by omega) hn' ha hN
              simp only [show ((0 : Nat) : Int) = 0 from rfl, show ((1 : Nat) : Int) = 1 from rfl, show ((2 : Nat) : Int) = 2 from rfl, show ((3 : Nat) : Int) = 3 from rfl] at b0 b1 b2 b3
              rw [b0]
              by_cases c0 : ∀ q : Nat, q < lastN R + 1 → vl R D 0 q ≤ vh R D 0 q
              · rw [if_pos c0, cl2_v, sp_tt, b1]
                by_cases c1 : ∀ q : Nat, q < lastN R + 1 → vl R D 1 q ≤ vh R D 1 q
                · rw [if_pos c1, cl2_v, sp_tt, b2]
                  by_cases c2 : ∀ q : Nat, q < lastN R + 1 → vl R D 2 q ≤ vh R D 2 q
                  · rw [if_pos c2, cl2_v, sp_tt, b3]
                    by_cases c3 : ∀ q : Nat, q < lastN R + 1 → vl R D 3 q ≤ vh R D 3 q
                    · rw [if_pos c3, cl2_v, sp_tt]
                      have hso : SumOk R D := fun m h0 h1 => by
                        obtain ⟨q, rfl⟩ : ∃ q : Nat, m = q := ⟨m.toNat, by omega⟩
                        have hq : q < lastN R + 1 := by unfold lastN; omega
                        refine ⟨c q hq, fun kk hkk => ?_⟩
                        match kk, hkk with
                        | 0, _ => exact c0 q hq
                        | 1, _ => exact c1 q hq
                        | 2, _ => exact c2 q hq
                        | 3, _ => exact c3 q hq
                      rw [show logE R D = 0 from logE_zero.2 ⟨hn', ha, hso⟩, if_pos rfl]
                      rfl
                    · rw [if_neg c3, cl2_v, sp_ff]; exact hno (key 3 (by omega) c3)
                  · rw [if_neg c2, cl2_v, sp_ff]; exact hno (key 2 (by omega) c2)
                · rw [if_neg c1, cl2_v, sp_ff]; exact hno (key 1 (by omega) c1)
              · rw [if_neg c0, cl2_v, sp_ff]; exact hno (key 0 (by omega) c0)
            · rw [if_neg c, cl2_v, sp_ff]
              exact hno fun hs => c fun q hq => (hs q (hin q hq).1 (hin q hq).2).1
          · rw [if_pos (by omega)]
            exact hb (by unfold logE; rw [if_neg hn, if_pos (fun h => hs h.span)]) (by omega)
        · rw [if_neg hrow]
          refine hb ?_ (by omega)
          unfold logE
          rw [if_neg hn, if_pos]
          intro h
          refine hrow fun q hq => ⟨h.read q hq, fun h0 => ?_⟩
          have := h.asc (q - 1) (by omega)
          rw [show q - 1 + 1 = q from by omega] at this
          exact this
end Go.Proofs.Ythjkejbgknemgaa
namespace Go.Proofs.Ythjkejbgknemgaa
open Go.RowKit Classical
theorem LogOk.N {R D} (h : LogOk R D) : ((lastN R + 1 : Nat) : Int) = lastI R + 1 := by
  have := h.arg.last
  unfold lastN; omega
theorem getD_map_range {α : Type} (f : Nat → α) (N i : Nat) (y : α) (h : i < N) : ((List.range N).map f).getD i y = f i := by
  simp [List.getD_eq_getElem?_getD, h]
theorem pls_get {R : List (List Int)} {N : Nat} {x : Int} (h0 : 0 ≤ x) (h1 : x < N) : (pls R N).getD x.toNat [] = [pl R x, ph R x] := by
  unfold pls
  rw [getD_map_range _ _ _ _ (by omega), show ((x.toNat : Nat) : Int) = x from by omega]
theorem vls_get {R : List (List Int)} {D : List Int} {kk N : Nat} {x : Int} (h0 : 0 ≤ x) (h1 : x < N) : (vls R D kk N).getD x.toNat [] = [vl R D kk x, vh R D kk x] := by
  unfold vls
  rw [getD_map_range _ _ _ _ (by omega), show ((x.toNat : Nat) : Int) = x from by omega]
theorem pls_len (R : List (List Int)) (N : Nat) : (pls R N).length = N := by simp [pls]
theorem vls_len (R : List (List Int)) (D : List Int) (kk N : Nat) : (vls R D kk N).length = N := by simp [vls]
theorem crsV_get (R : List (List Int)) (D : List Int) : ∀ kk, kk < 4 → ([vls R D 0 (lastN R + 1), vls R D 1 (lastN R + 1), vls R D 2 (lastN R + 1), vls R D 3 (lastN R + 1)]).getD kk [] = vls R D kk (lastN R + 1)
  | 0, _ => rfl
  | 1, _ => rfl
  | 2, _ => rfl
  | 3, _ => rfl
  | q + 4, h => by omega
def inC (R : List (List Int)) (u : List Int) (x : Int) : Prop := u.getD 4 0 ≤ stT R + x ∧ stT R + x + 1 ≤ u.getD 5 0
noncomputable def stepsFrom (R : List (List Int)) (u : List Int) (i d : Nat) : List Int := ((List.range' i d).map fun q : Nat => (q : Int)).filter fun x => decide (inC R u x)
noncomputable def steps (R : List (List Int)) (u : List Int) : List Int := stepsFrom R u 0 (lastN R)
theorem steps_mem {R u x} : x ∈ steps R u ↔ 0 ≤ x ∧ x < (lastN R : Int) ∧ inC R u x := by
  unfold steps stepsFrom
  rw [List.mem_filter, List.mem_map]
  simp only [List.mem_range'_1, decide_eq_true_eq]
  constructor
  · rintro ⟨⟨q, ⟨_, hq⟩, rfl⟩, h⟩; exact ⟨by omega, by omega, h⟩
  · rintro ⟨h0, h1, h2⟩; exact ⟨⟨x.toNat, ⟨by omega, by omega⟩, by omega⟩, h2⟩
theorem p85_eq {R : List (List Int)} {D : List Int} {u : List Int} (h : LogOk R D) : ∀ (d i f : Nat), i + d = lastN R → d < f → p85_l (stT R) (u.getD 4 0) (u.getD 5 0) (lastN R : Int) f (i : Int) = some (stepsFrom R u i d)
  | 0, i, f, h1, h2 => by
    obtain ⟨f, rfl⟩ : ∃ f', f = f' + 1 := ⟨f - 1, by omega⟩
    rw [p85_l, sp_d, if_neg (by omega)]
    rfl
  | d + 1, i, f, h1, h2 => by
    obtain ⟨f, rfl⟩ : ∃ f', f = f' + 1 := ⟨f - 1, by omega⟩
    have hst := h.arg.st
    have hsp := h.arg.span
    have hN := h.N
    have hw : wr .i64 ((i : Int) + 1) = ((i + 1 : Nat) : Int) := by rw [wr64 (by omega) (by omega)]; omega
    rw [p85_l]
    simp only [sp_d, lt_v]
    rw [if_pos (by omega), wr64 (z := stT R + (i : Int)) (by omega) (by omega), wr64 (z := stT R + (i : Int) + 1) (by omega) (by omega), hw, p85_eq h d (i + 1) f (by omega) (by omega), cl_v]
    have e : stepsFrom R u i (d + 1) = if inC R u i then (i : Int) :: stepsFrom R u (i + 1) d else stepsFrom R u (i + 1) d := by
      unfold stepsFrom
      rw [List.range'_succ, List.map_cons, List.filter_cons]
      simp only [decide_eq_true_eq]
    rw [e]
    unfold inC
    by_cases c1 : u.getD 4 0 ≤ stT R + i <;> by_cases c2 : stT R + i + 1 ≤ u.getD 5 0
    · rw [if_pos (by omega), if_pos c2, if_pos ⟨c1, c2⟩]
    · rw [if_pos (by omega), if_neg c2, if_neg (fun h => c2 h.2)]
    · rw [if_neg (by omega), if_neg (fun h => c1 h.1)]
    · rw [if_neg (by omega), if_neg (fun h => c1 h.1)]
theorem p77_eq {k : Nat} (hk : 5000 ≤ k) {R : List (List Int)} {D : List Int} {u : List Int} {V} (h : LogOk R D) : p77 k R D (stT R) (pls R (lastN R + 1)) V u = some (steps R u) := by
  have hsp := h.arg.span
  have hN := h.N
  unfold p77 p86
  rw [pls_len]
  simp only [lt_v]
  rw [wr64 (by omega) (by omega), cl_v, show ((lastN R + 1 : Nat) : Int) - 1 = (lastN R : Int) from by omega]
  exact p85_eq h (lastN R) 0 k (by omega) (by omega)
def mustP (R : List (List Int)) (D : List Int) (u : List Int) (x : Int) : Prop := u.getD 3 0 < max (vl R D (u.getD 2 0).toNat x) (vl R D (u.getD 2 0).toNat (x + 1))
noncomputable def must (R : List (List Int)) (D : List Int) (u : List Int) : List Int := (steps R u).filter fun x => decide (mustP R D u x)
theorem p56_r1_eq {k : Nat} {R : List (List Int)} {D : List Int} {u : List Int} {j : List Int → Option (List Int)} (hl : lastN R ≤ 2000) : ∀ (S W : List Int), (∀ x ∈ S, 0 ≤ x ∧ x < (lastN R : Int)) → W.length + S.length ≤ 100000 →
    p56_r1 k j u (vls R D (u.getD 2 0).toNat (lastN R + 1)) S W = j (W ++ S.filter fun x => decide (mustP R D u x))
  | [], W, _, _ => by rw [p56_r1]; simp
  | x :: S, W, hS, hW => by
    obtain ⟨h0, h1⟩ := hS x (List.mem_cons_self ..)
    simp only [List.length_cons] at hW
    rw [p56_r1]
    simp only [lt_v, sp_d, vls_len, mx_eq]
    rw [gd_v (by omega), wr64 (z := x + 1) (by omega) (by omega), gd_v (by omega), vls_get h0 (by omega), vls_get (by omega) (by omega)]
    simp only [List.getD_cons_zero]
    have ih := fun W hW => p56_r1_eq (k := k) (D := D) (u := u) (j := j) hl S W (fun y hy => hS y (List.mem_cons_of_mem _ hy)) hW
    rw [List.filter_cons]
    simp only [decide_eq_true_eq]
    unfold mustP at ih ⊢
    by_cases c : u.getD 3 0 < max (vl R D (u.getD 2 0).toNat x) (vl R D (u.getD 2 0).toNat (x + 1))
    · rw [if_pos c, if_pos c, gd_v (by simp; omega), ih _ (by simp; omega)]
      simp
    · rw [if_neg c, if_neg c, ih _ (by omega)]
theorem steps_len (R u) : (steps R u).length ≤ lastN R := by
  unfold steps stepsFrom
  refine Nat.le_trans (List.length_filter_le _ _) ?_
  simp
theorem p56_eq {k : Nat} (hk : 5000 ≤ k) {R : List (List Int)} {D : List Int} {u : List Int} (h : LogOk R D) (hu : ClaimOk u) : p56 k R D (stT R) (pls R (lastN R + 1)) (crs R D).2.2.2.2 u = some (must R D u) := by
  have hsp := h.arg.span
  have hN := h.N
  have hk1 := hu.2.2.2.1
  have hk2 := hu.2.2.2.2.1
  unfold p56
  simp only [lt_v, jn_v]
  rw [gd_v (by omega), p77_eq hk h, cl_v]
  rw [show (crs R D).2.2.2.2 = [vls R D 0 (lastN R + 1), vls R D 1 (lastN R + 1), vls R D 2 (lastN R + 1), vls R D 3 (lastN R + 1)] from rfl, Nat.mul_one, crsV_get R D _ (by omega)]
  have hl := steps_len R u
  rw [p56_r1_eq (by omega) (steps R u) [] (fun x hx => ⟨(steps_mem.1 hx).1, (steps_mem.1 hx).2.1⟩) (by simp; omega)]
  rfl
theorem must_mem {R D u x} : x ∈ must R D u ↔ 0 ≤ x ∧ x < (lastN R : Int) ∧ inC R u x ∧ mustP R D u x := by
  unfold must
  rw [List.mem_filter, steps_mem, decide_eq_true_eq]
  exact ⟨fun ⟨⟨a, b, c⟩, d⟩ => ⟨a, b, c, d⟩, fun ⟨a, b, c, d⟩ => ⟨⟨a, b, c⟩, d⟩⟩
theorem must_len (R D u) : (must R D u).length ≤ lastN R := Nat.le_trans (List.length_filter_le _ _) (steps_len R u)
theorem asc_steps (R u) : (steps R u).Pairwise (· < ·) := by
  unfold steps stepsFrom
  refine List.Pairwise.filter _ ?_
  rw [List.pairwise_map]
  refine List.Pairwise.imp ?_ (List.pairwise_lt_range' (s := 0) (n := lastN R))
  intro a b hab; omega
theorem asc_must (R D u) : (must R D u).Pairwise (· < ·) := List.Pairwise.filter _ (asc_steps R u)
def canP (R : List (List Int)) (D : List Int) (u : List Int) (x : Int) : Prop := u.getD 3 0 < max (vh R D (u.getD 2 0).toNat x) (vh R D (u.getD 2 0).toNat (x + 1)) ∧ pl R x ≤ u.getD 1 0 ∧ u.getD 0 0 ≤ ph R (x + 1)
noncomputable def firstOr (p : Int → Prop) : List Int → Int
  | [] => -1
  | x :: l => if p x then x else firstOr p l
theorem firstOr_cons (p : Int → Prop) (x : Int) (l : List Int) : firstOr p (x :: l) = if p x then x else firstOr p l := by rw [firstOr]
theorem firstOr_neg {p : Int → Prop} : ∀ {l : List Int}, (∀ x ∈ l, 0 ≤ x) → (firstOr p l < 0 ↔ ∀ x ∈ l, ¬ p x)
  | [], _ => by simp [firstOr]
  | x :: l, h => by
    unfold firstOr
    split
    · rename_i hp
      have := h x (List.mem_cons_self ..)
      exact ⟨fun hh => by omega, fun hh => absurd hp (hh x (List.mem_cons_self ..))⟩
    · rename_i hp
      rw [firstOr_neg (fun y hy => h y (List.mem_cons_of_mem _ hy))]
      simp [hp]
theorem firstOr_pos {p : Int → Prop} : ∀ {l : List Int}, 0 ≤ firstOr p l → firstOr p l ∈ l ∧ p (firstOr p l)
  | [], h => by simp [firstOr] at h
  | x :: l, h => by
    unfold firstOr at h ⊢
    split
    · rename_i hp; exact ⟨List.mem_cons_self .., hp⟩
    · rename_i hp
      rw [if_neg hp] at h
      have := firstOr_pos h
      exact ⟨List.mem_cons_of_mem _ this.1, this.2⟩
noncomputable def canI (R : List (List Int)) (D : List Int) (u : List Int) : Int := firstOr (canP R D u) (steps R u)
theorem p65_r1_eq {k : Nat} {R : List (List Int)} {D : List Int} {u : List Int} (hl : lastN R ≤ 2000) : ∀ (S : List Int), (∀ x ∈ S, 0 ≤ x ∧ x < (lastN R : Int)) →
    p65_r1 k (some (-1)) (fun x => some x) (pls R (lastN R + 1)) u (vls R D (u.getD 2 0).toNat (lastN R + 1)) S = some (firstOr (canP R D u) S)
  | [], _ => by rw [p65_r1]; rfl
  | x :: S, hS => by
    obtain ⟨h0, h1⟩ := hS x (List.mem_cons_self ..)
    rw [p65_r1]
    simp only [lt_v, jn_v, sp_d, sp_ff, vls_len, pls_len, mx_eq]
    rw [gd_v (by omega), wr64 (z := x + 1) (by omega) (by omega), gd_v (by omega), vls_get h0 (by omega), vls_get (by omega) (by omega), gd_v (by omega), gd_v (by omega), pls_get h0 (by omega), pls_get (by omega) (by omega)]
    simp only [List.getD_cons_zero, List.getD_cons_succ]
    rw [p65_r1_eq hl S (fun y hy => hS y (List.mem_cons_of_mem _ hy))]
    rw [firstOr_cons]
    by_cases c1 : u.getD 3 0 < max (vh R D (u.getD 2 0).toNat x) (vh R D (u.getD 2 0).toNat (x + 1)) <;> by_cases c2 : pl R x ≤ u.getD 1 0 <;> by_cases c3 : u.getD 0 0 ≤ ph R (x + 1)
    · rw [if_pos c1, if_pos c2, if_pos c3, if_pos (show canP R D u x from ⟨c1, c2, c3⟩)]
    · rw [if_pos c1, if_pos c2, if_neg c3, if_neg (fun h : canP R D u x => c3 h.2.2)]
    · rw [if_pos c1, if_neg c2, if_neg (fun h : canP R D u x => c2 h.2.1)]
    · rw [if_pos c1, if_neg c2, if_neg (fun h : canP R D u x => c2 h.2.1)]
    · rw [if_neg c1, if_neg (fun h : canP R D u x => c1 h.1)]
    · rw [if_neg c1, if_neg (fun h : canP R D u x => c1 h.1)]
    · rw [if_neg c1, if_neg (fun h : canP R D u x => c1 h.1)]
    · rw [if_neg c1, if_neg (fun h : canP R D u x => c1 h.1)]
theorem p65_eq {k : Nat} (hk : 5000 ≤ k) {R : List (List Int)} {D : List Int} {u : List Int} (h : LogOk R D) (hu : ClaimOk u) : p65 k R D (stT R) (pls R (lastN R + 1)) (crs R D).2.2.2.2 u = some (canI R D u) := by
  have hsp := h.arg.span
  have hN := h.N
  have hk1 := hu.2.2.2.1
  have hk2 := hu.2.2.2.2.1
  unfold p65
  simp only [lt_v, jn_v]
  rw [gd_v (by omega), p77_eq hk h, cl_v]
  rw [show (crs R D).2.2.2.2 = [vls R D 0 (lastN R + 1), vls R D 1 (lastN R + 1), vls R D 2 (lastN R + 1), vls R D 3 (lastN R + 1)] from rfl, Nat.mul_one, crsV_get R D _ (by omega)]
  exact p65_r1_eq (by omega) (steps R u) (fun x hx => ⟨(steps_mem.1 hx).1, (steps_mem.1 hx).2.1⟩)
def pastAt (R : List (List Int)) (u S : List Int) (i : Nat) : Prop :=
  (i = 0 ∨ pl R (S.getD (i - 1) 0 + 1) < u.getD 0 0) ∧ (i = S.length ∨ u.getD 1 0 < ph R (S.getD i 0)) ∧ (i = 0 ∨ i = S.length ∨ S.getD (i - 1) 0 + 1 < S.getD i 0)
noncomputable def pastFrom (R : List (List Int)) (u S : List Int) (i d : Nat) : Int := firstOr (fun x => pastAt R u S x.toNat) ((List.range' i d).map fun q : Nat => (q : Int))
noncomputable def pastI (R : List (List Int)) (u S : List Int) : Int := pastFrom R u S 0 (S.length + 1)
theorem pastFrom_succ (R u S i d) : pastFrom R u S i (d + 1) = if pastAt R u S i then (i : Int) else pastFrom R u S (i + 1) d := by
  unfold pastFrom
  rw [List.range'_succ, List.map_cons]
  simp only [firstOr, Int.toNat_natCast]
theorem p58_l1_eq {k : Nat} {R : List (List Int)} {u S : List Int} (hl : lastN R ≤ 2000) (hS : ∀ x ∈ S, 0 ≤ x ∧ x < (lastN R : Int)) (hL : S.length ≤ 100000) : ∀ (d i n : Nat), i + d = S.length + 1 → d < n →
    p58_l1 k (pls R (lastN R + 1)) u S (some (-1)) ((S.length : Int) + 1) n (i : Int) = some (pastFrom R u S i d)
  | 0, i, n, h1, h2 => by
    obtain ⟨n, rfl⟩ : ∃ n', n = n' + 1 := ⟨n - 1, by omega⟩
    rw [p58_l1]
    simp only [lt_v, sp_d]
    rw [if_neg (by omega)]
    rfl
  | d + 1, i, n, h1, h2 => by
    obtain ⟨n, rfl⟩ : ∃ n', n = n' + 1 := ⟨n - 1, by omega⟩
    have hw : wr .i64 ((i : Int) + 1) = ((i + 1 : Nat) : Int) := by rw [wr64 (by omega) (by omega)]; omega
    have hin : ∀ q, q < S.length → 0 ≤ S.getD q 0 ∧ S.getD q 0 < (lastN R : Int) := fun q hq => by
      have : S.getD q 0 ∈ S := by simp [List.getD_eq_getElem?_getD, List.getElem?_eq_getElem hq]
      exact hS _ this
    rw [p58_l1, pastFrom_succ]
    simp only [lt_v, jn_v, sp_tt, sp_ff, sp_d, Int.toNat_natCast, pls_len]
    rw [if_pos (by omega), hw, p58_l1_eq hl hS hL d (i + 1) n (by omega) (by omega)]
    have e0 : ((i : Int) == 0) = decide (i = 0) := by by_cases h : i = 0 <;> simp [h]
    have e1 : ((i : Int) == (S.length : Int)) = decide (i = S.length) := by by_cases h : i = S.length <;> simp [h]; omega
    simp only [e0, e1, sp_d]
    generalize hX : some (pastFrom R u S (i + 1) d) = X
    have fin : ∀ {P : Prop} {y : Option Int}, (P → y = some (i : Int)) → (¬ P → y = X) → (P ↔ pastAt R u S i) → y = some (if pastAt R u S i then (i : Int) else pastFrom R u S (i + 1) d) := by
      intro P y h3 h4 h5
      by_cases hP : P
      · rw [if_pos (h5.1 hP)]; exact h3 hP
      · rw [if_neg (fun h => hP (h5.2 h)), hX]; exact h4 hP
    by_cases c0 : i = 0
    · by_cases c1 : i = S.length
      · refine fin (P := True) (fun _ => ?_) (fun h => absurd trivial h) ⟨fun _ => ⟨.inl c0, .inl c1, .inl c0⟩, fun _ => trivial⟩
        simp only [if_pos c0, if_pos c1]
      · have hi := hin i (by omega)
        simp only [if_pos c0, if_neg c1]
        rw [gd_v (by omega), gd_v (by omega), pls_get hi.1 (by omega)]
        simp only [List.getD_cons_zero, List.getD_cons_succ]
        by_cases a2 : u.getD 1 0 < ph R (S.getD i 0)
        · refine fin (P := True) (fun _ => ?_) (fun h => absurd trivial h) ⟨fun _ => ⟨.inl c0, .inr a2, .inl c0⟩, fun _ => trivial⟩
          rw [if_pos a2]
        · refine fin (P := False) (fun h => h.elim) (fun _ => ?_) ⟨fun h => h.elim, fun h => h.2.1.elim c1 a2⟩
          rw [if_neg a2]
    · have hw2 : wr .i64 ((i : Int) - 1) = ((i - 1 : Nat) : Int) := by rw [wr64 (by omega) (by omega)]; omega
      have hi1 := hin (i - 1) (by omega)
      simp only [if_neg c0, hw2]
      rw [gd_v (by omega)]
      have hw3 : wr .i64 (S.getD (i - 1) 0 + 1) = S.getD (i - 1) 0 + 1 := wr64 (by omega) (by omega)
      have hp1 : (pls R (lastN R + 1)).getD (S.getD (i - 1) 0 + 1).toNat [] = [pl R (S.getD (i - 1) 0 + 1), ph R (S.getD (i - 1) 0 + 1)] := pls_get (by omega) (by omega)
      simp only [Int.toNat_natCast, hw3, hp1, List.getD_cons_zero]
      rw [gd_v (by omega)]
      by_cases c1 : i = S.length
      · by_cases a1 : pl R (S.getD (i - 1) 0 + 1) < u.getD 0 0
        · refine fin (P := True) (fun _ => ?_) (fun h => absurd trivial h) ⟨fun _ => ⟨.inr a1, .inl c1, .inr (.inl c1)⟩, fun _ => trivial⟩
          simp only [if_pos a1, if_pos c1]
        · refine fin (P := False) (fun h => h.elim) (fun _ => ?_) ⟨fun h => h.elim, fun h => h.1.elim c0 a1⟩
          simp only [if_neg a1, if_pos c1, ite_self]
      · have hi := hin i (by omega)
        have hp2 : (pls R (lastN R + 1)).getD (S.getD i 0).toNat [] = [pl R (S.getD i 0), ph R (S.getD i 0)] := pls_get hi.1 (by omega)
        simp only [if_neg c1, hp2, List.getD_cons_zero, List.getD_cons_succ]
        rw [gd_v (by omega), gd_v (by omega), gd_v (by omega), gd_v (by omega)]
        by_cases a1 : pl R (S.getD (i - 1) 0 + 1) < u.getD 0 0 <;> by_cases a2 : u.getD 1 0 < ph R (S.getD i 0) <;> by_cases a3 : S.getD (i - 1) 0 + 1 < S.getD i 0
        · refine fin (P := True) (fun _ => ?_) (fun h => absurd trivial h) ⟨fun _ => ⟨.inr a1, .inr a2, .inr (.inr a3)⟩, fun _ => trivial⟩
          rw [if_pos a1, if_pos a2, if_pos a3]
        all_goals
          refine fin (P := False) (fun h => h.elim) (fun _ => ?_) ⟨fun h => h.elim, fun h => ?_⟩
        all_goals first
          | (rcases h with ⟨h1 | h1, h2 | h2, h3 | h3 | h3⟩ <;> first | exact c0 h1 | exact c1 h2 | exact c0 h3 | exact c1 h3 | exact a1 h1 | exact a2 h2 | exact a3 h3)
          | (simp only [a1, a2, a3, if_true, if_false, gt_iff_lt]; done)
          | (simp only [a1, a2, a3, if_true, if_false, gt_iff_lt, sp_tt, sp_ff, ite_self]; done)
theorem p58_eq {k : Nat} (hk : 5000 ≤ k) {R : List (List Int)} {D : List Int} {u S : List Int} {st V} (h : LogOk R D) (hS : ∀ x ∈ S, 0 ≤ x ∧ x < (lastN R : Int)) (hL : S.length ≤ 4000) : p58 k R D st (pls R (lastN R + 1)) V u S = some (pastI R u S) := by
  have hsp := h.arg.span
  have hN := h.N
  unfold p58
  simp only [lt_v, jn_v]
  rw [wr64 (by omega) (by omega)]
  exact p58_l1_eq (by omega) hS (by omega) (S.length + 1) 0 k (by omega) (by omega)
noncomputable def vdI (R : List (List Int)) (D u : List Int) : Int := if pastI R u (must R D u) < 0 then 1 else if canI R D u < 0 then 2 else 0
theorem p44_eq {k : Nat} (hk : 5000 ≤ k) {R : List (List Int)} {D : List Int} {u : List Int} (h : LogOk R D) (hu : ClaimOk u) : p44 k R D (stT R) (pls R (lastN R + 1)) (crs R D).2.2.2.2 u = some (vdI R D u) := by
  have hsp := h.arg.span
  have hN := h.N
  have hl := must_len R D u
  unfold p44 vdI
  rw [p56_eq hk h hu, cl_v, p58_eq hk h (fun x hx => ⟨(must_mem.1 hx).1, (must_mem.1 hx).2.1⟩) (by omega), cl_v, p65_eq hk h hu]
  simp only [lt_v, sp_d, cl_v]
  split
  · rfl
  · split <;> rfl
theorem ne_zero_b (x : Int) : (x != 0) = !decide (x = 0) := by by_cases h : x = 0 <;> simp [h]
theorem eq_zero_b (x y : Int) : (x == y) = decide (x = y) := by by_cases h : x = y <;> simp [h]
theorem p43_eq {k : Nat} (hk : 5000 ≤ k) {R : List (List Int)} {D u : List Int} (hD : D.length = 4) : p43 k R D u = some (if logE R D = 0 then some (crs R D) else none, if logE R D = 0 then claimE u else logE R D) := by
  unfold p43
  rw [p46_eq hk hD, cl2_v]
  simp only [lt_v, ne_zero_b, sp_nd, p32_eq, cl_v]
  by_cases h : logE R D = 0
  · rw [if_pos h, if_pos h, if_pos h]
  · rw [if_neg h, if_neg h, if_neg h]
theorem p14_eq {k : Nat} (hk : 5000 ≤ k) {R : List (List Int)} {D u : List Int} (hD : D.length = 4) : p14 k R D u = some (if logE R D = 0 then (if claimE u = 0 then (vdI R D u, 0) else (0, claimE u)) else (0, logE R D)) := by
  unfold p14
  rw [p43_eq hk hD, cl2_v]
  simp only [lt_v, ne_zero_b, sp_nd]
  by_cases h : logE R D = 0
  · rw [if_pos h, if_pos h, if_pos h]
    by_cases h2 : claimE u = 0
    · rw [if_pos h2, if_pos h2]
      simp only [cl_v]
      rw [show (crs R D).1 = R from rfl, show (crs R D).2.1 = D from rfl, show (crs R D).2.2.1 = stT R from rfl, show (crs R D).2.2.2.1 = pls R (lastN R + 1) from rfl, p44_eq hk (logE_zero.1 h) (claimE_zero.1 h2), cl_v]
    · rw [if_neg h2, if_neg h2]
  · rw [if_neg h, if_neg h, if_neg h]
theorem p12_eq {k : Nat} (hk : 5000 ≤ k) : p12 k = some true := by
  obtain ⟨j, rfl⟩ : ∃ j, k = j + 5000 := ⟨k - 5000, by omega⟩
  kernel_rfl
end Go.Proofs.Ythjkejbgknemgaa
namespace Go.Proofs.Ythjkejbgknemgaa
open Go.RowKit Classical
theorem pl_mono (R : List (List Int)) {a b : Int} (h : a ≤ b) : pl R a ≤ pl R b := by
  unfold pl
  rw [PL_le]
  have := PL_le.1 (Int.le_refl (PL (stT R + b) R (-1099511627776)))
  exact ⟨this.1, fun r hr ht => this.2 r hr (by omega)⟩
theorem ph_mono (R : List (List Int)) {a b : Int} (h : a ≤ b) : ph R a ≤ ph R b := by
  unfold ph
  rw [le_PH]
  have := le_PH.1 (Int.le_refl (PH (stT R + a) R 1099511627776))
  exact ⟨this.1, fun r hr ht => this.2 r hr (by omega)⟩
theorem ab_step (x : Int) : ab (x + 1) ≤ ab x + 1 ∧ ab (x - 1) ≤ ab x + 1 := by unfold ab; omega
theorem mul_step {d a b : Int} (hd : 0 ≤ d) (h : a ≤ b + 1) : d * a ≤ d * b + d := by
  have := Int.mul_le_mul_of_nonneg_left h hd
  rw [Int.mul_add, Int.mul_one] at this
  exact this
theorem vl_step (R : List (List Int)) (D : List Int) (k : Nat) (hd : 0 ≤ D.getD k 0) (a : Int) : vl R D k (a + 1) ≤ vl R D k a + D.getD k 0 ∧ vl R D k a ≤ vl R D k (a + 1) + D.getD k 0 := by
  unfold vl
  constructor
  · rw [VL_le]
    have := VL_le.1 (Int.le_refl (VL (D.getD k 0) k (stT R + a) R (-1125899906842624)))
    refine ⟨by omega, fun r hr => ?_⟩
    have h1 := this.2 r hr
    have h2 := mul_step hd (a := ab (rA r - (stT R + a))) (b := ab (rA r - (stT R + (a + 1)))) (by have := (ab_step (rA r - (stT R + (a + 1)))).1; rw [show rA r - (stT R + (a + 1)) + 1 = rA r - (stT R + a) from by omega] at this; exact this)
    omega
  · rw [VL_le]
    have := VL_le.1 (Int.le_refl (VL (D.getD k 0) k (stT R + (a + 1)) R (-1125899906842624)))
    refine ⟨by omega, fun r hr => ?_⟩
    have h1 := this.2 r hr
    have h2 := mul_step hd (a := ab (rA r - (stT R + (a + 1)))) (b := ab (rA r - (stT R + a))) (by have := (ab_step (rA r - (stT R + a))).2; rw [show rA r - (stT R + a) - 1 = rA r - (stT R + (a + 1)) from by omega] at this; exact this)
    omega
theorem vh_step (R : List (List Int)) (D : List Int) (k : Nat) (hd : 0 ≤ D.getD k 0) (a : Int) : vh R D k (a + 1) ≤ vh R D k a + D.getD k 0 ∧ vh R D k a ≤ vh R D k (a + 1) + D.getD k 0 := by
  unfold vh
  constructor
  · suffices h : VH (D.getD k 0) k (stT R + (a + 1)) R 1125899906842624 - D.getD k 0 ≤ VH (D.getD k 0) k (stT R + a) R 1125899906842624 by omega
    rw [le_VH]
    have := le_VH.1 (Int.le_refl (VH (D.getD k 0) k (stT R + (a + 1)) R 1125899906842624))
    refine ⟨by omega, fun r hr => ?_⟩
    have h1 := this.2 r hr
    have h2 := mul_step hd (a := ab (rA r - (stT R + (a + 1)))) (b := ab (rA r - (stT R + a))) (by have := (ab_step (rA r - (stT R + a))).2; rw [show rA r - (stT R + a) - 1 = rA r - (stT R + (a + 1)) from by omega] at this; exact this)
    omega
  · suffices h : VH (D.getD k 0) k (stT R + a) R 1125899906842624 - D.getD k 0 ≤ VH (D.getD k 0) k (stT R + (a + 1)) R 1125899906842624 by omega
    rw [le_VH]
    have := le_VH.1 (Int.le_refl (VH (D.getD k 0) k (stT R + a) R 1125899906842624))
    refine ⟨by omega, fun r hr => ?_⟩
    have h1 := this.2 r hr
    have h2 := mul_step hd (a := ab (rA r - (stT R + a))) (b := ab (rA r - (stT R + (a + 1)))) (by have := (ab_step (rA r - (stT R + (a + 1)))).1; rw [show rA r - (stT R + (a + 1)) + 1 = rA r - (stT R + a) from by omega] at this; exact this)
    omega
def PastP (R : List (List Int)) (u : List Int) (S : List Int) : Prop := ∃ a : Int, (∀ s ∈ S, s < a → pl R (s + 1) < u.getD 0 0) ∧ (∀ s ∈ S, a ≤ s → u.getD 1 0 < ph R s) ∧ ¬ (a - 1 ∈ S ∧ a ∈ S)
theorem getD_mem' {S : List Int} {i : Nat} (h : i < S.length) : S.getD i 0 ∈ S := by simp [List.getD_eq_getElem?_getD, List.getElem?_eq_getElem h]
theorem mem_getD {S : List Int} {s : Int} (h : s ∈ S) : ∃ i, i < S.length ∧ S.getD i 0 = s := by
  obtain ⟨i, hi, rfl⟩ := List.getElem_of_mem h
  exact ⟨i, hi, by simp [List.getD_eq_getElem?_getD, List.getElem?_eq_getElem hi]⟩
theorem asc_getD {S : List Int} (h : S.Pairwise (· < ·)) {i j : Nat} (hij : i < j) (hj : j < S.length) : S.getD i 0 < S.getD j 0 := by
  have := List.pairwise_iff_getElem.1 h i j (by omega) hj hij
  simpa [List.getD_eq_getElem?_getD, List.getElem?_eq_getElem hj, List.getElem?_eq_getElem (show i < S.length by omega)] using this
theorem asc_getD_le {S : List Int} (h : S.Pairwise (· < ·)) {i j : Nat} (hij : i ≤ j) (hj : j < S.length) : S.getD i 0 ≤ S.getD j 0 := by
  rcases Nat.eq_or_lt_of_le hij with e | e
  · subst e; exact Int.le_refl _
  · exact Int.le_of_lt (asc_getD h e hj)
theorem pastAt_P {R : List (List Int)} {u S : List Int} (hS : S.Pairwise (· < ·)) {i : Nat} (hi : i ≤ S.length) (h : pastAt R u S i) : PastP R u S := by
  obtain ⟨h1, h2, h3⟩ := h
  have before : ∀ s ∈ S, ∀ q, S.getD q 0 = s → q < i → pl R (s + 1) < u.getD 0 0 := by
    intro s hs q hq hqi
    rcases h1 with e | e
    · omega
    · have := asc_getD_le hS (i := q) (j := i - 1) (by omega) (by omega)
      exact Int.lt_of_le_of_lt (pl_mono R (by omega)) e
  have behind : ∀ s ∈ S, ∀ q, S.getD q 0 = s → q < S.length → i ≤ q → u.getD 1 0 < ph R s := by
    intro s hs q hq hql hqi
    rcases h2 with e | e
    · omega
    · have := asc_getD_le hS (i := i) (j := q) hqi hql
      exact Int.lt_of_lt_of_le e (ph_mono R (by omega))
  by_cases hil : i = S.length
  · refine ⟨S.getD (i - 1) 0 + 2, fun s hs _ => ?_, fun s hs hle => ?_, fun ⟨h4, h5⟩ => ?_⟩
    · obtain ⟨q, hq, hqs⟩ := mem_getD hs
      exact before s hs q hqs (by omega)
    · obtain ⟨q, hq, hqs⟩ := mem_getD hs
      have := asc_getD_le hS (i := q) (j := i - 1) (by omega) (by omega)
      omega
    · obtain ⟨q, hq, hqs⟩ := mem_getD h5
      have := asc_getD_le hS (i := q) (j := i - 1) (by omega) (by omega)
      omega
  · have hlt : i < S.length := by omega
    refine ⟨S.getD i 0, fun s hs hl => ?_, fun s hs hle => ?_, fun ⟨h4, h5⟩ => ?_⟩
    · obtain ⟨q, hq, hqs⟩ := mem_getD hs
      refine before s hs q hqs ?_
      refine Classical.byContradiction fun hn => ?_
      have := asc_getD_le hS (i := i) (j := q) (by omega) hq
      omega
    · obtain ⟨q, hq, hqs⟩ := mem_getD hs
      refine behind s hs q hqs hq ?_
      refine Classical.byContradiction fun hn => ?_
      have := asc_getD hS (i := q) (j := i) (by omega) hlt
      omega
    · obtain ⟨q, hq, hqs⟩ := mem_getD h4
      have hqi : q < i := Classical.byContradiction fun hn => by
        have := asc_getD_le hS (i := i) (j := q) (by omega) hq
        omega
      rcases h3 with e | e | e
      · omega
      · omega
      · have := asc_getD_le hS (i := q) (j := i - 1) (by omega) (by omega)
        omega
theorem P_pastAt {R : List (List Int)} {u S : List Int} (hS : S.Pairwise (· < ·)) (h : PastP R u S) : ∃ i, i ≤ S.length ∧ pastAt R u S i := by
  obtain ⟨a, h1, h2, h3⟩ := h
  -- the first one that is not below a
  have : ∃ i, i ≤ S.length ∧ (∀ q, q < i → S.getD q 0 < a) ∧ (i < S.length → a ≤ S.getD i 0) := by
    have key : ∀ d i, i + d = S.length → (∀ q, q < i → S.getD q 0 < a) → ∃ i, i ≤ S.length ∧ (∀ q, q < i → S.getD q 0 < a) ∧ (i < S.length → a ≤ S.getD i 0) := by
      intro d
      induction d with
      | zero => intro i hi hq; exact ⟨i, by omega, hq, fun h => by omega⟩
      | succ d ih =>
        intro i hi hq
        by_cases c : S.getD i 0 < a
        · exact ih (i + 1) (by omega) (fun q hqi => by
            rcases Nat.eq_or_lt_of_le (Nat.le_of_lt_succ hqi) with e | e
            · subst e; exact c
            · exact hq q e)
        · exact ⟨i, by omega, hq, fun _ => by omega⟩
    exact key S.length 0 (by omega) (fun q hq => by omega)
  obtain ⟨i, hi, hb, ha⟩ := this
  refine ⟨i, hi, ?_, ?_, ?_⟩
  · by_cases e : i = 0
    · exact .inl e
    · exact .inr (h1 _ (getD_mem' (by omega)) (hb _ (by omega)))
  · by_cases e : i = S.length
    · exact .inl e
    · exact .inr (h2 _ (getD_mem' (by omega)) (ha (by omega)))
  · by_cases e : i = 0
    · exact .inl e
    · by_cases e2 : i = S.length
      · exact .inr (.inl e2)
      · refine .inr (.inr ?_)
        have h4 := hb (i - 1) (by omega)
        have h5 := ha (by omega)
        have h6 := asc_getD hS (i := i - 1) (j := i) (by omega) (by omega)
        refine Classical.byContradiction fun hn => h3 ⟨?_, ?_⟩
        · rw [show a - 1 = S.getD (i - 1) 0 from by omega]; exact getD_mem' (by omega)
        · rw [show a = S.getD i 0 from by omega]; exact getD_mem' (by omega)
theorem pastI_iff {R : List (List Int)} {u S : List Int} (hS : S.Pairwise (· < ·)) : 0 ≤ pastI R u S ↔ PastP R u S := by
  unfold pastI pastFrom
  have hnn : ∀ x ∈ (List.range' 0 (S.length + 1)).map (fun q : Nat => (q : Int)), 0 ≤ x := by
    intro x hx
    obtain ⟨q, _, rfl⟩ := List.mem_map.1 hx
    omega
  constructor
  · intro h
    obtain ⟨h1, h2⟩ := firstOr_pos h
    obtain ⟨q, hq, he⟩ := List.mem_map.1 h1
    rw [← he] at h2
    rw [List.mem_range'_1] at hq
    exact pastAt_P hS (i := q) (by omega) h2
  · intro h
    obtain ⟨i, hi, h2⟩ := P_pastAt hS h
    refine Classical.byContradiction fun hn => ?_
    have := (firstOr_neg (p := fun x => pastAt R u S x.toNat) hnn).1 (by omega) (i : Int) (List.mem_map.2 ⟨i, by rw [List.mem_range'_1]; omega, rfl⟩)
    exact this h2
theorem PastP.sub {R R' : List (List Int)} {u u' S S' : List Int} (h : PastP R' u' S') (hS : ∀ x ∈ S, x ∈ S') (h1 : ∀ x ∈ S, pl R (x + 1) ≤ pl R' (x + 1)) (h2 : ∀ x ∈ S, ph R' x ≤ ph R x) (h3 : u'.getD 0 0 ≤ u.getD 0 0) (h4 : u.getD 1 0 ≤ u'.getD 1 0) : PastP R u S := by
  obtain ⟨a, a1, a2, a3⟩ := h
  refine ⟨a, fun s hs hl => ?_, fun s hs hl => ?_, fun ⟨h5, h6⟩ => a3 ⟨hS _ h5, hS _ h6⟩⟩
  · have := a1 s (hS s hs) hl
    have := h1 s hs
    omega
  · have := a2 s (hS s hs) hl
    have := h2 s hs
    omega
theorem canI_neg {R : List (List Int)} {D u : List Int} : canI R D u < 0 ↔ ∀ x ∈ steps R u, ¬ canP R D u x := firstOr_neg fun x hx => (steps_mem.1 hx).1
theorem vd_proven {R : List (List Int)} {D u : List Int} : vdI R D u = 1 ↔ ¬ PastP R u (must R D u) := by
  unfold vdI
  rw [← pastI_iff (asc_must R D u)]
  split
  · rename_i h; exact ⟨fun _ => by omega, fun _ => rfl⟩
  · rename_i h
    split
    · exact ⟨fun hh => by omega, fun hh => by omega⟩
    · exact ⟨fun hh => by omega, fun hh => by omega⟩
theorem vd_excluded {R : List (List Int)} {D u : List Int} : vdI R D u = 2 ↔ PastP R u (must R D u) ∧ canI R D u < 0 := by
  unfold vdI
  rw [← pastI_iff (asc_must R D u)]
  split
  · rename_i h; exact ⟨fun hh => by omega, fun hh => by omega⟩
  · rename_i h
    split
    · rename_i h2; exact ⟨fun _ => ⟨by omega, h2⟩, fun _ => rfl⟩
    · rename_i h2; exact ⟨fun hh => by omega, fun hh => absurd hh.2 h2⟩
theorem vd_range (R : List (List Int)) (D u : List Int) : vdI R D u = 0 ∨ vdI R D u = 1 ∨ vdI R D u = 2 := by
  unfold vdI
  split
  · exact .inr (.inl rfl)
  · split
    · exact .inr (.inr rfl)
    · exact .inl rfl
theorem p18_some {k : Nat} {R : List (List Int)} {D : List Int} : ∃ b, p18 k R D = some b := by
  unfold p18
  simp only [jn_v, lt_v, sp_d]
  have tail : ∀ b : Bool, R.length ≤ 100 → ∃ c, sp b (some true) (if (R.length : Int) > 1 then gd ((0 : Int) ≤ wr .i64 ((R.length : Int) - 1) ∧ wr .i64 ((R.length : Int) - 1) < (R.length : Int)) (gd ((0 : Int) ≤ 0 ∧ (0 : Int) < (R.length : Int)) (if (R.getD (wr .i64 ((R.length : Int) - 1)).toNat []).getD 0 0 > (R.getD 0 []).getD 0 0 then gd ((0 : Int) ≤ wr .i64 ((R.length : Int) - 1) ∧ wr .i64 ((R.length : Int) - 1) < (R.length : Int)) (gd ((0 : Int) ≤ 0 ∧ (0 : Int) < (R.length : Int)) (if wr .i64 ((R.getD (wr .i64 ((R.length : Int) - 1)).toNat []).getD 0 0 - (R.getD 0 []).getD 0 0) > 120 then gd ((0 : Int) ≤ wr .i64 ((R.length : Int) - 1) ∧ wr .i64 ((R.length : Int) - 1) < (R.length : Int)) (gd ((0 : Int) ≤ 0 ∧ (0 : Int) < (R.length : Int)) (some (decide (wr .i64 ((R.getD (wr .i64 ((R.length : Int) - 1)).toNat []).getD 0 0 - (R.getD 0 []).getD 0 0) ≤ 2000)))) else some false)) else some false)) else some false) = some c := by
    intro b hb
    cases b with
    | true => exact ⟨true, rfl⟩
    | false =>
      rw [sp_ff]
      split
      · rename_i h1
        rw [wr64 (z := (R.length : Int) - 1) (by omega) (by omega), gd_v (by omega), gd_v (by omega)]
        split
        · rw [gd_v (by omega), gd_v (by omega)]
          split
          · rw [gd_v (by omega), gd_v (by omega)]; exact ⟨_, rfl⟩
          · exact ⟨_, rfl⟩
        · exact ⟨_, rfl⟩
      · exact ⟨_, rfl⟩
  by_cases h1 : (R.length : Int) > 100
  · rw [if_pos h1]; exact ⟨true, rfl⟩
  · rw [if_neg h1]
    by_cases h2 : (R.length : Int) > 20
    · rw [if_pos h2]
      by_cases h3 : (R.length : Int) ≤ 64
      · rw [if_pos h3]; exact ⟨true, rfl⟩
      · rw [if_neg h3]; exact tail false (by omega)
    · rw [if_neg h2]; exact tail false (by omega)
theorem p11_eq {k : Nat} (hk : 5000 ≤ k) {R : List (List Int)} {D u : List Int} (hD : D.length = 4) (hb : ∀ r ∈ R, ∀ z ∈ r, -9223372036854775808 ≤ z ∧ z ≤ 9223372036854775807) : ∃ b, p11 k R D u = some b ∧ (b = true → LogOk R D ∧ ClaimOk u) := by
  unfold p11
  obtain ⟨g, hg⟩ := p18_some (k := k) (R := R) (D := D)
  rw [hg, p21_eq hk hD hb, p33_eq]
  simp only [jn_v, lt_v, cl_v, eq_zero_b, sp_d]
  cases g with
  | true => exact ⟨false, rfl, fun h => by cases h⟩
  | false =>
    rw [sp_ff]
    by_cases h1 : logE R D = 0
    · rw [if_pos h1]
      refine ⟨_, rfl, fun h => ⟨logE_zero.1 h1, claimE_zero.1 (by simpa using h)⟩⟩
    · rw [if_neg h1]; exact ⟨false, rfl, fun h => by cases h⟩
def Wf64 (R : List (List Int)) : Prop := ∀ r ∈ R, ∀ z ∈ r, -9223372036854775808 ≤ z ∧ z ≤ 9223372036854775807
end Go.Proofs.Ythjkejbgknemgaa
namespace Go.Proofs.Ythjkejbgknemgaa
open Go.RowKit Classical
end Go.Proofs.Ythjkejbgknemgaa
namespace Go.Proofs.Ythjkejbgknemgaa
open Go.RowKit Classical
def hv (V : List (List Int)) (m q : Nat) : Int := (V.getD m []).getD q 0
def valOk (R : List (List Int)) (D : List Int) (V : List (List Int)) (m q : Nat) : Prop := (vl R D q m ≤ hv V m q ∧ hv V m q ≤ vh R D q m) ∧ (0 < m → hv V (m - 1) q - D.getD q 0 ≤ hv V m q ∧ hv V m q ≤ hv V (m - 1) q + D.getD q 0)
def plcOk (R : List (List Int)) (P : List Int) (m : Nat) : Prop := (pl R m ≤ P.getD m 0 ∧ P.getD m 0 ≤ ph R m) ∧ (0 < m → P.getD (m - 1) 0 ≤ P.getD m 0)
structure Fits (R : List (List Int)) (D : List Int) (P : List Int) (V : List (List Int)) : Prop where
  lp : P.length = lastN R + 1
  lv : V.length = lastN R + 1
  plc : ∀ m, m < lastN R + 1 → plcOk R P m
  val : ∀ m, m < lastN R + 1 → ∀ q, q < 4 → valOk R D V m q
theorem vl_ge (R : List (List Int)) (D : List Int) (q : Nat) (m : Int) : -1125899906842624 ≤ vl R D q m := (VL_le.1 (Int.le_refl (vl R D q m))).1
theorem vh_le (R : List (List Int)) (D : List Int) (q : Nat) (m : Int) : vh R D q m ≤ 1125899906842624 := (le_VH.1 (Int.le_refl (vh R D q m))).1
theorem pl_ge (R : List (List Int)) (m : Int) : -1099511627776 ≤ pl R m := (PL_le.1 (Int.le_refl (pl R m))).1
theorem ph_le (R : List (List Int)) (m : Int) : ph R m ≤ 1099511627776 := (le_PH.1 (Int.le_refl (ph R m))).1
def minOk (R : List (List Int)) (D : List Int) (P : List Int) (V : List (List Int)) (m : Nat) : Prop := plcOk R P m ∧ ∀ q, q < 4 → valOk R D V m q
end Go.Proofs.Ythjkejbgknemgaa
namespace Go.Proofs.Ythjkejbgknemgaa
open Go.RowKit Classical
def drOk (D : List Int) (V : List (List Int)) (m q : Nat) : Prop := (-1152921504606846976 ≤ hv V (m - 1) q ∧ hv V (m - 1) q ≤ 1152921504606846976) ∧ hv V (m - 1) q - D.getD q 0 ≤ hv V m q ∧ hv V m q ≤ hv V (m - 1) q + D.getD q 0
def stepOk (D P : List Int) (V : List (List Int)) (m : Nat) : Prop := P.getD (m - 1) 0 ≤ P.getD m 0 ∧ ∀ q, q < 4 → drOk D V m q
def atI (R : List (List Int)) (i : Nat) : Nat := (rA (rd R i) - stT R).toNat
def bandAt (R : List (List Int)) (V : List (List Int)) (i q : Nat) : Prop := rVL q (rd R i) ≤ hv V (atI R i) q ∧ hv V (atI R i) q ≤ rVH q (rd R i)
def readAt (R : List (List Int)) (P : List Int) (V : List (List Int)) (i : Nat) : Prop := (rPL (rd R i) ≤ P.getD (atI R i) 0 ∧ P.getD (atI R i) 0 ≤ rPH (rd R i)) ∧ ∀ q, q < 4 → bandAt R V i q
structure RFits (R : List (List Int)) (D : List Int) (P : List Int) (V : List (List Int)) : Prop where
  lp : P.length = lastN R + 1
  lv : V.length = lastN R + 1
  step : ∀ m, 1 ≤ m → m < lastN R + 1 → stepOk D P V m
  read : ∀ i, i < R.length → readAt R P V i
theorem RFits.mono {R D P V} (h : RFits R D P V) : ∀ (d a : Nat), a + d < lastN R + 1 → P.getD a 0 ≤ P.getD (a + d) 0
  | 0, a, _ => Int.le_refl _
  | d + 1, a, hd => by
    have h1 := h.mono d a (by omega)
    have h2 := (h.step (a + d + 1) (by omega) (by omega)).1
    rw [show a + d + 1 - 1 = a + d from by omega] at h2
    rw [show a + (d + 1) = a + d + 1 from by omega]
    omega
theorem RFits.drift {R D P V} (h : RFits R D P V) {q : Nat} (hq : q < 4) : ∀ (d a : Nat), a + d < lastN R + 1 → hv V (a + d) q - D.getD q 0 * d ≤ hv V a q ∧ hv V a q ≤ hv V (a + d) q + D.getD q 0 * d
  | 0, a, _ => by simp
  | d + 1, a, hd => by
    have h1 := h.drift hq d a (by omega)
    have h2 := ((h.step (a + d + 1) (by omega) (by omega)).2 q hq).2
    rw [show a + d + 1 - 1 = a + d from by omega] at h2
    rw [show a + (d + 1) = a + d + 1 from by omega, show ((d + 1 : Nat) : Int) = (d : Int) + 1 from by omega, Int.mul_add, Int.mul_one]
    omega
theorem ArgOk.N {R D} (h : ArgOk R D) : ((lastN R + 1 : Nat) : Int) = lastI R + 1 := by
  have := h.last
  unfold lastN; omega
theorem atI_le {R D} (h : ArgOk R D) {i : Nat} (hi : i < R.length) : (atI R i : Int) = rA (rd R i) - stT R ∧ atI R i < lastN R + 1 := by
  have hg := h.range hi
  have hN := h.N
  unfold atI
  omega
theorem RFits.fits {R D P V} (hL : ArgOk R D) (h : RFits R D P V) : Fits R D P V := by
  have hN := hL.N
  have hn := hL.n2
  have h00 : atI R 0 = 0 := by unfold atI stT; omega
  have h0 := h.read 0 (by omega)
  have hsp := hL.span
  refine ⟨h.lp, h.lv, fun m hm => ⟨⟨?_, ?_⟩, fun h0 => (h.step m (by omega) hm).1⟩, fun m hm q hq => ⟨⟨?_, ?_⟩, fun h0 => ((h.step m (by omega) hm).2 q hq).2⟩⟩
  · unfold pl
    rw [PL_le]
    have hb := (hL.read 0 (by omega)).2.2.1
    refine ⟨?_, fun r hr ht => ?_⟩
    · have := h.mono m 0 (by omega)
      unfold readAt at h0
      rw [h00] at h0
      have := h0.1.1
      have := hb.1
      rw [Nat.zero_add] at *
      omega
    · obtain ⟨i, hi, rfl⟩ := mem_rd hr
      have hai := atI_le hL hi
      have h1 := (h.read i hi).1.1
      have h2 := h.mono (m - atI R i) (atI R i) (by omega)
      rw [show atI R i + (m - atI R i) = m from by omega] at h2
      omega
  · unfold ph
    rw [le_PH]
    refine ⟨?_, fun r hr ht => ?_⟩
    · have hi : R.length - 1 < R.length := by omega
      have hai := atI_le hL hi
      have hb := (hL.read _ hi).2.2.1
      have h1 := (h.read _ hi).1.2
      have : lastI R = rA (rd R (R.length - 1)) - stT R := rfl
      have h2 := h.mono (atI R (R.length - 1) - m) m (by omega)
      rw [show m + (atI R (R.length - 1) - m) = atI R (R.length - 1) from by omega] at h2
      have := hb.2.2
      omega
    · obtain ⟨i, hi, rfl⟩ := mem_rd hr
      have hai := atI_le hL hi
      have h1 := (h.read i hi).1.2
      have h2 := h.mono (atI R i - m) m (by omega)
      rw [show m + (atI R i - m) = atI R i from by omega] at h2
      omega
  all_goals
    have key : ∀ i, i < R.length → rVL q (rd R i) - D.getD q 0 * ab (rA (rd R i) - (stT R + m)) ≤ hv V m q ∧ hv V m q ≤ rVH q (rd R i) + D.getD q 0 * ab (rA (rd R i) - (stT R + m)) := by
      intro i hi
      have hai := atI_le hL hi
      have hb := (h.read i hi).2 q hq
      unfold bandAt at hb
      rcases Nat.le_total (atI R i) m with e | e
      · have h2 := h.drift hq (m - atI R i) (atI R i) (by omega)
        rw [show atI R i + (m - atI R i) = m from by omega] at h2
        have : ab (rA (rd R i) - (stT R + m)) = ((m - atI R i : Nat) : Int) := by unfold ab; omega
        rw [this]
        omega
      · have h2 := h.drift hq (atI R i - m) m (by omega)
        rw [show m + (atI R i - m) = atI R i from by omega] at h2
        have : ab (rA (rd R i) - (stT R + m)) = ((atI R i - m : Nat) : Int) := by unfold ab; omega
        rw [this]
        omega
    have hb := (hL.read 0 (by omega)).2.2.2 q hq
    have hd := hL.dr q hq
    have k0 := key 0 (by omega)
    have hai := atI_le hL (i := 0) (by omega)
    have hm2 := ab_mul hd.1 hd.2 (x := rA (rd R 0) - (stT R + m)) (by omega) (by omega)
    unfold bandOk at hb
  · unfold vl
    rw [VL_le]
    refine ⟨by omega, fun r hr => ?_⟩
    obtain ⟨i, hi, rfl⟩ := mem_rd hr
    exact (key i hi).1
  · unfold vh
    rw [le_VH]
    refine ⟨by omega, fun r hr => ?_⟩
    obtain ⟨i, hi, rfl⟩ := mem_rd hr
    exact (key i hi).2
theorem Fits.rfits {R D P V} (hL : LogOk R D) (h : Fits R D P V) : RFits R D P V := by
  refine ⟨h.lp, h.lv, fun m h1 hm => ⟨(h.plc m hm).2 (by omega), fun q hq => ⟨?_, (h.val m hm q hq).2 (by omega)⟩⟩, fun i hi => ?_⟩
  · have := (h.val (m - 1) (by omega) q hq).1
    have := vl_ge R D q (m - 1 : Nat)
    have := vh_le R D q (m - 1 : Nat)
    omega
  · have hai := atI_le hL.arg hi
    have h1 := (h.plc _ hai.2).1
    have hpl := (PL_le.1 (Int.le_refl (pl R (atI R i : Int)))).2 (rd R i) (rd_mem hi) (by omega)
    have hph := (le_PH.1 (Int.le_refl (ph R (atI R i : Int)))).2 (rd R i) (rd_mem hi) (by omega)
    refine ⟨by omega, fun q hq => ?_⟩
    have h2 := (h.val _ hai.2 q hq).1
    have hvl := (VL_le.1 (Int.le_refl (vl R D q (atI R i : Int)))).2 (rd R i) (rd_mem hi)
    have hvh := (le_VH.1 (Int.le_refl (vh R D q (atI R i : Int)))).2 (rd R i) (rd_mem hi)
    have h0 : ab (rA (rd R i) - (stT R + (atI R i : Int))) = 0 := by unfold ab; omega
    rw [h0, Int.mul_zero] at hvl hvh
    unfold bandAt
    omega
end Go.Proofs.Ythjkejbgknemgaa
namespace Go.Proofs.Ythjkejbgknemgaa
open Go.RowKit Classical
def dmgAt (P : List Int) (V : List (List Int)) (u : List Int) (x : Int) : Prop := P.getD x.toNat 0 ≤ u.getD 1 0 ∧ u.getD 0 0 ≤ P.getD (x.toNat + 1) 0 ∧ u.getD 3 0 < max (hv V x.toNat (u.getD 2 0).toNat) (hv V (x.toNat + 1) (u.getD 2 0).toNat)
def Dmg (R : List (List Int)) (P : List Int) (V : List (List Int)) (u : List Int) : Prop := ∃ x ∈ steps R u, dmgAt P V u x
theorem lastN_le {R D} (h : LogOk R D) : lastN R ≤ 2000 := by have := h.N; have := h.arg.span; omega
noncomputable def mnE (R : List (List Int)) (D : List Int) : Int × Int := if logE R D = 0 then (lastI R + 1, 0) else (0, logE R D)
theorem p30_eq {k : Nat} (hk : 5000 ≤ k) {R : List (List Int)} {D : List Int} (hD : D.length = 4) (hb : Wf64 R) : p30 k R D = some (mnE R D) := by
  unfold p30 mnE
  rw [p21_eq hk hD hb]
  simp only [cl_v, lt_v, ne_zero_b, sp_nd]
  by_cases hl : logE R D = 0
  · have h := logE_zero.1 hl
    have hsp := h.arg.span
    have hn := h.arg.n2
    have hla := h.arg.last
    rw [if_pos hl, if_pos hl, p53_eq (by omega) h.n64 (by omega) (by omega), cl_v, wr64 (by omega) (by omega)]
  · rw [if_neg hl, if_neg hl]
end Go.Proofs.Ythjkejbgknemgaa
namespace Go.Proofs.Ythjkejbgknemgaa
open Go.RowKit Classical
theorem take_set {α : Type} (v : α) : ∀ (i : Nat) (L : List α), i < L.length → L.take i ++ (v :: []) ++ L.drop (i + 1) = L.set i v
  | _, [], h => by simp at h
  | 0, a :: L, _ => by simp
  | i + 1, a :: L, h => by
    have := take_set v i L (by simpa using h)
    simpa using this
theorem getDset {α : Type} (L : List α) (i q : Nat) (v y : α) (h : i < L.length) : (L.set i v).getD q y = if q = i then v else L.getD q y := by
  by_cases c : q = i
  · subst c; simp [List.getD_eq_getElem?_getD, h]
  · rw [if_neg c]
    simp only [List.getD_eq_getElem?_getD]
    rw [List.getElem?_set_ne (fun hh => c hh.symm)]
theorem getD_app {α : Type} (L : List α) (v y : α) (q : Nat) : (L ++ [v]).getD q y = if q = L.length then v else L.getD q y := by
  simp only [List.getD_eq_getElem?_getD]
  by_cases c : q = L.length
  · subst c; simp
  · rw [if_neg c]
    by_cases c2 : q < L.length
    · rw [List.getElem?_append_left c2]
    · rw [List.getElem?_append_right (by omega), List.getElem?_eq_none (l := L) (by omega), List.getElem?_eq_none (by simp; omega)]
theorem p41_eq {k : Nat} {a b v : Int} (h : a ≤ b) (ha : -2251799813685248 ≤ a) (hb : b ≤ 2251799813685248) (h0 : 0 ≤ v) (h1 : v ≤ 255) : ∃ z, p41 k [a, b] v = some z ∧ a ≤ z ∧ z ≤ b := by
  have hm0 : 0 ≤ (b - a) * v := Int.mul_nonneg (by omega) h0
  have hm1 : (b - a) * v ≤ (b - a) * 255 := Int.mul_le_mul_of_nonneg_left h1 (by omega)
  have hd : Int.tdiv ((b - a) * v) 255 = (b - a) * v / 255 := Int.tdiv_eq_ediv_of_nonneg hm0
  refine ⟨a + (b - a) * v / 255, ?_, ?_, ?_⟩
  · unfold p41
    simp only [lt_v, List.getD_cons_zero, List.getD_cons_succ]
    rw [wr64 (z := b - a) (by omega) (by omega), wr64 (z := v) (by omega) (by omega), wr64 (z := (b - a) * v) (by omega) (by omega), hd, wr64 (z := (b - a) * v / 255) (by omega) (by omega), wr64 (by omega) (by omega)]
  · omega
  · omega
theorem p42_eq {k : Nat} {S : List Int} {i : Int} (hS : ∀ z ∈ S, 0 ≤ z ∧ z ≤ 255) (h0 : 0 ≤ i) : ∃ v, p42 k S i = some v ∧ 0 ≤ v ∧ v ≤ 255 := by
  unfold p42
  simp only [lt_v, sp_d]
  by_cases c : i < (S.length : Int)
  · rw [if_pos c, gd_v (by omega)]
    have := hS _ (getD_mem' (S := S) (i := i.toNat) (by omega))
    exact ⟨_, rfl, this⟩
  · rw [if_neg c]; exact ⟨0, rfl, by omega, by omega⟩
theorem p13_l2_eq {k : Nat} (hk : 5000 ≤ k) {R : List (List Int)} {D S : List Int} {W : List (List Int)} (h : LogOk R D) (hS : ∀ z ∈ S, 0 ≤ z ∧ z ≤ 255) {m : Nat} (hm : m < lastN R + 1) (hW : W.length = m) (hp : 0 < m → ∀ q, q < 4 → vl R D q (m - 1 : Nat) ≤ hv W (m - 1) q ∧ hv W (m - 1) q ≤ vh R D q (m - 1 : Nat)) (j : List Int → Option (List Int × List (List Int))) : ∀ (d i n : Nat) (L : List Int), i + d = 4 → d < n → L.length = 4 → (∀ q, q < i → (vl R D q m ≤ L.getD q 0 ∧ L.getD q 0 ≤ vh R D q m) ∧ (0 < m → hv W (m - 1) q - D.getD q 0 ≤ L.getD q 0 ∧ L.getD q 0 ≤ hv W (m - 1) q + D.getD q 0)) → ∃ L' : List Int, L'.length = 4 ∧ (∀ q, q < 4 → (vl R D q m ≤ L'.getD q 0 ∧ L'.getD q 0 ≤ vh R D q m) ∧ (0 < m → hv W (m - 1) q - D.getD q 0 ≤ L'.getD q 0 ∧ L'.getD q 0 ≤ hv W (m - 1) q + D.getD q 0)) ∧ p13_l2 k R D S (m : Int) W j n (i : Int) L = j L'
  | 0, i, n, L, h1, h2, hL, hq => by
    obtain ⟨n, rfl⟩ : ∃ n', n = n' + 1 := ⟨n - 1, by omega⟩
    refine ⟨L, hL, fun q h4 => hq q (by omega), ?_⟩
    rw [p13_l2]
    simp only [lt_v, sp_d]
    rw [if_neg (by omega)]
  | d + 1, i, n, L, h1, h2, hL, hq => by
    obtain ⟨n, rfl⟩ : ∃ n', n = n' + 1 := ⟨n - 1, by omega⟩
    have hN := h.N
    have hsp := h.arg.span
    have hdr := h.arg.dr i (by omega)
    have hsum := (h.sum m (by omega) (by omega)).2 i (by omega)
    have hw : wr .i64 ((i : Int) + 1) = ((i + 1 : Nat) : Int) := by rw [wr64 (by omega) (by omega)]; omega
    have e17 := p17_eq hk h.n64 h.arg (m := (m : Int)) (kk := i) (by omega) (by omega) (by omega)
    have hw5 : wr .i64 (5 * (m : Int)) = 5 * (m : Int) := wr64 (by omega) (by omega)
    have hw6 : wr .i64 (5 * (m : Int) + (i : Int)) = 5 * (m : Int) + (i : Int) := wr64 (by omega) (by omega)
    obtain ⟨v, hv42, hv0, hv1⟩ := p42_eq (k := k) (S := S) (i := 5 * (m : Int) + (i : Int)) hS (by omega)
    have hg : ∀ {α : Type} (a b : Int) (x : Option α), gd ([a, b].length = 2) x = x := fun _ _ _ => rfl
    have hb1 := vl_ge R D i (m : Int)
    have hb2 := vh_le R D i (m : Int)
    rw [p13_l2]
    simp only [lt_v, sp_d, e17, cl_v, hg, jn_v, hw5, hw6, hv42, Int.toNat_natCast, Nat.zero_add, Nat.mul_one, hw, List.getD_cons_zero, List.getD_cons_succ, mx_eq, mn_eq]
    rw [if_pos (by omega)]
    have fin : ∀ z : Int, ((vl R D i m ≤ z ∧ z ≤ vh R D i m) ∧ (0 < m → hv W (m - 1) i - D.getD i 0 ≤ z ∧ z ≤ hv W (m - 1) i + D.getD i 0)) → ∃ L' : List Int, L'.length = 4 ∧ (∀ q, q < 4 → (vl R D q m ≤ L'.getD q 0 ∧ L'.getD q 0 ≤ vh R D q m) ∧ (0 < m → hv W (m - 1) q - D.getD q 0 ≤ L'.getD q 0 ∧ L'.getD q 0 ≤ hv W (m - 1) q + D.getD q 0)) ∧ gd ((0 : Int) ≤ (i : Int) ∧ (i : Int) < ((4 : Nat) : Int)) (p13_l2 k R D S (m : Int) W j n ((i + 1 : Nat) : Int) (List.take i L ++ (z :: []) ++ List.drop (i + 1) L)) = j L' := by
      intro z hz
      rw [gd_v (by omega), take_set z i L (by omega)]
      refine p13_l2_eq hk h hS hm hW hp j d (i + 1) n (L.set i z) (by omega) (by omega) (by simpa using hL) (fun q hqi => ?_)
      rw [getDset L i q z 0 (by omega)]
      by_cases c : q = i
      · subst c; rw [if_pos rfl]; exact hz
      · rw [if_neg c]; exact hq q (by omega)
    by_cases c2 : 0 < m
    · have hp' := hp c2 i (by omega)
      have hw2 : wr .i64 ((m : Int) - 1) = ((m - 1 : Nat) : Int) := by rw [wr64 (by omega) (by omega)]; omega
      have hb3 := vl_ge R D i (m - 1 : Nat)
      have hb4 := vh_le R D i (m - 1 : Nat)
      have hs1 := vl_step R D i hdr.1 (m - 1 : Nat)
      have hs2 := vh_step R D i hdr.1 (m - 1 : Nat)
      rw [show ((m - 1 : Nat) : Int) + 1 = (m : Int) from by omega] at hs1 hs2
      have hx := hp' ; unfold hv at hx
      rw [if_pos (by omega), hw2, Int.toNat_natCast, gd_v (by omega), gd_v (by omega), gd_v (by omega), gd_v (by omega), gd_v (by omega), gd_v (by omega)]
      rw [wr64 (z := (W.getD (m - 1) []).getD i 0 - D.getD i 0) (by omega) (by omega), wr64 (z := (W.getD (m - 1) []).getD i 0 + D.getD i 0) (by omega) (by omega)]
      have hz : ((([vl R D i m, vh R D i m].set 0 (max (vl R D i m) ((W.getD (m - 1) []).getD i 0 - D.getD i 0))).set 1 (min (([vl R D i m, vh R D i m].set 0 (max (vl R D i m) ((W.getD (m - 1) []).getD i 0 - D.getD i 0))).getD 1 0) ((W.getD (m - 1) []).getD i 0 + D.getD i 0)))) = [max (vl R D i m) (hv W (m - 1) i - D.getD i 0), min (vh R D i m) (hv W (m - 1) i + D.getD i 0)] := rfl
      rw [hz]
      obtain ⟨z, hz1, hz2, hz3⟩ := p41_eq (k := k) (v := v) (a := max (vl R D i m) (hv W (m - 1) i - D.getD i 0)) (b := min (vh R D i m) (hv W (m - 1) i + D.getD i 0)) (by omega) (by omega) (by omega) hv0 hv1
      rw [hz1, cl_v]
      exact fin z ⟨by omega, fun _ => by omega⟩
    · rw [if_neg (by omega)]
      obtain ⟨z, hz1, hz2, hz3⟩ := p41_eq (k := k) (v := v) (a := vl R D i m) (b := vh R D i m) hsum (by omega) (by omega) hv0 hv1
      rw [hz1, cl_v]
      exact fin z ⟨⟨hz2, hz3⟩, fun hh => absurd hh c2⟩
theorem p13_l1_eq {k : Nat} (hk : 5000 ≤ k) {R : List (List Int)} {D S : List Int} (h : LogOk R D) (hS : ∀ z ∈ S, 0 ≤ z ∧ z ≤ 255) (j : List Int → List (List Int) → Option (List Int × List (List Int))) : ∀ (d m n : Nat) (P : List Int) (V : List (List Int)), m + d = lastN R + 1 → d < n → P.length = m → V.length = m → (∀ x, x < m → minOk R D P V x) → ∃ P' V', Fits R D P' V' ∧ p13_l1 k R D S j (lastI R + 1) n (m : Int) P V = j P' V'
  | 0, m, n, P, V, h1, h2, hP, hV, hq => by
    obtain ⟨n, rfl⟩ : ∃ n', n = n' + 1 := ⟨n - 1, by omega⟩
    have hN := h.N
    refine ⟨P, V, ⟨by omega, by omega, fun m hm => (hq m (by omega)).1, fun m hm => (hq m (by omega)).2⟩, ?_⟩
    rw [p13_l1]
    simp only [lt_v, sp_d]
    rw [if_neg (by omega)]
  | d + 1, m, n, P, V, h1, h2, hP, hV, hq => by
    obtain ⟨n, rfl⟩ : ∃ n', n = n' + 1 := ⟨n - 1, by omega⟩
    have hN := h.N
    have hsp := h.arg.span
    have hst := h.arg.st
    have hn := h.arg.n2
    have hsum := (h.sum m (by omega) (by omega)).1
    have hw : wr .i64 ((m : Int) + 1) = ((m + 1 : Nat) : Int) := by rw [wr64 (by omega) (by omega)]; omega
    have e16 := p16_eq hk (R := R) (D := D) (m := (m : Int)) (by omega) h.n64 (by omega) (by omega)
    have hw5 : wr .i64 (5 * (m : Int)) = 5 * (m : Int) := wr64 (by omega) (by omega)
    have hw6 : wr .i64 (5 * (m : Int) + 4) = 5 * (m : Int) + 4 := wr64 (by omega) (by omega)
    obtain ⟨v, hv42, hv0, hv1⟩ := p42_eq (k := k) (S := S) (i := 5 * (m : Int) + 4) hS (by omega)
    have hg : ∀ {α : Type} (a b : Int) (x : Option α), gd ([a, b].length = 2) x = x := fun _ _ _ => rfl
    have hb1 := pl_ge R (m : Int)
    have hb2 := ph_le R (m : Int)
    rw [p13_l1]
    simp only [lt_v, sp_d, e16, cl_v, hg, jn_v, hw5, hw6, hv42, Int.toNat_natCast, Nat.zero_add, Nat.mul_one, hw, List.getD_cons_zero, List.getD_cons_succ, mx_eq, mn_eq]
    rw [if_pos (by omega)]
    obtain ⟨L', hL', hok, heq⟩ := p13_l2_eq hk h hS (m := m) (by omega) hV (fun h0 q hq4 => (((hq (m - 1) (by omega)).2) q hq4).1) (fun L21 => if (m : Int) > 0 then gd ((0 : Int) ≤ wr .i64 ((m : Int) - 1) ∧ wr .i64 ((m : Int) - 1) < (P.length : Int)) (cl (p41 k ([pl R m, ph R m].set 0 (max (pl R m) (P.getD (wr .i64 ((m : Int) - 1)).toNat 0))) v) fun v71 => gd (((P.length + [v71].length) * 8) ≤ 140737488355328) (gd (((V.length + [L21].length) * 32) ≤ 140737488355328) (p13_l1 k R D S j (lastI R + 1) n ((m + 1 : Nat) : Int) (P ++ [v71]) (V ++ [L21])))) else cl (p41 k [pl R m, ph R m] v) fun v71 => gd (((P.length + [v71].length) * 8) ≤ 140737488355328) (gd (((V.length + [L21].length) * 32) ≤ 140737488355328) (p13_l1 k R D S j (lastI R + 1) n ((m + 1 : Nat) : Int) (P ++ [v71]) (V ++ [L21])))) 4 0 k [0, 0, 0, 0] (by omega) (by omega) rfl (fun q hq0 => by omega)
    rw [show ((0 : Nat) : Int) = 0 from rfl] at heq
    rw [heq]
    have fin : ∀ z : Int, ((pl R m ≤ z ∧ z ≤ ph R m) ∧ (0 < m → P.getD (m - 1) 0 ≤ z)) → ∃ P' V', Fits R D P' V' ∧ gd (((P.length + [z].length) * 8) ≤ 140737488355328) (gd (((V.length + [L'].length) * 32) ≤ 140737488355328) (p13_l1 k R D S j (lastI R + 1) n ((m + 1 : Nat) : Int) (P ++ [z]) (V ++ [L']))) = j P' V' := by
      intro z hz
      rw [gd_v (by simp only [List.length_cons, List.length_nil]; omega), gd_v (by simp only [List.length_cons, List.length_nil]; omega)]
      refine p13_l1_eq hk h hS j d (m + 1) n (P ++ [z]) (V ++ [L']) (by omega) (by omega) (by simp; omega) (by simp; omega) (fun x hx => ?_)
      have gP : ∀ q, (P ++ [z]).getD q 0 = if q = m then z else P.getD q 0 := fun q => by rw [getD_app, hP]
      have gV : ∀ q, (V ++ [L']).getD q [] = if q = m then L' else V.getD q [] := fun q => by rw [getD_app, hV]
      unfold minOk plcOk valOk hv
      simp only [gP, gV]
      by_cases c : x = m
      · subst c
        rw [if_pos rfl, if_pos rfl]
        refine ⟨⟨hz.1, fun h0 => ?_⟩, fun q hq4 => ⟨(hok q hq4).1, fun h0 => ?_⟩⟩
        · rw [if_neg (by omega)]; exact hz.2 h0
        · rw [if_neg (by omega)]; exact (hok q hq4).2 h0
      · rw [if_neg c, if_neg c, if_neg (by omega), if_neg (by omega)]
        exact hq x (by omega)
    by_cases c2 : 0 < m
    · have hq' := (hq (m - 1) (by omega)).1
      have hw2 : wr .i64 ((m : Int) - 1) = ((m - 1 : Nat) : Int) := by rw [wr64 (by omega) (by omega)]; omega
      have hmo := ph_mono R (a := ((m - 1 : Nat) : Int)) (b := (m : Int)) (by omega)
      have hx := hq'.1
      rw [if_pos (by omega), hw2, Int.toNat_natCast, gd_v (by omega)]
      obtain ⟨z, hz1, hz2, hz3⟩ := p41_eq (k := k) (v := v) (a := max (pl R m) (P.getD (m - 1) 0)) (b := ph R m) (by omega) (by omega) (by omega) hv0 hv1
      rw [show ([pl R m, ph R m].set 0 (max (pl R m) (P.getD (m - 1) 0))) = [max (pl R m) (P.getD (m - 1) 0), ph R m] from rfl, hz1, cl_v]
      exact fin z ⟨by omega, fun _ => by omega⟩
    · rw [if_neg (by omega)]
      obtain ⟨z, hz1, hz2, hz3⟩ := p41_eq (k := k) (v := v) (a := pl R m) (b := ph R m) hsum (by omega) (by omega) hv0 hv1
      rw [hz1, cl_v]
      exact fin z ⟨⟨hz2, hz3⟩, fun hh => absurd hh c2⟩
theorem p13_eq {k : Nat} (hk : 5000 ≤ k) {R : List (List Int)} {D S : List Int} (hD : D.length = 4) (hb : Wf64 R) (h : LogOk R D) (hS : ∀ z ∈ S, 0 ≤ z ∧ z ≤ 255) : ∃ P V, Fits R D P V ∧ p13 k R D S = some (P, V) := by
  unfold p13
  rw [p30_eq hk hD hb, cl2_v, jn_v]
  have hl := lastN_le h
  have e : (mnE R D).1 = lastI R + 1 := by unfold mnE; rw [if_pos (logE_zero.2 h)]
  rw [e]
  obtain ⟨P, V, hf, he⟩ := p13_l1_eq hk h hS (fun L11 R12 => some (L11, R12)) (lastN R + 1) 0 k [] [] (by omega) (by omega) rfl rfl (fun x hx => by omega)
  exact ⟨P, V, hf, he⟩
def eRow (R : List (List Int)) (D : List Int) (b : Bool) (m : Int) : List Int := if b then [vh R D 0 m, vh R D 1 m, vh R D 2 m, vh R D 3 m] else [vl R D 0 m, vl R D 1 m, vl R D 2 m, vl R D 3 m]
def ePl (R : List (List Int)) (b : Bool) (m : Int) : Int := if b then ph R m else pl R m
theorem eRow_get (R : List (List Int)) (D : List Int) (b : Bool) (m : Int) : ∀ q, q < 4 → (eRow R D b m).getD q 0 = if b then vh R D q m else vl R D q m := by
  cases b
  · intro q hq
    match q, hq with
    | 0, _ => rfl
    | 1, _ => rfl
    | 2, _ => rfl
    | 3, _ => rfl
  · intro q hq
    match q, hq with
    | 0, _ => rfl
    | 1, _ => rfl
    | 2, _ => rfl
    | 3, _ => rfl
def eP (R : List (List Int)) (b : Bool) (N : Nat) : List Int := (List.range N).map fun x : Nat => ePl R b x
def eV (R : List (List Int)) (D : List Int) (b : Bool) (N : Nat) : List (List Int) := (List.range N).map fun x : Nat => eRow R D b x
theorem eVal {R : List (List Int)} {D : List Int} (h : LogOk R D) (b : Bool) {m : Nat} (hm : m < lastN R + 1) {q : Nat} (hq : q < 4) : valOk R D (eV R D b (lastN R + 1)) m q := by
  have hN := h.N
  have hs := (h.sum m (by omega) (by omega)).2 q hq
  have hd := (h.arg.dr q hq).1
  have g : ∀ x, x < lastN R + 1 → hv (eV R D b (lastN R + 1)) x q = if b then vh R D q x else vl R D q x := fun x hx => by
    unfold hv eV
    rw [getD_map_range _ _ _ _ hx, eRow_get R D b x q hq]
  unfold valOk
  rw [g m hm, g (m - 1) (by omega)]
  have h1 := vl_step R D q hd (m - 1 : Nat)
  have h2 := vh_step R D q hd (m - 1 : Nat)
  refine ⟨?_, fun h0 => ?_⟩
  · cases b
    · exact ⟨Int.le_refl _, hs⟩
    · exact ⟨hs, Int.le_refl _⟩
  · rw [show ((m - 1 : Nat) : Int) + 1 = (m : Int) from by omega] at h1 h2
    cases b
    · show vl R D q _ - _ ≤ vl R D q _ ∧ vl R D q _ ≤ vl R D q _ + _
      omega
    · show vh R D q _ - _ ≤ vh R D q _ ∧ vh R D q _ ≤ vh R D q _ + _
      omega
theorem eFits {R : List (List Int)} {D : List Int} (h : LogOk R D) (b : Bool) : Fits R D (eP R b (lastN R + 1)) (eV R D b (lastN R + 1)) := by
  have hN := h.N
  refine ⟨by simp [eP], by simp [eV], fun m hm => ?_, fun m hm q hq => eVal h b hm hq⟩
  have hs := (h.sum m (by omega) (by omega)).1
  have g : ∀ x, x < lastN R + 1 → (eP R b (lastN R + 1)).getD x 0 = ePl R b x := fun x hx => getD_map_range _ _ _ _ hx
  unfold plcOk
  rw [g m hm, g (m - 1) (by omega)]
  have h1 := pl_mono R (a := ((m - 1 : Nat) : Int)) (b := (m : Int)) (by omega)
  have h2 := ph_mono R (a := ((m - 1 : Nat) : Int)) (b := (m : Int)) (by omega)
  cases b
  · exact ⟨⟨Int.le_refl _, hs⟩, fun _ => h1⟩
  · exact ⟨⟨hs, Int.le_refl _⟩, fun _ => h2⟩
end Go.Proofs.Ythjkejbgknemgaa
namespace Go.Proofs.Ythjkejbgknemgaa
open Go.RowKit Classical
end Go.Proofs.Ythjkejbgknemgaa
namespace Go.Proofs.Ythjkejbgknemgaa
open Go.RowKit Classical
theorem Fits.mono {R D P V} (h : Fits R D P V) : ∀ (d a : Nat), a + d < lastN R + 1 → P.getD a 0 ≤ P.getD (a + d) 0
  | 0, a, _ => Int.le_refl _
  | d + 1, a, hd => by
    have h1 := h.mono d a (by omega)
    have h2 := (h.plc (a + d + 1) (by omega)).2 (by omega)
    rw [show a + d + 1 - 1 = a + d from by omega] at h2
    rw [show a + (d + 1) = a + d + 1 from by omega]
    omega
theorem proven_dmg {R : List (List Int)} {D u P : List Int} {V : List (List Int)} (h : LogOk R D) (hu : ClaimOk u) (hf : Fits R D P V) (hp : ¬ PastP R u (must R D u)) : Dmg R P V u := by
  refine Classical.byContradiction fun hn => hp ?_
  have hq0 := hu.2.2.2.1
  have hq1 := hu.2.2.2.2.1
  have hft := hu.2.1
  -- the first minute behind the water
  have : ∃ a : Nat, a ≤ lastN R + 1 ∧ (∀ m, m < a → P.getD m 0 ≤ u.getD 1 0) ∧ (a < lastN R + 1 → u.getD 1 0 < P.getD a 0) := by
    have key : ∀ d a, a + d = lastN R + 1 → (∀ m, m < a → P.getD m 0 ≤ u.getD 1 0) → ∃ a : Nat, a ≤ lastN R + 1 ∧ (∀ m, m < a → P.getD m 0 ≤ u.getD 1 0) ∧ (a < lastN R + 1 → u.getD 1 0 < P.getD a 0) := by
      intro d
      induction d with
      | zero => intro a ha hm; exact ⟨a, by omega, hm, fun h => by omega⟩
      | succ d ih =>
        intro a ha hm
        by_cases c : u.getD 1 0 < P.getD a 0
        · exact ⟨a, by omega, hm, fun _ => c⟩
        · exact ih (a + 1) (by omega) (fun m hma => by
            rcases Nat.eq_or_lt_of_le (Nat.le_of_lt_succ hma) with e | e
            · subst e; omega
            · exact hm m e)
    exact key (lastN R + 1) 0 (by omega) (fun m hm => by omega)
  obtain ⟨a, ha, hb, hc⟩ := this
  have near : ∀ s ∈ must R D u, s < (a : Int) → P.getD (s.toNat + 1) 0 < u.getD 0 0 := by
    intro s hs hsa
    have hm := must_mem.1 hs
    refine Classical.byContradiction fun hge => hn ⟨s, steps_mem.2 ⟨hm.1, hm.2.1, hm.2.2.1⟩, hb s.toNat (by omega), by omega, ?_⟩
    have h1 := (hf.val s.toNat (by omega) (u.getD 2 0).toNat (by omega)).1.1
    have h2 := (hf.val (s.toNat + 1) (by omega) (u.getD 2 0).toNat (by omega)).1.1
    have hmu := hm.2.2.2
    unfold mustP at hmu
    rw [show ((s.toNat : Nat) : Int) = s from by omega] at h1
    rw [show ((s.toNat + 1 : Nat) : Int) = s + 1 from by omega] at h2
    omega
  refine ⟨a, fun s hs hsa => ?_, fun s hs hsa => ?_, fun ⟨h1, h2⟩ => ?_⟩
  · have hm := must_mem.1 hs
    have h1 := near s hs hsa
    have h2 := (hf.plc (s.toNat + 1) (by omega)).1.1
    rw [show ((s.toNat + 1 : Nat) : Int) = s + 1 from by omega] at h2
    omega
  · have hm := must_mem.1 hs
    have h1 := hc (by omega)
    have h2 := (hf.plc s.toNat (by omega)).1.2
    have h3 := hf.mono (s.toNat - a) a (by omega)
    rw [show a + (s.toNat - a) = s.toNat from by omega] at h3
    rw [show ((s.toNat : Nat) : Int) = s from by omega] at h2
    omega
  · have hm := must_mem.1 h1
    have hm2 := must_mem.1 h2
    have h3 := near _ h1 (by omega)
    have h4 := hc (by omega)
    rw [show ((a : Int) - 1).toNat + 1 = a from by omega] at h3
    omega
theorem dmg_can {R : List (List Int)} {D u P : List Int} {V : List (List Int)} (h : LogOk R D) (hu : ClaimOk u) (hf : Fits R D P V) (hd : Dmg R P V u) : 0 ≤ canI R D u := by
  refine Classical.byContradiction fun hn => ?_
  have hq0 := hu.2.2.2.1
  have hq1 := hu.2.2.2.2.1
  obtain ⟨x, hx, h1, h2, h3⟩ := hd
  have hm := steps_mem.1 hx
  refine (canI_neg (D := D)).1 (by omega) x hx ⟨?_, ?_, ?_⟩
  · have h4 := (hf.val x.toNat (by omega) (u.getD 2 0).toNat (by omega)).1.2
    have h5 := (hf.val (x.toNat + 1) (by omega) (u.getD 2 0).toNat (by omega)).1.2
    rw [show ((x.toNat : Nat) : Int) = x from by omega] at h4
    rw [show ((x.toNat + 1 : Nat) : Int) = x + 1 from by omega] at h5
    omega
  · have h4 := (hf.plc x.toNat (by omega)).1.1
    rw [show ((x.toNat : Nat) : Int) = x from by omega] at h4
    omega
  · have h4 := (hf.plc (x.toNat + 1) (by omega)).1.2
    rw [show ((x.toNat + 1 : Nat) : Int) = x + 1 from by omega] at h4
    omega
theorem can_of_proven {R : List (List Int)} {D u : List Int} (h : LogOk R D) (hu : ClaimOk u) (hc : canI R D u < 0) : vdI R D u = 2 := by
  refine vd_excluded.2 ⟨?_, hc⟩
  refine Classical.byContradiction fun hn => ?_
  have hd := proven_dmg h hu (eFits h true) hn
  have := dmg_can h hu (eFits h true) hd
  omega
end Go.Proofs.Ythjkejbgknemgaa
namespace Go.Proofs.Ythjkejbgknemgaa
open Go.RowKit Classical
def NarR (r r' : List Int) : Prop := rA r' = rA r ∧ rPL r ≤ rPL r' ∧ rPH r' ≤ rPH r ∧ ∀ q, q < 4 → rVL q r ≤ rVL q r' ∧ rVH q r' ≤ rVH q r
def Nar (R R' : List (List Int)) : Prop := stT R' = stT R ∧ ∀ r ∈ R, ∃ r' ∈ R', NarR r r'
theorem Nar.npl {R R'} (h : Nar R R') (m : Int) : pl R m ≤ pl R' m := by
  have hx := PL_le.1 (Int.le_refl (pl R' m))
  unfold pl
  rw [PL_le]
  refine ⟨hx.1, fun r hr ht => ?_⟩
  obtain ⟨r', hr', e⟩ := h.2 r hr
  have := hx.2 r' hr' (by rw [e.1, h.1]; exact ht)
  have := e.2.1
  unfold pl at *
  omega
theorem Nar.nph {R R'} (h : Nar R R') (m : Int) : ph R' m ≤ ph R m := by
  have hx := le_PH.1 (Int.le_refl (ph R' m))
  show ph R' m ≤ PH (stT R + m) R 1099511627776
  rw [le_PH]
  refine ⟨hx.1, fun r hr ht => ?_⟩
  obtain ⟨r', hr', e⟩ := h.2 r hr
  have := hx.2 r' hr' (by rw [e.1, h.1]; exact ht)
  have := e.2.2.1
  omega
theorem Nar.nvl {R R'} (h : Nar R R') (D : List Int) {q : Nat} (hq : q < 4) (m : Int) : vl R D q m ≤ vl R' D q m := by
  have hx := VL_le.1 (Int.le_refl (vl R' D q m))
  show VL (D.getD q 0) q (stT R + m) R (-1125899906842624) ≤ vl R' D q m
  rw [VL_le]
  refine ⟨hx.1, fun r hr => ?_⟩
  obtain ⟨r', hr', e⟩ := h.2 r hr
  have h1 := hx.2 r' hr'
  rw [e.1, h.1] at h1
  have := (e.2.2.2 q hq).1
  omega
theorem Nar.nvh {R R'} (h : Nar R R') (D : List Int) {q : Nat} (hq : q < 4) (m : Int) : vh R' D q m ≤ vh R D q m := by
  have hx := le_VH.1 (Int.le_refl (vh R' D q m))
  show vh R' D q m ≤ VH (D.getD q 0) q (stT R + m) R 1125899906842624
  rw [le_VH]
  refine ⟨hx.1, fun r hr => ?_⟩
  obtain ⟨r', hr', e⟩ := h.2 r hr
  have h1 := hx.2 r' hr'
  rw [e.1, h.1] at h1
  have := (e.2.2.2 q hq).2
  omega
theorem nar_vd {R R' : List (List Int)} {D u : List Int} (h : LogOk R D) (h' : LogOk R' D) (hu : ClaimOk u) (hn : Nar R R') (hla : lastI R' = lastI R) (hv : vdI R D u ≠ 0) : vdI R' D u = vdI R D u := by
  have hlN : lastN R' = lastN R := by unfold lastN; rw [hla]
  have hq0 := hu.2.2.2.1
  have hq1 := hu.2.2.2.2.1
  have hst : ∀ x, x ∈ steps R u ↔ x ∈ steps R' u := fun x => by
    rw [steps_mem, steps_mem, hlN]
    unfold inC
    rw [hn.1]
  have hmu : ∀ x ∈ must R D u, x ∈ must R' D u := fun x hx => by
    have hm := must_mem.1 hx
    have hs := steps_mem.1 ((hst x).1 (steps_mem.2 ⟨hm.1, hm.2.1, hm.2.2.1⟩))
    refine must_mem.2 ⟨hs.1, hs.2.1, hs.2.2, ?_⟩
    have h1 := hn.nvl D (q := (u.getD 2 0).toNat) (by omega) x
    have h2 := hn.nvl D (q := (u.getD 2 0).toNat) (by omega) (x + 1)
    have h3 := hm.2.2.2
    unfold mustP at h3 ⊢
    omega
  rcases vd_range R D u with e | e | e
  · exact absurd e hv
  · rw [e]
    refine vd_proven.2 (fun hp => vd_proven.1 e ?_)
    exact hp.sub hmu (fun x _ => hn.npl _) (fun x _ => hn.nph _) (Int.le_refl _) (Int.le_refl _)
  · rw [e]
    refine can_of_proven h' hu ?_
    have hc := (vd_excluded.1 e).2
    refine canI_neg.2 (fun x hx hcx => canI_neg.1 hc x ((hst x).2 hx) ?_)
    obtain ⟨c1, c2, c3⟩ := hcx
    have h1 := hn.nvh D (q := (u.getD 2 0).toNat) (by omega) x
    have h2 := hn.nvh D (q := (u.getD 2 0).toNat) (by omega) (x + 1)
    have h3 := hn.npl x
    have h4 := hn.nph (x + 1)
    refine ⟨by omega, by omega, by omega⟩
theorem logOk_of {R : List (List Int)} {D P : List Int} {V : List (List Int)} (hn : R.length ≤ 64) (ha : ArgOk R D) (hf : RFits R D P V) : LogOk R D := by
  refine ⟨hn, ha, fun m h0 h1 => ?_⟩
  have hN := ha.N
  have hft := hf.fits ha
  have hmm : ((m.toNat : Nat) : Int) = m := by omega
  refine ⟨?_, fun q hq => ?_⟩
  · have := (hft.plc m.toNat (by omega)).1
    rw [hmm] at this
    omega
  · have := (hft.val m.toNat (by omega) q hq).1
    rw [hmm] at this
    omega
theorem p15_eq {k : Nat} {a b x c d : Int} (h1 : a ≤ x) (h2 : x ≤ b) (ha : -2251799813685248 ≤ a) (hb : b ≤ 2251799813685248) (hc0 : 0 ≤ c) (hc1 : c ≤ 255) (hd0 : 0 ≤ d) (hd1 : d ≤ 255) : ∃ y z, p15 k [a, b] x c d = some [y, z] ∧ a ≤ y ∧ y ≤ x ∧ x ≤ z ∧ z ≤ b := by
  have e1 : 0 ≤ (x - a) * c := Int.mul_nonneg (by omega) hc0
  have e2 : (x - a) * c ≤ (x - a) * 255 := Int.mul_le_mul_of_nonneg_left hc1 (by omega)
  have e3 : Int.tdiv ((x - a) * c) 255 = (x - a) * c / 255 := Int.tdiv_eq_ediv_of_nonneg e1
  have f1 : 0 ≤ (b - x) * d := Int.mul_nonneg (by omega) hd0
  have f2 : (b - x) * d ≤ (b - x) * 255 := Int.mul_le_mul_of_nonneg_left hd1 (by omega)
  have f3 : Int.tdiv ((b - x) * d) 255 = (b - x) * d / 255 := Int.tdiv_eq_ediv_of_nonneg f1
  refine ⟨a + (x - a) * c / 255, b - (b - x) * d / 255, ?_, by omega, by omega, by omega, by omega⟩
  unfold p15
  simp only [lt_v, List.getD_cons_zero, List.getD_cons_succ]
  rw [wr64 (z := x - a) (by omega) (by omega), wr64 (z := c) (by omega) (by omega), wr64 (z := (x - a) * c) (by omega) (by omega), e3, wr64 (z := (x - a) * c / 255) (by omega) (by omega), wr64 (z := a + (x - a) * c / 255) (by omega) (by omega), wr64 (z := b - x) (by omega) (by omega), wr64 (z := d) (by omega) (by omega), wr64 (z := (b - x) * d) (by omega) (by omega), f3, wr64 (z := (b - x) * d / 255) (by omega) (by omega), wr64 (z := b - (b - x) * d / 255) (by omega) (by omega)]
theorem row2_get {r : List Int} {o : Nat} (y z : Int) (h : o + 2 ≤ r.length) (t : Nat) : (r.take o ++ [y, z] ++ r.drop (o + 2)).getD t 0 = if t = o then y else if t = o + 1 then z else r.getD t 0 := by
  have hl : (r.take o).length = o := by simp; omega
  simp only [List.getD_eq_getElem?_getD]
  by_cases c1 : t < o
  · rw [if_neg (by omega), if_neg (by omega), List.append_assoc, List.getElem?_append_left (by omega), List.getElem?_take_of_lt c1]
  · by_cases c2 : t = o
    · subst c2
      rw [if_pos rfl, List.append_assoc, List.getElem?_append_right (by omega), hl, Nat.sub_self]; rfl
    · by_cases c3 : t = o + 1
      · subst c3
        rw [if_neg c2, if_pos rfl, List.append_assoc, List.getElem?_append_right (by omega), hl, Nat.add_sub_cancel_left]; rfl
      · rw [if_neg c2, if_neg c3, List.getElem?_append_right (by simp; omega), List.getElem?_drop]
        simp only [List.length_append, hl, List.length_cons, List.length_nil]
        rw [show o + 2 + (t - (o + (0 + 1 + 1))) = t from by omega]
theorem row2_len {r : List Int} {o : Nat} (y z : Int) (h : o + 2 ≤ r.length) : (r.take o ++ [y, z] ++ r.drop (o + 2)).length = r.length := by
  simp; omega
theorem rd_set {R : List (List Int)} {i : Nat} {r : List Int} (hi : i < R.length) (j : Nat) : rd (R.set i r) j = if j = i then r else rd R j := getDset R i j r [] hi
structure NRow (r r' : List Int) (p : Int) (v : Nat → Int) : Prop where
  at' : rA r' = rA r
  pl : rPL r ≤ rPL r' ∧ rPL r' ≤ p
  ph : p ≤ rPH r' ∧ rPH r' ≤ rPH r
  val : ∀ q, q < 4 → (rVL q r ≤ rVL q r' ∧ rVL q r' ≤ v q) ∧ (v q ≤ rVH q r' ∧ rVH q r' ≤ rVH q r)
theorem nar1 {R R' : List (List Int)} {D P : List Int} {V : List (List Int)} (h : LogOk R D) (hf : Fits R D P V) {i : Nat} (hi : i < R.length) (hl : R'.length = R.length) (ho : ∀ j, j ≠ i → rd R' j = rd R j) (hr : NRow (rd R i) (rd R' i) (P.getD (atI R i) 0) (fun q => hv V (atI R i) q)) : LogOk R' D ∧ Nar R R' ∧ lastI R' = lastI R := by
  have hA : ∀ j, rA (rd R' j) = rA (rd R j) := fun j => by
    by_cases c : j = i
    · subst c; exact hr.at'
    · rw [ho j c]
  have hst : stT R' = stT R := hA 0
  have hla : lastI R' = lastI R := by unfold lastI; rw [hl, hA, hst]
  have hlN : lastN R' = lastN R := by unfold lastN; rw [hla]
  have hat : ∀ j, atI R' j = atI R j := fun j => by unfold atI; rw [hA, hst]
  have hrf := hf.rfits h
  have hro := h.arg.read i hi
  have ha : ArgOk R' D := by
    refine ⟨by rw [hl]; exact h.arg.n2, fun j hj => ?_, fun j hj => ?_, by rw [hla]; exact h.arg.span, h.arg.dr⟩
    · rw [hl] at hj
      by_cases c : j = i
      · subst c
        obtain ⟨r1, r2, r3, r4⟩ := hro
        have e1 := hr.at'
        have e2 := hr.pl
        have e3 := hr.ph
        refine ⟨by omega, by omega, ?_, fun q hq => ?_⟩
        · unfold bandOk at r3 ⊢; omega
        · have := r4 q hq
          have := hr.val q hq
          unfold bandOk at *
          omega
      · rw [ho j c]; exact h.arg.read j hj
    · rw [hl] at hj
      rw [hA, hA]; exact h.arg.asc j hj
  refine ⟨logOk_of (P := P) (V := V) (by rw [hl]; exact h.n64) ha ⟨by rw [hlN]; exact hf.lp, by rw [hlN]; exact hf.lv, by rw [hlN]; exact hrf.step, fun j hj => ?_⟩, ⟨hst, fun r hr' => ?_⟩, hla⟩
  · rw [hl] at hj
    unfold readAt bandAt
    rw [hat]
    by_cases c : j = i
    · subst c
      exact ⟨⟨hr.pl.2, hr.ph.1⟩, fun q hq => ⟨(hr.val q hq).1.2, (hr.val q hq).2.1⟩⟩
    · rw [ho j c]; exact hrf.read j hj
  · obtain ⟨j, hj, rfl⟩ := mem_rd hr'
    refine ⟨rd R' j, rd_mem (by omega), hA j, ?_⟩
    by_cases c : j = i
    · subst c
      exact ⟨hr.pl.1, hr.ph.2, fun q hq => ⟨(hr.val q hq).1.1, (hr.val q hq).2.2⟩⟩
    · rw [ho j c]; exact ⟨Int.le_refl _, Int.le_refl _, fun q hq => ⟨Int.le_refl _, Int.le_refl _⟩⟩
theorem ins_get {R : List (List Int)} {i : Nat} (L : List Int) (hi : i < R.length) (j : Nat) : rd (R.take (i + 1) ++ [L] ++ R.drop (i + 1)) j = if j ≤ i then rd R j else if j = i + 1 then L else rd R (j - 1) := by
  have hl : (R.take (i + 1)).length = i + 1 := by simp; omega
  unfold rd
  simp only [List.getD_eq_getElem?_getD]
  by_cases c1 : j ≤ i
  · rw [if_pos c1, List.append_assoc, List.getElem?_append_left (by omega), List.getElem?_take_of_lt (by omega)]
  · by_cases c2 : j = i + 1
    · subst c2
      rw [if_neg c1, if_pos rfl, List.append_assoc, List.getElem?_append_right (by omega), hl, Nat.sub_self]; rfl
    · rw [if_neg c1, if_neg c2, List.getElem?_append_right (by simp; omega), List.getElem?_drop]
      simp only [List.length_append, hl, List.length_cons, List.length_nil]
      rw [show i + 1 + (j - (i + 1 + (0 + 1))) = j - 1 from by omega]
theorem nar2 {R : List (List Int)} {D P L : List Int} {V : List (List Int)} (h : LogOk R D) (hf : Fits R D P V) {i : Nat} (hi : i + 1 < R.length) (hn : R.length ≠ 64) (hA : rA L = rA (rd R i) + 1) (hne : rA (rd R (i + 1)) ≠ rA (rd R i) + 1) (hb : bandOk (rPL L) (rPH L)) (hbv : ∀ q, q < 4 → bandOk (rVL q L) (rVH q L)) (hp : rPL L ≤ P.getD (atI R i + 1) 0 ∧ P.getD (atI R i + 1) 0 ≤ rPH L) (hv' : ∀ q, q < 4 → rVL q L ≤ hv V (atI R i + 1) q ∧ hv V (atI R i + 1) q ≤ rVH q L) (R' : List (List Int)) (hR' : R' = R.take (i + 1) ++ [L] ++ R.drop (i + 1)) : LogOk R' D ∧ Nar R R' ∧ lastI R' = lastI R := by
  have hg : ∀ j, rd R' j = if j ≤ i then rd R j else if j = i + 1 then L else rd R (j - 1) := fun j => by rw [hR']; exact ins_get L (by omega) j
  have hl : R'.length = R.length + 1 := by rw [hR']; simp; omega
  have hst : stT R' = stT R := by unfold stT; rw [hg, if_pos (by omega)]
  have hla : lastI R' = lastI R := by
    unfold lastI
    rw [hl, hst, hg, if_neg (by omega), if_neg (by omega), show R.length + 1 - 1 - 1 = R.length - 1 from by omega]
  have hlN : lastN R' = lastN R := by unfold lastN; rw [hla]
  have hrf := hf.rfits h
  have hasc := h.arg.asc i hi
  have hro1 := h.arg.read i (by omega)
  have hro2 := h.arg.read (i + 1) hi
  have hai := atI_le h.arg (i := i) (by omega)
  have hn64 := h.n64
  have ha : ArgOk R' D := by
    refine ⟨by rw [hl]; have := h.arg.n2; omega, fun j hj => ?_, fun j hj => ?_, by rw [hla]; exact h.arg.span, h.arg.dr⟩
    · rw [hl] at hj
      rw [hg]
      by_cases c1 : j ≤ i
      · rw [if_pos c1]; exact h.arg.read j (by omega)
      · rw [if_neg c1]
        by_cases c2 : j = i + 1
        · rw [if_pos c2]
          refine ⟨by have := hro1.1; omega, by have := hro2.2.1; omega, hb, hbv⟩
        · rw [if_neg c2]; exact h.arg.read (j - 1) (by omega)
    · rw [hl] at hj
      rw [hg, hg]
      by_cases c1 : j + 1 ≤ i
      · rw [if_pos (by omega), if_pos c1]; exact h.arg.asc j (by omega)
      · by_cases c2 : j = i
        · subst c2
          rw [if_pos (Nat.le_refl _), if_neg (by omega), if_pos rfl]; omega
        · rw [if_neg (show ¬ j ≤ i by omega), if_neg c1, if_neg (show ¬ j + 1 = i + 1 by omega)]
          by_cases c3 : j = i + 1
          · subst c3
            rw [if_pos rfl, Nat.add_sub_cancel]; omega
          · rw [if_neg c3, Nat.add_sub_cancel]
            have := h.arg.asc (j - 1) (by omega)
            rwa [show j - 1 + 1 = j from by omega] at this
  refine ⟨logOk_of (P := P) (V := V) (by omega) ha ⟨by rw [hlN]; exact hf.lp, by rw [hlN]; exact hf.lv, by rw [hlN]; exact hrf.step, fun j hj => ?_⟩, ⟨hst, fun r hr' => ?_⟩, hla⟩
  · rw [hl] at hj
    unfold readAt bandAt atI
    rw [hst, hg]
    by_cases c1 : j ≤ i
    · rw [if_pos c1]; exact hrf.read j (by omega)
    · rw [if_neg c1]
      by_cases c2 : j = i + 1
      · rw [if_pos c2, hA, show (rA (rd R i) + 1 - stT R).toNat = atI R i + 1 from by omega]
        exact ⟨hp, hv'⟩
      · rw [if_neg c2]; exact hrf.read (j - 1) (by omega)
  · obtain ⟨j, hj, rfl⟩ := mem_rd hr'
    by_cases c1 : j ≤ i
    · refine ⟨rd R' j, rd_mem (by omega), ?_⟩
      rw [hg, if_pos c1]
      exact ⟨rfl, Int.le_refl _, Int.le_refl _, fun q hq => ⟨Int.le_refl _, Int.le_refl _⟩⟩
    · refine ⟨rd R' (j + 1), rd_mem (by omega), ?_⟩
      rw [hg, if_neg (by omega), if_neg (by omega), Nat.add_sub_cancel]
      exact ⟨rfl, Int.le_refl _, Int.le_refl _, fun q hq => ⟨Int.le_refl _, Int.le_refl _⟩⟩
end Go.Proofs.Ythjkejbgknemgaa
namespace Go.Proofs.Ythjkejbgknemgaa
open Go.ChangeShapes Go.WideShapes Go.ChangeAt Go.RowKit
def PlainClaimNarrower : Prop := ∀ (u0_0 : List (List Int)) (u0_1 : List Int) (u1 : List Int) (u2 : List Int) (u3 : Int) (u4 : Int) (u5 : Int), u0_0.length ≤ maxLen → (∀ r ∈ u0_0, r.length = 11) → (∀ r ∈ u0_0, ∀ z ∈ r, Wfi .i64 z) → u0_1.length = 4 → (∀ z ∈ u0_1, Wfi .i64 z) → u1.length = 7 → (∀ z ∈ u1, Wfi .i64 z) → u2.length ≤ maxLen → (∀ z ∈ u2, Wfi .u8 z) → Wfi .u8 u3 → Wfi .u8 u4 → Wfi .u8 u5 → ∃ k, p3 k u0_0 u0_1 u1 u2 u3 u4 u5 = some true
theorem own3 : ownKnob Try.prog.godebug = none := by kernel_rfl
theorem laid3 : laidOutB Try.prog = true := by kernel_rfl
set_option maxRecDepth 100000 in
theorem lifted3 (plain : PlainClaimNarrower) (os : Os) (started : os.Started) (H : Type) (enc : TypeId × Value → H) :
    ReturnsInHanded {} Try.checked os 3 .any (Rows.claimNarrowerSpec.pre6 enc Try.prog Try.f3 Rows.claimNarrowerRow.domain false) (Rows.claimNarrowerSpec.post enc Try.prog Try.f3 false true false false) := by
  refine returnsInHanded_of_change (C := Try.checked) own3 started (by kernel_rfl) Try.func3
    (ChangeSpec.witness6 (enc := enc) (C := Try.checked) false ⟨#[], #[.agg #[.slice none 0 0, .int .i64 0, .int .i64 0, .int .i64 0, .int .i64 0], .agg #[.int .i64 0, .int .i64 0, .int .i64 0, .int .i64 0, .int .i64 0, .int .i64 0, .int .i64 0], .slice none 0 0, .int .u8 0, .int .u8 0, .int .u8 0], []⟩ 12 (by kernel_rfl) (by kernel_rfl) (by kernel_rfl) (by kernel_rfl)) ?_
  intro W base args ds gs before hval0 hW hcnd _
  have hval : ∀ (j : Nat) t v, Try.f3.params[j]? = some t → args[j]? = some v → Value.okWide Try.prog W .any base t v := hval0
  have hW' := hW
  obtain ⟨p, q, hA0, hV, rfl, hfz, hnd⟩ := hW
  have hA : DataW.TrodAll enc Try.prog W 0 (fun _ => true) true Try.f3.params.toList args.toList ds p := hA0
  rw [Try.params3] at hA hval
  obtain ⟨v0, vs0, d0, ds0, p0, q0, hargs, rfl, rfl, h0, r0⟩ := trodAll_cons hA
  obtain ⟨v1, vs1, d1, ds1, p1, q1, rfl, rfl, rfl, h1, r1⟩ := trodAll_cons r0
  obtain ⟨v2, vs2, d2, ds2, p2, q2, rfl, rfl, rfl, h2, r2⟩ := trodAll_cons r1
  obtain ⟨v3, vs3, d3, ds3, p3, q3, rfl, rfl, rfl, h3, r3⟩ := trodAll_cons r2
  obtain ⟨v4, vs4, d4, ds4, p4, q4, rfl, rfl, rfl, h4, r4⟩ := trodAll_cons r3
  obtain ⟨v5, vs5, d5, ds5, p5, q5, rfl, rfl, rfl, h5, r5⟩ := trodAll_cons r4
  obtain ⟨rfl, rfl, rfl⟩ := trodAll_nil r5
  obtain rfl : args = #[v0, v1, v2, v3, v4, v5] := by cases args; simp_all
  obtain ⟨rfl, rfl⟩ := trodVars_none hV
  have k0 := h0
  have lt0 : ∀ x ∈ p0, x.block < W.heap.size := by obtain ⟨m, hm⟩ := k0; exact DataW.trod_lt m _ _ _ hm
  obtain ⟨cs0, fu0, rfl, hx0⟩ := open_agg Try.underlying25 rfl (hval 0 25 v0 rfl rfl) h0
  obtain ⟨c0a, c0b, fv0, y0a, y0b, rfl, hx0a, hx0b⟩ := open_two Try.underlying25 rfl (by kernel_rfl) (by kernel_rfl) hx0
  obtain ⟨Au0_0, u0_0, cu0_0, rfl, su0_0, mu0_0, zu0_0⟩ := open_rows (k := .i64) (d := 8) (m := 11) Try.underlying22 (by kernel_rfl) rfl (by kernel_rfl) hx0a
  obtain ⟨u0_1, rfl, lu0_1, zu0_1⟩ := open_ints' (k := .i64) (d := 8) (n := 4) (by kernel_rfl) hx0b
  have k1 := h1
  have lt1 : ∀ x ∈ p1, x.block < W.heap.size := by obtain ⟨m, hm⟩ := k1; exact DataW.trod_lt m _ _ _ hm
  obtain ⟨cs1, fu1, rfl, hx1⟩ := open_agg Try.underlying27 rfl (hval 1 27 v1 rfl rfl) h1
  obtain ⟨u1, rfl, lu1, zu1⟩ := open_ints' (k := .i64) (d := 8) (n := 7) (by kernel_rfl) hx1
  have k2 := h2
  have lt2 : ∀ x ∈ p2, x.block < W.heap.size := by obtain ⟨m, hm⟩ := k2; exact DataW.trod_lt m _ _ _ hm
  obtain ⟨cs2, fu2, hcs2, hx2⟩ := open_slice Try.underlying28 (hval 2 28 v2 rfl rfl) h2
  obtain ⟨Au2, u2, cu2, rfl, su2, mu2, zu2⟩ := open_sint (k := .u8) (d := 8) Try.underlying28 (by kernel_rfl) (by kernel_rfl) hx2
  injection hcs2 with hcs2 _
  subst hcs2
  obtain ⟨u3, rfl, rfl, rfl, wu3⟩ := open_int Try.underlying5 (hval 3 5 v3 rfl rfl) h3
  obtain ⟨u4, rfl, rfl, rfl, wu4⟩ := open_int Try.underlying5 (hval 4 5 v4 rfl rfl) h4
  obtain ⟨u5, rfl, rfl, rfl, wu5⟩ := open_int Try.underlying5 (hval 5 5 v5 rfl rfl) h5
  obtain ⟨k, hp⟩ := plain u0_0 u0_1 u1 u2 u3 u4 u5 mu0_0 su0_0.1 zu0_0 lu0_1 zu0_1 lu1 zu1 mu2 zu2 wu3 wu4 wu5
  have hc := Fn.calls (Mem.le_refl _) ((w3 k su0_0 lu0_1 lu1 su2 hp).mono (R' := fun x _ => rval x = .bool true) (by rintro x M' _ rfl; rfl))
  clear hA0 hval0
  have hc2 : Calls Try.prog 3 #[.agg ([Value.slice Au0_0 (List.length u0_0) cu0_0] ++ ints .i64 u0_1).toArray, .agg (ints .i64 u1).toArray, .slice Au2 (List.length u2) cu2, .int .u8 u3, .int .u8 u4, .int .u8 u5] W fun e w' => e = .returned (.bool true) ∧ Below W.heap.size W w' := by
    simpa [rval, SV.val, sgCells, Sg.cells, Lf.val] using hc
  refine hc2.mono fun e W' ⟨he, bel⟩ => ?_
  subst he
  exact ⟨_, rfl, _, _, _, [], _, [], hW', trodAll_mk1 (shut_bool Try.underlying4 _), (trodAll_cons_mk (Below.trod laid3 (by kernel_rfl) (of_decide_eq_true (by kernel_rfl)) k0 bel lt0) (trodAll_cons_mk (Below.trod laid3 (by kernel_rfl) (of_decide_eq_true (by kernel_rfl)) k1 bel lt1) (trodAll_cons_mk (Below.trod laid3 (by kernel_rfl) (of_decide_eq_true (by kernel_rfl)) k2 bel lt2) (trodAll_cons_mk (shut_int Try.underlying5 wu3) (trodAll_cons_mk (shut_int Try.underlying5 wu4) (trodAll_cons_mk (shut_int Try.underlying5 wu5) trodAll_mk0)))))), rfl, bel.frame _, fun h => by cases h⟩
theorem claimNarrower_of (plain : PlainClaimNarrower) : Rows.ClaimNarrowerSaid :=
  OpenClaim.holds_of_wide 3 Try.f3 rfl rfl rfl rfl rfl rfl rfl ⟨rfl, rfl, rfl, rfl, rfl⟩ rfl rfl rfl rfl rfl (by kernel_rfl) Try.func3 (by kernel_rfl)
    (of_decide_eq_true (by kernel_rfl)) (by unfold Func.isWrapper; first | (rw [if_pos (by decide +kernel)]; kernel_rfl) | (rw [if_neg (by decide +kernel)]; exact ⟨rfl, rfl⟩))
    (fun os started H enc _ => lifted3 plain os started H enc)
end Go.Proofs.Ythjkejbgknemgaa
