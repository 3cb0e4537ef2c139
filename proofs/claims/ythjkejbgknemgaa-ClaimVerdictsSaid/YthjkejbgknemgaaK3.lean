/- Lemmas and walks for the law ClaimVerdicts (part 3). No condition: every theorem names its own hypotheses. -/
import Derived.Test.YthjkejbgknemgaaK2
import Derived.Test.YthjkejbgknemgaaProg
set_option linter.unusedVariables false
set_option linter.unusedSimpArgs false
set_option maxHeartbeats 4000000
namespace Go.Proofs.Ythjkejbgknemgaa
open Go.RowKit
def p87 (k : Nat) (u0 : Int) : Option Bool :=
 lt' (u0 != u0) fun b1 => some b1
theorem hf87 : Try.prog.funcs[87]? = some Try.f87 := by kernel_rfl
theorem w87 (k : Nat) {M : Mem} {u0 : Int} {r} (h : p87 k u0 = some r) :
  Fn Try.prog 87 [rval (vi u0)] M (fun x _ => x = vb r) := by
 unfold p87 at h
 refine Fn_of (P:=Try.prog) (fn:=Try.f87) (c:=bodyOf Try.f87) [vi u0] hf87 (by kernel_rfl) (Nat.le_of_ble_eq_true (by kernel_rfl)) (args_ok (by kernel_rfl) ⟨trivial,trivial⟩) fun w => ?_
 change T _ _ _ (endQ _ _ _)
 refine T_seq (c1:=(sub [0] Bd87)) (c2:=(sub [1] Bd87)) (by kernel_rfl) ?_
 refine T_region (id:=0) (by kernel_rfl) ?_
 refine TI_segK (i:=0) (j:=1) (s':={ σ := [(0,vi u0)],H := [],V := [],M := M,ds := [] }) [0] [] [] (by kernel_rfl) (by kernel_rfl) ?_
 refine TI_end (by kernel_rfl) ?_
 refine thenQ_n ?_
 refine T_seq (c1:=(sub [1,0] Bd87)) (c2:=(sub [1,1] Bd87)) (by kernel_rfl) ?_
 refine T_region (id:=1) (by kernel_rfl) ?_
 obtain ⟨b1,e_b1,h⟩ := lt_some h
 refine TI_segS (i:=0) (j:=4) [(2,vb b1)] (by subst e_b1;kernel_rfl) (by kernel_rfl) ?_
 refine TI_end (by kernel_rfl) ?_
 refine thenQ_n ?_
 refine T_ret (by kernel_rfl) ?_
 have h := Option.some.inj h
 subst h
 refine fin_ret (vb b1) (by kernel_rfl) (by kernel_rfl) rfl ?_
 rfl
def p78 (k : Nat) (u0 : Int) (u1 : Int) : Option Bool :=
 jn (fun (b1 : Bool) => some b1) fun j2 => cl (p87 k u0) fun v3 => sp v3 (cl (p87 k u1) fun v4 => sp v4 (lt' (decide (u0 < u1)) fun b5 => j2 b5) (j2 true)) (lt' (decide (u0 < u1)) fun b6 => j2 b6)
theorem hf78 : Try.prog.funcs[78]? = some Try.f78 := by kernel_rfl
theorem w78 (k : Nat) {M : Mem} {u0 : Int} {u1 : Int} {r} (h : p78 k u0 u1 = some r) :
  Fn Try.prog 78 [rval (vi u0),rval (vi u1)] M (fun x _ => x = vb r) := by
 unfold p78 at h
 refine Fn_of (P:=Try.prog) (fn:=Try.f78) (c:=bodyOf Try.f78) [vi u0,vi u1] hf78 (by kernel_rfl) (Nat.le_of_ble_eq_true (by kernel_rfl)) (args_ok (by kernel_rfl) ⟨trivial,⟨trivial,trivial⟩⟩) fun w => ?_
 change T _ _ _ (endQ _ _ _)
 refine T_seq (c1:=(sub [0] Bd78)) (c2:=(sub [1] Bd78)) (by kernel_rfl) ?_
 refine T_region (id:=0) (by kernel_rfl) ?_
 refine TI_segK (i:=0) (j:=1) (s':={ σ := [(0,vi u0),(1,vi u1)],H := [],V := [],M := M,ds := [] }) [0,1] [] [] (by kernel_rfl) (by kernel_rfl) ?_
 refine TI_end (by kernel_rfl) ?_
 refine thenQ_n ?_
 obtain ⟨j2,e_j2,h⟩ := jn_some h
 refine T_cut (c1:=(sub [1,0] Bd78)) (c2:=(sub [1,1] Bd78)) (fun s' => ∃ (b1 : Bool),Sub { σ := [(4,vb b1)],H := [],V := [],M := M,ds := [] } s' ∧ j2 b1 = some r) (by kernel_rfl) ?_ ?_
 ·refine T_region (id:=1) (by kernel_rfl) ?_
  refine TI_segK (i:=0) (j:=1) (s':={ σ := [(0,vi u0),(1,vi u1),(5,vi u0)],H := [],V := [],M := M,ds := [] }) [0,1,5] [] [] (by kernel_rfl) (by kernel_rfl) ?_
  obtain ⟨v3,c_v3,h⟩ := cl_some h
  refine TI_at (i:=1) (d:=6) (x:=vb v3) (At_call (d:=6) (f:=87) (args:=[rval (vi u0)]) (x:=vb v3) (by kernel_rfl) (w87 k  c_v3)) (by kernel_rfl) trivial ?_
  refine TI_segK (i:=2) (j:=3) (s':={ σ := [(0,vi u0),(1,vi u1),(7,vb v3)],H := [],V := [],M := M,ds := [] }) [0,1,7] [] [] (by kernel_rfl) (by kernel_rfl) ?_
  cases v3 with
  | true =>
   replace h := sp_t h
   refine TI_segS (i:=3) (j:=4) [(0,vi u0),(1,vi u1),(7,vb true),(8,vi u1)] (by kernel_rfl) (by kernel_rfl) ?_
   obtain ⟨v4,c_v4,h⟩ := cl_some h
   refine TI_at (i:=4) (d:=9) (x:=vb v4) (At_call (d:=9) (f:=87) (args:=[rval (vi u1)]) (x:=vb v4) (by kernel_rfl) (w87 k  c_v4)) (by kernel_rfl) trivial ?_
   refine TI_segK (i:=5) (j:=8) (s':={ σ := [(0,vi u0),(1,vi u1),(12,vb (!v4))],H := [],V := [],M := M,ds := [] }) [0,1,12] [] [] (by kernel_rfl) (by kernel_rfl) ?_
   cases v4 with
   | true =>
    replace h := sp_t h
    obtain ⟨b5,e_b5,h⟩ := lt_some h
    refine TI_segS (i:=8) (j:=13) [(4,vb b5)] (by subst e_b5;kernel_rfl) (by kernel_rfl) ?_
    refine TI_end (by kernel_rfl) ?_
    refine thenQ_n ?_
    exact ⟨b5,keep_sub (ts:=[4]) (hs:=[]) (vs:=[]) (by kernel_rfl),h⟩
   | false =>
    replace h := sp_f h
    refine TI_segS (i:=8) (j:=13) [(4,vb true)] (by kernel_rfl) (by kernel_rfl) ?_
    refine TI_end (by kernel_rfl) ?_
    refine thenQ_n ?_
    exact ⟨true,keep_sub (ts:=[4]) (hs:=[]) (vs:=[]) (by kernel_rfl),h⟩
  | false =>
   replace h := sp_f h
   obtain ⟨b6,e_b6,h⟩ := lt_some h
   refine TI_segS (i:=3) (j:=13) [(4,vb b6)] (by subst e_b6;kernel_rfl) (by kernel_rfl) ?_
   refine TI_end (by kernel_rfl) ?_
   refine thenQ_n ?_
   exact ⟨b6,keep_sub (ts:=[4]) (hs:=[]) (vs:=[]) (by kernel_rfl),h⟩
 ·rintro s' ⟨b1,hsub,h⟩
  subst e_j2
  refine T_sub hsub ?_
  refine T_ret (by kernel_rfl) ?_
  have h := Option.some.inj h
  subst h
  refine fin_ret (vb b1) (by kernel_rfl) (by kernel_rfl) rfl ?_
  rfl
def p79 (k : Nat) (u0 : Int) : Option Bool :=
 lt' (u0 != u0) fun b1 => some b1
theorem hf79 : Try.prog.funcs[79]? = some Try.f79 := by kernel_rfl
theorem w79 (k : Nat) {M : Mem} {u0 : Int} {r} (h : p79 k u0 = some r) :
  Fn Try.prog 79 [rval (vi u0)] M (fun x _ => x = vb r) := by
 unfold p79 at h
 refine Fn_of (P:=Try.prog) (fn:=Try.f79) (c:=bodyOf Try.f79) [vi u0] hf79 (by kernel_rfl) (Nat.le_of_ble_eq_true (by kernel_rfl)) (args_ok (by kernel_rfl) ⟨trivial,trivial⟩) fun w => ?_
 change T _ _ _ (endQ _ _ _)
 refine T_seq (c1:=(sub [0] Bd79)) (c2:=(sub [1] Bd79)) (by kernel_rfl) ?_
 refine T_region (id:=0) (by kernel_rfl) ?_
 refine TI_segK (i:=0) (j:=1) (s':={ σ := [(0,vi u0)],H := [],V := [],M := M,ds := [] }) [0] [] [] (by kernel_rfl) (by kernel_rfl) ?_
 refine TI_end (by kernel_rfl) ?_
 refine thenQ_n ?_
 refine T_seq (c1:=(sub [1,0] Bd79)) (c2:=(sub [1,1] Bd79)) (by kernel_rfl) ?_
 refine T_region (id:=1) (by kernel_rfl) ?_
 obtain ⟨b1,e_b1,h⟩ := lt_some h
 refine TI_segS (i:=0) (j:=4) [(2,vb b1)] (by subst e_b1;kernel_rfl) (by kernel_rfl) ?_
 refine TI_end (by kernel_rfl) ?_
 refine thenQ_n ?_
 refine T_ret (by kernel_rfl) ?_
 have h := Option.some.inj h
 subst h
 refine fin_ret (vb b1) (by kernel_rfl) (by kernel_rfl) rfl ?_
 rfl
def p57_l1 (k : Nat) (u0 : List Int) (u1 : Int) (j2 : Int → Option (Int × Bool)) : Nat → Int → Int → Option (Int × Bool)
 | 0,_,_ => none
 | n5 + 1,x3,x4 => lt' (decide (x3 < x4)) fun b6 => sp b6 (lt' (wr .i64 (x3 + x4)) fun x7 => lt' (wr .u64 (x7)) fun x8 => lt' (Int.fdiv x8 (2 ^ (min (1 : Int).toNat (IntKind.bits .u64)))) fun x9 => lt' (wr .i64 (x9)) fun x10 => gd ((0 : Int) ≤ x10 ∧ x10 < (u0.length : Int)) <| lt' (List.getD u0 ((x10).toNat) 0) fun x12 => cl (p78 k x12 u1) fun v13 => sp v13 (lt' (wr .i64 (x10 + (1 : Int))) fun x14 => p57_l1 k u0 u1 j2 n5 x14 x4) (p57_l1 k u0 u1 j2 n5 x3 x10)) (j2 x3)
def p57 (k : Nat) (u0 : List Int) (u1 : Int) : Option (Int × Bool) :=
 jn (fun (x1 : Int) => jn (fun (b15 : Bool) => some (x1,b15)) fun j16 => lt' (decide (x1 < (u0.length : Int))) fun b17 => sp b17 (gd ((0 : Int) ≤ x1 ∧ x1 < (u0.length : Int)) <| lt' (List.getD u0 ((x1).toNat) 0) fun x19 => lt' (x19 == u1) fun b20 => sp b20 (j16 true) (gd ((0 : Int) ≤ x1 ∧ x1 < (u0.length : Int)) <| lt' (List.getD u0 ((x1).toNat) 0) fun x22 => cl (p79 k x22) fun v23 => sp v23 (cl (p79 k u1) fun v24 => j16 v24) (j16 false))) (j16 false)) fun j2 => p57_l1 k u0 u1 j2 k (0 : Int) (u0.length : Int)
theorem hf57 : Try.prog.funcs[57]? = some Try.f57 := by kernel_rfl
theorem w57 (k : Nat) {M : Mem} {Au0 : Option Addr} {cu0 : Nat} {u0 : List Int} {u1 : Int} (hu0 : SlI M Au0 cu0 .i64 u0) {r} (h : p57 k u0 u1 = some r) :
  Fn Try.prog 57 [rval (.lf (.v (.slice Au0 (u0.length) cu0))),rval (vi u1)] M (fun x _ => x = .tup [(some (.v (.int .i64 r.1)),[]),(some (.v (.bool r.2)),[])]) := by
 unfold p57 at h
 refine Fn_of (P:=Try.prog) (fn:=Try.f57) (c:=bodyOf Try.f57) [.lf (.v (.slice Au0 (u0.length) cu0)),vi u1] hf57 (by kernel_rfl) (Nat.le_of_ble_eq_true (by kernel_rfl)) (args_ok (by kernel_rfl) ⟨trivial,⟨trivial,trivial⟩⟩) fun w => ?_
 change T _ _ _ (endQ _ _ _)
 refine T_seq (c1:=(sub [0] Bd57)) (c2:=(sub [1] Bd57)) (by kernel_rfl) ?_
 refine T_region (id:=0) (by kernel_rfl) ?_
 refine TI_segK (i:=0) (j:=2) (s':={ σ := [(0,.lf (.v (.slice Au0 (u0.length) cu0))),(1,vi u1)],H := [],V := [],M := M,ds := [] }) [0,1] [] [] (by kernel_rfl) (by kernel_rfl) ?_
 refine TI_end (by kernel_rfl) ?_
 refine thenQ_n ?_
 refine T_seq (c1:=(sub [1,0] Bd57)) (c2:=(sub [1,1] Bd57)) (by kernel_rfl) ?_
 refine T_region (id:=1) (by kernel_rfl) ?_
 refine TI_segS (i:=0) (j:=3) [(0,.lf (.v (.slice Au0 (u0.length) cu0))),(1,vi u1),(6,vi (u0.length : Int))] (by kernel_rfl) (by kernel_rfl) ?_
 refine TI_end (by kernel_rfl) ?_
 refine thenQ_n ?_
 refine T_seq (c1:=(sub [1,1,0] Bd57)) (c2:=(sub [1,1,1] Bd57)) (by kernel_rfl) ?_
 refine T_region (id:=2) (by kernel_rfl) ?_
 refine TI_segS (i:=0) (j:=3) [(0,.lf (.v (.slice Au0 (u0.length) cu0))),(1,vi u1),(6,vi (u0.length : Int)),(7,vi (0 : Int)),(8,vi (u0.length : Int))] (by kernel_rfl) (by kernel_rfl) ?_
 refine TI_end (by kernel_rfl) ?_
 refine thenQ_n ?_
 refine T_seq (c1:=(sub [1,1,1,0] Bd57)) (c2:=(sub [1,1,1,1] Bd57)) (by kernel_rfl) ?_
 obtain ⟨j2,e_j2,h⟩ := jn_some h
 refine T_bcut (id:=0) (c1:=(sub [1,1,1,0,0] Bd57)) (fun s' => ∃ (x1 : Int),Sub { σ := [(0,.lf (.v (.slice Au0 (u0.length) cu0))),(1,vi u1),(6,vi (u0.length : Int)),(7,vi x1)],H := [],V := [],M := M,ds := [] } s' ∧ j2 x1 = some r) (by kernel_rfl) ?_ ?_
 ·refine T_loop (c1:=(sub [1,1,1,0,0,0] Bd57)) (by kernel_rfl) (fun n5 s' => ∃ (x3 : Int) (x4 : Int),Sub { σ := [(0,.lf (.v (.slice Au0 (u0.length) cu0))),(1,vi u1),(6,vi (u0.length : Int)),(7,vi x3),(8,vi x4)],H := [],V := [],M := M,ds := [] } s' ∧ p57_l1 k u0 u1 j2 n5 x3 x4 = some r) (k:=k) ⟨(0 : Int),(u0.length : Int),keep_sub (ts:=[0,1,6,7,8]) (hs:=[]) (vs:=[]) (by kernel_rfl),h⟩ ?_
  rintro n5 s' ⟨x3,x4,hsub,h⟩
  cases n5 with
  | zero => rw [p57_l1] at h;cases h
  | succ n5 =>
   rw [p57_l1] at h
   refine T_sub hsub ?_
   refine T_seq (c1:=(sub [1,1,1,0,0,0,0] Bd57)) (c2:=(sub [1,1,1,0,0,0,1] Bd57)) (by kernel_rfl) ?_
   refine T_seq (c1:=(sub [1,1,1,0,0,0,0,0] Bd57)) (c2:=(sub [1,1,1,0,0,0,0,1] Bd57)) (by kernel_rfl) ?_
   refine T_region (id:=3) (by kernel_rfl) ?_
   obtain ⟨b6,e_b6,h⟩ := lt_some h
   refine TI_segK (i:=0) (j:=3) (s':={ σ := [(0,.lf (.v (.slice Au0 (u0.length) cu0))),(1,vi u1),(6,vi (u0.length : Int)),(7,vi x3),(8,vi x4),(15,vb b6)],H := [],V := [],M := M,ds := [] }) [0,1,6,7,8,15] [] [] (by subst e_b6;kernel_rfl) (by kernel_rfl) ?_
   refine TI_end (by kernel_rfl) ?_
   refine thenQ_n ?_
   cases b6 with
   | true =>
    replace h := sp_t h
    refine T_condT (x:=(.tmp 15)) (c1:=(sub [1,1,1,0,0,0,0,1,0] Bd57)) (c2:=(sub [1,1,1,0,0,0,0,1,1] Bd57)) (by kernel_rfl) (by kernel_rfl) ?_
    refine T_keepS [(0,.lf (.v (.slice Au0 (u0.length) cu0))),(1,vi u1),(6,vi (u0.length : Int)),(7,vi x3),(8,vi x4)] (by kernel_rfl) ?_
    refine T_skip (by kernel_rfl) ?_
    refine thenQ_n ?_
    refine T_block (id:=1) (c1:=(sub [1,1,1,0,0,0,1,0] Bd57)) (by kernel_rfl) ?_
    refine T_seq (c1:=(sub [1,1,1,0,0,0,1,0,0] Bd57)) (c2:=(sub [1,1,1,0,0,0,1,0,1] Bd57)) (by kernel_rfl) ?_
    refine T_region (id:=4) (by kernel_rfl) ?_
    obtain ⟨x7,e_x7,h⟩ := lt_some h
    obtain ⟨x8,e_x8,h⟩ := lt_some h
    obtain ⟨x9,e_x9,h⟩ := lt_some h
    obtain ⟨x10,e_x10,h⟩ := lt_some h
    refine TI_segS (i:=0) (j:=7) [(0,.lf (.v (.slice Au0 (u0.length) cu0))),(1,vi u1),(6,vi (u0.length : Int)),(7,vi x3),(8,vi x4),(9,vi x10)] (by subst_vars;kernel_rfl) (by kernel_rfl) ?_
    refine TI_end (by kernel_rfl) ?_
    refine thenQ_n ?_
    refine T_seq (c1:=(sub [1,1,1,0,0,0,1,0,1,0] Bd57)) (c2:=(sub [1,1,1,0,0,0,1,0,1,1] Bd57)) (by kernel_rfl) ?_
    refine T_region (id:=5) (by kernel_rfl) ?_
    refine TI_segS (i:=0) (j:=2) [(0,.lf (.v (.slice Au0 (u0.length) cu0))),(1,vi u1),(6,vi (u0.length : Int)),(7,vi x3),(8,vi x4),(9,vi x10),(22,.lf (.v (.slice Au0 (u0.length) cu0))),(23,vi x10)] (by kernel_rfl) (by kernel_rfl) ?_
    obtain ⟨g11,h⟩ := gd_some h
    refine TI_at (i:=2) (d:=24) (x:=.lf (.ep (.slice Au0 (u0.length) cu0) 1 ((x10).toNat) 0)) (by exact At_idxI (d:=24) (z:=x10) (by kernel_rfl) g11 hu0) (by kernel_rfl) trivial ?_
    obtain ⟨x12,e_x12,h⟩ := lt_some h
    refine TI_at (i:=3) (d:=25) (x:=vi x12) (by rw [e_x12]; exact At_ldI (d:=25) (q:=(x10).toNat) (by subst e_x12; kernel_rfl) (toNat_lt g11) hu0) (by kernel_rfl) trivial ?_
    refine TI_segK (i:=4) (j:=5) (s':={ σ := [(0,.lf (.v (.slice Au0 (u0.length) cu0))),(1,vi u1),(6,vi (u0.length : Int)),(7,vi x3),(8,vi x4),(9,vi x10),(25,vi x12),(26,vi u1)],H := [],V := [],M := M,ds := [] }) [0,1,6,7,8,9,25,26] [] [] (by kernel_rfl) (by kernel_rfl) ?_
    obtain ⟨v13,c_v13,h⟩ := cl_some h
    refine TI_at (i:=5) (d:=27) (x:=vb v13) (At_call (d:=27) (f:=78) (args:=[rval (vi x12),rval (vi u1)]) (x:=vb v13) (by kernel_rfl) (w78 k  c_v13)) (by kernel_rfl) trivial ?_
    refine TI_segK (i:=6) (j:=6) (s':={ σ := [(0,.lf (.v (.slice Au0 (u0.length) cu0))),(1,vi u1),(6,vi (u0.length : Int)),(7,vi x3),(8,vi x4),(9,vi x10),(27,vb v13)],H := [],V := [],M := M,ds := [] }) [0,1,6,7,8,9,27] [] [] (by kernel_rfl) (by kernel_rfl) ?_
    refine TI_end (by kernel_rfl) ?_
    refine thenQ_n ?_
    cases v13 with
    | true =>
     replace h := sp_t h
     refine T_condT (x:=(.tmp 27)) (c1:=(sub [1,1,1,0,0,0,1,0,1,1,0] Bd57)) (c2:=(sub [1,1,1,0,0,0,1,0,1,1,1] Bd57)) (by kernel_rfl) (by kernel_rfl) ?_
     refine T_keepS [(0,.lf (.v (.slice Au0 (u0.length) cu0))),(1,vi u1),(6,vi (u0.length : Int)),(8,vi x4),(9,vi x10)] (by kernel_rfl) ?_
     refine T_region (id:=6) (by kernel_rfl) ?_
     obtain ⟨x14,e_x14,h⟩ := lt_some h
     refine TI_segS (i:=0) (j:=3) [(0,.lf (.v (.slice Au0 (u0.length) cu0))),(1,vi u1),(6,vi (u0.length : Int)),(7,vi x14),(8,vi x4)] (by subst e_x14;kernel_rfl) (by kernel_rfl) ?_
     refine TI_end (by kernel_rfl) ?_
     refine blockQ_n ?_
     refine thenQ_n ?_
     exact ⟨n5,Nat.lt_succ_self _,x14,x4,keep_sub (ts:=[0,1,6,7,8]) (hs:=[]) (vs:=[]) (by kernel_rfl),h⟩
    | false =>
     replace h := sp_f h
     refine T_condF (x:=(.tmp 27)) (c1:=(sub [1,1,1,0,0,0,1,0,1,1,0] Bd57)) (c2:=(sub [1,1,1,0,0,0,1,0,1,1,1] Bd57)) (by kernel_rfl) (by kernel_rfl) ?_
     refine T_keepS [(0,.lf (.v (.slice Au0 (u0.length) cu0))),(1,vi u1),(6,vi (u0.length : Int)),(7,vi x3),(9,vi x10)] (by kernel_rfl) ?_
     refine T_region (id:=7) (by kernel_rfl) ?_
     refine TI_segS (i:=0) (j:=2) [(0,.lf (.v (.slice Au0 (u0.length) cu0))),(1,vi u1),(6,vi (u0.length : Int)),(7,vi x3),(8,vi x10)] (by kernel_rfl) (by kernel_rfl) ?_
     refine TI_end (by kernel_rfl) ?_
     refine blockQ_n ?_
     refine thenQ_n ?_
     exact ⟨n5,Nat.lt_succ_self _,x3,x10,keep_sub (ts:=[0,1,6,7,8]) (hs:=[]) (vs:=[]) (by kernel_rfl),h⟩
   | false =>
    replace h := sp_f h
    refine T_condF (x:=(.tmp 15)) (c1:=(sub [1,1,1,0,0,0,0,1,0] Bd57)) (c2:=(sub [1,1,1,0,0,0,0,1,1] Bd57)) (by kernel_rfl) (by kernel_rfl) ?_
    refine T_keepS [(0,.lf (.v (.slice Au0 (u0.length) cu0))),(1,vi u1),(6,vi (u0.length : Int)),(7,vi x3)] (by kernel_rfl) ?_
    refine T_exit (id:=0) (by kernel_rfl) ?_
    refine thenQ_x ?_
    refine thenQ_x ?_
    refine blockQ_x ?_
    refine thenQ_n ?_
    exact ⟨x3,keep_sub (ts:=[0,1,6,7]) (hs:=[]) (vs:=[]) (by kernel_rfl),h⟩
 ·rintro s' ⟨x1,hsub,h⟩
  subst e_j2
  refine thenQ_n ?_
  refine T_sub hsub ?_
  obtain ⟨j16,e_j16,h⟩ := jn_some h
  refine T_cut (c1:=(sub [1,1,1,1,0] Bd57)) (c2:=(sub [1,1,1,1,1] Bd57)) (fun s' => ∃ (b15 : Bool),Sub { σ := [(4,vi x1),(5,vb b15)],H := [],V := [],M := M,ds := [] } s' ∧ j16 b15 = some r) (by kernel_rfl) ?_ ?_
  ·refine T_region (id:=8) (by kernel_rfl) ?_
   obtain ⟨b17,e_b17,h⟩ := lt_some h
   refine TI_segK (i:=0) (j:=5) (s':={ σ := [(0,.lf (.v (.slice Au0 (u0.length) cu0))),(1,vi u1),(7,vi x1),(31,vi x1),(35,vb b17)],H := [],V := [],M := M,ds := [] }) [0,1,7,31,35] [] [] (by subst e_b17;kernel_rfl) (by kernel_rfl) ?_
   cases b17 with
   | true =>
    replace h := sp_t h
    refine TI_segS (i:=5) (j:=7) [(0,.lf (.v (.slice Au0 (u0.length) cu0))),(1,vi u1),(7,vi x1),(31,vi x1),(35,vb true),(36,.lf (.v (.slice Au0 (u0.length) cu0))),(37,vi x1)] (by kernel_rfl) (by kernel_rfl) ?_
    obtain ⟨g18,h⟩ := gd_some h
    refine TI_at (i:=7) (d:=38) (x:=.lf (.ep (.slice Au0 (u0.length) cu0) 1 ((x1).toNat) 0)) (by exact At_idxI (d:=38) (z:=x1) (by kernel_rfl) g18 hu0) (by kernel_rfl) trivial ?_
    obtain ⟨x19,e_x19,h⟩ := lt_some h
    refine TI_at (i:=8) (d:=39) (x:=vi x19) (by rw [e_x19]; exact At_ldI (d:=39) (q:=(x1).toNat) (by subst e_x19; kernel_rfl) (toNat_lt g18) hu0) (by kernel_rfl) trivial ?_
    obtain ⟨b20,e_b20,h⟩ := lt_some h
    refine TI_segK (i:=9) (j:=12) (s':={ σ := [(0,.lf (.v (.slice Au0 (u0.length) cu0))),(1,vi u1),(7,vi x1),(31,vi x1),(35,vb true),(42,vb b20)],H := [],V := [],M := M,ds := [] }) [0,1,7,31,35,42] [] [] (by subst e_b20;kernel_rfl) (by kernel_rfl) ?_
    cases b20 with
    | true =>
     replace h := sp_t h
     refine TI_segS (i:=12) (j:=25) [(4,vi x1),(5,vb true)] (by kernel_rfl) (by kernel_rfl) ?_
     refine TI_end (by kernel_rfl) ?_
     refine thenQ_n ?_
     exact ⟨true,keep_sub (ts:=[4,5]) (hs:=[]) (vs:=[]) (by kernel_rfl),h⟩
    | false =>
     replace h := sp_f h
     refine TI_segS (i:=12) (j:=14) [(1,vi u1),(31,vi x1),(35,vb true),(42,vb false),(43,.lf (.v (.slice Au0 (u0.length) cu0))),(44,vi x1)] (by kernel_rfl) (by kernel_rfl) ?_
     obtain ⟨g21,h⟩ := gd_some h
     refine TI_at (i:=14) (d:=45) (x:=.lf (.ep (.slice Au0 (u0.length) cu0) 1 ((x1).toNat) 0)) (by exact At_idxI (d:=45) (z:=x1) (by kernel_rfl) g21 hu0) (by kernel_rfl) trivial ?_
     obtain ⟨x22,e_x22,h⟩ := lt_some h
     refine TI_at (i:=15) (d:=46) (x:=vi x22) (by rw [e_x22]; exact At_ldI (d:=46) (q:=(x1).toNat) (by subst e_x22; kernel_rfl) (toNat_lt g21) hu0) (by kernel_rfl) trivial ?_
     obtain ⟨v23,c_v23,h⟩ := cl_some h
     refine TI_at (i:=16) (d:=47) (x:=vb v23) (At_call (d:=47) (f:=79) (args:=[rval (vi x22)]) (x:=vb v23) (by kernel_rfl) (w79 k  c_v23)) (by kernel_rfl) trivial ?_
     refine TI_segK (i:=17) (j:=18) (s':={ σ := [(1,vi u1),(31,vi x1),(35,vb true),(42,vb false),(48,vb v23)],H := [],V := [],M := M,ds := [] }) [1,31,35,42,48] [] [] (by kernel_rfl) (by kernel_rfl) ?_
     cases v23 with
     | true =>
      replace h := sp_t h
      refine TI_segS (i:=18) (j:=19) [(31,vi x1),(35,vb true),(42,vb false),(48,vb true),(49,vi u1)] (by kernel_rfl) (by kernel_rfl) ?_
      obtain ⟨v24,c_v24,h⟩ := cl_some h
      refine TI_at (i:=19) (d:=50) (x:=vb v24) (At_call (d:=50) (f:=79) (args:=[rval (vi u1)]) (x:=vb v24) (by kernel_rfl) (w79 k  c_v24)) (by kernel_rfl) trivial ?_
      refine TI_segK (i:=20) (j:=25) (s':={ σ := [(4,vi x1),(5,vb v24)],H := [],V := [],M := M,ds := [] }) [4,5] [] [] (by kernel_rfl) (by kernel_rfl) ?_
      refine TI_end (by kernel_rfl) ?_
      refine thenQ_n ?_
      exact ⟨v24,keep_sub (ts:=[4,5]) (hs:=[]) (vs:=[]) (by kernel_rfl),h⟩
     | false =>
      replace h := sp_f h
      refine TI_segS (i:=18) (j:=25) [(4,vi x1),(5,vb false)] (by kernel_rfl) (by kernel_rfl) ?_
      refine TI_end (by kernel_rfl) ?_
      refine thenQ_n ?_
      exact ⟨false,keep_sub (ts:=[4,5]) (hs:=[]) (vs:=[]) (by kernel_rfl),h⟩
   | false =>
    replace h := sp_f h
    refine TI_segS (i:=5) (j:=25) [(4,vi x1),(5,vb false)] (by kernel_rfl) (by kernel_rfl) ?_
    refine TI_end (by kernel_rfl) ?_
    refine thenQ_n ?_
    exact ⟨false,keep_sub (ts:=[4,5]) (hs:=[]) (vs:=[]) (by kernel_rfl),h⟩
  ·rintro s' ⟨b15,hsub,h⟩
   subst e_j16
   refine T_sub hsub ?_
   refine T_ret (by kernel_rfl) ?_
   have h := Option.some.inj h
   subst h
   refine fin_ret (.tup [(some (.v (.int .i64 x1)),[]),(some (.v (.bool b15)),[])]) (by kernel_rfl) (by kernel_rfl) rfl ?_
   rfl
def p18 (k : Nat) (u0_0 : List (List Int)) (u0_1 : List Int) : Option Bool :=
 jn (fun (b1 : Bool) => sp b1 (some true) (jn (fun (b6 : Bool) => some b6) fun j7 => lt' (decide ((u0_0.length : Int) > (1 : Int))) fun b8 => sp b8 (lt' (wr .i64 ((u0_0.length : Int) - (1 : Int))) fun x9 => gd ((0 : Int) ≤ x9 ∧ x9 < (u0_0.length : Int)) <| lt' (List.getD (List.getD u0_0 ((x9).toNat) []) 0 0) fun x11 => gd ((0 : Int) ≤ (0 : Int) ∧ (0 : Int) < (u0_0.length : Int)) <| lt' (List.getD (List.getD u0_0 0 []) 0 0) fun x13 => lt' (decide (x11 > x13)) fun b14 => sp b14 (lt' (wr .i64 ((u0_0.length : Int) - (1 : Int))) fun x15 => gd ((0 : Int) ≤ x15 ∧ x15 < (u0_0.length : Int)) <| lt' (List.getD (List.getD u0_0 ((x15).toNat) []) 0 0) fun x17 => gd ((0 : Int) ≤ (0 : Int) ∧ (0 : Int) < (u0_0.length : Int)) <| lt' (List.getD (List.getD u0_0 0 []) 0 0) fun x19 => lt' (wr .i64 (x17 - x19)) fun x20 => lt' (decide (x20 > (120 : Int))) fun b21 => sp b21 (lt' (wr .i64 ((u0_0.length : Int) - (1 : Int))) fun x22 => gd ((0 : Int) ≤ x22 ∧ x22 < (u0_0.length : Int)) <| lt' (List.getD (List.getD u0_0 ((x22).toNat) []) 0 0) fun x24 => gd ((0 : Int) ≤ (0 : Int) ∧ (0 : Int) < (u0_0.length : Int)) <| lt' (List.getD (List.getD u0_0 0 []) 0 0) fun x26 => lt' (wr .i64 (x24 - x26)) fun x27 => lt' (decide (x27 ≤ (2000 : Int))) fun b28 => j7 b28) (j7 false)) (j7 false)) (j7 false))) fun j2 => lt' (decide ((u0_0.length : Int) > (100 : Int))) fun b3 => sp b3 (j2 true) (lt' (decide ((u0_0.length : Int) > (20 : Int))) fun b4 => sp b4 (lt' (decide ((u0_0.length : Int) ≤ (64 : Int))) fun b5 => j2 b5) (j2 false))
theorem hf18 : Try.prog.funcs[18]? = some Try.f18 := by kernel_rfl
theorem w18 (k : Nat) {M : Mem} {Au0_0 : Option Addr} {cu0_0 : Nat} {u0_0 : List (List Int)} {u0_1 : List Int} (hu0_0 : SlR M Au0_0 cu0_0 .i64 11 u0_0) (hu0_1 : u0_1.length = 4) {r} (h : p18 k u0_0 u0_1 = some r) :
  Fn Try.prog 18 [rval (.agg [.one (.v (.slice Au0_0 (u0_0.length) cu0_0)),.arr .i64 4 u0_1])] M (fun x _ => x = vb r) := by
 unfold p18 at h
 refine Fn_of (P:=Try.prog) (fn:=Try.f18) (c:=bodyOf Try.f18) [.agg [.one (.v (.slice Au0_0 (u0_0.length) cu0_0)),.arr .i64 4 u0_1]] hf18 (by kernel_rfl) (Nat.le_of_ble_eq_true (by kernel_rfl)) (args_ok (by kernel_rfl) ⟨⟨rfl,⟨hu0_1,trivial⟩⟩,trivial⟩) fun w => ?_
 change T _ _ _ (endQ _ _ _)
 refine T_seq (c1:=(sub [0] Bd18)) (c2:=(sub [1] Bd18)) (by kernel_rfl) ?_
 refine T_region (id:=0) (by kernel_rfl) ?_
 refine TI_segK (i:=0) (j:=2) (s':={ σ := [(1,.lf (.own 1 0))],H := [(1,[.one (.v (.slice Au0_0 (u0_0.length) cu0_0)),.arr .i64 4 u0_1])],V := [],M := M,ds := [] }) [1] [1] [] (by kernel_rfl) (by kernel_rfl) ?_
 refine TI_end (by kernel_rfl) ?_
 refine thenQ_n ?_
 refine T_seq (c1:=(sub [1,0] Bd18)) (c2:=(sub [1,1] Bd18)) (by kernel_rfl) ?_
 refine T_region (id:=1) (by kernel_rfl) ?_
 refine TI_segS (i:=0) (j:=4) [(1,.lf (.own 1 0)),(3,vi (u0_0.length : Int))] (by kernel_rfl) (by kernel_rfl) ?_
 refine TI_end (by kernel_rfl) ?_
 refine thenQ_n ?_
 refine T_seq (c1:=(sub [1,1,0] Bd18)) (c2:=(sub [1,1,1] Bd18)) (by kernel_rfl) ?_
 obtain ⟨j2,e_j2,h⟩ := jn_some h
 refine T_cut (c1:=(sub [1,1,0,0] Bd18)) (c2:=(sub [1,1,0,1] Bd18)) (fun s' => ∃ (b1 : Bool),Sub { σ := [(1,.lf (.own 1 0)),(3,vi (u0_0.length : Int)),(16,vb b1)],H := [(1,[.one (.v (.slice Au0_0 (u0_0.length) cu0_0)),.arr .i64 4 u0_1])],V := [],M := M,ds := [] } s' ∧ j2 b1 = some r) (by kernel_rfl) ?_ ?_
 ·refine T_region (id:=2) (by kernel_rfl) ?_
  obtain ⟨b3,e_b3,h⟩ := lt_some h
  refine TI_segK (i:=0) (j:=3) (s':={ σ := [(1,.lf (.own 1 0)),(3,vi (u0_0.length : Int)),(9,vb b3)],H := [(1,[.one (.v (.slice Au0_0 (u0_0.length) cu0_0)),.arr .i64 4 u0_1])],V := [],M := M,ds := [] }) [1,3,9] [1] [] (by subst e_b3;kernel_rfl) (by kernel_rfl) ?_
  cases b3 with
  | true =>
   replace h := sp_t h
   refine TI_segS (i:=3) (j:=10) [(1,.lf (.own 1 0)),(3,vi (u0_0.length : Int)),(16,vb true)] (by kernel_rfl) (by kernel_rfl) ?_
   refine TI_end (by kernel_rfl) ?_
   refine thenQ_n ?_
   exact ⟨true,keep_sub (ts:=[1,3,16]) (hs:=[1]) (vs:=[]) (by kernel_rfl),h⟩
  | false =>
   replace h := sp_f h
   obtain ⟨b4,e_b4,h⟩ := lt_some h
   refine TI_segS (i:=3) (j:=6) [(1,.lf (.own 1 0)),(3,vi (u0_0.length : Int)),(9,vb false),(12,vb b4)] (by subst e_b4;kernel_rfl) (by kernel_rfl) ?_
   cases b4 with
   | true =>
    replace h := sp_t h
    obtain ⟨b5,e_b5,h⟩ := lt_some h
    refine TI_segS (i:=6) (j:=10) [(1,.lf (.own 1 0)),(3,vi (u0_0.length : Int)),(16,vb b5)] (by subst e_b5;kernel_rfl) (by kernel_rfl) ?_
    refine TI_end (by kernel_rfl) ?_
    refine thenQ_n ?_
    exact ⟨b5,keep_sub (ts:=[1,3,16]) (hs:=[1]) (vs:=[]) (by kernel_rfl),h⟩
   | false =>
    replace h := sp_f h
    refine TI_segS (i:=6) (j:=10) [(1,.lf (.own 1 0)),(3,vi (u0_0.length : Int)),(16,vb false)] (by kernel_rfl) (by kernel_rfl) ?_
    refine TI_end (by kernel_rfl) ?_
    refine thenQ_n ?_
    exact ⟨false,keep_sub (ts:=[1,3,16]) (hs:=[1]) (vs:=[]) (by kernel_rfl),h⟩
 ·rintro s' ⟨b1,hsub,h⟩
  subst e_j2
  refine T_sub hsub ?_
  cases b1 with
  | true =>
   replace h := sp_t h
   refine T_condT (x:=(.tmp 16)) (c1:=(sub [1,1,0,1,0] Bd18)) (c2:=(sub [1,1,0,1,1] Bd18)) (by kernel_rfl) (by kernel_rfl) ?_
   refine T_keep (s':={ σ := [],H := [],V := [],M := M,ds := [] }) [] [] [] (by kernel_rfl) ?_
   refine T_seq (c1:=(sub [1,1,0,1,0,0] Bd18)) (c2:=(sub [1,1,0,1,0,1] Bd18)) (by kernel_rfl) ?_
   refine T_region (id:=3) (by kernel_rfl) ?_
   refine TI_segS (i:=0) (j:=1) [(2,vb true)] (by kernel_rfl) (by kernel_rfl) ?_
   refine TI_end (by kernel_rfl) ?_
   refine thenQ_n ?_
   refine T_ret (by kernel_rfl) ?_
   refine thenQ_r ?_
   have h := Option.some.inj h
   subst h
   refine fin_ret (vb true) (by kernel_rfl) (by kernel_rfl) rfl ?_
   rfl
  | false =>
   replace h := sp_f h
   refine T_condF (x:=(.tmp 16)) (c1:=(sub [1,1,0,1,0] Bd18)) (c2:=(sub [1,1,0,1,1] Bd18)) (by kernel_rfl) (by kernel_rfl) ?_
   refine T_keep (s':={ σ := [(1,.lf (.own 1 0)),(3,vi (u0_0.length : Int))],H := [(1,[.one (.v (.slice Au0_0 (u0_0.length) cu0_0)),.arr .i64 4 u0_1])],V := [],M := M,ds := [] }) [1,3] [1] [] (by kernel_rfl) ?_
   refine T_skip (by kernel_rfl) ?_
   refine thenQ_n ?_
   obtain ⟨j7,e_j7,h⟩ := jn_some h
   refine T_cut (c1:=(sub [1,1,1,0] Bd18)) (c2:=(sub [1,1,1,1] Bd18)) (fun s' => ∃ (b6 : Bool),Sub { σ := [(2,vb b6)],H := [],V := [],M := M,ds := [] } s' ∧ j7 b6 = some r) (by kernel_rfl) ?_ ?_
   ·obtain ⟨b8,e_b8,h⟩ := lt_some h
    cases b8 with
    | true =>
     replace h := sp_t h
     obtain ⟨x9,e_x9,h⟩ := lt_some h
     obtain ⟨g10,h⟩ := gd_some h
     obtain ⟨x11,e_x11,h⟩ := lt_some h
     obtain ⟨g12,h⟩ := gd_some h
     obtain ⟨x13,e_x13,h⟩ := lt_some h
     obtain ⟨b14,e_b14,h⟩ := lt_some h
     cases b14 with
     | true =>
      replace h := sp_t h
      obtain ⟨x15,e_x15,h⟩ := lt_some h
      obtain ⟨g16,h⟩ := gd_some h
      obtain ⟨x17,e_x17,h⟩ := lt_some h
      obtain ⟨g18,h⟩ := gd_some h
      obtain ⟨x19,e_x19,h⟩ := lt_some h
      obtain ⟨x20,e_x20,h⟩ := lt_some h
      obtain ⟨b21,e_b21,h⟩ := lt_some h
      cases b21 with
      | true =>
       replace h := sp_t h
       obtain ⟨x22,e_x22,h⟩ := lt_some h
       obtain ⟨g23,h⟩ := gd_some h
       obtain ⟨x24,e_x24,h⟩ := lt_some h
       obtain ⟨g25,h⟩ := gd_some h
       obtain ⟨x26,e_x26,h⟩ := lt_some h
       obtain ⟨x27,e_x27,h⟩ := lt_some h
       obtain ⟨b28,e_b28,h⟩ := lt_some h
       refine T_draw' (id:=4) [] [0,0,0,0,0,0,0,0,0,0,0,0,0,0,0,0,0,0,0,0,0,0,0,0,0,0,0,0,0,0,0,0,0,0,0,0,0,0,0,0,0,0,0,0,0,0,0,0,0,0] (by kernel_rfl) (by kernel_rfl) (by kernel_rfl) (by kernel_rfl) ((17,vi (u0_0.length : Int))::(18,vb true)::(19,vb true)::(20,.lf (.own 1 0))::(21,.lf (.v (.slice Au0_0 (u0_0.length) cu0_0)))::(22,vi (u0_0.length : Int))::(23,vi x9)::(24,.lf (.ep (.slice Au0_0 (u0_0.length) cu0_0) 11 ((x9).toNat) 0))::(25,.lf (.ep (.slice Au0_0 (u0_0.length) cu0_0) 11 ((x9).toNat) 0))::(26,vi x11)::(27,.lf (.own 1 0))::(28,.lf (.v (.slice Au0_0 (u0_0.length) cu0_0)))::(29,.lf (.ep (.slice Au0_0 (u0_0.length) cu0_0) 11 0 0))::(30,.lf (.ep (.slice Au0_0 (u0_0.length) cu0_0) 11 0 0))::(31,vi x13)::(32,vb true)::(33,vb true)::(34,vb true)::(35,.lf (.own 1 0))::(36,.lf (.v (.slice Au0_0 (u0_0.length) cu0_0)))::(37,vi (u0_0.length : Int))::(38,vi x15)::(39,.lf (.ep (.slice Au0_0 (u0_0.length) cu0_0) 11 ((x15).toNat) 0))::(40,.lf (.ep (.slice Au0_0 (u0_0.length) cu0_0) 11 ((x15).toNat) 0))::(41,vi x17)::(42,.lf (.own 1 0))::(43,.lf (.v (.slice Au0_0 (u0_0.length) cu0_0)))::(44,.lf (.ep (.slice Au0_0 (u0_0.length) cu0_0) 11 0 0))::(45,.lf (.ep (.slice Au0_0 (u0_0.length) cu0_0) 11 0 0))::(46,vi x19)::(47,vi x20)::(48,vb true)::(49,vb true)::(50,vb true)::(51,.lf (.own 1 0))::(52,.lf (.v (.slice Au0_0 (u0_0.length) cu0_0)))::(53,vi (u0_0.length : Int))::(54,vi x22)::(55,.lf (.ep (.slice Au0_0 (u0_0.length) cu0_0) 11 ((x22).toNat) 0))::(56,.lf (.ep (.slice Au0_0 (u0_0.length) cu0_0) 11 ((x22).toNat) 0))::(57,vi x24)::(58,.lf (.own 1 0))::(59,.lf (.v (.slice Au0_0 (u0_0.length) cu0_0)))::(60,.lf (.ep (.slice Au0_0 (u0_0.length) cu0_0) 11 0 0))::(61,.lf (.ep (.slice Au0_0 (u0_0.length) cu0_0) 11 0 0))::(62,vi x26)::(63,vi x27)::(64,vb b28)::(65,vb b28)::(2,vb b28)::[]) (by kernel_rfl) (wfs_lf _ (by kernel_rfl)) ?_
       refine Stage_nil (stage_all' [0,2,3,4,5,6,8,10,11,13,16,17,18,19,20,21,23,25,26,28,30,32,33,34,35,36,37,39,41,42,44,46,47,48,49] [1,7,9,12,14,15,22,24,27,29,31,38,40,43,45] (by kernel_rfl) (by subst_vars; kernel_rfl) (by kernel_rfl) ⟨QF_at (i:=1) (d:=18) (x:=vb true) (show OpAt _ _ _ 1 18 _ from by exact At_bin (d:=18) (b:=.gtr) (u:=.int .i64 (u0_0.length : Int)) (v:=.int .i64 (1 : Int)) (w':=.bool true) (by subst_vars; kernel_rfl) (by rw [show exBin .gtr (.int .i64 (u0_0.length : Int)) (.int .i64 (1 : Int)) = some (.bool (decide ((u0_0.length : Int) > (1 : Int)))) from by kernel_rfl,← e_b8])) (by kernel_rfl) (by subst_vars; kernel_rfl),⟨QF_at (i:=7) (d:=24) (x:=.lf (.ep (.slice Au0_0 (u0_0.length) cu0_0) 11 ((x9).toNat) 0)) (show OpAt _ _ _ 7 24 _ from by exact At_idxR (d:=24) (z:=x9) (by subst_vars; kernel_rfl) g10 hu0_0) (by kernel_rfl) (by subst_vars; kernel_rfl),⟨QF_at (i:=9) (d:=26) (x:=vi x11) (show OpAt _ _ _ 9 26 _ from by rw [e_x11]; exact At_ldR1 (d:=26) (q:=(x9).toNat) (j:=0) (by subst_vars; kernel_rfl) rfl (toNat_lt g10) hu0_0) (by kernel_rfl) (by subst_vars; kernel_rfl),⟨QF_at (i:=12) (d:=29) (x:=.lf (.ep (.slice Au0_0 (u0_0.length) cu0_0) 11 0 0)) (show OpAt _ _ _ 12 29 _ from by exact At_idxR (d:=29) (z:=(0 : Int)) (by subst_vars; kernel_rfl) g12 hu0_0) (by kernel_rfl) (by subst_vars; kernel_rfl),⟨QF_at (i:=14) (d:=31) (x:=vi x13) (show OpAt _ _ _ 14 31 _ from by rw [e_x13]; exact At_ldR1 (d:=31) (q:=0) (j:=0) (by subst_vars; kernel_rfl) rfl (toNat_lt g12) hu0_0) (by kernel_rfl) (by subst_vars; kernel_rfl),⟨QF_at (i:=15) (d:=32) (x:=vb true) (show OpAt _ _ _ 15 32 _ from by exact At_bin (d:=32) (b:=.gtr) (u:=.int .i64 x11) (v:=.int .i64 x13) (w':=.bool true) (by subst_vars; kernel_rfl) (by rw [show exBin .gtr (.int .i64 x11) (.int .i64 x13) = some (.bool (decide (x11 > x13))) from by kernel_rfl,← e_b14])) (by kernel_rfl) (by subst_vars; kernel_rfl),⟨QF_at (i:=22) (d:=39) (x:=.lf (.ep (.slice Au0_0 (u0_0.length) cu0_0) 11 ((x15).toNat) 0)) (show OpAt _ _ _ 22 39 _ from by exact At_idxR (d:=39) (z:=x15) (by subst_vars; kernel_rfl) g16 hu0_0) (by kernel_rfl) (by subst_vars; kernel_rfl),⟨QF_at (i:=24) (d:=41) (x:=vi x17) (show OpAt _ _ _ 24 41 _ from by rw [e_x17]; exact At_ldR1 (d:=41) (q:=(x15).toNat) (j:=0) (by subst_vars; kernel_rfl) rfl (toNat_lt g16) hu0_0) (by kernel_rfl) (by subst_vars; kernel_rfl),⟨QF_at (i:=27) (d:=44) (x:=.lf (.ep (.slice Au0_0 (u0_0.length) cu0_0) 11 0 0)) (show OpAt _ _ _ 27 44 _ from by exact At_idxR (d:=44) (z:=(0 : Int)) (by subst_vars; kernel_rfl) g18 hu0_0) (by kernel_rfl) (by subst_vars; kernel_rfl),⟨QF_at (i:=29) (d:=46) (x:=vi x19) (show OpAt _ _ _ 29 46 _ from by rw [e_x19]; exact At_ldR1 (d:=46) (q:=0) (j:=0) (by subst_vars; kernel_rfl) rfl (toNat_lt g18) hu0_0) (by kernel_rfl) (by subst_vars; kernel_rfl),⟨QF_at (i:=31) (d:=48) (x:=vb true) (show OpAt _ _ _ 31 48 _ from by exact At_bin (d:=48) (b:=.gtr) (u:=.int .i64 x20) (v:=.int .i64 (120 : Int)) (w':=.bool true) (by subst_vars; kernel_rfl) (by rw [show exBin .gtr (.int .i64 x20) (.int .i64 (120 : Int)) = some (.bool (decide (x20 > (120 : Int)))) from by kernel_rfl,← e_b21])) (by kernel_rfl) (by subst_vars; kernel_rfl),⟨QF_at (i:=38) (d:=55) (x:=.lf (.ep (.slice Au0_0 (u0_0.length) cu0_0) 11 ((x22).toNat) 0)) (show OpAt _ _ _ 38 55 _ from by exact At_idxR (d:=55) (z:=x22) (by subst_vars; kernel_rfl) g23 hu0_0) (by kernel_rfl) (by subst_vars; kernel_rfl),⟨QF_at (i:=40) (d:=57) (x:=vi x24) (show OpAt _ _ _ 40 57 _ from by rw [e_x24]; exact At_ldR1 (d:=57) (q:=(x22).toNat) (j:=0) (by subst_vars; kernel_rfl) rfl (toNat_lt g23) hu0_0) (by kernel_rfl) (by subst_vars; kernel_rfl),⟨QF_at (i:=43) (d:=60) (x:=.lf (.ep (.slice Au0_0 (u0_0.length) cu0_0) 11 0 0)) (show OpAt _ _ _ 43 60 _ from by exact At_idxR (d:=60) (z:=(0 : Int)) (by subst_vars; kernel_rfl) g25 hu0_0) (by kernel_rfl) (by subst_vars; kernel_rfl),⟨QF_at (i:=45) (d:=62) (x:=vi x26) (show OpAt _ _ _ 45 62 _ from by rw [e_x26]; exact At_ldR1 (d:=62) (q:=0) (j:=0) (by subst_vars; kernel_rfl) rfl (toNat_lt g25) hu0_0) (by kernel_rfl) (by subst_vars; kernel_rfl),trivial⟩⟩⟩⟩⟩⟩⟩⟩⟩⟩⟩⟩⟩⟩⟩) ?_
       refine thenQ_n ?_
       exact ⟨b28,keep_sub (ts:=[2]) (hs:=[]) (vs:=[]) (by subst_vars;kernel_rfl),h⟩
      | false =>
       replace h := sp_f h
       refine T_draw' (id:=4) [] [0,0,0,0,0,0,0,0,0,0,0,0,0,0,0,0,0,0,0,0,0,0,0,0,0,0,0,0,0,0,0,0,0,0,0,0,0,0,0,0,0,0,0,0,0,0,0,0,0,0] (by kernel_rfl) (by kernel_rfl) (by kernel_rfl) (by kernel_rfl) ((17,vi (u0_0.length : Int))::(18,vb true)::(19,vb true)::(20,.lf (.own 1 0))::(21,.lf (.v (.slice Au0_0 (u0_0.length) cu0_0)))::(22,vi (u0_0.length : Int))::(23,vi x9)::(24,.lf (.ep (.slice Au0_0 (u0_0.length) cu0_0) 11 ((x9).toNat) 0))::(25,.lf (.ep (.slice Au0_0 (u0_0.length) cu0_0) 11 ((x9).toNat) 0))::(26,vi x11)::(27,.lf (.own 1 0))::(28,.lf (.v (.slice Au0_0 (u0_0.length) cu0_0)))::(29,.lf (.ep (.slice Au0_0 (u0_0.length) cu0_0) 11 0 0))::(30,.lf (.ep (.slice Au0_0 (u0_0.length) cu0_0) 11 0 0))::(31,vi x13)::(32,vb true)::(33,vb true)::(34,vb true)::(35,.lf (.own 1 0))::(36,.lf (.v (.slice Au0_0 (u0_0.length) cu0_0)))::(37,vi (u0_0.length : Int))::(38,vi x15)::(39,.lf (.ep (.slice Au0_0 (u0_0.length) cu0_0) 11 ((x15).toNat) 0))::(40,.lf (.ep (.slice Au0_0 (u0_0.length) cu0_0) 11 ((x15).toNat) 0))::(41,vi x17)::(42,.lf (.own 1 0))::(43,.lf (.v (.slice Au0_0 (u0_0.length) cu0_0)))::(44,.lf (.ep (.slice Au0_0 (u0_0.length) cu0_0) 11 0 0))::(45,.lf (.ep (.slice Au0_0 (u0_0.length) cu0_0) 11 0 0))::(46,vi x19)::(47,vi x20)::(48,vb false)::(49,vb false)::(50,vb false)::(51,.tup [])::(52,.tup [])::(53,.tup [])::(54,.tup [])::(55,.tup [])::(56,.tup [])::(57,.tup [])::(58,.tup [])::(59,.tup [])::(60,.tup [])::(61,.tup [])::(62,.tup [])::(63,.tup [])::(64,.tup [])::(65,vb false)::(2,vb false)::[]) (by kernel_rfl) ⟨trivial,⟨trivial,⟨trivial,⟨trivial,⟨trivial,⟨trivial,⟨trivial,⟨trivial,⟨trivial,⟨trivial,⟨trivial,⟨trivial,⟨trivial,⟨trivial,⟨trivial,⟨trivial,⟨trivial,⟨trivial,⟨trivial,⟨trivial,⟨trivial,⟨trivial,⟨trivial,⟨trivial,⟨trivial,⟨trivial,⟨trivial,⟨trivial,⟨trivial,⟨trivial,⟨trivial,⟨trivial,⟨trivial,⟨trivial,⟨(by intro y hy;cases hy),⟨(by intro y hy;cases hy),⟨(by intro y hy;cases hy),⟨(by intro y hy;cases hy),⟨(by intro y hy;cases hy),⟨(by intro y hy;cases hy),⟨(by intro y hy;cases hy),⟨(by intro y hy;cases hy),⟨(by intro y hy;cases hy),⟨(by intro y hy;cases hy),⟨(by intro y hy;cases hy),⟨(by intro y hy;cases hy),⟨(by intro y hy;cases hy),⟨(by intro y hy;cases hy),⟨trivial,⟨trivial,trivial⟩⟩⟩⟩⟩⟩⟩⟩⟩⟩⟩⟩⟩⟩⟩⟩⟩⟩⟩⟩⟩⟩⟩⟩⟩⟩⟩⟩⟩⟩⟩⟩⟩⟩⟩⟩⟩⟩⟩⟩⟩⟩⟩⟩⟩⟩⟩⟩⟩⟩ ?_
       refine Stage_nil (stage_all' [0,2,3,4,5,6,8,10,11,13,16,17,18,19,20,21,23,25,26,28,30,32,33,34,35,36,37,38,39,40,41,42,43,44,45,46,47,48,49] [1,7,9,12,14,15,22,24,27,29,31] (by kernel_rfl) (by subst_vars; kernel_rfl) (by kernel_rfl) ⟨QF_at (i:=1) (d:=18) (x:=vb true) (show OpAt _ _ _ 1 18 _ from by exact At_bin (d:=18) (b:=.gtr) (u:=.int .i64 (u0_0.length : Int)) (v:=.int .i64 (1 : Int)) (w':=.bool true) (by subst_vars; kernel_rfl) (by rw [show exBin .gtr (.int .i64 (u0_0.length : Int)) (.int .i64 (1 : Int)) = some (.bool (decide ((u0_0.length : Int) > (1 : Int)))) from by kernel_rfl,← e_b8])) (by kernel_rfl) (by subst_vars; kernel_rfl),⟨QF_at (i:=7) (d:=24) (x:=.lf (.ep (.slice Au0_0 (u0_0.length) cu0_0) 11 ((x9).toNat) 0)) (show OpAt _ _ _ 7 24 _ from by exact At_idxR (d:=24) (z:=x9) (by subst_vars; kernel_rfl) g10 hu0_0) (by kernel_rfl) (by subst_vars; kernel_rfl),⟨QF_at (i:=9) (d:=26) (x:=vi x11) (show OpAt _ _ _ 9 26 _ from by rw [e_x11]; exact At_ldR1 (d:=26) (q:=(x9).toNat) (j:=0) (by subst_vars; kernel_rfl) rfl (toNat_lt g10) hu0_0) (by kernel_rfl) (by subst_vars; kernel_rfl),⟨QF_at (i:=12) (d:=29) (x:=.lf (.ep (.slice Au0_0 (u0_0.length) cu0_0) 11 0 0)) (show OpAt _ _ _ 12 29 _ from by exact At_idxR (d:=29) (z:=(0 : Int)) (by subst_vars; kernel_rfl) g12 hu0_0) (by kernel_rfl) (by subst_vars; kernel_rfl),⟨QF_at (i:=14) (d:=31) (x:=vi x13) (show OpAt _ _ _ 14 31 _ from by rw [e_x13]; exact At_ldR1 (d:=31) (q:=0) (j:=0) (by subst_vars; kernel_rfl) rfl (toNat_lt g12) hu0_0) (by kernel_rfl) (by subst_vars; kernel_rfl),⟨QF_at (i:=15) (d:=32) (x:=vb true) (show OpAt _ _ _ 15 32 _ from by exact At_bin (d:=32) (b:=.gtr) (u:=.int .i64 x11) (v:=.int .i64 x13) (w':=.bool true) (by subst_vars; kernel_rfl) (by rw [show exBin .gtr (.int .i64 x11) (.int .i64 x13) = some (.bool (decide (x11 > x13))) from by kernel_rfl,← e_b14])) (by kernel_rfl) (by subst_vars; kernel_rfl),⟨QF_at (i:=22) (d:=39) (x:=.lf (.ep (.slice Au0_0 (u0_0.length) cu0_0) 11 ((x15).toNat) 0)) (show OpAt _ _ _ 22 39 _ from by exact At_idxR (d:=39) (z:=x15) (by subst_vars; kernel_rfl) g16 hu0_0) (by kernel_rfl) (by subst_vars; kernel_rfl),⟨QF_at (i:=24) (d:=41) (x:=vi x17) (show OpAt _ _ _ 24 41 _ from by rw [e_x17]; exact At_ldR1 (d:=41) (q:=(x15).toNat) (j:=0) (by subst_vars; kernel_rfl) rfl (toNat_lt g16) hu0_0) (by kernel_rfl) (by subst_vars; kernel_rfl),⟨QF_at (i:=27) (d:=44) (x:=.lf (.ep (.slice Au0_0 (u0_0.length) cu0_0) 11 0 0)) (show OpAt _ _ _ 27 44 _ from by exact At_idxR (d:=44) (z:=(0 : Int)) (by subst_vars; kernel_rfl) g18 hu0_0) (by kernel_rfl) (by subst_vars; kernel_rfl),⟨QF_at (i:=29) (d:=46) (x:=vi x19) (show OpAt _ _ _ 29 46 _ from by rw [e_x19]; exact At_ldR1 (d:=46) (q:=0) (j:=0) (by subst_vars; kernel_rfl) rfl (toNat_lt g18) hu0_0) (by kernel_rfl) (by subst_vars; kernel_rfl),⟨QF_at (i:=31) (d:=48) (x:=vb false) (show OpAt _ _ _ 31 48 _ from by exact At_bin (d:=48) (b:=.gtr) (u:=.int .i64 x20) (v:=.int .i64 (120 : Int)) (w':=.bool false) (by subst_vars; kernel_rfl) (by rw [show exBin .gtr (.int .i64 x20) (.int .i64 (120 : Int)) = some (.bool (decide (x20 > (120 : Int)))) from by kernel_rfl,← e_b21])) (by kernel_rfl) (by subst_vars; kernel_rfl),trivial⟩⟩⟩⟩⟩⟩⟩⟩⟩⟩⟩) ?_
       refine thenQ_n ?_
       exact ⟨false,keep_sub (ts:=[2]) (hs:=[]) (vs:=[]) (by subst_vars;kernel_rfl),h⟩
     | false =>
      replace h := sp_f h
      refine T_draw' (id:=4) [] [0,0,0,0,0,0,0,0,0,0,0,0,0,0,0,0,0,0,0,0,0,0,0,0,0,0,0,0,0,0,0,0,0,0,0,0,0,0,0,0,0,0,0,0,0,0,0,0,0,0] (by kernel_rfl) (by kernel_rfl) (by kernel_rfl) (by kernel_rfl) ((17,vi (u0_0.length : Int))::(18,vb true)::(19,vb true)::(20,.lf (.own 1 0))::(21,.lf (.v (.slice Au0_0 (u0_0.length) cu0_0)))::(22,vi (u0_0.length : Int))::(23,vi x9)::(24,.lf (.ep (.slice Au0_0 (u0_0.length) cu0_0) 11 ((x9).toNat) 0))::(25,.lf (.ep (.slice Au0_0 (u0_0.length) cu0_0) 11 ((x9).toNat) 0))::(26,vi x11)::(27,.lf (.own 1 0))::(28,.lf (.v (.slice Au0_0 (u0_0.length) cu0_0)))::(29,.lf (.ep (.slice Au0_0 (u0_0.length) cu0_0) 11 0 0))::(30,.lf (.ep (.slice Au0_0 (u0_0.length) cu0_0) 11 0 0))::(31,vi x13)::(32,vb false)::(33,vb false)::(34,vb false)::(35,.tup [])::(36,.tup [])::(37,.tup [])::(38,.tup [])::(39,.tup [])::(40,.tup [])::(41,.tup [])::(42,.tup [])::(43,.tup [])::(44,.tup [])::(45,.tup [])::(46,.tup [])::(47,.tup [])::(48,.tup [])::(49,vb false)::(50,vb false)::(51,.tup [])::(52,.tup [])::(53,.tup [])::(54,.tup [])::(55,.tup [])::(56,.tup [])::(57,.tup [])::(58,.tup [])::(59,.tup [])::(60,.tup [])::(61,.tup [])::(62,.tup [])::(63,.tup [])::(64,.tup [])::(65,vb false)::(2,vb false)::[]) (by kernel_rfl) ⟨trivial,⟨trivial,⟨trivial,⟨trivial,⟨trivial,⟨trivial,⟨trivial,⟨trivial,⟨trivial,⟨trivial,⟨trivial,⟨trivial,⟨trivial,⟨trivial,⟨trivial,⟨trivial,⟨trivial,⟨trivial,⟨(by intro y hy;cases hy),⟨(by intro y hy;cases hy),⟨(by intro y hy;cases hy),⟨(by intro y hy;cases hy),⟨(by intro y hy;cases hy),⟨(by intro y hy;cases hy),⟨(by intro y hy;cases hy),⟨(by intro y hy;cases hy),⟨(by intro y hy;cases hy),⟨(by intro y hy;cases hy),⟨(by intro y hy;cases hy),⟨(by intro y hy;cases hy),⟨(by intro y hy;cases hy),⟨(by intro y hy;cases hy),⟨trivial,⟨trivial,⟨(by intro y hy;cases hy),⟨(by intro y hy;cases hy),⟨(by intro y hy;cases hy),⟨(by intro y hy;cases hy),⟨(by intro y hy;cases hy),⟨(by intro y hy;cases hy),⟨(by intro y hy;cases hy),⟨(by intro y hy;cases hy),⟨(by intro y hy;cases hy),⟨(by intro y hy;cases hy),⟨(by intro y hy;cases hy),⟨(by intro y hy;cases hy),⟨(by intro y hy;cases hy),⟨(by intro y hy;cases hy),⟨trivial,⟨trivial,trivial⟩⟩⟩⟩⟩⟩⟩⟩⟩⟩⟩⟩⟩⟩⟩⟩⟩⟩⟩⟩⟩⟩⟩⟩⟩⟩⟩⟩⟩⟩⟩⟩⟩⟩⟩⟩⟩⟩⟩⟩⟩⟩⟩⟩⟩⟩⟩⟩⟩⟩ ?_
      refine Stage_nil (stage_all' [0,2,3,4,5,6,8,10,11,13,16,17,18,19,20,21,22,23,24,25,26,27,28,29,30,31,32,33,34,35,36,37,38,39,40,41,42,43,44,45,46,47,48,49] [1,7,9,12,14,15] (by kernel_rfl) (by subst_vars; kernel_rfl) (by kernel_rfl) ⟨QF_at (i:=1) (d:=18) (x:=vb true) (show OpAt _ _ _ 1 18 _ from by exact At_bin (d:=18) (b:=.gtr) (u:=.int .i64 (u0_0.length : Int)) (v:=.int .i64 (1 : Int)) (w':=.bool true) (by subst_vars; kernel_rfl) (by rw [show exBin .gtr (.int .i64 (u0_0.length : Int)) (.int .i64 (1 : Int)) = some (.bool (decide ((u0_0.length : Int) > (1 : Int)))) from by kernel_rfl,← e_b8])) (by kernel_rfl) (by subst_vars; kernel_rfl),⟨QF_at (i:=7) (d:=24) (x:=.lf (.ep (.slice Au0_0 (u0_0.length) cu0_0) 11 ((x9).toNat) 0)) (show OpAt _ _ _ 7 24 _ from by exact At_idxR (d:=24) (z:=x9) (by subst_vars; kernel_rfl) g10 hu0_0) (by kernel_rfl) (by subst_vars; kernel_rfl),⟨QF_at (i:=9) (d:=26) (x:=vi x11) (show OpAt _ _ _ 9 26 _ from by rw [e_x11]; exact At_ldR1 (d:=26) (q:=(x9).toNat) (j:=0) (by subst_vars; kernel_rfl) rfl (toNat_lt g10) hu0_0) (by kernel_rfl) (by subst_vars; kernel_rfl),⟨QF_at (i:=12) (d:=29) (x:=.lf (.ep (.slice Au0_0 (u0_0.length) cu0_0) 11 0 0)) (show OpAt _ _ _ 12 29 _ from by exact At_idxR (d:=29) (z:=(0 : Int)) (by subst_vars; kernel_rfl) g12 hu0_0) (by kernel_rfl) (by subst_vars; kernel_rfl),⟨QF_at (i:=14) (d:=31) (x:=vi x13) (show OpAt _ _ _ 14 31 _ from by rw [e_x13]; exact At_ldR1 (d:=31) (q:=0) (j:=0) (by subst_vars; kernel_rfl) rfl (toNat_lt g12) hu0_0) (by kernel_rfl) (by subst_vars; kernel_rfl),⟨QF_at (i:=15) (d:=32) (x:=vb false) (show OpAt _ _ _ 15 32 _ from by exact At_bin (d:=32) (b:=.gtr) (u:=.int .i64 x11) (v:=.int .i64 x13) (w':=.bool false) (by subst_vars; kernel_rfl) (by rw [show exBin .gtr (.int .i64 x11) (.int .i64 x13) = some (.bool (decide (x11 > x13))) from by kernel_rfl,← e_b14])) (by kernel_rfl) (by subst_vars; kernel_rfl),trivial⟩⟩⟩⟩⟩⟩) ?_
      refine thenQ_n ?_
      exact ⟨false,keep_sub (ts:=[2]) (hs:=[]) (vs:=[]) (by subst_vars;kernel_rfl),h⟩
    | false =>
     replace h := sp_f h
     refine T_draw' (id:=4) [] [0,0,0,0,0,0,0,0,0,0,0,0,0,0,0,0,0,0,0,0,0,0,0,0,0,0,0,0,0,0,0,0,0,0,0,0,0,0,0,0,0,0,0,0,0,0,0,0,0,0] (by kernel_rfl) (by kernel_rfl) (by kernel_rfl) (by kernel_rfl) ((17,vi (u0_0.length : Int))::(18,vb false)::(19,vb false)::(20,.tup [])::(21,.tup [])::(22,.tup [])::(23,.tup [])::(24,.tup [])::(25,.tup [])::(26,.tup [])::(27,.tup [])::(28,.tup [])::(29,.tup [])::(30,.tup [])::(31,.tup [])::(32,.tup [])::(33,vb false)::(34,vb false)::(35,.tup [])::(36,.tup [])::(37,.tup [])::(38,.tup [])::(39,.tup [])::(40,.tup [])::(41,.tup [])::(42,.tup [])::(43,.tup [])::(44,.tup [])::(45,.tup [])::(46,.tup [])::(47,.tup [])::(48,.tup [])::(49,vb false)::(50,vb false)::(51,.tup [])::(52,.tup [])::(53,.tup [])::(54,.tup [])::(55,.tup [])::(56,.tup [])::(57,.tup [])::(58,.tup [])::(59,.tup [])::(60,.tup [])::(61,.tup [])::(62,.tup [])::(63,.tup [])::(64,.tup [])::(65,vb false)::(2,vb false)::[]) (by kernel_rfl) ⟨trivial,⟨trivial,⟨trivial,⟨(by intro y hy;cases hy),⟨(by intro y hy;cases hy),⟨(by intro y hy;cases hy),⟨(by intro y hy;cases hy),⟨(by intro y hy;cases hy),⟨(by intro y hy;cases hy),⟨(by intro y hy;cases hy),⟨(by intro y hy;cases hy),⟨(by intro y hy;cases hy),⟨(by intro y hy;cases hy),⟨(by intro y hy;cases hy),⟨(by intro y hy;cases hy),⟨(by intro y hy;cases hy),⟨trivial,⟨trivial,⟨(by intro y hy;cases hy),⟨(by intro y hy;cases hy),⟨(by intro y hy;cases hy),⟨(by intro y hy;cases hy),⟨(by intro y hy;cases hy),⟨(by intro y hy;cases hy),⟨(by intro y hy;cases hy),⟨(by intro y hy;cases hy),⟨(by intro y hy;cases hy),⟨(by intro y hy;cases hy),⟨(by intro y hy;cases hy),⟨(by intro y hy;cases hy),⟨(by intro y hy;cases hy),⟨(by intro y hy;cases hy),⟨trivial,⟨trivial,⟨(by intro y hy;cases hy),⟨(by intro y hy;cases hy),⟨(by intro y hy;cases hy),⟨(by intro y hy;cases hy),⟨(by intro y hy;cases hy),⟨(by intro y hy;cases hy),⟨(by intro y hy;cases hy),⟨(by intro y hy;cases hy),⟨(by intro y hy;cases hy),⟨(by intro y hy;cases hy),⟨(by intro y hy;cases hy),⟨(by intro y hy;cases hy),⟨(by intro y hy;cases hy),⟨(by intro y hy;cases hy),⟨trivial,⟨trivial,trivial⟩⟩⟩⟩⟩⟩⟩⟩⟩⟩⟩⟩⟩⟩⟩⟩⟩⟩⟩⟩⟩⟩⟩⟩⟩⟩⟩⟩⟩⟩⟩⟩⟩⟩⟩⟩⟩⟩⟩⟩⟩⟩⟩⟩⟩⟩⟩⟩⟩⟩ ?_
     refine Stage_nil (stage_all' [0,2,3,4,5,6,7,8,9,10,11,12,13,14,15,16,17,18,19,20,21,22,23,24,25,26,27,28,29,30,31,32,33,34,35,36,37,38,39,40,41,42,43,44,45,46,47,48,49] [1] (by kernel_rfl) (by kernel_rfl) (by kernel_rfl) ⟨QF_at (i:=1) (d:=18) (x:=vb false) (show OpAt _ _ _ 1 18 _ from by exact At_bin (d:=18) (b:=.gtr) (u:=.int .i64 (u0_0.length : Int)) (v:=.int .i64 (1 : Int)) (w':=.bool false) (by kernel_rfl) (by rw [show exBin .gtr (.int .i64 (u0_0.length : Int)) (.int .i64 (1 : Int)) = some (.bool (decide ((u0_0.length : Int) > (1 : Int)))) from by kernel_rfl,← e_b8])) (by kernel_rfl) (by kernel_rfl),trivial⟩) ?_
     refine thenQ_n ?_
     exact ⟨false,keep_sub (ts:=[2]) (hs:=[]) (vs:=[]) (by kernel_rfl),h⟩
   ·rintro s' ⟨b6,hsub,h⟩
    subst e_j7
    refine T_sub hsub ?_
    refine T_ret (by kernel_rfl) ?_
    have h := Option.some.inj h
    subst h
    refine fin_ret (vb b6) (by kernel_rfl) (by kernel_rfl) rfl ?_
    rfl
def p60_l1 (k : Nat) (u0_0 : List (List Int)) (u0_1 : List Int) (u1 : List Int) (u2 : List Int) (j1 : Option Int) : Nat → Int → Option Int
 | 0,_ => none
 | n3 + 1,x2 => lt' (decide (x2 ≤ (u2.length : Int))) fun b4 => sp b4 (jn (fun (b5 : Bool) => sp b5 (lt' (wr .i64 (x2 + (1 : Int))) fun x69 => p60_l1 k u0_0 u0_1 u1 u2 j1 n3 x69) (some x2)) fun j6 => lt' (decide (x2 > (0 : Int))) fun b7 => sp b7 (lt' (wr .i64 (x2 - (1 : Int))) fun x8 => gd ((0 : Int) ≤ x8 ∧ x8 < (u2.length : Int)) <| lt' (List.getD u2 ((x8).toNat) 0) fun x10 => lt' (wr .i64 (x10 + (1 : Int))) fun x11 => cl (p16 k u0_0 u0_1 x11) fun v12 => gd ((v12).length = 2) <| lt' (List.getD v12 0 0) fun x14 => lt' (List.getD u1 0 0) fun x15 => lt' (decide (x14 ≥ x15)) fun b16 => sp b16 (j6 true) (lt' (decide (x2 < (u2.length : Int))) fun b17 => sp b17 (gd ((0 : Int) ≤ x2 ∧ x2 < (u2.length : Int)) <| lt' (List.getD u2 ((x2).toNat) 0) fun x19 => cl (p16 k u0_0 u0_1 x19) fun v20 => gd ((v20).length = 2) <| lt' (List.getD v20 1 0) fun x22 => lt' (List.getD u1 1 0) fun x23 => lt' (decide (x22 ≤ x23)) fun b24 => sp b24 (j6 true) (lt' (decide (x2 > (0 : Int))) fun b25 => sp b25 (lt' (decide (x2 < (u2.length : Int))) fun b26 => sp b26 (gd ((0 : Int) ≤ x2 ∧ x2 < (u2.length : Int)) <| lt' (List.getD u2 ((x2).toNat) 0) fun x28 => lt' (wr .i64 (x2 - (1 : Int))) fun x29 => gd ((0 : Int) ≤ x29 ∧ x29 < (u2.length : Int)) <| lt' (List.getD u2 ((x29).toNat) 0) fun x31 => lt' (wr .i64 (x31 + (1 : Int))) fun x32 => lt' (x28 == x32) fun b33 => j6 b33) (j6 false)) (j6 false))) (lt' (decide (x2 > (0 : Int))) fun b34 => sp b34 (lt' (decide (x2 < (u2.length : Int))) fun b35 => sp b35 (gd ((0 : Int) ≤ x2 ∧ x2 < (u2.length : Int)) <| lt' (List.getD u2 ((x2).toNat) 0) fun x37 => lt' (wr .i64 (x2 - (1 : Int))) fun x38 => gd ((0 : Int) ≤ x38 ∧ x38 < (u2.length : Int)) <| lt' (List.getD u2 ((x38).toNat) 0) fun x40 => lt' (wr .i64 (x40 + (1 : Int))) fun x41 => lt' (x37 == x41) fun b42 => j6 b42) (j6 false)) (j6 false)))) (lt' (decide (x2 < (u2.length : Int))) fun b43 => sp b43 (gd ((0 : Int) ≤ x2 ∧ x2 < (u2.length : Int)) <| lt' (List.getD u2 ((x2).toNat) 0) fun x45 => cl (p16 k u0_0 u0_1 x45) fun v46 => gd ((v46).length = 2) <| lt' (List.getD v46 1 0) fun x48 => lt' (List.getD u1 1 0) fun x49 => lt' (decide (x48 ≤ x49)) fun b50 => sp b50 (j6 true) (lt' (decide (x2 > (0 : Int))) fun b51 => sp b51 (lt' (decide (x2 < (u2.length : Int))) fun b52 => sp b52 (gd ((0 : Int) ≤ x2 ∧ x2 < (u2.length : Int)) <| lt' (List.getD u2 ((x2).toNat) 0) fun x54 => lt' (wr .i64 (x2 - (1 : Int))) fun x55 => gd ((0 : Int) ≤ x55 ∧ x55 < (u2.length : Int)) <| lt' (List.getD u2 ((x55).toNat) 0) fun x57 => lt' (wr .i64 (x57 + (1 : Int))) fun x58 => lt' (x54 == x58) fun b59 => j6 b59) (j6 false)) (j6 false))) (lt' (decide (x2 > (0 : Int))) fun b60 => sp b60 (lt' (decide (x2 < (u2.length : Int))) fun b61 => sp b61 (gd ((0 : Int) ≤ x2 ∧ x2 < (u2.length : Int)) <| lt' (List.getD u2 ((x2).toNat) 0) fun x63 => lt' (wr .i64 (x2 - (1 : Int))) fun x64 => gd ((0 : Int) ≤ x64 ∧ x64 < (u2.length : Int)) <| lt' (List.getD u2 ((x64).toNat) 0) fun x66 => lt' (wr .i64 (x66 + (1 : Int))) fun x67 => lt' (x63 == x67) fun b68 => j6 b68) (j6 false)) (j6 false)))) (j1)
def p60 (k : Nat) (u0_0 : List (List Int)) (u0_1 : List Int) (u1 : List Int) (u2 : List Int) : Option Int :=
 jn (some (-1 : Int)) fun j1 => p60_l1 k u0_0 u0_1 u1 u2 j1 k (0 : Int)
theorem hf60 : Try.prog.funcs[60]? = some Try.f60 := by kernel_rfl
theorem w60 (k : Nat) {M : Mem} {Au0_0 : Option Addr} {cu0_0 : Nat} {Au2 : Option Addr} {cu2 : Nat} {u0_0 : List (List Int)} {u0_1 : List Int} {u1 : List Int} {u2 : List Int} (hu0_0 : SlR M Au0_0 cu0_0 .i64 11 u0_0) (hu0_1 : u0_1.length = 4) (hu1 : u1.length = 7) (hu2 : SlI M Au2 cu2 .i64 u2) {r} (h : p60 k u0_0 u0_1 u1 u2 = some r) :
  Fn Try.prog 60 [rval (.agg [.one (.v (.slice Au0_0 (u0_0.length) cu0_0)),.arr .i64 4 u0_1]),rval (.agg [.arr .i64 7 u1]),rval (.lf (.v (.slice Au2 (u2.length) cu2)))] M (fun x _ => x = vi r) := by
 unfold p60 at h
 refine Fn_of (P:=Try.prog) (fn:=Try.f60) (c:=bodyOf Try.f60) [.agg [.one (.v (.slice Au0_0 (u0_0.length) cu0_0)),.arr .i64 4 u0_1],.agg [.arr .i64 7 u1],.lf (.v (.slice Au2 (u2.length) cu2))] hf60 (by kernel_rfl) (Nat.le_of_ble_eq_true (by kernel_rfl)) (args_ok (by kernel_rfl) ⟨⟨rfl,⟨hu0_1,trivial⟩⟩,⟨⟨hu1,trivial⟩,⟨trivial,trivial⟩⟩⟩) fun w => ?_
 change T _ _ _ (endQ _ _ _)
 refine T_seq (c1:=(sub [0] Bd60)) (c2:=(sub [1] Bd60)) (by kernel_rfl) ?_
 refine T_region (id:=0) (by kernel_rfl) ?_
 refine TI_segK (i:=0) (j:=3) (s':={ σ := [(2,.lf (.v (.slice Au2 (u2.length) cu2))),(3,.lf (.own 3 0)),(4,.lf (.own 4 0))],H := [(3,[.one (.v (.slice Au0_0 (u0_0.length) cu0_0)),.arr .i64 4 u0_1]),(4,[.arr .i64 7 u1])],V := [],M := M,ds := [] }) [2,3,4] [3,4] [] (by kernel_rfl) (by kernel_rfl) ?_
 refine TI_end (by kernel_rfl) ?_
 refine thenQ_n ?_
 refine T_seq (c1:=(sub [1,0] Bd60)) (c2:=(sub [1,1] Bd60)) (by kernel_rfl) ?_
 refine T_region (id:=1) (by kernel_rfl) ?_
 refine TI_segS (i:=0) (j:=3) [(2,.lf (.v (.slice Au2 (u2.length) cu2))),(3,.lf (.own 3 0)),(4,.lf (.own 4 0)),(7,vi (u2.length : Int))] (by kernel_rfl) (by kernel_rfl) ?_
 refine TI_end (by kernel_rfl) ?_
 refine thenQ_n ?_
 refine T_seq (c1:=(sub [1,1,0] Bd60)) (c2:=(sub [1,1,1] Bd60)) (by kernel_rfl) ?_
 refine T_seq (c1:=(sub [1,1,0,0] Bd60)) (c2:=(sub [1,1,0,1] Bd60)) (by kernel_rfl) ?_
 refine T_region (id:=2) (by kernel_rfl) ?_
 refine TI_segS (i:=0) (j:=1) [(2,.lf (.v (.slice Au2 (u2.length) cu2))),(3,.lf (.own 3 0)),(4,.lf (.own 4 0)),(7,vi (u2.length : Int)),(8,vi (0 : Int))] (by kernel_rfl) (by kernel_rfl) ?_
 refine TI_end (by kernel_rfl) ?_
 refine thenQ_n ?_
 obtain ⟨j1,e_j1,h⟩ := jn_some h
 refine T_bcut (id:=0) (c1:=(sub [1,1,0,1,0] Bd60)) (fun s' => Sub { σ := [],H := [],V := [],M := M,ds := [] } s' ∧ j1 = some r) (by kernel_rfl) ?_ ?_
 ·refine T_loop (c1:=(sub [1,1,0,1,0,0] Bd60)) (by kernel_rfl) (fun n3 s' => ∃ (x2 : Int),Sub { σ := [(2,.lf (.v (.slice Au2 (u2.length) cu2))),(3,.lf (.own 3 0)),(4,.lf (.own 4 0)),(7,vi (u2.length : Int)),(8,vi x2)],H := [(3,[.one (.v (.slice Au0_0 (u0_0.length) cu0_0)),.arr .i64 4 u0_1]),(4,[.arr .i64 7 u1])],V := [],M := M,ds := [] } s' ∧ p60_l1 k u0_0 u0_1 u1 u2 j1 n3 x2 = some r) (k:=k) ⟨(0 : Int),keep_sub (ts:=[2,3,4,7,8]) (hs:=[3,4]) (vs:=[]) (by kernel_rfl),h⟩ ?_
  rintro n3 s' ⟨x2,hsub,h⟩
  cases n3 with
  | zero => rw [p60_l1] at h;cases h
  | succ n3 =>
   rw [p60_l1] at h
   refine T_sub hsub ?_
   refine T_seq (c1:=(sub [1,1,0,1,0,0,0] Bd60)) (c2:=(sub [1,1,0,1,0,0,1] Bd60)) (by kernel_rfl) ?_
   refine T_seq (c1:=(sub [1,1,0,1,0,0,0,0] Bd60)) (c2:=(sub [1,1,0,1,0,0,0,1] Bd60)) (by kernel_rfl) ?_
   refine T_region (id:=3) (by kernel_rfl) ?_
   obtain ⟨b4,e_b4,h⟩ := lt_some h
   refine TI_segK (i:=0) (j:=3) (s':={ σ := [(2,.lf (.v (.slice Au2 (u2.length) cu2))),(3,.lf (.own 3 0)),(4,.lf (.own 4 0)),(7,vi (u2.length : Int)),(8,vi x2),(14,vb b4)],H := [(3,[.one (.v (.slice Au0_0 (u0_0.length) cu0_0)),.arr .i64 4 u0_1]),(4,[.arr .i64 7 u1])],V := [],M := M,ds := [] }) [2,3,4,7,8,14] [3,4] [] (by subst e_b4;kernel_rfl) (by kernel_rfl) ?_
   refine TI_end (by kernel_rfl) ?_
   refine thenQ_n ?_
   cases b4 with
   | true =>
    replace h := sp_t h
    refine T_condT (x:=(.tmp 14)) (c1:=(sub [1,1,0,1,0,0,0,1,0] Bd60)) (c2:=(sub [1,1,0,1,0,0,0,1,1] Bd60)) (by kernel_rfl) (by kernel_rfl) ?_
    refine T_keepS [(2,.lf (.v (.slice Au2 (u2.length) cu2))),(3,.lf (.own 3 0)),(4,.lf (.own 4 0)),(7,vi (u2.length : Int)),(8,vi x2)] (by kernel_rfl) ?_
    refine T_skip (by kernel_rfl) ?_
    refine thenQ_n ?_
    refine T_seq (c1:=(sub [1,1,0,1,0,0,1,0] Bd60)) (c2:=(sub [1,1,0,1,0,0,1,1] Bd60)) (by kernel_rfl) ?_
    refine T_block (id:=1) (c1:=(sub [1,1,0,1,0,0,1,0,0] Bd60)) (by kernel_rfl) ?_
    obtain ⟨j6,e_j6,h⟩ := jn_some h
    refine T_cut (c1:=(sub [1,1,0,1,0,0,1,0,0,0] Bd60)) (c2:=(sub [1,1,0,1,0,0,1,0,0,1] Bd60)) (fun s' => ∃ (b5 : Bool),Sub { σ := [(2,.lf (.v (.slice Au2 (u2.length) cu2))),(3,.lf (.own 3 0)),(4,.lf (.own 4 0)),(7,vi (u2.length : Int)),(8,vi x2),(9,vb b5)],H := [(3,[.one (.v (.slice Au0_0 (u0_0.length) cu0_0)),.arr .i64 4 u0_1]),(4,[.arr .i64 7 u1])],V := [],M := M,ds := [] } s' ∧ j6 b5 = some r) (by kernel_rfl) ?_ ?_
    ·obtain ⟨b7,e_b7,h⟩ := lt_some h
     cases b7 with
     | true =>
      replace h := sp_t h
      obtain ⟨x8,e_x8,h⟩ := lt_some h
      obtain ⟨g9,h⟩ := gd_some h
      obtain ⟨x10,e_x10,h⟩ := lt_some h
      obtain ⟨x11,e_x11,h⟩ := lt_some h
      obtain ⟨v12,c_v12,h⟩ := cl_some h
      obtain ⟨g13,h⟩ := gd_some h
      obtain ⟨x14,e_x14,h⟩ := lt_some h
      obtain ⟨x15,e_x15,h⟩ := lt_some h
      obtain ⟨b16,e_b16,h⟩ := lt_some h
      cases b16 with
      | true =>
       replace h := sp_t h
       refine T_draw' (id:=5) [] [0,0,0,0,0,0,0,0,0,0,0,0,0,0,0,0,0,0,0,0,0,0,0,0,0,0,0,0,0,0,0,0,0,0,0,0,0,0,0,0,0,0,0,0,0,0,0,0,0,0,0,0,0,0,0,0] (by kernel_rfl) (by kernel_rfl) (by kernel_rfl) (by kernel_rfl) ((17,vi x2)::(18,vb true)::(19,vb true)::(20,.agg [.one (.v (.slice Au0_0 (u0_0.length) cu0_0)),.arr .i64 4 u0_1])::(21,.lf (.v (.slice Au2 (u2.length) cu2)))::(22,vi x2)::(23,vi x8)::(24,.lf (.ep (.slice Au2 (u2.length) cu2) 1 ((x8).toNat) 0))::(25,vi x10)::(26,vi x11)::(27,.agg [.arr .i64 2 v12])::(28,vi x14)::(29,.lf (.own 4 0))::(30,vi x15)::(31,vb true)::(32,vb true)::(33,vb true)::(34,.tup [])::(35,.tup [])::(36,.tup [])::(37,.tup [])::(38,.tup [])::(39,.tup [])::(40,.tup [])::(41,.tup [])::(42,.tup [])::(43,.tup [])::(44,.tup [])::(45,.tup [])::(46,.tup [])::(47,.tup [])::(48,.tup [])::(49,vb true)::(50,vb true)::(51,.tup [])::(52,.tup [])::(53,.tup [])::(54,.tup [])::(55,.tup [])::(56,.tup [])::(57,.tup [])::(58,.tup [])::(59,.tup [])::(60,.tup [])::(61,.tup [])::(62,.tup [])::(63,.tup [])::(64,.tup [])::(65,.tup [])::(66,.tup [])::(67,.tup [])::(68,.tup [])::(69,.tup [])::(70,.tup [])::(71,vb true)::(9,vb true)::[]) (by kernel_rfl) ⟨trivial,⟨trivial,⟨trivial,⟨⟨rfl,⟨hu0_1,trivial⟩⟩,⟨trivial,⟨trivial,⟨trivial,⟨trivial,⟨trivial,⟨trivial,⟨⟨g13,trivial⟩,⟨trivial,⟨trivial,⟨trivial,⟨trivial,⟨trivial,⟨trivial,⟨(by intro y hy;cases hy),⟨(by intro y hy;cases hy),⟨(by intro y hy;cases hy),⟨(by intro y hy;cases hy),⟨(by intro y hy;cases hy),⟨(by intro y hy;cases hy),⟨(by intro y hy;cases hy),⟨(by intro y hy;cases hy),⟨(by intro y hy;cases hy),⟨(by intro y hy;cases hy),⟨(by intro y hy;cases hy),⟨(by intro y hy;cases hy),⟨(by intro y hy;cases hy),⟨(by intro y hy;cases hy),⟨(by intro y hy;cases hy),⟨trivial,⟨trivial,⟨(by intro y hy;cases hy),⟨(by intro y hy;cases hy),⟨(by intro y hy;cases hy),⟨(by intro y hy;cases hy),⟨(by intro y hy;cases hy),⟨(by intro y hy;cases hy),⟨(by intro y hy;cases hy),⟨(by intro y hy;cases hy),⟨(by intro y hy;cases hy),⟨(by intro y hy;cases hy),⟨(by intro y hy;cases hy),⟨(by intro y hy;cases hy),⟨(by intro y hy;cases hy),⟨(by intro y hy;cases hy),⟨(by intro y hy;cases hy),⟨(by intro y hy;cases hy),⟨(by intro y hy;cases hy),⟨(by intro y hy;cases hy),⟨(by intro y hy;cases hy),⟨(by intro y hy;cases hy),⟨trivial,⟨trivial,trivial⟩⟩⟩⟩⟩⟩⟩⟩⟩⟩⟩⟩⟩⟩⟩⟩⟩⟩⟩⟩⟩⟩⟩⟩⟩⟩⟩⟩⟩⟩⟩⟩⟩⟩⟩⟩⟩⟩⟩⟩⟩⟩⟩⟩⟩⟩⟩⟩⟩⟩⟩⟩⟩⟩⟩⟩ ?_
       refine Stage_nil (stage_all' [0,2,3,4,5,6,9,11,12,13,15,16,17,18,19,20,21,22,23,24,25,26,27,28,29,30,31,32,33,34,35,36,37,38,39,40,41,42,43,44,45,46,47,48,49,50,51,52,53,54,55] [1,7,8,10,14] (by kernel_rfl) (by subst_vars; kernel_rfl) (by kernel_rfl) ⟨QF_at (i:=1) (d:=18) (x:=vb true) (show OpAt _ _ _ 1 18 _ from by exact At_bin (d:=18) (b:=.gtr) (u:=.int .i64 x2) (v:=.int .i64 (0 : Int)) (w':=.bool true) (by subst_vars; kernel_rfl) (by rw [show exBin .gtr (.int .i64 x2) (.int .i64 (0 : Int)) = some (.bool (decide (x2 > (0 : Int)))) from by kernel_rfl,← e_b7])) (by kernel_rfl) (by subst_vars; kernel_rfl),⟨QF_at (i:=7) (d:=24) (x:=.lf (.ep (.slice Au2 (u2.length) cu2) 1 ((x8).toNat) 0)) (show OpAt _ _ _ 7 24 _ from by exact At_idxI (d:=24) (z:=x8) (by subst_vars; kernel_rfl) g9 hu2) (by kernel_rfl) (by subst_vars; kernel_rfl),⟨QF_at (i:=8) (d:=25) (x:=vi x10) (show OpAt _ _ _ 8 25 _ from by rw [e_x10]; exact At_ldI (d:=25) (q:=(x8).toNat) (by subst_vars; kernel_rfl) (toNat_lt g9) hu2) (by kernel_rfl) (by subst_vars; kernel_rfl),⟨QF_at (i:=10) (d:=27) (x:=.agg [.arr .i64 2 v12]) (show OpAt _ _ _ 10 27 _ from by exact At_call (d:=27) (f:=16) (args:=[rval (.agg [.one (.v (.slice Au0_0 (u0_0.length) cu0_0)),.arr .i64 4 u0_1]),rval (vi x11)]) (x:=.agg [.arr .i64 2 v12]) (by subst_vars; kernel_rfl) (w16 k hu0_0 hu0_1 c_v12)) (by kernel_rfl) (by subst_vars; kernel_rfl),⟨QF_at (i:=14) (d:=31) (x:=vb true) (show OpAt _ _ _ 14 31 _ from by exact At_bin (d:=31) (b:=.geq) (u:=.int .i64 x14) (v:=.int .i64 x15) (w':=.bool true) (by subst_vars; kernel_rfl) (by rw [show exBin .geq (.int .i64 x14) (.int .i64 x15) = some (.bool (decide (x14 ≥ x15))) from by kernel_rfl,← e_b16])) (by kernel_rfl) (by subst_vars; kernel_rfl),trivial⟩⟩⟩⟩⟩) ?_
       refine thenQ_n ?_
       exact ⟨true,keep_sub (ts:=[2,3,4,7,8,9]) (hs:=[3,4]) (vs:=[]) (by subst_vars;kernel_rfl),h⟩
      | false =>
       replace h := sp_f h
       obtain ⟨b17,e_b17,h⟩ := lt_some h
       cases b17 with
       | true =>
        replace h := sp_t h
        obtain ⟨g18,h⟩ := gd_some h
        obtain ⟨x19,e_x19,h⟩ := lt_some h
        obtain ⟨v20,c_v20,h⟩ := cl_some h
        obtain ⟨g21,h⟩ := gd_some h
        obtain ⟨x22,e_x22,h⟩ := lt_some h
        obtain ⟨x23,e_x23,h⟩ := lt_some h
        obtain ⟨b24,e_b24,h⟩ := lt_some h
        cases b24 with
        | true =>
         replace h := sp_t h
         refine T_draw' (id:=5) [] [0,0,0,0,0,0,0,0,0,0,0,0,0,0,0,0,0,0,0,0,0,0,0,0,0,0,0,0,0,0,0,0,0,0,0,0,0,0,0,0,0,0,0,0,0,0,0,0,0,0,0,0,0,0,0,0] (by kernel_rfl) (by kernel_rfl) (by kernel_rfl) (by kernel_rfl) ((17,vi x2)::(18,vb true)::(19,vb true)::(20,.agg [.one (.v (.slice Au0_0 (u0_0.length) cu0_0)),.arr .i64 4 u0_1])::(21,.lf (.v (.slice Au2 (u2.length) cu2)))::(22,vi x2)::(23,vi x8)::(24,.lf (.ep (.slice Au2 (u2.length) cu2) 1 ((x8).toNat) 0))::(25,vi x10)::(26,vi x11)::(27,.agg [.arr .i64 2 v12])::(28,vi x14)::(29,.lf (.own 4 0))::(30,vi x15)::(31,vb false)::(32,vb false)::(33,vb false)::(34,vi x2)::(35,vi (u2.length : Int))::(36,vb true)::(37,vb true)::(38,.agg [.one (.v (.slice Au0_0 (u0_0.length) cu0_0)),.arr .i64 4 u0_1])::(39,.lf (.v (.slice Au2 (u2.length) cu2)))::(40,vi x2)::(41,.lf (.ep (.slice Au2 (u2.length) cu2) 1 ((x2).toNat) 0))::(42,vi x19)::(43,.agg [.arr .i64 2 v20])::(44,vi x22)::(45,.lf (.own 4 1))::(46,vi x23)::(47,vb true)::(48,vb true)::(49,vb true)::(50,vb true)::(51,.tup [])::(52,.tup [])::(53,.tup [])::(54,.tup [])::(55,.tup [])::(56,.tup [])::(57,.tup [])::(58,.tup [])::(59,.tup [])::(60,.tup [])::(61,.tup [])::(62,.tup [])::(63,.tup [])::(64,.tup [])::(65,.tup [])::(66,.tup [])::(67,.tup [])::(68,.tup [])::(69,.tup [])::(70,.tup [])::(71,vb true)::(9,vb true)::[]) (by kernel_rfl) ⟨trivial,⟨trivial,⟨trivial,⟨⟨rfl,⟨hu0_1,trivial⟩⟩,⟨trivial,⟨trivial,⟨trivial,⟨trivial,⟨trivial,⟨trivial,⟨⟨g13,trivial⟩,⟨trivial,⟨trivial,⟨trivial,⟨trivial,⟨trivial,⟨trivial,⟨trivial,⟨trivial,⟨trivial,⟨trivial,⟨⟨rfl,⟨hu0_1,trivial⟩⟩,⟨trivial,⟨trivial,⟨trivial,⟨trivial,⟨⟨g21,trivial⟩,⟨trivial,⟨trivial,⟨trivial,⟨trivial,⟨trivial,⟨trivial,⟨trivial,⟨(by intro y hy;cases hy),⟨(by intro y hy;cases hy),⟨(by intro y hy;cases hy),⟨(by intro y hy;cases hy),⟨(by intro y hy;cases hy),⟨(by intro y hy;cases hy),⟨(by intro y hy;cases hy),⟨(by intro y hy;cases hy),⟨(by intro y hy;cases hy),⟨(by intro y hy;cases hy),⟨(by intro y hy;cases hy),⟨(by intro y hy;cases hy),⟨(by intro y hy;cases hy),⟨(by intro y hy;cases hy),⟨(by intro y hy;cases hy),⟨(by intro y hy;cases hy),⟨(by intro y hy;cases hy),⟨(by intro y hy;cases hy),⟨(by intro y hy;cases hy),⟨(by intro y hy;cases hy),⟨trivial,⟨trivial,trivial⟩⟩⟩⟩⟩⟩⟩⟩⟩⟩⟩⟩⟩⟩⟩⟩⟩⟩⟩⟩⟩⟩⟩⟩⟩⟩⟩⟩⟩⟩⟩⟩⟩⟩⟩⟩⟩⟩⟩⟩⟩⟩⟩⟩⟩⟩⟩⟩⟩⟩⟩⟩⟩⟩⟩⟩ ?_
         refine Stage_nil (stage_all' [0,2,3,4,5,6,9,11,12,13,15,16,17,18,20,21,22,23,27,28,29,31,32,33,34,35,36,37,38,39,40,41,42,43,44,45,46,47,48,49,50,51,52,53,54,55] [1,7,8,10,14,19,24,25,26,30] (by kernel_rfl) (by subst_vars; kernel_rfl) (by kernel_rfl) ⟨QF_at (i:=1) (d:=18) (x:=vb true) (show OpAt _ _ _ 1 18 _ from by exact At_bin (d:=18) (b:=.gtr) (u:=.int .i64 x2) (v:=.int .i64 (0 : Int)) (w':=.bool true) (by subst_vars; kernel_rfl) (by rw [show exBin .gtr (.int .i64 x2) (.int .i64 (0 : Int)) = some (.bool (decide (x2 > (0 : Int)))) from by kernel_rfl,← e_b7])) (by kernel_rfl) (by subst_vars; kernel_rfl),⟨QF_at (i:=7) (d:=24) (x:=.lf (.ep (.slice Au2 (u2.length) cu2) 1 ((x8).toNat) 0)) (show OpAt _ _ _ 7 24 _ from by exact At_idxI (d:=24) (z:=x8) (by subst_vars; kernel_rfl) g9 hu2) (by kernel_rfl) (by subst_vars; kernel_rfl),⟨QF_at (i:=8) (d:=25) (x:=vi x10) (show OpAt _ _ _ 8 25 _ from by rw [e_x10]; exact At_ldI (d:=25) (q:=(x8).toNat) (by subst_vars; kernel_rfl) (toNat_lt g9) hu2) (by kernel_rfl) (by subst_vars; kernel_rfl),⟨QF_at (i:=10) (d:=27) (x:=.agg [.arr .i64 2 v12]) (show OpAt _ _ _ 10 27 _ from by exact At_call (d:=27) (f:=16) (args:=[rval (.agg [.one (.v (.slice Au0_0 (u0_0.length) cu0_0)),.arr .i64 4 u0_1]),rval (vi x11)]) (x:=.agg [.arr .i64 2 v12]) (by subst_vars; kernel_rfl) (w16 k hu0_0 hu0_1 c_v12)) (by kernel_rfl) (by subst_vars; kernel_rfl),⟨QF_at (i:=14) (d:=31) (x:=vb false) (show OpAt _ _ _ 14 31 _ from by exact At_bin (d:=31) (b:=.geq) (u:=.int .i64 x14) (v:=.int .i64 x15) (w':=.bool false) (by subst_vars; kernel_rfl) (by rw [show exBin .geq (.int .i64 x14) (.int .i64 x15) = some (.bool (decide (x14 ≥ x15))) from by kernel_rfl,← e_b16])) (by kernel_rfl) (by subst_vars; kernel_rfl),⟨QF_at (i:=19) (d:=36) (x:=vb true) (show OpAt _ _ _ 19 36 _ from by exact At_bin (d:=36) (b:=.lss) (u:=.int .i64 x2) (v:=.int .i64 (u2.length : Int)) (w':=.bool true) (by subst_vars; kernel_rfl) (by rw [show exBin .lss (.int .i64 x2) (.int .i64 (u2.length : Int)) = some (.bool (decide (x2 < (u2.length : Int)))) from by kernel_rfl,← e_b17])) (by kernel_rfl) (by subst_vars; kernel_rfl),⟨QF_at (i:=24) (d:=41) (x:=.lf (.ep (.slice Au2 (u2.length) cu2) 1 ((x2).toNat) 0)) (show OpAt _ _ _ 24 41 _ from by exact At_idxI (d:=41) (z:=x2) (by subst_vars; kernel_rfl) g18 hu2) (by kernel_rfl) (by subst_vars; kernel_rfl),⟨QF_at (i:=25) (d:=42) (x:=vi x19) (show OpAt _ _ _ 25 42 _ from by rw [e_x19]; exact At_ldI (d:=42) (q:=(x2).toNat) (by subst_vars; kernel_rfl) (toNat_lt g18) hu2) (by kernel_rfl) (by subst_vars; kernel_rfl),⟨QF_at (i:=26) (d:=43) (x:=.agg [.arr .i64 2 v20]) (show OpAt _ _ _ 26 43 _ from by exact At_call (d:=43) (f:=16) (args:=[rval (.agg [.one (.v (.slice Au0_0 (u0_0.length) cu0_0)),.arr .i64 4 u0_1]),rval (vi x19)]) (x:=.agg [.arr .i64 2 v20]) (by subst_vars; kernel_rfl) (w16 k hu0_0 hu0_1 c_v20)) (by kernel_rfl) (by subst_vars; kernel_rfl),⟨QF_at (i:=30) (d:=47) (x:=vb true) (show OpAt _ _ _ 30 47 _ from by exact At_bin (d:=47) (b:=.leq) (u:=.int .i64 x22) (v:=.int .i64 x23) (w':=.bool true) (by subst_vars; kernel_rfl) (by rw [show exBin .leq (.int .i64 x22) (.int .i64 x23) = some (.bool (decide (x22 ≤ x23))) from by kernel_rfl,← e_b24])) (by kernel_rfl) (by subst_vars; kernel_rfl),trivial⟩⟩⟩⟩⟩⟩⟩⟩⟩⟩) ?_
         refine thenQ_n ?_
         exact ⟨true,keep_sub (ts:=[2,3,4,7,8,9]) (hs:=[3,4]) (vs:=[]) (by subst_vars;kernel_rfl),h⟩
        | false =>
         replace h := sp_f h
         obtain ⟨b25,e_b25,h⟩ := lt_some h
         cases b25 with
         | true =>
          replace h := sp_t h
          obtain ⟨b26,e_b26,h⟩ := lt_some h
          cases b26 with
          | true =>
           replace h := sp_t h
           obtain ⟨g27,h⟩ := gd_some h
           obtain ⟨x28,e_x28,h⟩ := lt_some h
           obtain ⟨x29,e_x29,h⟩ := lt_some h
           obtain ⟨g30,h⟩ := gd_some h
           obtain ⟨x31,e_x31,h⟩ := lt_some h
           obtain ⟨x32,e_x32,h⟩ := lt_some h
           obtain ⟨b33,e_b33,h⟩ := lt_some h
           refine T_draw' (id:=5) [] [0,0,0,0,0,0,0,0,0,0,0,0,0,0,0,0,0,0,0,0,0,0,0,0,0,0,0,0,0,0,0,0,0,0,0,0,0,0,0,0,0,0,0,0,0,0,0,0,0,0,0,0,0,0,0,0] (by kernel_rfl) (by kernel_rfl) (by kernel_rfl) (by kernel_rfl) ((17,vi x2)::(18,vb true)::(19,vb true)::(20,.agg [.one (.v (.slice Au0_0 (u0_0.length) cu0_0)),.arr .i64 4 u0_1])::(21,.lf (.v (.slice Au2 (u2.length) cu2)))::(22,vi x2)::(23,vi x8)::(24,.lf (.ep (.slice Au2 (u2.length) cu2) 1 ((x8).toNat) 0))::(25,vi x10)::(26,vi x11)::(27,.agg [.arr .i64 2 v12])::(28,vi x14)::(29,.lf (.own 4 0))::(30,vi x15)::(31,vb false)::(32,vb false)::(33,vb false)::(34,vi x2)::(35,vi (u2.length : Int))::(36,vb true)::(37,vb true)::(38,.agg [.one (.v (.slice Au0_0 (u0_0.length) cu0_0)),.arr .i64 4 u0_1])::(39,.lf (.v (.slice Au2 (u2.length) cu2)))::(40,vi x2)::(41,.lf (.ep (.slice Au2 (u2.length) cu2) 1 ((x2).toNat) 0))::(42,vi x19)::(43,.agg [.arr .i64 2 v20])::(44,vi x22)::(45,.lf (.own 4 1))::(46,vi x23)::(47,vb false)::(48,vb false)::(49,vb false)::(50,vb false)::(51,vi x2)::(52,vb true)::(53,vb true)::(54,vi x2)::(55,vi (u2.length : Int))::(56,vb true)::(57,vb true)::(58,vb true)::(59,.lf (.v (.slice Au2 (u2.length) cu2)))::(60,vi x2)::(61,.lf (.ep (.slice Au2 (u2.length) cu2) 1 ((x2).toNat) 0))::(62,vi x28)::(63,.lf (.v (.slice Au2 (u2.length) cu2)))::(64,vi x2)::(65,vi x29)::(66,.lf (.ep (.slice Au2 (u2.length) cu2) 1 ((x29).toNat) 0))::(67,vi x31)::(68,vi x32)::(69,vb b33)::(70,vb b33)::(71,vb b33)::(9,vb b33)::[]) (by kernel_rfl) ⟨trivial,⟨trivial,⟨trivial,⟨⟨rfl,⟨hu0_1,trivial⟩⟩,⟨trivial,⟨trivial,⟨trivial,⟨trivial,⟨trivial,⟨trivial,⟨⟨g13,trivial⟩,⟨trivial,⟨trivial,⟨trivial,⟨trivial,⟨trivial,⟨trivial,⟨trivial,⟨trivial,⟨trivial,⟨trivial,⟨⟨rfl,⟨hu0_1,trivial⟩⟩,⟨trivial,⟨trivial,⟨trivial,⟨trivial,⟨⟨g21,trivial⟩,⟨trivial,⟨trivial,⟨trivial,⟨trivial,⟨trivial,⟨trivial,⟨trivial,⟨trivial,⟨trivial,⟨trivial,⟨trivial,⟨trivial,⟨trivial,⟨trivial,⟨trivial,⟨trivial,⟨trivial,⟨trivial,⟨trivial,⟨trivial,⟨trivial,⟨trivial,⟨trivial,⟨trivial,⟨trivial,⟨trivial,⟨trivial,⟨trivial,⟨trivial,trivial⟩⟩⟩⟩⟩⟩⟩⟩⟩⟩⟩⟩⟩⟩⟩⟩⟩⟩⟩⟩⟩⟩⟩⟩⟩⟩⟩⟩⟩⟩⟩⟩⟩⟩⟩⟩⟩⟩⟩⟩⟩⟩⟩⟩⟩⟩⟩⟩⟩⟩⟩⟩⟩⟩⟩⟩ ?_
           refine Stage_nil (stage_all' [0,2,3,4,5,6,9,11,12,13,15,16,17,18,20,21,22,23,27,28,29,31,32,33,34,36,37,38,40,41,42,43,46,47,48,51,52,53,54,55] [1,7,8,10,14,19,24,25,26,30,35,39,44,45,49,50] (by kernel_rfl) (by subst_vars; kernel_rfl) (by kernel_rfl) ⟨QF_at (i:=1) (d:=18) (x:=vb true) (show OpAt _ _ _ 1 18 _ from by exact At_bin (d:=18) (b:=.gtr) (u:=.int .i64 x2) (v:=.int .i64 (0 : Int)) (w':=.bool true) (by subst_vars; kernel_rfl) (by rw [show exBin .gtr (.int .i64 x2) (.int .i64 (0 : Int)) = some (.bool (decide (x2 > (0 : Int)))) from by kernel_rfl,← e_b7])) (by kernel_rfl) (by subst_vars; kernel_rfl),⟨QF_at (i:=7) (d:=24) (x:=.lf (.ep (.slice Au2 (u2.length) cu2) 1 ((x8).toNat) 0)) (show OpAt _ _ _ 7 24 _ from by exact At_idxI (d:=24) (z:=x8) (by subst_vars; kernel_rfl) g9 hu2) (by kernel_rfl) (by subst_vars; kernel_rfl),⟨QF_at (i:=8) (d:=25) (x:=vi x10) (show OpAt _ _ _ 8 25 _ from by rw [e_x10]; exact At_ldI (d:=25) (q:=(x8).toNat) (by subst_vars; kernel_rfl) (toNat_lt g9) hu2) (by kernel_rfl) (by subst_vars; kernel_rfl),⟨QF_at (i:=10) (d:=27) (x:=.agg [.arr .i64 2 v12]) (show OpAt _ _ _ 10 27 _ from by exact At_call (d:=27) (f:=16) (args:=[rval (.agg [.one (.v (.slice Au0_0 (u0_0.length) cu0_0)),.arr .i64 4 u0_1]),rval (vi x11)]) (x:=.agg [.arr .i64 2 v12]) (by subst_vars; kernel_rfl) (w16 k hu0_0 hu0_1 c_v12)) (by kernel_rfl) (by subst_vars; kernel_rfl),⟨QF_at (i:=14) (d:=31) (x:=vb false) (show OpAt _ _ _ 14 31 _ from by exact At_bin (d:=31) (b:=.geq) (u:=.int .i64 x14) (v:=.int .i64 x15) (w':=.bool false) (by subst_vars; kernel_rfl) (by rw [show exBin .geq (.int .i64 x14) (.int .i64 x15) = some (.bool (decide (x14 ≥ x15))) from by kernel_rfl,← e_b16])) (by kernel_rfl) (by subst_vars; kernel_rfl),⟨QF_at (i:=19) (d:=36) (x:=vb true) (show OpAt _ _ _ 19 36 _ from by exact At_bin (d:=36) (b:=.lss) (u:=.int .i64 x2) (v:=.int .i64 (u2.length : Int)) (w':=.bool true) (by subst_vars; kernel_rfl) (by rw [show exBin .lss (.int .i64 x2) (.int .i64 (u2.length : Int)) = some (.bool (decide (x2 < (u2.length : Int)))) from by kernel_rfl,← e_b17])) (by kernel_rfl) (by subst_vars; kernel_rfl),⟨QF_at (i:=24) (d:=41) (x:=.lf (.ep (.slice Au2 (u2.length) cu2) 1 ((x2).toNat) 0)) (show OpAt _ _ _ 24 41 _ from by exact At_idxI (d:=41) (z:=x2) (by subst_vars; kernel_rfl) g18 hu2) (by kernel_rfl) (by subst_vars; kernel_rfl),⟨QF_at (i:=25) (d:=42) (x:=vi x19) (show OpAt _ _ _ 25 42 _ from by rw [e_x19]; exact At_ldI (d:=42) (q:=(x2).toNat) (by subst_vars; kernel_rfl) (toNat_lt g18) hu2) (by kernel_rfl) (by subst_vars; kernel_rfl),⟨QF_at (i:=26) (d:=43) (x:=.agg [.arr .i64 2 v20]) (show OpAt _ _ _ 26 43 _ from by exact At_call (d:=43) (f:=16) (args:=[rval (.agg [.one (.v (.slice Au0_0 (u0_0.length) cu0_0)),.arr .i64 4 u0_1]),rval (vi x19)]) (x:=.agg [.arr .i64 2 v20]) (by subst_vars; kernel_rfl) (w16 k hu0_0 hu0_1 c_v20)) (by kernel_rfl) (by subst_vars; kernel_rfl),⟨QF_at (i:=30) (d:=47) (x:=vb false) (show OpAt _ _ _ 30 47 _ from by exact At_bin (d:=47) (b:=.leq) (u:=.int .i64 x22) (v:=.int .i64 x23) (w':=.bool false) (by subst_vars; kernel_rfl) (by rw [show exBin .leq (.int .i64 x22) (.int .i64 x23) = some (.bool (decide (x22 ≤ x23))) from by kernel_rfl,← e_b24])) (by kernel_rfl) (by subst_vars; kernel_rfl),⟨QF_at (i:=35) (d:=52) (x:=vb true) (show OpAt _ _ _ 35 52 _ from by exact At_bin (d:=52) (b:=.gtr) (u:=.int .i64 x2) (v:=.int .i64 (0 : Int)) (w':=.bool true) (by subst_vars; kernel_rfl) (by rw [show exBin .gtr (.int .i64 x2) (.int .i64 (0 : Int)) = some (.bool (decide (x2 > (0 : Int)))) from by kernel_rfl,← e_b25])) (by kernel_rfl) (by subst_vars; kernel_rfl),⟨QF_at (i:=39) (d:=56) (x:=vb true) (show OpAt _ _ _ 39 56 _ from by exact At_bin (d:=56) (b:=.lss) (u:=.int .i64 x2) (v:=.int .i64 (u2.length : Int)) (w':=.bool true) (by subst_vars; kernel_rfl) (by rw [show exBin .lss (.int .i64 x2) (.int .i64 (u2.length : Int)) = some (.bool (decide (x2 < (u2.length : Int)))) from by kernel_rfl,← e_b26])) (by kernel_rfl) (by subst_vars; kernel_rfl),⟨QF_at (i:=44) (d:=61) (x:=.lf (.ep (.slice Au2 (u2.length) cu2) 1 ((x2).toNat) 0)) (show OpAt _ _ _ 44 61 _ from by exact At_idxI (d:=61) (z:=x2) (by subst_vars; kernel_rfl) g27 hu2) (by kernel_rfl) (by subst_vars; kernel_rfl),⟨QF_at (i:=45) (d:=62) (x:=vi x28) (show OpAt _ _ _ 45 62 _ from by rw [e_x28]; exact At_ldI (d:=62) (q:=(x2).toNat) (by subst_vars; kernel_rfl) (toNat_lt g27) hu2) (by kernel_rfl) (by subst_vars; kernel_rfl),⟨QF_at (i:=49) (d:=66) (x:=.lf (.ep (.slice Au2 (u2.length) cu2) 1 ((x29).toNat) 0)) (show OpAt _ _ _ 49 66 _ from by exact At_idxI (d:=66) (z:=x29) (by subst_vars; kernel_rfl) g30 hu2) (by kernel_rfl) (by subst_vars; kernel_rfl),⟨QF_at (i:=50) (d:=67) (x:=vi x31) (show OpAt _ _ _ 50 67 _ from by rw [e_x31]; exact At_ldI (d:=67) (q:=(x29).toNat) (by subst_vars; kernel_rfl) (toNat_lt g30) hu2) (by kernel_rfl) (by subst_vars; kernel_rfl),trivial⟩⟩⟩⟩⟩⟩⟩⟩⟩⟩⟩⟩⟩⟩⟩⟩) ?_
           refine thenQ_n ?_
           exact ⟨b33,keep_sub (ts:=[2,3,4,7,8,9]) (hs:=[3,4]) (vs:=[]) (by subst_vars;kernel_rfl),h⟩
          | false =>
           replace h := sp_f h
           refine T_draw' (id:=5) [] [0,0,0,0,0,0,0,0,0,0,0,0,0,0,0,0,0,0,0,0,0,0,0,0,0,0,0,0,0,0,0,0,0,0,0,0,0,0,0,0,0,0,0,0,0,0,0,0,0,0,0,0,0,0,0,0] (by kernel_rfl) (by kernel_rfl) (by kernel_rfl) (by kernel_rfl) ((17,vi x2)::(18,vb true)::(19,vb true)::(20,.agg [.one (.v (.slice Au0_0 (u0_0.length) cu0_0)),.arr .i64 4 u0_1])::(21,.lf (.v (.slice Au2 (u2.length) cu2)))::(22,vi x2)::(23,vi x8)::(24,.lf (.ep (.slice Au2 (u2.length) cu2) 1 ((x8).toNat) 0))::(25,vi x10)::(26,vi x11)::(27,.agg [.arr .i64 2 v12])::(28,vi x14)::(29,.lf (.own 4 0))::(30,vi x15)::(31,vb false)::(32,vb false)::(33,vb false)::(34,vi x2)::(35,vi (u2.length : Int))::(36,vb true)::(37,vb true)::(38,.agg [.one (.v (.slice Au0_0 (u0_0.length) cu0_0)),.arr .i64 4 u0_1])::(39,.lf (.v (.slice Au2 (u2.length) cu2)))::(40,vi x2)::(41,.lf (.ep (.slice Au2 (u2.length) cu2) 1 ((x2).toNat) 0))::(42,vi x19)::(43,.agg [.arr .i64 2 v20])::(44,vi x22)::(45,.lf (.own 4 1))::(46,vi x23)::(47,vb false)::(48,vb false)::(49,vb false)::(50,vb false)::(51,vi x2)::(52,vb true)::(53,vb true)::(54,vi x2)::(55,vi (u2.length : Int))::(56,vb false)::(57,vb false)::(58,vb false)::(59,.tup [])::(60,.tup [])::(61,.tup [])::(62,.tup [])::(63,.tup [])::(64,.tup [])::(65,.tup [])::(66,.tup [])::(67,.tup [])::(68,.tup [])::(69,.tup [])::(70,vb false)::(71,vb false)::(9,vb false)::[]) (by kernel_rfl) ⟨trivial,⟨trivial,⟨trivial,⟨⟨rfl,⟨hu0_1,trivial⟩⟩,⟨trivial,⟨trivial,⟨trivial,⟨trivial,⟨trivial,⟨trivial,⟨⟨g13,trivial⟩,⟨trivial,⟨trivial,⟨trivial,⟨trivial,⟨trivial,⟨trivial,⟨trivial,⟨trivial,⟨trivial,⟨trivial,⟨⟨rfl,⟨hu0_1,trivial⟩⟩,⟨trivial,⟨trivial,⟨trivial,⟨trivial,⟨⟨g21,trivial⟩,⟨trivial,⟨trivial,⟨trivial,⟨trivial,⟨trivial,⟨trivial,⟨trivial,⟨trivial,⟨trivial,⟨trivial,⟨trivial,⟨trivial,⟨trivial,⟨trivial,⟨trivial,⟨(by intro y hy;cases hy),⟨(by intro y hy;cases hy),⟨(by intro y hy;cases hy),⟨(by intro y hy;cases hy),⟨(by intro y hy;cases hy),⟨(by intro y hy;cases hy),⟨(by intro y hy;cases hy),⟨(by intro y hy;cases hy),⟨(by intro y hy;cases hy),⟨(by intro y hy;cases hy),⟨(by intro y hy;cases hy),⟨trivial,⟨trivial,⟨trivial,trivial⟩⟩⟩⟩⟩⟩⟩⟩⟩⟩⟩⟩⟩⟩⟩⟩⟩⟩⟩⟩⟩⟩⟩⟩⟩⟩⟩⟩⟩⟩⟩⟩⟩⟩⟩⟩⟩⟩⟩⟩⟩⟩⟩⟩⟩⟩⟩⟩⟩⟩⟩⟩⟩⟩⟩⟩ ?_
           refine Stage_nil (stage_all' [0,2,3,4,5,6,9,11,12,13,15,16,17,18,20,21,22,23,27,28,29,31,32,33,34,36,37,38,40,41,42,43,44,45,46,47,48,49,50,51,52,53,54,55] [1,7,8,10,14,19,24,25,26,30,35,39] (by kernel_rfl) (by subst_vars; kernel_rfl) (by kernel_rfl) ⟨QF_at (i:=1) (d:=18) (x:=vb true) (show OpAt _ _ _ 1 18 _ from by exact At_bin (d:=18) (b:=.gtr) (u:=.int .i64 x2) (v:=.int .i64 (0 : Int)) (w':=.bool true) (by subst_vars; kernel_rfl) (by rw [show exBin .gtr (.int .i64 x2) (.int .i64 (0 : Int)) = some (.bool (decide (x2 > (0 : Int)))) from by kernel_rfl,← e_b7])) (by kernel_rfl) (by subst_vars; kernel_rfl),⟨QF_at (i:=7) (d:=24) (x:=.lf (.ep (.slice Au2 (u2.length) cu2) 1 ((x8).toNat) 0)) (show OpAt _ _ _ 7 24 _ from by exact At_idxI (d:=24) (z:=x8) (by subst_vars; kernel_rfl) g9 hu2) (by kernel_rfl) (by subst_vars; kernel_rfl),⟨QF_at (i:=8) (d:=25) (x:=vi x10) (show OpAt _ _ _ 8 25 _ from by rw [e_x10]; exact At_ldI (d:=25) (q:=(x8).toNat) (by subst_vars; kernel_rfl) (toNat_lt g9) hu2) (by kernel_rfl) (by subst_vars; kernel_rfl),⟨QF_at (i:=10) (d:=27) (x:=.agg [.arr .i64 2 v12]) (show OpAt _ _ _ 10 27 _ from by exact At_call (d:=27) (f:=16) (args:=[rval (.agg [.one (.v (.slice Au0_0 (u0_0.length) cu0_0)),.arr .i64 4 u0_1]),rval (vi x11)]) (x:=.agg [.arr .i64 2 v12]) (by subst_vars; kernel_rfl) (w16 k hu0_0 hu0_1 c_v12)) (by kernel_rfl) (by subst_vars; kernel_rfl),⟨QF_at (i:=14) (d:=31) (x:=vb false) (show OpAt _ _ _ 14 31 _ from by exact At_bin (d:=31) (b:=.geq) (u:=.int .i64 x14) (v:=.int .i64 x15) (w':=.bool false) (by subst_vars; kernel_rfl) (by rw [show exBin .geq (.int .i64 x14) (.int .i64 x15) = some (.bool (decide (x14 ≥ x15))) from by kernel_rfl,← e_b16])) (by kernel_rfl) (by subst_vars; kernel_rfl),⟨QF_at (i:=19) (d:=36) (x:=vb true) (show OpAt _ _ _ 19 36 _ from by exact At_bin (d:=36) (b:=.lss) (u:=.int .i64 x2) (v:=.int .i64 (u2.length : Int)) (w':=.bool true) (by subst_vars; kernel_rfl) (by rw [show exBin .lss (.int .i64 x2) (.int .i64 (u2.length : Int)) = some (.bool (decide (x2 < (u2.length : Int)))) from by kernel_rfl,← e_b17])) (by kernel_rfl) (by subst_vars; kernel_rfl),⟨QF_at (i:=24) (d:=41) (x:=.lf (.ep (.slice Au2 (u2.length) cu2) 1 ((x2).toNat) 0)) (show OpAt _ _ _ 24 41 _ from by exact At_idxI (d:=41) (z:=x2) (by subst_vars; kernel_rfl) g18 hu2) (by kernel_rfl) (by subst_vars; kernel_rfl),⟨QF_at (i:=25) (d:=42) (x:=vi x19) (show OpAt _ _ _ 25 42 _ from by rw [e_x19]; exact At_ldI (d:=42) (q:=(x2).toNat) (by subst_vars; kernel_rfl) (toNat_lt g18) hu2) (by kernel_rfl) (by subst_vars; kernel_rfl),⟨QF_at (i:=26) (d:=43) (x:=.agg [.arr .i64 2 v20]) (show OpAt _ _ _ 26 43 _ from by exact At_call (d:=43) (f:=16) (args:=[rval (.agg [.one (.v (.slice Au0_0 (u0_0.length) cu0_0)),.arr .i64 4 u0_1]),rval (vi x19)]) (x:=.agg [.arr .i64 2 v20]) (by subst_vars; kernel_rfl) (w16 k hu0_0 hu0_1 c_v20)) (by kernel_rfl) (by subst_vars; kernel_rfl),⟨QF_at (i:=30) (d:=47) (x:=vb false) (show OpAt _ _ _ 30 47 _ from by exact At_bin (d:=47) (b:=.leq) (u:=.int .i64 x22) (v:=.int .i64 x23) (w':=.bool false) (by subst_vars; kernel_rfl) (by rw [show exBin .leq (.int .i64 x22) (.int .i64 x23) = some (.bool (decide (x22 ≤ x23))) from by kernel_rfl,← e_b24])) (by kernel_rfl) (by subst_vars; kernel_rfl),⟨QF_at (i:=35) (d:=52) (x:=vb true) (show OpAt _ _ _ 35 52 _ from by exact At_bin (d:=52) (b:=.gtr) (u:=.int .i64 x2) (v:=.int .i64 (0 : Int)) (w':=.bool true) (by subst_vars; kernel_rfl) (by rw [show exBin .gtr (.int .i64 x2) (.int .i64 (0 : Int)) = some (.bool (decide (x2 > (0 : Int)))) from by kernel_rfl,← e_b25])) (by kernel_rfl) (by subst_vars; kernel_rfl),⟨QF_at (i:=39) (d:=56) (x:=vb false) (show OpAt _ _ _ 39 56 _ from by exact At_bin (d:=56) (b:=.lss) (u:=.int .i64 x2) (v:=.int .i64 (u2.length : Int)) (w':=.bool false) (by subst_vars; kernel_rfl) (by rw [show exBin .lss (.int .i64 x2) (.int .i64 (u2.length : Int)) = some (.bool (decide (x2 < (u2.length : Int)))) from by kernel_rfl,← e_b26])) (by kernel_rfl) (by subst_vars; kernel_rfl),trivial⟩⟩⟩⟩⟩⟩⟩⟩⟩⟩⟩⟩) ?_
           refine thenQ_n ?_
           exact ⟨false,keep_sub (ts:=[2,3,4,7,8,9]) (hs:=[3,4]) (vs:=[]) (by subst_vars;kernel_rfl),h⟩
         | false =>
          replace h := sp_f h
          refine T_draw' (id:=5) [] [0,0,0,0,0,0,0,0,0,0,0,0,0,0,0,0,0,0,0,0,0,0,0,0,0,0,0,0,0,0,0,0,0,0,0,0,0,0,0,0,0,0,0,0,0,0,0,0,0,0,0,0,0,0,0,0] (by kernel_rfl) (by kernel_rfl) (by kernel_rfl) (by kernel_rfl) ((17,vi x2)::(18,vb true)::(19,vb true)::(20,.agg [.one (.v (.slice Au0_0 (u0_0.length) cu0_0)),.arr .i64 4 u0_1])::(21,.lf (.v (.slice Au2 (u2.length) cu2)))::(22,vi x2)::(23,vi x8)::(24,.lf (.ep (.slice Au2 (u2.length) cu2) 1 ((x8).toNat) 0))::(25,vi x10)::(26,vi x11)::(27,.agg [.arr .i64 2 v12])::(28,vi x14)::(29,.lf (.own 4 0))::(30,vi x15)::(31,vb false)::(32,vb false)::(33,vb false)::(34,vi x2)::(35,vi (u2.length : Int))::(36,vb true)::(37,vb true)::(38,.agg [.one (.v (.slice Au0_0 (u0_0.length) cu0_0)),.arr .i64 4 u0_1])::(39,.lf (.v (.slice Au2 (u2.length) cu2)))::(40,vi x2)::(41,.lf (.ep (.slice Au2 (u2.length) cu2) 1 ((x2).toNat) 0))::(42,vi x19)::(43,.agg [.arr .i64 2 v20])::(44,vi x22)::(45,.lf (.own 4 1))::(46,vi x23)::(47,vb false)::(48,vb false)::(49,vb false)::(50,vb false)::(51,vi x2)::(52,vb false)::(53,vb false)::(54,.tup [])::(55,.tup [])::(56,.tup [])::(57,vb false)::(58,vb false)::(59,.tup [])::(60,.tup [])::(61,.tup [])::(62,.tup [])::(63,.tup [])::(64,.tup [])::(65,.tup [])::(66,.tup [])::(67,.tup [])::(68,.tup [])::(69,.tup [])::(70,vb false)::(71,vb false)::(9,vb false)::[]) (by kernel_rfl) ⟨trivial,⟨trivial,⟨trivial,⟨⟨rfl,⟨hu0_1,trivial⟩⟩,⟨trivial,⟨trivial,⟨trivial,⟨trivial,⟨trivial,⟨trivial,⟨⟨g13,trivial⟩,⟨trivial,⟨trivial,⟨trivial,⟨trivial,⟨trivial,⟨trivial,⟨trivial,⟨trivial,⟨trivial,⟨trivial,⟨⟨rfl,⟨hu0_1,trivial⟩⟩,⟨trivial,⟨trivial,⟨trivial,⟨trivial,⟨⟨g21,trivial⟩,⟨trivial,⟨trivial,⟨trivial,⟨trivial,⟨trivial,⟨trivial,⟨trivial,⟨trivial,⟨trivial,⟨trivial,⟨(by intro y hy;cases hy),⟨(by intro y hy;cases hy),⟨(by intro y hy;cases hy),⟨trivial,⟨trivial,⟨(by intro y hy;cases hy),⟨(by intro y hy;cases hy),⟨(by intro y hy;cases hy),⟨(by intro y hy;cases hy),⟨(by intro y hy;cases hy),⟨(by intro y hy;cases hy),⟨(by intro y hy;cases hy),⟨(by intro y hy;cases hy),⟨(by intro y hy;cases hy),⟨(by intro y hy;cases hy),⟨(by intro y hy;cases hy),⟨trivial,⟨trivial,⟨trivial,trivial⟩⟩⟩⟩⟩⟩⟩⟩⟩⟩⟩⟩⟩⟩⟩⟩⟩⟩⟩⟩⟩⟩⟩⟩⟩⟩⟩⟩⟩⟩⟩⟩⟩⟩⟩⟩⟩⟩⟩⟩⟩⟩⟩⟩⟩⟩⟩⟩⟩⟩⟩⟩⟩⟩⟩⟩ ?_
          refine Stage_nil (stage_all' [0,2,3,4,5,6,9,11,12,13,15,16,17,18,20,21,22,23,27,28,29,31,32,33,34,36,37,38,39,40,41,42,43,44,45,46,47,48,49,50,51,52,53,54,55] [1,7,8,10,14,19,24,25,26,30,35] (by kernel_rfl) (by subst_vars; kernel_rfl) (by kernel_rfl) ⟨QF_at (i:=1) (d:=18) (x:=vb true) (show OpAt _ _ _ 1 18 _ from by exact At_bin (d:=18) (b:=.gtr) (u:=.int .i64 x2) (v:=.int .i64 (0 : Int)) (w':=.bool true) (by subst_vars; kernel_rfl) (by rw [show exBin .gtr (.int .i64 x2) (.int .i64 (0 : Int)) = some (.bool (decide (x2 > (0 : Int)))) from by kernel_rfl,← e_b7])) (by kernel_rfl) (by subst_vars; kernel_rfl),⟨QF_at (i:=7) (d:=24) (x:=.lf (.ep (.slice Au2 (u2.length) cu2) 1 ((x8).toNat) 0)) (show OpAt _ _ _ 7 24 _ from by exact At_idxI (d:=24) (z:=x8) (by subst_vars; kernel_rfl) g9 hu2) (by kernel_rfl) (by subst_vars; kernel_rfl),⟨QF_at (i:=8) (d:=25) (x:=vi x10) (show OpAt _ _ _ 8 25 _ from by rw [e_x10]; exact At_ldI (d:=25) (q:=(x8).toNat) (by subst_vars; kernel_rfl) (toNat_lt g9) hu2) (by kernel_rfl) (by subst_vars; kernel_rfl),⟨QF_at (i:=10) (d:=27) (x:=.agg [.arr .i64 2 v12]) (show OpAt _ _ _ 10 27 _ from by exact At_call (d:=27) (f:=16) (args:=[rval (.agg [.one (.v (.slice Au0_0 (u0_0.length) cu0_0)),.arr .i64 4 u0_1]),rval (vi x11)]) (x:=.agg [.arr .i64 2 v12]) (by subst_vars; kernel_rfl) (w16 k hu0_0 hu0_1 c_v12)) (by kernel_rfl) (by subst_vars; kernel_rfl),⟨QF_at (i:=14) (d:=31) (x:=vb false) (show OpAt _ _ _ 14 31 _ from by exact At_bin (d:=31) (b:=.geq) (u:=.int .i64 x14) (v:=.int .i64 x15) (w':=.bool false) (by subst_vars; kernel_rfl) (by rw [show exBin .geq (.int .i64 x14) (.int .i64 x15) = some (.bool (decide (x14 ≥ x15))) from by kernel_rfl,← e_b16])) (by kernel_rfl) (by subst_vars; kernel_rfl),⟨QF_at (i:=19) (d:=36) (x:=vb true) (show OpAt _ _ _ 19 36 _ from by exact At_bin (d:=36) (b:=.lss) (u:=.int .i64 x2) (v:=.int .i64 (u2.length : Int)) (w':=.bool true) (by subst_vars; kernel_rfl) (by rw [show exBin .lss (.int .i64 x2) (.int .i64 (u2.length : Int)) = some (.bool (decide (x2 < (u2.length : Int)))) from by kernel_rfl,← e_b17])) (by kernel_rfl) (by subst_vars; kernel_rfl),⟨QF_at (i:=24) (d:=41) (x:=.lf (.ep (.slice Au2 (u2.length) cu2) 1 ((x2).toNat) 0)) (show OpAt _ _ _ 24 41 _ from by exact At_idxI (d:=41) (z:=x2) (by subst_vars; kernel_rfl) g18 hu2) (by kernel_rfl) (by subst_vars; kernel_rfl),⟨QF_at (i:=25) (d:=42) (x:=vi x19) (show OpAt _ _ _ 25 42 _ from by rw [e_x19]; exact At_ldI (d:=42) (q:=(x2).toNat) (by subst_vars; kernel_rfl) (toNat_lt g18) hu2) (by kernel_rfl) (by subst_vars; kernel_rfl),⟨QF_at (i:=26) (d:=43) (x:=.agg [.arr .i64 2 v20]) (show OpAt _ _ _ 26 43 _ from by exact At_call (d:=43) (f:=16) (args:=[rval (.agg [.one (.v (.slice Au0_0 (u0_0.length) cu0_0)),.arr .i64 4 u0_1]),rval (vi x19)]) (x:=.agg [.arr .i64 2 v20]) (by subst_vars; kernel_rfl) (w16 k hu0_0 hu0_1 c_v20)) (by kernel_rfl) (by subst_vars; kernel_rfl),⟨QF_at (i:=30) (d:=47) (x:=vb false) (show OpAt _ _ _ 30 47 _ from by exact At_bin (d:=47) (b:=.leq) (u:=.int .i64 x22) (v:=.int .i64 x23) (w':=.bool false) (by subst_vars; kernel_rfl) (by rw [show exBin .leq (.int .i64 x22) (.int .i64 x23) = some (.bool (decide (x22 ≤ x23))) from by kernel_rfl,← e_b24])) (by kernel_rfl) (by subst_vars; kernel_rfl),⟨QF_at (i:=35) (d:=52) (x:=vb false) (show OpAt _ _ _ 35 52 _ from by exact At_bin (d:=52) (b:=.gtr) (u:=.int .i64 x2) (v:=.int .i64 (0 : Int)) (w':=.bool false) (by subst_vars; kernel_rfl) (by rw [show exBin .gtr (.int .i64 x2) (.int .i64 (0 : Int)) = some (.bool (decide (x2 > (0 : Int)))) from by kernel_rfl,← e_b25])) (by kernel_rfl) (by subst_vars; kernel_rfl),trivial⟩⟩⟩⟩⟩⟩⟩⟩⟩⟩⟩) ?_
          refine thenQ_n ?_
          exact ⟨false,keep_sub (ts:=[2,3,4,7,8,9]) (hs:=[3,4]) (vs:=[]) (by subst_vars;kernel_rfl),h⟩
       | false =>
        replace h := sp_f h
        obtain ⟨b34,e_b34,h⟩ := lt_some h
        cases b34 with
        | true =>
         replace h := sp_t h
         obtain ⟨b35,e_b35,h⟩ := lt_some h
         cases b35 with
         | true =>
          replace h := sp_t h
          obtain ⟨g36,h⟩ := gd_some h
          obtain ⟨x37,e_x37,h⟩ := lt_some h
          obtain ⟨x38,e_x38,h⟩ := lt_some h
          obtain ⟨g39,h⟩ := gd_some h
          obtain ⟨x40,e_x40,h⟩ := lt_some h
          obtain ⟨x41,e_x41,h⟩ := lt_some h
          obtain ⟨b42,e_b42,h⟩ := lt_some h
          refine T_draw' (id:=5) [] [0,0,0,0,0,0,0,0,0,0,0,0,0,0,0,0,0,0,0,0,0,0,0,0,0,0,0,0,0,0,0,0,0,0,0,0,0,0,0,0,0,0,0,0,0,0,0,0,0,0,0,0,0,0,0,0] (by kernel_rfl) (by kernel_rfl) (by kernel_rfl) (by kernel_rfl) ((17,vi x2)::(18,vb true)::(19,vb true)::(20,.agg [.one (.v (.slice Au0_0 (u0_0.length) cu0_0)),.arr .i64 4 u0_1])::(21,.lf (.v (.slice Au2 (u2.length) cu2)))::(22,vi x2)::(23,vi x8)::(24,.lf (.ep (.slice Au2 (u2.length) cu2) 1 ((x8).toNat) 0))::(25,vi x10)::(26,vi x11)::(27,.agg [.arr .i64 2 v12])::(28,vi x14)::(29,.lf (.own 4 0))::(30,vi x15)::(31,vb false)::(32,vb false)::(33,vb false)::(34,vi x2)::(35,vi (u2.length : Int))::(36,vb false)::(37,vb false)::(38,.tup [])::(39,.tup [])::(40,.tup [])::(41,.tup [])::(42,.tup [])::(43,.tup [])::(44,.tup [])::(45,.tup [])::(46,.tup [])::(47,.tup [])::(48,vb false)::(49,vb false)::(50,vb false)::(51,vi x2)::(52,vb true)::(53,vb true)::(54,vi x2)::(55,vi (u2.length : Int))::(56,vb true)::(57,vb true)::(58,vb true)::(59,.lf (.v (.slice Au2 (u2.length) cu2)))::(60,vi x2)::(61,.lf (.ep (.slice Au2 (u2.length) cu2) 1 ((x2).toNat) 0))::(62,vi x37)::(63,.lf (.v (.slice Au2 (u2.length) cu2)))::(64,vi x2)::(65,vi x38)::(66,.lf (.ep (.slice Au2 (u2.length) cu2) 1 ((x38).toNat) 0))::(67,vi x40)::(68,vi x41)::(69,vb b42)::(70,vb b42)::(71,vb b42)::(9,vb b42)::[]) (by kernel_rfl) ⟨trivial,⟨trivial,⟨trivial,⟨⟨rfl,⟨hu0_1,trivial⟩⟩,⟨trivial,⟨trivial,⟨trivial,⟨trivial,⟨trivial,⟨trivial,⟨⟨g13,trivial⟩,⟨trivial,⟨trivial,⟨trivial,⟨trivial,⟨trivial,⟨trivial,⟨trivial,⟨trivial,⟨trivial,⟨trivial,⟨(by intro y hy;cases hy),⟨(by intro y hy;cases hy),⟨(by intro y hy;cases hy),⟨(by intro y hy;cases hy),⟨(by intro y hy;cases hy),⟨(by intro y hy;cases hy),⟨(by intro y hy;cases hy),⟨(by intro y hy;cases hy),⟨(by intro y hy;cases hy),⟨(by intro y hy;cases hy),⟨trivial,⟨trivial,⟨trivial,⟨trivial,⟨trivial,⟨trivial,⟨trivial,⟨trivial,⟨trivial,⟨trivial,⟨trivial,⟨trivial,⟨trivial,⟨trivial,⟨trivial,⟨trivial,⟨trivial,⟨trivial,⟨trivial,⟨trivial,⟨trivial,⟨trivial,⟨trivial,⟨trivial,⟨trivial,trivial⟩⟩⟩⟩⟩⟩⟩⟩⟩⟩⟩⟩⟩⟩⟩⟩⟩⟩⟩⟩⟩⟩⟩⟩⟩⟩⟩⟩⟩⟩⟩⟩⟩⟩⟩⟩⟩⟩⟩⟩⟩⟩⟩⟩⟩⟩⟩⟩⟩⟩⟩⟩⟩⟩⟩⟩ ?_
          refine Stage_nil (stage_all' [0,2,3,4,5,6,9,11,12,13,15,16,17,18,20,21,22,23,24,25,26,27,28,29,30,31,32,33,34,36,37,38,40,41,42,43,46,47,48,51,52,53,54,55] [1,7,8,10,14,19,35,39,44,45,49,50] (by kernel_rfl) (by subst_vars; kernel_rfl) (by kernel_rfl) ⟨QF_at (i:=1) (d:=18) (x:=vb true) (show OpAt _ _ _ 1 18 _ from by exact At_bin (d:=18) (b:=.gtr) (u:=.int .i64 x2) (v:=.int .i64 (0 : Int)) (w':=.bool true) (by subst_vars; kernel_rfl) (by rw [show exBin .gtr (.int .i64 x2) (.int .i64 (0 : Int)) = some (.bool (decide (x2 > (0 : Int)))) from by kernel_rfl,← e_b7])) (by kernel_rfl) (by subst_vars; kernel_rfl),⟨QF_at (i:=7) (d:=24) (x:=.lf (.ep (.slice Au2 (u2.length) cu2) 1 ((x8).toNat) 0)) (show OpAt _ _ _ 7 24 _ from by exact At_idxI (d:=24) (z:=x8) (by subst_vars; kernel_rfl) g9 hu2) (by kernel_rfl) (by subst_vars; kernel_rfl),⟨QF_at (i:=8) (d:=25) (x:=vi x10) (show OpAt _ _ _ 8 25 _ from by rw [e_x10]; exact At_ldI (d:=25) (q:=(x8).toNat) (by subst_vars; kernel_rfl) (toNat_lt g9) hu2) (by kernel_rfl) (by subst_vars; kernel_rfl),⟨QF_at (i:=10) (d:=27) (x:=.agg [.arr .i64 2 v12]) (show OpAt _ _ _ 10 27 _ from by exact At_call (d:=27) (f:=16) (args:=[rval (.agg [.one (.v (.slice Au0_0 (u0_0.length) cu0_0)),.arr .i64 4 u0_1]),rval (vi x11)]) (x:=.agg [.arr .i64 2 v12]) (by subst_vars; kernel_rfl) (w16 k hu0_0 hu0_1 c_v12)) (by kernel_rfl) (by subst_vars; kernel_rfl),⟨QF_at (i:=14) (d:=31) (x:=vb false) (show OpAt _ _ _ 14 31 _ from by exact At_bin (d:=31) (b:=.geq) (u:=.int .i64 x14) (v:=.int .i64 x15) (w':=.bool false) (by subst_vars; kernel_rfl) (by rw [show exBin .geq (.int .i64 x14) (.int .i64 x15) = some (.bool (decide (x14 ≥ x15))) from by kernel_rfl,← e_b16])) (by kernel_rfl) (by subst_vars; kernel_rfl),⟨QF_at (i:=19) (d:=36) (x:=vb false) (show OpAt _ _ _ 19 36 _ from by exact At_bin (d:=36) (b:=.lss) (u:=.int .i64 x2) (v:=.int .i64 (u2.length : Int)) (w':=.bool false) (by subst_vars; kernel_rfl) (by rw [show exBin .lss (.int .i64 x2) (.int .i64 (u2.length : Int)) = some (.bool (decide (x2 < (u2.length : Int)))) from by kernel_rfl,← e_b17])) (by kernel_rfl) (by subst_vars; kernel_rfl),⟨QF_at (i:=35) (d:=52) (x:=vb true) (show OpAt _ _ _ 35 52 _ from by exact At_bin (d:=52) (b:=.gtr) (u:=.int .i64 x2) (v:=.int .i64 (0 : Int)) (w':=.bool true) (by subst_vars; kernel_rfl) (by rw [show exBin .gtr (.int .i64 x2) (.int .i64 (0 : Int)) = some (.bool (decide (x2 > (0 : Int)))) from by kernel_rfl,← e_b34])) (by kernel_rfl) (by subst_vars; kernel_rfl),⟨QF_at (i:=39) (d:=56) (x:=vb true) (show OpAt _ _ _ 39 56 _ from by exact At_bin (d:=56) (b:=.lss) (u:=.int .i64 x2) (v:=.int .i64 (u2.length : Int)) (w':=.bool true) (by subst_vars; kernel_rfl) (by rw [show exBin .lss (.int .i64 x2) (.int .i64 (u2.length : Int)) = some (.bool (decide (x2 < (u2.length : Int)))) from by kernel_rfl,← e_b35])) (by kernel_rfl) (by subst_vars; kernel_rfl),⟨QF_at (i:=44) (d:=61) (x:=.lf (.ep (.slice Au2 (u2.length) cu2) 1 ((x2).toNat) 0)) (show OpAt _ _ _ 44 61 _ from by exact At_idxI (d:=61) (z:=x2) (by subst_vars; kernel_rfl) g36 hu2) (by kernel_rfl) (by subst_vars; kernel_rfl),⟨QF_at (i:=45) (d:=62) (x:=vi x37) (show OpAt _ _ _ 45 62 _ from by rw [e_x37]; exact At_ldI (d:=62) (q:=(x2).toNat) (by subst_vars; kernel_rfl) (toNat_lt g36) hu2) (by kernel_rfl) (by subst_vars; kernel_rfl),⟨QF_at (i:=49) (d:=66) (x:=.lf (.ep (.slice Au2 (u2.length) cu2) 1 ((x38).toNat) 0)) (show OpAt _ _ _ 49 66 _ from by exact At_idxI (d:=66) (z:=x38) (by subst_vars; kernel_rfl) g39 hu2) (by kernel_rfl) (by subst_vars; kernel_rfl),⟨QF_at (i:=50) (d:=67) (x:=vi x40) (show OpAt _ _ _ 50 67 _ from by rw [e_x40]; exact At_ldI (d:=67) (q:=(x38).toNat) (by subst_vars; kernel_rfl) (toNat_lt g39) hu2) (by kernel_rfl) (by subst_vars; kernel_rfl),trivial⟩⟩⟩⟩⟩⟩⟩⟩⟩⟩⟩⟩) ?_
          refine thenQ_n ?_
          exact ⟨b42,keep_sub (ts:=[2,3,4,7,8,9]) (hs:=[3,4]) (vs:=[]) (by subst_vars;kernel_rfl),h⟩
         | false =>
          replace h := sp_f h
          refine T_draw' (id:=5) [] [0,0,0,0,0,0,0,0,0,0,0,0,0,0,0,0,0,0,0,0,0,0,0,0,0,0,0,0,0,0,0,0,0,0,0,0,0,0,0,0,0,0,0,0,0,0,0,0,0,0,0,0,0,0,0,0] (by kernel_rfl) (by kernel_rfl) (by kernel_rfl) (by kernel_rfl) ((17,vi x2)::(18,vb true)::(19,vb true)::(20,.agg [.one (.v (.slice Au0_0 (u0_0.length) cu0_0)),.arr .i64 4 u0_1])::(21,.lf (.v (.slice Au2 (u2.length) cu2)))::(22,vi x2)::(23,vi x8)::(24,.lf (.ep (.slice Au2 (u2.length) cu2) 1 ((x8).toNat) 0))::(25,vi x10)::(26,vi x11)::(27,.agg [.arr .i64 2 v12])::(28,vi x14)::(29,.lf (.own 4 0))::(30,vi x15)::(31,vb false)::(32,vb false)::(33,vb false)::(34,vi x2)::(35,vi (u2.length : Int))::(36,vb false)::(37,vb false)::(38,.tup [])::(39,.tup [])::(40,.tup [])::(41,.tup [])::(42,.tup [])::(43,.tup [])::(44,.tup [])::(45,.tup [])::(46,.tup [])::(47,.tup [])::(48,vb false)::(49,vb false)::(50,vb false)::(51,vi x2)::(52,vb true)::(53,vb true)::(54,vi x2)::(55,vi (u2.length : Int))::(56,vb false)::(57,vb false)::(58,vb false)::(59,.tup [])::(60,.tup [])::(61,.tup [])::(62,.tup [])::(63,.tup [])::(64,.tup [])::(65,.tup [])::(66,.tup [])::(67,.tup [])::(68,.tup [])::(69,.tup [])::(70,vb false)::(71,vb false)::(9,vb false)::[]) (by kernel_rfl) ⟨trivial,⟨trivial,⟨trivial,⟨⟨rfl,⟨hu0_1,trivial⟩⟩,⟨trivial,⟨trivial,⟨trivial,⟨trivial,⟨trivial,⟨trivial,⟨⟨g13,trivial⟩,⟨trivial,⟨trivial,⟨trivial,⟨trivial,⟨trivial,⟨trivial,⟨trivial,⟨trivial,⟨trivial,⟨trivial,⟨(by intro y hy;cases hy),⟨(by intro y hy;cases hy),⟨(by intro y hy;cases hy),⟨(by intro y hy;cases hy),⟨(by intro y hy;cases hy),⟨(by intro y hy;cases hy),⟨(by intro y hy;cases hy),⟨(by intro y hy;cases hy),⟨(by intro y hy;cases hy),⟨(by intro y hy;cases hy),⟨trivial,⟨trivial,⟨trivial,⟨trivial,⟨trivial,⟨trivial,⟨trivial,⟨trivial,⟨trivial,⟨trivial,⟨trivial,⟨(by intro y hy;cases hy),⟨(by intro y hy;cases hy),⟨(by intro y hy;cases hy),⟨(by intro y hy;cases hy),⟨(by intro y hy;cases hy),⟨(by intro y hy;cases hy),⟨(by intro y hy;cases hy),⟨(by intro y hy;cases hy),⟨(by intro y hy;cases hy),⟨(by intro y hy;cases hy),⟨(by intro y hy;cases hy),⟨trivial,⟨trivial,⟨trivial,trivial⟩⟩⟩⟩⟩⟩⟩⟩⟩⟩⟩⟩⟩⟩⟩⟩⟩⟩⟩⟩⟩⟩⟩⟩⟩⟩⟩⟩⟩⟩⟩⟩⟩⟩⟩⟩⟩⟩⟩⟩⟩⟩⟩⟩⟩⟩⟩⟩⟩⟩⟩⟩⟩⟩⟩⟩ ?_
          refine Stage_nil (stage_all' [0,2,3,4,5,6,9,11,12,13,15,16,17,18,20,21,22,23,24,25,26,27,28,29,30,31,32,33,34,36,37,38,40,41,42,43,44,45,46,47,48,49,50,51,52,53,54,55] [1,7,8,10,14,19,35,39] (by kernel_rfl) (by subst_vars; kernel_rfl) (by kernel_rfl) ⟨QF_at (i:=1) (d:=18) (x:=vb true) (show OpAt _ _ _ 1 18 _ from by exact At_bin (d:=18) (b:=.gtr) (u:=.int .i64 x2) (v:=.int .i64 (0 : Int)) (w':=.bool true) (by subst_vars; kernel_rfl) (by rw [show exBin .gtr (.int .i64 x2) (.int .i64 (0 : Int)) = some (.bool (decide (x2 > (0 : Int)))) from by kernel_rfl,← e_b7])) (by kernel_rfl) (by subst_vars; kernel_rfl),⟨QF_at (i:=7) (d:=24) (x:=.lf (.ep (.slice Au2 (u2.length) cu2) 1 ((x8).toNat) 0)) (show OpAt _ _ _ 7 24 _ from by exact At_idxI (d:=24) (z:=x8) (by subst_vars; kernel_rfl) g9 hu2) (by kernel_rfl) (by subst_vars; kernel_rfl),⟨QF_at (i:=8) (d:=25) (x:=vi x10) (show OpAt _ _ _ 8 25 _ from by rw [e_x10]; exact At_ldI (d:=25) (q:=(x8).toNat) (by subst_vars; kernel_rfl) (toNat_lt g9) hu2) (by kernel_rfl) (by subst_vars; kernel_rfl),⟨QF_at (i:=10) (d:=27) (x:=.agg [.arr .i64 2 v12]) (show OpAt _ _ _ 10 27 _ from by exact At_call (d:=27) (f:=16) (args:=[rval (.agg [.one (.v (.slice Au0_0 (u0_0.length) cu0_0)),.arr .i64 4 u0_1]),rval (vi x11)]) (x:=.agg [.arr .i64 2 v12]) (by subst_vars; kernel_rfl) (w16 k hu0_0 hu0_1 c_v12)) (by kernel_rfl) (by subst_vars; kernel_rfl),⟨QF_at (i:=14) (d:=31) (x:=vb false) (show OpAt _ _ _ 14 31 _ from by exact At_bin (d:=31) (b:=.geq) (u:=.int .i64 x14) (v:=.int .i64 x15) (w':=.bool false) (by subst_vars; kernel_rfl) (by rw [show exBin .geq (.int .i64 x14) (.int .i64 x15) = some (.bool (decide (x14 ≥ x15))) from by kernel_rfl,← e_b16])) (by kernel_rfl) (by subst_vars; kernel_rfl),⟨QF_at (i:=19) (d:=36) (x:=vb false) (show OpAt _ _ _ 19 36 _ from by exact At_bin (d:=36) (b:=.lss) (u:=.int .i64 x2) (v:=.int .i64 (u2.length : Int)) (w':=.bool false) (by subst_vars; kernel_rfl) (by rw [show exBin .lss (.int .i64 x2) (.int .i64 (u2.length : Int)) = some (.bool (decide (x2 < (u2.length : Int)))) from by kernel_rfl,← e_b17])) (by kernel_rfl) (by subst_vars; kernel_rfl),⟨QF_at (i:=35) (d:=52) (x:=vb true) (show OpAt _ _ _ 35 52 _ from by exact At_bin (d:=52) (b:=.gtr) (u:=.int .i64 x2) (v:=.int .i64 (0 : Int)) (w':=.bool true) (by subst_vars; kernel_rfl) (by rw [show exBin .gtr (.int .i64 x2) (.int .i64 (0 : Int)) = some (.bool (decide (x2 > (0 : Int)))) from by kernel_rfl,← e_b34])) (by kernel_rfl) (by subst_vars; kernel_rfl),⟨QF_at (i:=39) (d:=56) (x:=vb false) (show OpAt _ _ _ 39 56 _ from by exact At_bin (d:=56) (b:=.lss) (u:=.int .i64 x2) (v:=.int .i64 (u2.length : Int)) (w':=.bool false) (by subst_vars; kernel_rfl) (by rw [show exBin .lss (.int .i64 x2) (.int .i64 (u2.length : Int)) = some (.bool (decide (x2 < (u2.length : Int)))) from by kernel_rfl,← e_b35])) (by kernel_rfl) (by subst_vars; kernel_rfl),trivial⟩⟩⟩⟩⟩⟩⟩⟩) ?_
          refine thenQ_n ?_
          exact ⟨false,keep_sub (ts:=[2,3,4,7,8,9]) (hs:=[3,4]) (vs:=[]) (by subst_vars;kernel_rfl),h⟩
        | false =>
         replace h := sp_f h
         refine T_draw' (id:=5) [] [0,0,0,0,0,0,0,0,0,0,0,0,0,0,0,0,0,0,0,0,0,0,0,0,0,0,0,0,0,0,0,0,0,0,0,0,0,0,0,0,0,0,0,0,0,0,0,0,0,0,0,0,0,0,0,0] (by kernel_rfl) (by kernel_rfl) (by kernel_rfl) (by kernel_rfl) ((17,vi x2)::(18,vb true)::(19,vb true)::(20,.agg [.one (.v (.slice Au0_0 (u0_0.length) cu0_0)),.arr .i64 4 u0_1])::(21,.lf (.v (.slice Au2 (u2.length) cu2)))::(22,vi x2)::(23,vi x8)::(24,.lf (.ep (.slice Au2 (u2.length) cu2) 1 ((x8).toNat) 0))::(25,vi x10)::(26,vi x11)::(27,.agg [.arr .i64 2 v12])::(28,vi x14)::(29,.lf (.own 4 0))::(30,vi x15)::(31,vb false)::(32,vb false)::(33,vb false)::(34,vi x2)::(35,vi (u2.length : Int))::(36,vb false)::(37,vb false)::(38,.tup [])::(39,.tup [])::(40,.tup [])::(41,.tup [])::(42,.tup [])::(43,.tup [])::(44,.tup [])::(45,.tup [])::(46,.tup [])::(47,.tup [])::(48,vb false)::(49,vb false)::(50,vb false)::(51,vi x2)::(52,vb false)::(53,vb false)::(54,.tup [])::(55,.tup [])::(56,.tup [])::(57,vb false)::(58,vb false)::(59,.tup [])::(60,.tup [])::(61,.tup [])::(62,.tup [])::(63,.tup [])::(64,.tup [])::(65,.tup [])::(66,.tup [])::(67,.tup [])::(68,.tup [])::(69,.tup [])::(70,vb false)::(71,vb false)::(9,vb false)::[]) (by kernel_rfl) ⟨trivial,⟨trivial,⟨trivial,⟨⟨rfl,⟨hu0_1,trivial⟩⟩,⟨trivial,⟨trivial,⟨trivial,⟨trivial,⟨trivial,⟨trivial,⟨⟨g13,trivial⟩,⟨trivial,⟨trivial,⟨trivial,⟨trivial,⟨trivial,⟨trivial,⟨trivial,⟨trivial,⟨trivial,⟨trivial,⟨(by intro y hy;cases hy),⟨(by intro y hy;cases hy),⟨(by intro y hy;cases hy),⟨(by intro y hy;cases hy),⟨(by intro y hy;cases hy),⟨(by intro y hy;cases hy),⟨(by intro y hy;cases hy),⟨(by intro y hy;cases hy),⟨(by intro y hy;cases hy),⟨(by intro y hy;cases hy),⟨trivial,⟨trivial,⟨trivial,⟨trivial,⟨trivial,⟨trivial,⟨(by intro y hy;cases hy),⟨(by intro y hy;cases hy),⟨(by intro y hy;cases hy),⟨trivial,⟨trivial,⟨(by intro y hy;cases hy),⟨(by intro y hy;cases hy),⟨(by intro y hy;cases hy),⟨(by intro y hy;cases hy),⟨(by intro y hy;cases hy),⟨(by intro y hy;cases hy),⟨(by intro y hy;cases hy),⟨(by intro y hy;cases hy),⟨(by intro y hy;cases hy),⟨(by intro y hy;cases hy),⟨(by intro y hy;cases hy),⟨trivial,⟨trivial,⟨trivial,trivial⟩⟩⟩⟩⟩⟩⟩⟩⟩⟩⟩⟩⟩⟩⟩⟩⟩⟩⟩⟩⟩⟩⟩⟩⟩⟩⟩⟩⟩⟩⟩⟩⟩⟩⟩⟩⟩⟩⟩⟩⟩⟩⟩⟩⟩⟩⟩⟩⟩⟩⟩⟩⟩⟩⟩⟩ ?_
         refine Stage_nil (stage_all' [0,2,3,4,5,6,9,11,12,13,15,16,17,18,20,21,22,23,24,25,26,27,28,29,30,31,32,33,34,36,37,38,39,40,41,42,43,44,45,46,47,48,49,50,51,52,53,54,55] [1,7,8,10,14,19,35] (by kernel_rfl) (by subst_vars; kernel_rfl) (by kernel_rfl) ⟨QF_at (i:=1) (d:=18) (x:=vb true) (show OpAt _ _ _ 1 18 _ from by exact At_bin (d:=18) (b:=.gtr) (u:=.int .i64 x2) (v:=.int .i64 (0 : Int)) (w':=.bool true) (by subst_vars; kernel_rfl) (by rw [show exBin .gtr (.int .i64 x2) (.int .i64 (0 : Int)) = some (.bool (decide (x2 > (0 : Int)))) from by kernel_rfl,← e_b7])) (by kernel_rfl) (by subst_vars; kernel_rfl),⟨QF_at (i:=7) (d:=24) (x:=.lf (.ep (.slice Au2 (u2.length) cu2) 1 ((x8).toNat) 0)) (show OpAt _ _ _ 7 24 _ from by exact At_idxI (d:=24) (z:=x8) (by subst_vars; kernel_rfl) g9 hu2) (by kernel_rfl) (by subst_vars; kernel_rfl),⟨QF_at (i:=8) (d:=25) (x:=vi x10) (show OpAt _ _ _ 8 25 _ from by rw [e_x10]; exact At_ldI (d:=25) (q:=(x8).toNat) (by subst_vars; kernel_rfl) (toNat_lt g9) hu2) (by kernel_rfl) (by subst_vars; kernel_rfl),⟨QF_at (i:=10) (d:=27) (x:=.agg [.arr .i64 2 v12]) (show OpAt _ _ _ 10 27 _ from by exact At_call (d:=27) (f:=16) (args:=[rval (.agg [.one (.v (.slice Au0_0 (u0_0.length) cu0_0)),.arr .i64 4 u0_1]),rval (vi x11)]) (x:=.agg [.arr .i64 2 v12]) (by subst_vars; kernel_rfl) (w16 k hu0_0 hu0_1 c_v12)) (by kernel_rfl) (by subst_vars; kernel_rfl),⟨QF_at (i:=14) (d:=31) (x:=vb false) (show OpAt _ _ _ 14 31 _ from by exact At_bin (d:=31) (b:=.geq) (u:=.int .i64 x14) (v:=.int .i64 x15) (w':=.bool false) (by subst_vars; kernel_rfl) (by rw [show exBin .geq (.int .i64 x14) (.int .i64 x15) = some (.bool (decide (x14 ≥ x15))) from by kernel_rfl,← e_b16])) (by kernel_rfl) (by subst_vars; kernel_rfl),⟨QF_at (i:=19) (d:=36) (x:=vb false) (show OpAt _ _ _ 19 36 _ from by exact At_bin (d:=36) (b:=.lss) (u:=.int .i64 x2) (v:=.int .i64 (u2.length : Int)) (w':=.bool false) (by subst_vars; kernel_rfl) (by rw [show exBin .lss (.int .i64 x2) (.int .i64 (u2.length : Int)) = some (.bool (decide (x2 < (u2.length : Int)))) from by kernel_rfl,← e_b17])) (by kernel_rfl) (by subst_vars; kernel_rfl),⟨QF_at (i:=35) (d:=52) (x:=vb false) (show OpAt _ _ _ 35 52 _ from by exact At_bin (d:=52) (b:=.gtr) (u:=.int .i64 x2) (v:=.int .i64 (0 : Int)) (w':=.bool false) (by subst_vars; kernel_rfl) (by rw [show exBin .gtr (.int .i64 x2) (.int .i64 (0 : Int)) = some (.bool (decide (x2 > (0 : Int)))) from by kernel_rfl,← e_b34])) (by kernel_rfl) (by subst_vars; kernel_rfl),trivial⟩⟩⟩⟩⟩⟩⟩) ?_
         refine thenQ_n ?_
         exact ⟨false,keep_sub (ts:=[2,3,4,7,8,9]) (hs:=[3,4]) (vs:=[]) (by subst_vars;kernel_rfl),h⟩
     | false =>
      replace h := sp_f h
      obtain ⟨b43,e_b43,h⟩ := lt_some h
      cases b43 with
      | true =>
       replace h := sp_t h
       obtain ⟨g44,h⟩ := gd_some h
       obtain ⟨x45,e_x45,h⟩ := lt_some h
       obtain ⟨v46,c_v46,h⟩ := cl_some h
       obtain ⟨g47,h⟩ := gd_some h
       obtain ⟨x48,e_x48,h⟩ := lt_some h
       obtain ⟨x49,e_x49,h⟩ := lt_some h
       obtain ⟨b50,e_b50,h⟩ := lt_some h
       cases b50 with
       | true =>
        replace h := sp_t h
        refine T_draw' (id:=5) [] [0,0,0,0,0,0,0,0,0,0,0,0,0,0,0,0,0,0,0,0,0,0,0,0,0,0,0,0,0,0,0,0,0,0,0,0,0,0,0,0,0,0,0,0,0,0,0,0,0,0,0,0,0,0,0,0] (by kernel_rfl) (by kernel_rfl) (by kernel_rfl) (by kernel_rfl) ((17,vi x2)::(18,vb false)::(19,vb false)::(20,.tup [])::(21,.tup [])::(22,.tup [])::(23,.tup [])::(24,.tup [])::(25,.tup [])::(26,.tup [])::(27,.tup [])::(28,.tup [])::(29,.tup [])::(30,.tup [])::(31,.tup [])::(32,vb false)::(33,vb false)::(34,vi x2)::(35,vi (u2.length : Int))::(36,vb true)::(37,vb true)::(38,.agg [.one (.v (.slice Au0_0 (u0_0.length) cu0_0)),.arr .i64 4 u0_1])::(39,.lf (.v (.slice Au2 (u2.length) cu2)))::(40,vi x2)::(41,.lf (.ep (.slice Au2 (u2.length) cu2) 1 ((x2).toNat) 0))::(42,vi x45)::(43,.agg [.arr .i64 2 v46])::(44,vi x48)::(45,.lf (.own 4 1))::(46,vi x49)::(47,vb true)::(48,vb true)::(49,vb true)::(50,vb true)::(51,.tup [])::(52,.tup [])::(53,.tup [])::(54,.tup [])::(55,.tup [])::(56,.tup [])::(57,.tup [])::(58,.tup [])::(59,.tup [])::(60,.tup [])::(61,.tup [])::(62,.tup [])::(63,.tup [])::(64,.tup [])::(65,.tup [])::(66,.tup [])::(67,.tup [])::(68,.tup [])::(69,.tup [])::(70,.tup [])::(71,vb true)::(9,vb true)::[]) (by kernel_rfl) ⟨trivial,⟨trivial,⟨trivial,⟨(by intro y hy;cases hy),⟨(by intro y hy;cases hy),⟨(by intro y hy;cases hy),⟨(by intro y hy;cases hy),⟨(by intro y hy;cases hy),⟨(by intro y hy;cases hy),⟨(by intro y hy;cases hy),⟨(by intro y hy;cases hy),⟨(by intro y hy;cases hy),⟨(by intro y hy;cases hy),⟨(by intro y hy;cases hy),⟨(by intro y hy;cases hy),⟨trivial,⟨trivial,⟨trivial,⟨trivial,⟨trivial,⟨trivial,⟨⟨rfl,⟨hu0_1,trivial⟩⟩,⟨trivial,⟨trivial,⟨trivial,⟨trivial,⟨⟨g47,trivial⟩,⟨trivial,⟨trivial,⟨trivial,⟨trivial,⟨trivial,⟨trivial,⟨trivial,⟨(by intro y hy;cases hy),⟨(by intro y hy;cases hy),⟨(by intro y hy;cases hy),⟨(by intro y hy;cases hy),⟨(by intro y hy;cases hy),⟨(by intro y hy;cases hy),⟨(by intro y hy;cases hy),⟨(by intro y hy;cases hy),⟨(by intro y hy;cases hy),⟨(by intro y hy;cases hy),⟨(by intro y hy;cases hy),⟨(by intro y hy;cases hy),⟨(by intro y hy;cases hy),⟨(by intro y hy;cases hy),⟨(by intro y hy;cases hy),⟨(by intro y hy;cases hy),⟨(by intro y hy;cases hy),⟨(by intro y hy;cases hy),⟨(by intro y hy;cases hy),⟨(by intro y hy;cases hy),⟨trivial,⟨trivial,trivial⟩⟩⟩⟩⟩⟩⟩⟩⟩⟩⟩⟩⟩⟩⟩⟩⟩⟩⟩⟩⟩⟩⟩⟩⟩⟩⟩⟩⟩⟩⟩⟩⟩⟩⟩⟩⟩⟩⟩⟩⟩⟩⟩⟩⟩⟩⟩⟩⟩⟩⟩⟩⟩⟩⟩⟩ ?_
        refine Stage_nil (stage_all' [0,2,3,4,5,6,7,8,9,10,11,12,13,14,15,16,17,18,20,21,22,23,27,28,29,31,32,33,34,35,36,37,38,39,40,41,42,43,44,45,46,47,48,49,50,51,52,53,54,55] [1,19,24,25,26,30] (by kernel_rfl) (by subst_vars; kernel_rfl) (by kernel_rfl) ⟨QF_at (i:=1) (d:=18) (x:=vb false) (show OpAt _ _ _ 1 18 _ from by exact At_bin (d:=18) (b:=.gtr) (u:=.int .i64 x2) (v:=.int .i64 (0 : Int)) (w':=.bool false) (by subst_vars; kernel_rfl) (by rw [show exBin .gtr (.int .i64 x2) (.int .i64 (0 : Int)) = some (.bool (decide (x2 > (0 : Int)))) from by kernel_rfl,← e_b7])) (by kernel_rfl) (by subst_vars; kernel_rfl),⟨QF_at (i:=19) (d:=36) (x:=vb true) (show OpAt _ _ _ 19 36 _ from by exact At_bin (d:=36) (b:=.lss) (u:=.int .i64 x2) (v:=.int .i64 (u2.length : Int)) (w':=.bool true) (by subst_vars; kernel_rfl) (by rw [show exBin .lss (.int .i64 x2) (.int .i64 (u2.length : Int)) = some (.bool (decide (x2 < (u2.length : Int)))) from by kernel_rfl,← e_b43])) (by kernel_rfl) (by subst_vars; kernel_rfl),⟨QF_at (i:=24) (d:=41) (x:=.lf (.ep (.slice Au2 (u2.length) cu2) 1 ((x2).toNat) 0)) (show OpAt _ _ _ 24 41 _ from by exact At_idxI (d:=41) (z:=x2) (by subst_vars; kernel_rfl) g44 hu2) (by kernel_rfl) (by subst_vars; kernel_rfl),⟨QF_at (i:=25) (d:=42) (x:=vi x45) (show OpAt _ _ _ 25 42 _ from by rw [e_x45]; exact At_ldI (d:=42) (q:=(x2).toNat) (by subst_vars; kernel_rfl) (toNat_lt g44) hu2) (by kernel_rfl) (by subst_vars; kernel_rfl),⟨QF_at (i:=26) (d:=43) (x:=.agg [.arr .i64 2 v46]) (show OpAt _ _ _ 26 43 _ from by exact At_call (d:=43) (f:=16) (args:=[rval (.agg [.one (.v (.slice Au0_0 (u0_0.length) cu0_0)),.arr .i64 4 u0_1]),rval (vi x45)]) (x:=.agg [.arr .i64 2 v46]) (by subst_vars; kernel_rfl) (w16 k hu0_0 hu0_1 c_v46)) (by kernel_rfl) (by subst_vars; kernel_rfl),⟨QF_at (i:=30) (d:=47) (x:=vb true) (show OpAt _ _ _ 30 47 _ from by exact At_bin (d:=47) (b:=.leq) (u:=.int .i64 x48) (v:=.int .i64 x49) (w':=.bool true) (by subst_vars; kernel_rfl) (by rw [show exBin .leq (.int .i64 x48) (.int .i64 x49) = some (.bool (decide (x48 ≤ x49))) from by kernel_rfl,← e_b50])) (by kernel_rfl) (by subst_vars; kernel_rfl),trivial⟩⟩⟩⟩⟩⟩) ?_
        refine thenQ_n ?_
        exact ⟨true,keep_sub (ts:=[2,3,4,7,8,9]) (hs:=[3,4]) (vs:=[]) (by subst_vars;kernel_rfl),h⟩
       | false =>
        replace h := sp_f h
        obtain ⟨b51,e_b51,h⟩ := lt_some h
        cases b51 with
        | true =>
         replace h := sp_t h
         obtain ⟨b52,e_b52,h⟩ := lt_some h
         cases b52 with
         | true =>
          replace h := sp_t h
          obtain ⟨g53,h⟩ := gd_some h
          obtain ⟨x54,e_x54,h⟩ := lt_some h
          obtain ⟨x55,e_x55,h⟩ := lt_some h
          obtain ⟨g56,h⟩ := gd_some h
          obtain ⟨x57,e_x57,h⟩ := lt_some h
          obtain ⟨x58,e_x58,h⟩ := lt_some h
          obtain ⟨b59,e_b59,h⟩ := lt_some h
          refine T_draw' (id:=5) [] [0,0,0,0,0,0,0,0,0,0,0,0,0,0,0,0,0,0,0,0,0,0,0,0,0,0,0,0,0,0,0,0,0,0,0,0,0,0,0,0,0,0,0,0,0,0,0,0,0,0,0,0,0,0,0,0] (by kernel_rfl) (by kernel_rfl) (by kernel_rfl) (by kernel_rfl) ((17,vi x2)::(18,vb false)::(19,vb false)::(20,.tup [])::(21,.tup [])::(22,.tup [])::(23,.tup [])::(24,.tup [])::(25,.tup [])::(26,.tup [])::(27,.tup [])::(28,.tup [])::(29,.tup [])::(30,.tup [])::(31,.tup [])::(32,vb false)::(33,vb false)::(34,vi x2)::(35,vi (u2.length : Int))::(36,vb true)::(37,vb true)::(38,.agg [.one (.v (.slice Au0_0 (u0_0.length) cu0_0)),.arr .i64 4 u0_1])::(39,.lf (.v (.slice Au2 (u2.length) cu2)))::(40,vi x2)::(41,.lf (.ep (.slice Au2 (u2.length) cu2) 1 ((x2).toNat) 0))::(42,vi x45)::(43,.agg [.arr .i64 2 v46])::(44,vi x48)::(45,.lf (.own 4 1))::(46,vi x49)::(47,vb false)::(48,vb false)::(49,vb false)::(50,vb false)::(51,vi x2)::(52,vb true)::(53,vb true)::(54,vi x2)::(55,vi (u2.length : Int))::(56,vb true)::(57,vb true)::(58,vb true)::(59,.lf (.v (.slice Au2 (u2.length) cu2)))::(60,vi x2)::(61,.lf (.ep (.slice Au2 (u2.length) cu2) 1 ((x2).toNat) 0))::(62,vi x54)::(63,.lf (.v (.slice Au2 (u2.length) cu2)))::(64,vi x2)::(65,vi x55)::(66,.lf (.ep (.slice Au2 (u2.length) cu2) 1 ((x55).toNat) 0))::(67,vi x57)::(68,vi x58)::(69,vb b59)::(70,vb b59)::(71,vb b59)::(9,vb b59)::[]) (by kernel_rfl) ⟨trivial,⟨trivial,⟨trivial,⟨(by intro y hy;cases hy),⟨(by intro y hy;cases hy),⟨(by intro y hy;cases hy),⟨(by intro y hy;cases hy),⟨(by intro y hy;cases hy),⟨(by intro y hy;cases hy),⟨(by intro y hy;cases hy),⟨(by intro y hy;cases hy),⟨(by intro y hy;cases hy),⟨(by intro y hy;cases hy),⟨(by intro y hy;cases hy),⟨(by intro y hy;cases hy),⟨trivial,⟨trivial,⟨trivial,⟨trivial,⟨trivial,⟨trivial,⟨⟨rfl,⟨hu0_1,trivial⟩⟩,⟨trivial,⟨trivial,⟨trivial,⟨trivial,⟨⟨g47,trivial⟩,⟨trivial,⟨trivial,⟨trivial,⟨trivial,⟨trivial,⟨trivial,⟨trivial,⟨trivial,⟨trivial,⟨trivial,⟨trivial,⟨trivial,⟨trivial,⟨trivial,⟨trivial,⟨trivial,⟨trivial,⟨trivial,⟨trivial,⟨trivial,⟨trivial,⟨trivial,⟨trivial,⟨trivial,⟨trivial,⟨trivial,⟨trivial,⟨trivial,⟨trivial,trivial⟩⟩⟩⟩⟩⟩⟩⟩⟩⟩⟩⟩⟩⟩⟩⟩⟩⟩⟩⟩⟩⟩⟩⟩⟩⟩⟩⟩⟩⟩⟩⟩⟩⟩⟩⟩⟩⟩⟩⟩⟩⟩⟩⟩⟩⟩⟩⟩⟩⟩⟩⟩⟩⟩⟩⟩ ?_
          refine Stage_nil (stage_all' [0,2,3,4,5,6,7,8,9,10,11,12,13,14,15,16,17,18,20,21,22,23,27,28,29,31,32,33,34,36,37,38,40,41,42,43,46,47,48,51,52,53,54,55] [1,19,24,25,26,30,35,39,44,45,49,50] (by kernel_rfl) (by subst_vars; kernel_rfl) (by kernel_rfl) ⟨QF_at (i:=1) (d:=18) (x:=vb false) (show OpAt _ _ _ 1 18 _ from by exact At_bin (d:=18) (b:=.gtr) (u:=.int .i64 x2) (v:=.int .i64 (0 : Int)) (w':=.bool false) (by subst_vars; kernel_rfl) (by rw [show exBin .gtr (.int .i64 x2) (.int .i64 (0 : Int)) = some (.bool (decide (x2 > (0 : Int)))) from by kernel_rfl,← e_b7])) (by kernel_rfl) (by subst_vars; kernel_rfl),⟨QF_at (i:=19) (d:=36) (x:=vb true) (show OpAt _ _ _ 19 36 _ from by exact At_bin (d:=36) (b:=.lss) (u:=.int .i64 x2) (v:=.int .i64 (u2.length : Int)) (w':=.bool true) (by subst_vars; kernel_rfl) (by rw [show exBin .lss (.int .i64 x2) (.int .i64 (u2.length : Int)) = some (.bool (decide (x2 < (u2.length : Int)))) from by kernel_rfl,← e_b43])) (by kernel_rfl) (by subst_vars; kernel_rfl),⟨QF_at (i:=24) (d:=41) (x:=.lf (.ep (.slice Au2 (u2.length) cu2) 1 ((x2).toNat) 0)) (show OpAt _ _ _ 24 41 _ from by exact At_idxI (d:=41) (z:=x2) (by subst_vars; kernel_rfl) g44 hu2) (by kernel_rfl) (by subst_vars; kernel_rfl),⟨QF_at (i:=25) (d:=42) (x:=vi x45) (show OpAt _ _ _ 25 42 _ from by rw [e_x45]; exact At_ldI (d:=42) (q:=(x2).toNat) (by subst_vars; kernel_rfl) (toNat_lt g44) hu2) (by kernel_rfl) (by subst_vars; kernel_rfl),⟨QF_at (i:=26) (d:=43) (x:=.agg [.arr .i64 2 v46]) (show OpAt _ _ _ 26 43 _ from by exact At_call (d:=43) (f:=16) (args:=[rval (.agg [.one (.v (.slice Au0_0 (u0_0.length) cu0_0)),.arr .i64 4 u0_1]),rval (vi x45)]) (x:=.agg [.arr .i64 2 v46]) (by subst_vars; kernel_rfl) (w16 k hu0_0 hu0_1 c_v46)) (by kernel_rfl) (by subst_vars; kernel_rfl),⟨QF_at (i:=30) (d:=47) (x:=vb false) (show OpAt _ _ _ 30 47 _ from by exact At_bin (d:=47) (b:=.leq) (u:=.int .i64 x48) (v:=.int .i64 x49) (w':=.bool false) (by subst_vars; kernel_rfl) (by rw [show exBin .leq (.int .i64 x48) (.int .i64 x49) = some (.bool (decide (x48 ≤ x49))) from by kernel_rfl,← e_b50])) (by kernel_rfl) (by subst_vars; kernel_rfl),⟨QF_at (i:=35) (d:=52) (x:=vb true) (show OpAt _ _ _ 35 52 _ from by exact At_bin (d:=52) (b:=.gtr) (u:=.int .i64 x2) (v:=.int .i64 (0 : Int)) (w':=.bool true) (by subst_vars; kernel_rfl) (by rw [show exBin .gtr (.int .i64 x2) (.int .i64 (0 : Int)) = some (.bool (decide (x2 > (0 : Int)))) from by kernel_rfl,← e_b51])) (by kernel_rfl) (by subst_vars; kernel_rfl),⟨QF_at (i:=39) (d:=56) (x:=vb true) (show OpAt _ _ _ 39 56 _ from by exact At_bin (d:=56) (b:=.lss) (u:=.int .i64 x2) (v:=.int .i64 (u2.length : Int)) (w':=.bool true) (by subst_vars; kernel_rfl) (by rw [show exBin .lss (.int .i64 x2) (.int .i64 (u2.length : Int)) = some (.bool (decide (x2 < (u2.length : Int)))) from by kernel_rfl,← e_b52])) (by kernel_rfl) (by subst_vars; kernel_rfl),⟨QF_at (i:=44) (d:=61) (x:=.lf (.ep (.slice Au2 (u2.length) cu2) 1 ((x2).toNat) 0)) (show OpAt _ _ _ 44 61 _ from by exact At_idxI (d:=61) (z:=x2) (by subst_vars; kernel_rfl) g53 hu2) (by kernel_rfl) (by subst_vars; kernel_rfl),⟨QF_at (i:=45) (d:=62) (x:=vi x54) (show OpAt _ _ _ 45 62 _ from by rw [e_x54]; exact At_ldI (d:=62) (q:=(x2).toNat) (by subst_vars; kernel_rfl) (toNat_lt g53) hu2) (by kernel_rfl) (by subst_vars; kernel_rfl),⟨QF_at (i:=49) (d:=66) (x:=.lf (.ep (.slice Au2 (u2.length) cu2) 1 ((x55).toNat) 0)) (show OpAt _ _ _ 49 66 _ from by exact At_idxI (d:=66) (z:=x55) (by subst_vars; kernel_rfl) g56 hu2) (by kernel_rfl) (by subst_vars; kernel_rfl),⟨QF_at (i:=50) (d:=67) (x:=vi x57) (show OpAt _ _ _ 50 67 _ from by rw [e_x57]; exact At_ldI (d:=67) (q:=(x55).toNat) (by subst_vars; kernel_rfl) (toNat_lt g56) hu2) (by kernel_rfl) (by subst_vars; kernel_rfl),trivial⟩⟩⟩⟩⟩⟩⟩⟩⟩⟩⟩⟩) ?_
          refine thenQ_n ?_
          exact ⟨b59,keep_sub (ts:=[2,3,4,7,8,9]) (hs:=[3,4]) (vs:=[]) (by subst_vars;kernel_rfl),h⟩
         | false =>
          replace h := sp_f h
          refine T_draw' (id:=5) [] [0,0,0,0,0,0,0,0,0,0,0,0,0,0,0,0,0,0,0,0,0,0,0,0,0,0,0,0,0,0,0,0,0,0,0,0,0,0,0,0,0,0,0,0,0,0,0,0,0,0,0,0,0,0,0,0] (by kernel_rfl) (by kernel_rfl) (by kernel_rfl) (by kernel_rfl) ((17,vi x2)::(18,vb false)::(19,vb false)::(20,.tup [])::(21,.tup [])::(22,.tup [])::(23,.tup [])::(24,.tup [])::(25,.tup [])::(26,.tup [])::(27,.tup [])::(28,.tup [])::(29,.tup [])::(30,.tup [])::(31,.tup [])::(32,vb false)::(33,vb false)::(34,vi x2)::(35,vi (u2.length : Int))::(36,vb true)::(37,vb true)::(38,.agg [.one (.v (.slice Au0_0 (u0_0.length) cu0_0)),.arr .i64 4 u0_1])::(39,.lf (.v (.slice Au2 (u2.length) cu2)))::(40,vi x2)::(41,.lf (.ep (.slice Au2 (u2.length) cu2) 1 ((x2).toNat) 0))::(42,vi x45)::(43,.agg [.arr .i64 2 v46])::(44,vi x48)::(45,.lf (.own 4 1))::(46,vi x49)::(47,vb false)::(48,vb false)::(49,vb false)::(50,vb false)::(51,vi x2)::(52,vb true)::(53,vb true)::(54,vi x2)::(55,vi (u2.length : Int))::(56,vb false)::(57,vb false)::(58,vb false)::(59,.tup [])::(60,.tup [])::(61,.tup [])::(62,.tup [])::(63,.tup [])::(64,.tup [])::(65,.tup [])::(66,.tup [])::(67,.tup [])::(68,.tup [])::(69,.tup [])::(70,vb false)::(71,vb false)::(9,vb false)::[]) (by kernel_rfl) ⟨trivial,⟨trivial,⟨trivial,⟨(by intro y hy;cases hy),⟨(by intro y hy;cases hy),⟨(by intro y hy;cases hy),⟨(by intro y hy;cases hy),⟨(by intro y hy;cases hy),⟨(by intro y hy;cases hy),⟨(by intro y hy;cases hy),⟨(by intro y hy;cases hy),⟨(by intro y hy;cases hy),⟨(by intro y hy;cases hy),⟨(by intro y hy;cases hy),⟨(by intro y hy;cases hy),⟨trivial,⟨trivial,⟨trivial,⟨trivial,⟨trivial,⟨trivial,⟨⟨rfl,⟨hu0_1,trivial⟩⟩,⟨trivial,⟨trivial,⟨trivial,⟨trivial,⟨⟨g47,trivial⟩,⟨trivial,⟨trivial,⟨trivial,⟨trivial,⟨trivial,⟨trivial,⟨trivial,⟨trivial,⟨trivial,⟨trivial,⟨trivial,⟨trivial,⟨trivial,⟨trivial,⟨trivial,⟨(by intro y hy;cases hy),⟨(by intro y hy;cases hy),⟨(by intro y hy;cases hy),⟨(by intro y hy;cases hy),⟨(by intro y hy;cases hy),⟨(by intro y hy;cases hy),⟨(by intro y hy;cases hy),⟨(by intro y hy;cases hy),⟨(by intro y hy;cases hy),⟨(by intro y hy;cases hy),⟨(by intro y hy;cases hy),⟨trivial,⟨trivial,⟨trivial,trivial⟩⟩⟩⟩⟩⟩⟩⟩⟩⟩⟩⟩⟩⟩⟩⟩⟩⟩⟩⟩⟩⟩⟩⟩⟩⟩⟩⟩⟩⟩⟩⟩⟩⟩⟩⟩⟩⟩⟩⟩⟩⟩⟩⟩⟩⟩⟩⟩⟩⟩⟩⟩⟩⟩⟩⟩ ?_
          refine Stage_nil (stage_all' [0,2,3,4,5,6,7,8,9,10,11,12,13,14,15,16,17,18,20,21,22,23,27,28,29,31,32,33,34,36,37,38,40,41,42,43,44,45,46,47,48,49,50,51,52,53,54,55] [1,19,24,25,26,30,35,39] (by kernel_rfl) (by subst_vars; kernel_rfl) (by kernel_rfl) ⟨QF_at (i:=1) (d:=18) (x:=vb false) (show OpAt _ _ _ 1 18 _ from by exact At_bin (d:=18) (b:=.gtr) (u:=.int .i64 x2) (v:=.int .i64 (0 : Int)) (w':=.bool false) (by subst_vars; kernel_rfl) (by rw [show exBin .gtr (.int .i64 x2) (.int .i64 (0 : Int)) = some (.bool (decide (x2 > (0 : Int)))) from by kernel_rfl,← e_b7])) (by kernel_rfl) (by subst_vars; kernel_rfl),⟨QF_at (i:=19) (d:=36) (x:=vb true) (show OpAt _ _ _ 19 36 _ from by exact At_bin (d:=36) (b:=.lss) (u:=.int .i64 x2) (v:=.int .i64 (u2.length : Int)) (w':=.bool true) (by subst_vars; kernel_rfl) (by rw [show exBin .lss (.int .i64 x2) (.int .i64 (u2.length : Int)) = some (.bool (decide (x2 < (u2.length : Int)))) from by kernel_rfl,← e_b43])) (by kernel_rfl) (by subst_vars; kernel_rfl),⟨QF_at (i:=24) (d:=41) (x:=.lf (.ep (.slice Au2 (u2.length) cu2) 1 ((x2).toNat) 0)) (show OpAt _ _ _ 24 41 _ from by exact At_idxI (d:=41) (z:=x2) (by subst_vars; kernel_rfl) g44 hu2) (by kernel_rfl) (by subst_vars; kernel_rfl),⟨QF_at (i:=25) (d:=42) (x:=vi x45) (show OpAt _ _ _ 25 42 _ from by rw [e_x45]; exact At_ldI (d:=42) (q:=(x2).toNat) (by subst_vars; kernel_rfl) (toNat_lt g44) hu2) (by kernel_rfl) (by subst_vars; kernel_rfl),⟨QF_at (i:=26) (d:=43) (x:=.agg [.arr .i64 2 v46]) (show OpAt _ _ _ 26 43 _ from by exact At_call (d:=43) (f:=16) (args:=[rval (.agg [.one (.v (.slice Au0_0 (u0_0.length) cu0_0)),.arr .i64 4 u0_1]),rval (vi x45)]) (x:=.agg [.arr .i64 2 v46]) (by subst_vars; kernel_rfl) (w16 k hu0_0 hu0_1 c_v46)) (by kernel_rfl) (by subst_vars; kernel_rfl),⟨QF_at (i:=30) (d:=47) (x:=vb false) (show OpAt _ _ _ 30 47 _ from by exact At_bin (d:=47) (b:=.leq) (u:=.int .i64 x48) (v:=.int .i64 x49) (w':=.bool false) (by subst_vars; kernel_rfl) (by rw [show exBin .leq (.int .i64 x48) (.int .i64 x49) = some (.bool (decide (x48 ≤ x49))) from by kernel_rfl,← e_b50])) (by kernel_rfl) (by subst_vars; kernel_rfl),⟨QF_at (i:=35) (d:=52) (x:=vb true) (show OpAt _ _ _ 35 52 _ from by exact At_bin (d:=52) (b:=.gtr) (u:=.int .i64 x2) (v:=.int .i64 (0 : Int)) (w':=.bool true) (by subst_vars; kernel_rfl) (by rw [show exBin .gtr (.int .i64 x2) (.int .i64 (0 : Int)) = some (.bool (decide (x2 > (0 : Int)))) from by kernel_rfl,← e_b51])) (by kernel_rfl) (by subst_vars; kernel_rfl),⟨QF_at (i:=39) (d:=56) (x:=vb false) (show OpAt _ _ _ 39 56 _ from by exact At_bin (d:=56) (b:=.lss) (u:=.int .i64 x2) (v:=.int .i64 (u2.length : Int)) (w':=.bool false) (by subst_vars; kernel_rfl) (by rw [show exBin .lss (.int .i64 x2) (.int .i64 (u2.length : Int)) = some (.bool (decide (x2 < (u2.length : Int)))) from by kernel_rfl,← e_b52])) (by kernel_rfl) (by subst_vars; kernel_rfl),trivial⟩⟩⟩⟩⟩⟩⟩⟩) ?_
          refine thenQ_n ?_
          exact ⟨false,keep_sub (ts:=[2,3,4,7,8,9]) (hs:=[3,4]) (vs:=[]) (by subst_vars;kernel_rfl),h⟩
        | false =>
         replace h := sp_f h
         refine T_draw' (id:=5) [] [0,0,0,0,0,0,0,0,0,0,0,0,0,0,0,0,0,0,0,0,0,0,0,0,0,0,0,0,0,0,0,0,0,0,0,0,0,0,0,0,0,0,0,0,0,0,0,0,0,0,0,0,0,0,0,0] (by kernel_rfl) (by kernel_rfl) (by kernel_rfl) (by kernel_rfl) ((17,vi x2)::(18,vb false)::(19,vb false)::(20,.tup [])::(21,.tup [])::(22,.tup [])::(23,.tup [])::(24,.tup [])::(25,.tup [])::(26,.tup [])::(27,.tup [])::(28,.tup [])::(29,.tup [])::(30,.tup [])::(31,.tup [])::(32,vb false)::(33,vb false)::(34,vi x2)::(35,vi (u2.length : Int))::(36,vb true)::(37,vb true)::(38,.agg [.one (.v (.slice Au0_0 (u0_0.length) cu0_0)),.arr .i64 4 u0_1])::(39,.lf (.v (.slice Au2 (u2.length) cu2)))::(40,vi x2)::(41,.lf (.ep (.slice Au2 (u2.length) cu2) 1 ((x2).toNat) 0))::(42,vi x45)::(43,.agg [.arr .i64 2 v46])::(44,vi x48)::(45,.lf (.own 4 1))::(46,vi x49)::(47,vb false)::(48,vb false)::(49,vb false)::(50,vb false)::(51,vi x2)::(52,vb false)::(53,vb false)::(54,.tup [])::(55,.tup [])::(56,.tup [])::(57,vb false)::(58,vb false)::(59,.tup [])::(60,.tup [])::(61,.tup [])::(62,.tup [])::(63,.tup [])::(64,.tup [])::(65,.tup [])::(66,.tup [])::(67,.tup [])::(68,.tup [])::(69,.tup [])::(70,vb false)::(71,vb false)::(9,vb false)::[]) (by kernel_rfl) ⟨trivial,⟨trivial,⟨trivial,⟨(by intro y hy;cases hy),⟨(by intro y hy;cases hy),⟨(by intro y hy;cases hy),⟨(by intro y hy;cases hy),⟨(by intro y hy;cases hy),⟨(by intro y hy;cases hy),⟨(by intro y hy;cases hy),⟨(by intro y hy;cases hy),⟨(by intro y hy;cases hy),⟨(by intro y hy;cases hy),⟨(by intro y hy;cases hy),⟨(by intro y hy;cases hy),⟨trivial,⟨trivial,⟨trivial,⟨trivial,⟨trivial,⟨trivial,⟨⟨rfl,⟨hu0_1,trivial⟩⟩,⟨trivial,⟨trivial,⟨trivial,⟨trivial,⟨⟨g47,trivial⟩,⟨trivial,⟨trivial,⟨trivial,⟨trivial,⟨trivial,⟨trivial,⟨trivial,⟨trivial,⟨trivial,⟨trivial,⟨(by intro y hy;cases hy),⟨(by intro y hy;cases hy),⟨(by intro y hy;cases hy),⟨trivial,⟨trivial,⟨(by intro y hy;cases hy),⟨(by intro y hy;cases hy),⟨(by intro y hy;cases hy),⟨(by intro y hy;cases hy),⟨(by intro y hy;cases hy),⟨(by intro y hy;cases hy),⟨(by intro y hy;cases hy),⟨(by intro y hy;cases hy),⟨(by intro y hy;cases hy),⟨(by intro y hy;cases hy),⟨(by intro y hy;cases hy),⟨trivial,⟨trivial,⟨trivial,trivial⟩⟩⟩⟩⟩⟩⟩⟩⟩⟩⟩⟩⟩⟩⟩⟩⟩⟩⟩⟩⟩⟩⟩⟩⟩⟩⟩⟩⟩⟩⟩⟩⟩⟩⟩⟩⟩⟩⟩⟩⟩⟩⟩⟩⟩⟩⟩⟩⟩⟩⟩⟩⟩⟩⟩⟩ ?_
         refine Stage_nil (stage_all' [0,2,3,4,5,6,7,8,9,10,11,12,13,14,15,16,17,18,20,21,22,23,27,28,29,31,32,33,34,36,37,38,39,40,41,42,43,44,45,46,47,48,49,50,51,52,53,54,55] [1,19,24,25,26,30,35] (by kernel_rfl) (by subst_vars; kernel_rfl) (by kernel_rfl) ⟨QF_at (i:=1) (d:=18) (x:=vb false) (show OpAt _ _ _ 1 18 _ from by exact At_bin (d:=18) (b:=.gtr) (u:=.int .i64 x2) (v:=.int .i64 (0 : Int)) (w':=.bool false) (by subst_vars; kernel_rfl) (by rw [show exBin .gtr (.int .i64 x2) (.int .i64 (0 : Int)) = some (.bool (decide (x2 > (0 : Int)))) from by kernel_rfl,← e_b7])) (by kernel_rfl) (by subst_vars; kernel_rfl),⟨QF_at (i:=19) (d:=36) (x:=vb true) (show OpAt _ _ _ 19 36 _ from by exact At_bin (d:=36) (b:=.lss) (u:=.int .i64 x2) (v:=.int .i64 (u2.length : Int)) (w':=.bool true) (by subst_vars; kernel_rfl) (by rw [show exBin .lss (.int .i64 x2) (.int .i64 (u2.length : Int)) = some (.bool (decide (x2 < (u2.length : Int)))) from by kernel_rfl,← e_b43])) (by kernel_rfl) (by subst_vars; kernel_rfl),⟨QF_at (i:=24) (d:=41) (x:=.lf (.ep (.slice Au2 (u2.length) cu2) 1 ((x2).toNat) 0)) (show OpAt _ _ _ 24 41 _ from by exact At_idxI (d:=41) (z:=x2) (by subst_vars; kernel_rfl) g44 hu2) (by kernel_rfl) (by subst_vars; kernel_rfl),⟨QF_at (i:=25) (d:=42) (x:=vi x45) (show OpAt _ _ _ 25 42 _ from by rw [e_x45]; exact At_ldI (d:=42) (q:=(x2).toNat) (by subst_vars; kernel_rfl) (toNat_lt g44) hu2) (by kernel_rfl) (by subst_vars; kernel_rfl),⟨QF_at (i:=26) (d:=43) (x:=.agg [.arr .i64 2 v46]) (show OpAt _ _ _ 26 43 _ from by exact At_call (d:=43) (f:=16) (args:=[rval (.agg [.one (.v (.slice Au0_0 (u0_0.length) cu0_0)),.arr .i64 4 u0_1]),rval (vi x45)]) (x:=.agg [.arr .i64 2 v46]) (by subst_vars; kernel_rfl) (w16 k hu0_0 hu0_1 c_v46)) (by kernel_rfl) (by subst_vars; kernel_rfl),⟨QF_at (i:=30) (d:=47) (x:=vb false) (show OpAt _ _ _ 30 47 _ from by exact At_bin (d:=47) (b:=.leq) (u:=.int .i64 x48) (v:=.int .i64 x49) (w':=.bool false) (by subst_vars; kernel_rfl) (by rw [show exBin .leq (.int .i64 x48) (.int .i64 x49) = some (.bool (decide (x48 ≤ x49))) from by kernel_rfl,← e_b50])) (by kernel_rfl) (by subst_vars; kernel_rfl),⟨QF_at (i:=35) (d:=52) (x:=vb false) (show OpAt _ _ _ 35 52 _ from by exact At_bin (d:=52) (b:=.gtr) (u:=.int .i64 x2) (v:=.int .i64 (0 : Int)) (w':=.bool false) (by subst_vars; kernel_rfl) (by rw [show exBin .gtr (.int .i64 x2) (.int .i64 (0 : Int)) = some (.bool (decide (x2 > (0 : Int)))) from by kernel_rfl,← e_b51])) (by kernel_rfl) (by subst_vars; kernel_rfl),trivial⟩⟩⟩⟩⟩⟩⟩) ?_
         refine thenQ_n ?_
         exact ⟨false,keep_sub (ts:=[2,3,4,7,8,9]) (hs:=[3,4]) (vs:=[]) (by subst_vars;kernel_rfl),h⟩
      | false =>
       replace h := sp_f h
       obtain ⟨b60,e_b60,h⟩ := lt_some h
       cases b60 with
       | true =>
        replace h := sp_t h
        obtain ⟨b61,e_b61,h⟩ := lt_some h
        cases b61 with
        | true =>
         replace h := sp_t h
         obtain ⟨g62,h⟩ := gd_some h
         obtain ⟨x63,e_x63,h⟩ := lt_some h
         obtain ⟨x64,e_x64,h⟩ := lt_some h
         obtain ⟨g65,h⟩ := gd_some h
         obtain ⟨x66,e_x66,h⟩ := lt_some h
         obtain ⟨x67,e_x67,h⟩ := lt_some h
         obtain ⟨b68,e_b68,h⟩ := lt_some h
         refine T_draw' (id:=5) [] [0,0,0,0,0,0,0,0,0,0,0,0,0,0,0,0,0,0,0,0,0,0,0,0,0,0,0,0,0,0,0,0,0,0,0,0,0,0,0,0,0,0,0,0,0,0,0,0,0,0,0,0,0,0,0,0] (by kernel_rfl) (by kernel_rfl) (by kernel_rfl) (by kernel_rfl) ((17,vi x2)::(18,vb false)::(19,vb false)::(20,.tup [])::(21,.tup [])::(22,.tup [])::(23,.tup [])::(24,.tup [])::(25,.tup [])::(26,.tup [])::(27,.tup [])::(28,.tup [])::(29,.tup [])::(30,.tup [])::(31,.tup [])::(32,vb false)::(33,vb false)::(34,vi x2)::(35,vi (u2.length : Int))::(36,vb false)::(37,vb false)::(38,.tup [])::(39,.tup [])::(40,.tup [])::(41,.tup [])::(42,.tup [])::(43,.tup [])::(44,.tup [])::(45,.tup [])::(46,.tup [])::(47,.tup [])::(48,vb false)::(49,vb false)::(50,vb false)::(51,vi x2)::(52,vb true)::(53,vb true)::(54,vi x2)::(55,vi (u2.length : Int))::(56,vb true)::(57,vb true)::(58,vb true)::(59,.lf (.v (.slice Au2 (u2.length) cu2)))::(60,vi x2)::(61,.lf (.ep (.slice Au2 (u2.length) cu2) 1 ((x2).toNat) 0))::(62,vi x63)::(63,.lf (.v (.slice Au2 (u2.length) cu2)))::(64,vi x2)::(65,vi x64)::(66,.lf (.ep (.slice Au2 (u2.length) cu2) 1 ((x64).toNat) 0))::(67,vi x66)::(68,vi x67)::(69,vb b68)::(70,vb b68)::(71,vb b68)::(9,vb b68)::[]) (by kernel_rfl) ⟨trivial,⟨trivial,⟨trivial,⟨(by intro y hy;cases hy),⟨(by intro y hy;cases hy),⟨(by intro y hy;cases hy),⟨(by intro y hy;cases hy),⟨(by intro y hy;cases hy),⟨(by intro y hy;cases hy),⟨(by intro y hy;cases hy),⟨(by intro y hy;cases hy),⟨(by intro y hy;cases hy),⟨(by intro y hy;cases hy),⟨(by intro y hy;cases hy),⟨(by intro y hy;cases hy),⟨trivial,⟨trivial,⟨trivial,⟨trivial,⟨trivial,⟨trivial,⟨(by intro y hy;cases hy),⟨(by intro y hy;cases hy),⟨(by intro y hy;cases hy),⟨(by intro y hy;cases hy),⟨(by intro y hy;cases hy),⟨(by intro y hy;cases hy),⟨(by intro y hy;cases hy),⟨(by intro y hy;cases hy),⟨(by intro y hy;cases hy),⟨(by intro y hy;cases hy),⟨trivial,⟨trivial,⟨trivial,⟨trivial,⟨trivial,⟨trivial,⟨trivial,⟨trivial,⟨trivial,⟨trivial,⟨trivial,⟨trivial,⟨trivial,⟨trivial,⟨trivial,⟨trivial,⟨trivial,⟨trivial,⟨trivial,⟨trivial,⟨trivial,⟨trivial,⟨trivial,⟨trivial,⟨trivial,trivial⟩⟩⟩⟩⟩⟩⟩⟩⟩⟩⟩⟩⟩⟩⟩⟩⟩⟩⟩⟩⟩⟩⟩⟩⟩⟩⟩⟩⟩⟩⟩⟩⟩⟩⟩⟩⟩⟩⟩⟩⟩⟩⟩⟩⟩⟩⟩⟩⟩⟩⟩⟩⟩⟩⟩⟩ ?_
         refine Stage_nil (stage_all' [0,2,3,4,5,6,7,8,9,10,11,12,13,14,15,16,17,18,20,21,22,23,24,25,26,27,28,29,30,31,32,33,34,36,37,38,40,41,42,43,46,47,48,51,52,53,54,55] [1,19,35,39,44,45,49,50] (by kernel_rfl) (by subst_vars; kernel_rfl) (by kernel_rfl) ⟨QF_at (i:=1) (d:=18) (x:=vb false) (show OpAt _ _ _ 1 18 _ from by exact At_bin (d:=18) (b:=.gtr) (u:=.int .i64 x2) (v:=.int .i64 (0 : Int)) (w':=.bool false) (by subst_vars; kernel_rfl) (by rw [show exBin .gtr (.int .i64 x2) (.int .i64 (0 : Int)) = some (.bool (decide (x2 > (0 : Int)))) from by kernel_rfl,← e_b7])) (by kernel_rfl) (by subst_vars; kernel_rfl),⟨QF_at (i:=19) (d:=36) (x:=vb false) (show OpAt _ _ _ 19 36 _ from by exact At_bin (d:=36) (b:=.lss) (u:=.int .i64 x2) (v:=.int .i64 (u2.length : Int)) (w':=.bool false) (by subst_vars; kernel_rfl) (by rw [show exBin .lss (.int .i64 x2) (.int .i64 (u2.length : Int)) = some (.bool (decide (x2 < (u2.length : Int)))) from by kernel_rfl,← e_b43])) (by kernel_rfl) (by subst_vars; kernel_rfl),⟨QF_at (i:=35) (d:=52) (x:=vb true) (show OpAt _ _ _ 35 52 _ from by exact At_bin (d:=52) (b:=.gtr) (u:=.int .i64 x2) (v:=.int .i64 (0 : Int)) (w':=.bool true) (by subst_vars; kernel_rfl) (by rw [show exBin .gtr (.int .i64 x2) (.int .i64 (0 : Int)) = some (.bool (decide (x2 > (0 : Int)))) from by kernel_rfl,← e_b60])) (by kernel_rfl) (by subst_vars; kernel_rfl),⟨QF_at (i:=39) (d:=56) (x:=vb true) (show OpAt _ _ _ 39 56 _ from by exact At_bin (d:=56) (b:=.lss) (u:=.int .i64 x2) (v:=.int .i64 (u2.length : Int)) (w':=.bool true) (by subst_vars; kernel_rfl) (by rw [show exBin .lss (.int .i64 x2) (.int .i64 (u2.length : Int)) = some (.bool (decide (x2 < (u2.length : Int)))) from by kernel_rfl,← e_b61])) (by kernel_rfl) (by subst_vars; kernel_rfl),⟨QF_at (i:=44) (d:=61) (x:=.lf (.ep (.slice Au2 (u2.length) cu2) 1 ((x2).toNat) 0)) (show OpAt _ _ _ 44 61 _ from by exact At_idxI (d:=61) (z:=x2) (by subst_vars; kernel_rfl) g62 hu2) (by kernel_rfl) (by subst_vars; kernel_rfl),⟨QF_at (i:=45) (d:=62) (x:=vi x63) (show OpAt _ _ _ 45 62 _ from by rw [e_x63]; exact At_ldI (d:=62) (q:=(x2).toNat) (by subst_vars; kernel_rfl) (toNat_lt g62) hu2) (by kernel_rfl) (by subst_vars; kernel_rfl),⟨QF_at (i:=49) (d:=66) (x:=.lf (.ep (.slice Au2 (u2.length) cu2) 1 ((x64).toNat) 0)) (show OpAt _ _ _ 49 66 _ from by exact At_idxI (d:=66) (z:=x64) (by subst_vars; kernel_rfl) g65 hu2) (by kernel_rfl) (by subst_vars; kernel_rfl),⟨QF_at (i:=50) (d:=67) (x:=vi x66) (show OpAt _ _ _ 50 67 _ from by rw [e_x66]; exact At_ldI (d:=67) (q:=(x64).toNat) (by subst_vars; kernel_rfl) (toNat_lt g65) hu2) (by kernel_rfl) (by subst_vars; kernel_rfl),trivial⟩⟩⟩⟩⟩⟩⟩⟩) ?_
         refine thenQ_n ?_
         exact ⟨b68,keep_sub (ts:=[2,3,4,7,8,9]) (hs:=[3,4]) (vs:=[]) (by subst_vars;kernel_rfl),h⟩
        | false =>
         replace h := sp_f h
         refine T_draw' (id:=5) [] [0,0,0,0,0,0,0,0,0,0,0,0,0,0,0,0,0,0,0,0,0,0,0,0,0,0,0,0,0,0,0,0,0,0,0,0,0,0,0,0,0,0,0,0,0,0,0,0,0,0,0,0,0,0,0,0] (by kernel_rfl) (by kernel_rfl) (by kernel_rfl) (by kernel_rfl) ((17,vi x2)::(18,vb false)::(19,vb false)::(20,.tup [])::(21,.tup [])::(22,.tup [])::(23,.tup [])::(24,.tup [])::(25,.tup [])::(26,.tup [])::(27,.tup [])::(28,.tup [])::(29,.tup [])::(30,.tup [])::(31,.tup [])::(32,vb false)::(33,vb false)::(34,vi x2)::(35,vi (u2.length : Int))::(36,vb false)::(37,vb false)::(38,.tup [])::(39,.tup [])::(40,.tup [])::(41,.tup [])::(42,.tup [])::(43,.tup [])::(44,.tup [])::(45,.tup [])::(46,.tup [])::(47,.tup [])::(48,vb false)::(49,vb false)::(50,vb false)::(51,vi x2)::(52,vb true)::(53,vb true)::(54,vi x2)::(55,vi (u2.length : Int))::(56,vb false)::(57,vb false)::(58,vb false)::(59,.tup [])::(60,.tup [])::(61,.tup [])::(62,.tup [])::(63,.tup [])::(64,.tup [])::(65,.tup [])::(66,.tup [])::(67,.tup [])::(68,.tup [])::(69,.tup [])::(70,vb false)::(71,vb false)::(9,vb false)::[]) (by kernel_rfl) ⟨trivial,⟨trivial,⟨trivial,⟨(by intro y hy;cases hy),⟨(by intro y hy;cases hy),⟨(by intro y hy;cases hy),⟨(by intro y hy;cases hy),⟨(by intro y hy;cases hy),⟨(by intro y hy;cases hy),⟨(by intro y hy;cases hy),⟨(by intro y hy;cases hy),⟨(by intro y hy;cases hy),⟨(by intro y hy;cases hy),⟨(by intro y hy;cases hy),⟨(by intro y hy;cases hy),⟨trivial,⟨trivial,⟨trivial,⟨trivial,⟨trivial,⟨trivial,⟨(by intro y hy;cases hy),⟨(by intro y hy;cases hy),⟨(by intro y hy;cases hy),⟨(by intro y hy;cases hy),⟨(by intro y hy;cases hy),⟨(by intro y hy;cases hy),⟨(by intro y hy;cases hy),⟨(by intro y hy;cases hy),⟨(by intro y hy;cases hy),⟨(by intro y hy;cases hy),⟨trivial,⟨trivial,⟨trivial,⟨trivial,⟨trivial,⟨trivial,⟨trivial,⟨trivial,⟨trivial,⟨trivial,⟨trivial,⟨(by intro y hy;cases hy),⟨(by intro y hy;cases hy),⟨(by intro y hy;cases hy),⟨(by intro y hy;cases hy),⟨(by intro y hy;cases hy),⟨(by intro y hy;cases hy),⟨(by intro y hy;cases hy),⟨(by intro y hy;cases hy),⟨(by intro y hy;cases hy),⟨(by intro y hy;cases hy),⟨(by intro y hy;cases hy),⟨trivial,⟨trivial,⟨trivial,trivial⟩⟩⟩⟩⟩⟩⟩⟩⟩⟩⟩⟩⟩⟩⟩⟩⟩⟩⟩⟩⟩⟩⟩⟩⟩⟩⟩⟩⟩⟩⟩⟩⟩⟩⟩⟩⟩⟩⟩⟩⟩⟩⟩⟩⟩⟩⟩⟩⟩⟩⟩⟩⟩⟩⟩⟩ ?_
         refine Stage_nil (stage_all' [0,2,3,4,5,6,7,8,9,10,11,12,13,14,15,16,17,18,20,21,22,23,24,25,26,27,28,29,30,31,32,33,34,36,37,38,40,41,42,43,44,45,46,47,48,49,50,51,52,53,54,55] [1,19,35,39] (by kernel_rfl) (by kernel_rfl) (by kernel_rfl) ⟨QF_at (i:=1) (d:=18) (x:=vb false) (show OpAt _ _ _ 1 18 _ from by exact At_bin (d:=18) (b:=.gtr) (u:=.int .i64 x2) (v:=.int .i64 (0 : Int)) (w':=.bool false) (by kernel_rfl) (by rw [show exBin .gtr (.int .i64 x2) (.int .i64 (0 : Int)) = some (.bool (decide (x2 > (0 : Int)))) from by kernel_rfl,← e_b7])) (by kernel_rfl) (by kernel_rfl),⟨QF_at (i:=19) (d:=36) (x:=vb false) (show OpAt _ _ _ 19 36 _ from by exact At_bin (d:=36) (b:=.lss) (u:=.int .i64 x2) (v:=.int .i64 (u2.length : Int)) (w':=.bool false) (by kernel_rfl) (by rw [show exBin .lss (.int .i64 x2) (.int .i64 (u2.length : Int)) = some (.bool (decide (x2 < (u2.length : Int)))) from by kernel_rfl,← e_b43])) (by kernel_rfl) (by kernel_rfl),⟨QF_at (i:=35) (d:=52) (x:=vb true) (show OpAt _ _ _ 35 52 _ from by exact At_bin (d:=52) (b:=.gtr) (u:=.int .i64 x2) (v:=.int .i64 (0 : Int)) (w':=.bool true) (by kernel_rfl) (by rw [show exBin .gtr (.int .i64 x2) (.int .i64 (0 : Int)) = some (.bool (decide (x2 > (0 : Int)))) from by kernel_rfl,← e_b60])) (by kernel_rfl) (by kernel_rfl),⟨QF_at (i:=39) (d:=56) (x:=vb false) (show OpAt _ _ _ 39 56 _ from by exact At_bin (d:=56) (b:=.lss) (u:=.int .i64 x2) (v:=.int .i64 (u2.length : Int)) (w':=.bool false) (by kernel_rfl) (by rw [show exBin .lss (.int .i64 x2) (.int .i64 (u2.length : Int)) = some (.bool (decide (x2 < (u2.length : Int)))) from by kernel_rfl,← e_b61])) (by kernel_rfl) (by kernel_rfl),trivial⟩⟩⟩⟩) ?_
         refine thenQ_n ?_
         exact ⟨false,keep_sub (ts:=[2,3,4,7,8,9]) (hs:=[3,4]) (vs:=[]) (by kernel_rfl),h⟩
       | false =>
        replace h := sp_f h
        refine T_draw' (id:=5) [] [0,0,0,0,0,0,0,0,0,0,0,0,0,0,0,0,0,0,0,0,0,0,0,0,0,0,0,0,0,0,0,0,0,0,0,0,0,0,0,0,0,0,0,0,0,0,0,0,0,0,0,0,0,0,0,0] (by kernel_rfl) (by kernel_rfl) (by kernel_rfl) (by kernel_rfl) ((17,vi x2)::(18,vb false)::(19,vb false)::(20,.tup [])::(21,.tup [])::(22,.tup [])::(23,.tup [])::(24,.tup [])::(25,.tup [])::(26,.tup [])::(27,.tup [])::(28,.tup [])::(29,.tup [])::(30,.tup [])::(31,.tup [])::(32,vb false)::(33,vb false)::(34,vi x2)::(35,vi (u2.length : Int))::(36,vb false)::(37,vb false)::(38,.tup [])::(39,.tup [])::(40,.tup [])::(41,.tup [])::(42,.tup [])::(43,.tup [])::(44,.tup [])::(45,.tup [])::(46,.tup [])::(47,.tup [])::(48,vb false)::(49,vb false)::(50,vb false)::(51,vi x2)::(52,vb false)::(53,vb false)::(54,.tup [])::(55,.tup [])::(56,.tup [])::(57,vb false)::(58,vb false)::(59,.tup [])::(60,.tup [])::(61,.tup [])::(62,.tup [])::(63,.tup [])::(64,.tup [])::(65,.tup [])::(66,.tup [])::(67,.tup [])::(68,.tup [])::(69,.tup [])::(70,vb false)::(71,vb false)::(9,vb false)::[]) (by kernel_rfl) ⟨trivial,⟨trivial,⟨trivial,⟨(by intro y hy;cases hy),⟨(by intro y hy;cases hy),⟨(by intro y hy;cases hy),⟨(by intro y hy;cases hy),⟨(by intro y hy;cases hy),⟨(by intro y hy;cases hy),⟨(by intro y hy;cases hy),⟨(by intro y hy;cases hy),⟨(by intro y hy;cases hy),⟨(by intro y hy;cases hy),⟨(by intro y hy;cases hy),⟨(by intro y hy;cases hy),⟨trivial,⟨trivial,⟨trivial,⟨trivial,⟨trivial,⟨trivial,⟨(by intro y hy;cases hy),⟨(by intro y hy;cases hy),⟨(by intro y hy;cases hy),⟨(by intro y hy;cases hy),⟨(by intro y hy;cases hy),⟨(by intro y hy;cases hy),⟨(by intro y hy;cases hy),⟨(by intro y hy;cases hy),⟨(by intro y hy;cases hy),⟨(by intro y hy;cases hy),⟨trivial,⟨trivial,⟨trivial,⟨trivial,⟨trivial,⟨trivial,⟨(by intro y hy;cases hy),⟨(by intro y hy;cases hy),⟨(by intro y hy;cases hy),⟨trivial,⟨trivial,⟨(by intro y hy;cases hy),⟨(by intro y hy;cases hy),⟨(by intro y hy;cases hy),⟨(by intro y hy;cases hy),⟨(by intro y hy;cases hy),⟨(by intro y hy;cases hy),⟨(by intro y hy;cases hy),⟨(by intro y hy;cases hy),⟨(by intro y hy;cases hy),⟨(by intro y hy;cases hy),⟨(by intro y hy;cases hy),⟨trivial,⟨trivial,⟨trivial,trivial⟩⟩⟩⟩⟩⟩⟩⟩⟩⟩⟩⟩⟩⟩⟩⟩⟩⟩⟩⟩⟩⟩⟩⟩⟩⟩⟩⟩⟩⟩⟩⟩⟩⟩⟩⟩⟩⟩⟩⟩⟩⟩⟩⟩⟩⟩⟩⟩⟩⟩⟩⟩⟩⟩⟩⟩ ?_
        refine Stage_nil (stage_all' [0,2,3,4,5,6,7,8,9,10,11,12,13,14,15,16,17,18,20,21,22,23,24,25,26,27,28,29,30,31,32,33,34,36,37,38,39,40,41,42,43,44,45,46,47,48,49,50,51,52,53,54,55] [1,19,35] (by kernel_rfl) (by kernel_rfl) (by kernel_rfl) ⟨QF_at (i:=1) (d:=18) (x:=vb false) (show OpAt _ _ _ 1 18 _ from by exact At_bin (d:=18) (b:=.gtr) (u:=.int .i64 x2) (v:=.int .i64 (0 : Int)) (w':=.bool false) (by kernel_rfl) (by rw [show exBin .gtr (.int .i64 x2) (.int .i64 (0 : Int)) = some (.bool (decide (x2 > (0 : Int)))) from by kernel_rfl,← e_b7])) (by kernel_rfl) (by kernel_rfl),⟨QF_at (i:=19) (d:=36) (x:=vb false) (show OpAt _ _ _ 19 36 _ from by exact At_bin (d:=36) (b:=.lss) (u:=.int .i64 x2) (v:=.int .i64 (u2.length : Int)) (w':=.bool false) (by kernel_rfl) (by rw [show exBin .lss (.int .i64 x2) (.int .i64 (u2.length : Int)) = some (.bool (decide (x2 < (u2.length : Int)))) from by kernel_rfl,← e_b43])) (by kernel_rfl) (by kernel_rfl),⟨QF_at (i:=35) (d:=52) (x:=vb false) (show OpAt _ _ _ 35 52 _ from by exact At_bin (d:=52) (b:=.gtr) (u:=.int .i64 x2) (v:=.int .i64 (0 : Int)) (w':=.bool false) (by kernel_rfl) (by rw [show exBin .gtr (.int .i64 x2) (.int .i64 (0 : Int)) = some (.bool (decide (x2 > (0 : Int)))) from by kernel_rfl,← e_b60])) (by kernel_rfl) (by kernel_rfl),trivial⟩⟩⟩) ?_
        refine thenQ_n ?_
        exact ⟨false,keep_sub (ts:=[2,3,4,7,8,9]) (hs:=[3,4]) (vs:=[]) (by kernel_rfl),h⟩
    ·rintro s' ⟨b5,hsub,h⟩
     subst e_j6
     refine T_sub hsub ?_
     refine T_seq (c1:=(sub [1,1,0,1,0,0,1,0,0,1,0] Bd60)) (c2:=(sub [1,1,0,1,0,0,1,0,0,1,1] Bd60)) (by kernel_rfl) ?_
     refine T_region (id:=6) (by kernel_rfl) ?_
     refine TI_segK (i:=0) (j:=2) (s':={ σ := [(2,.lf (.v (.slice Au2 (u2.length) cu2))),(3,.lf (.own 3 0)),(4,.lf (.own 4 0)),(7,vi (u2.length : Int)),(8,vi x2),(73,vb (!b5))],H := [(3,[.one (.v (.slice Au0_0 (u0_0.length) cu0_0)),.arr .i64 4 u0_1]),(4,[.arr .i64 7 u1])],V := [],M := M,ds := [] }) [2,3,4,7,8,73] [3,4] [] (by kernel_rfl) (by kernel_rfl) ?_
     refine TI_end (by kernel_rfl) ?_
     refine thenQ_n ?_
     cases b5 with
     | true =>
      replace h := sp_t h
      refine T_condF (x:=(.tmp 73)) (c1:=(sub [1,1,0,1,0,0,1,0,0,1,1,0] Bd60)) (c2:=(sub [1,1,0,1,0,0,1,0,0,1,1,1] Bd60)) (by kernel_rfl) (by kernel_rfl) ?_
      refine T_keepS [(2,.lf (.v (.slice Au2 (u2.length) cu2))),(3,.lf (.own 3 0)),(4,.lf (.own 4 0)),(7,vi (u2.length : Int)),(8,vi x2)] (by kernel_rfl) ?_
      refine T_skip (by kernel_rfl) ?_
      refine blockQ_n ?_
      refine thenQ_n ?_
      refine T_region (id:=4) (by kernel_rfl) ?_
      obtain ⟨x69,e_x69,h⟩ := lt_some h
      refine TI_segS (i:=0) (j:=3) [(2,.lf (.v (.slice Au2 (u2.length) cu2))),(3,.lf (.own 3 0)),(4,.lf (.own 4 0)),(7,vi (u2.length : Int)),(8,vi x69)] (by subst e_x69;kernel_rfl) (by kernel_rfl) ?_
      refine TI_end (by kernel_rfl) ?_
      refine thenQ_n ?_
      exact ⟨n3,Nat.lt_succ_self _,x69,keep_sub (ts:=[2,3,4,7,8]) (hs:=[3,4]) (vs:=[]) (by kernel_rfl),h⟩
     | false =>
      replace h := sp_f h
      refine T_condT (x:=(.tmp 73)) (c1:=(sub [1,1,0,1,0,0,1,0,0,1,1,0] Bd60)) (c2:=(sub [1,1,0,1,0,0,1,0,0,1,1,1] Bd60)) (by kernel_rfl) (by kernel_rfl) ?_
      refine T_keep (s':={ σ := [(8,vi x2)],H := [],V := [],M := M,ds := [] }) [8] [] [] (by kernel_rfl) ?_
      refine T_seq (c1:=(sub [1,1,0,1,0,0,1,0,0,1,1,0,0] Bd60)) (c2:=(sub [1,1,0,1,0,0,1,0,0,1,1,0,1] Bd60)) (by kernel_rfl) ?_
      refine T_region (id:=7) (by kernel_rfl) ?_
      refine TI_segS (i:=0) (j:=2) [(6,vi x2)] (by kernel_rfl) (by kernel_rfl) ?_
      refine TI_end (by kernel_rfl) ?_
      refine thenQ_n ?_
      refine T_ret (by kernel_rfl) ?_
      refine blockQ_r ?_
      refine thenQ_r ?_
      refine thenQ_r ?_
      refine blockQ_r ?_
      refine thenQ_r ?_
      refine thenQ_r ?_
      have h := Option.some.inj h
      subst h
      refine fin_ret (vi x2) (by kernel_rfl) (by kernel_rfl) rfl ?_
      rfl
   | false =>
    replace h := sp_f h
    refine T_condF (x:=(.tmp 14)) (c1:=(sub [1,1,0,1,0,0,0,1,0] Bd60)) (c2:=(sub [1,1,0,1,0,0,0,1,1] Bd60)) (by kernel_rfl) (by kernel_rfl) ?_
    refine T_keep (s':={ σ := [],H := [],V := [],M := M,ds := [] }) [] [] [] (by kernel_rfl) ?_
    refine T_exit (id:=0) (by kernel_rfl) ?_
    refine thenQ_x ?_
    refine thenQ_x ?_
    refine blockQ_x ?_
    refine thenQ_n ?_
    exact ⟨keep_sub (ts:=[]) (hs:=[]) (vs:=[]) (by kernel_rfl),h⟩
 ·rintro s' ⟨hsub,h⟩
  subst e_j1
  refine thenQ_n ?_
  refine T_sub hsub ?_
  refine T_seq (c1:=(sub [1,1,1,0] Bd60)) (c2:=(sub [1,1,1,1] Bd60)) (by kernel_rfl) ?_
  refine T_region (id:=8) (by kernel_rfl) ?_
  refine TI_segK (i:=0) (j:=1) (s':={ σ := [(6,vi (-1 : Int))],H := [],V := [],M := M,ds := [] }) [6] [] [] (by kernel_rfl) (by kernel_rfl) ?_
  refine TI_end (by kernel_rfl) ?_
  refine thenQ_n ?_
  refine T_ret (by kernel_rfl) ?_
  have h := Option.some.inj h
  subst h
  refine fin_ret (vi (-1 : Int)) (by kernel_rfl) (by kernel_rfl) rfl ?_
  rfl
def p69 (k : Nat) (u0 : Int) : Option Bool :=
 cl (p49 k u0 (0 : Int) (1048576 : Int)) fun v1 => some (!v1)
theorem hf69 : Try.prog.funcs[69]? = some Try.f69 := by kernel_rfl
theorem w69 (k : Nat) {M : Mem} {u0 : Int} {r} (h : p69 k u0 = some r) :
  Fn Try.prog 69 [rval (vi u0)] M (fun x _ => x = vb r) := by
 unfold p69 at h
 refine Fn_of (P:=Try.prog) (fn:=Try.f69) (c:=bodyOf Try.f69) [vi u0] hf69 (by kernel_rfl) (Nat.le_of_ble_eq_true (by kernel_rfl)) (args_ok (by kernel_rfl) ⟨trivial,trivial⟩) fun w => ?_
 change T _ _ _ (endQ _ _ _)
 refine T_seq (c1:=(sub [0] Bd69)) (c2:=(sub [1] Bd69)) (by kernel_rfl) ?_
 refine T_region (id:=0) (by kernel_rfl) ?_
 refine TI_segK (i:=0) (j:=1) (s':={ σ := [(0,vi u0)],H := [],V := [],M := M,ds := [] }) [0] [] [] (by kernel_rfl) (by kernel_rfl) ?_
 refine TI_end (by kernel_rfl) ?_
 refine thenQ_n ?_
 refine T_seq (c1:=(sub [1,0] Bd69)) (c2:=(sub [1,1] Bd69)) (by kernel_rfl) ?_
 refine T_region (id:=1) (by kernel_rfl) ?_
 refine TI_segS (i:=0) (j:=1) [(3,vi u0)] (by kernel_rfl) (by kernel_rfl) ?_
 obtain ⟨v1,c_v1,h⟩ := cl_some h
 refine TI_at (i:=1) (d:=4) (x:=vb v1) (At_call (d:=4) (f:=49) (args:=[rval (vi u0),rval (vi (0 : Int)),rval (vi (1048576 : Int))]) (x:=vb v1) (by kernel_rfl) (w49 k  c_v1)) (by kernel_rfl) trivial ?_
 refine TI_segK (i:=2) (j:=4) (s':={ σ := [(2,vb (!v1))],H := [],V := [],M := M,ds := [] }) [2] [] [] (by kernel_rfl) (by kernel_rfl) ?_
 refine TI_end (by kernel_rfl) ?_
 refine thenQ_n ?_
 refine T_ret (by kernel_rfl) ?_
 have h := Option.some.inj h
 subst h
 refine fin_ret (vb (!v1)) (by kernel_rfl) (by kernel_rfl) rfl ?_
 rfl
def p71 (k : Nat) (u0 : List Int) : Option Bool :=
 cl (p61 k u0) fun v1 => some (!v1)
theorem hf71 : Try.prog.funcs[71]? = some Try.f71 := by kernel_rfl
theorem w71 (k : Nat) {M : Mem} {u0 : List Int} (hu0 : u0.length = 2) {r} (h : p71 k u0 = some r) :
  Fn Try.prog 71 [rval (.agg [.arr .i64 2 u0])] M (fun x _ => x = vb r) := by
 unfold p71 at h
 refine Fn_of (P:=Try.prog) (fn:=Try.f71) (c:=bodyOf Try.f71) [.agg [.arr .i64 2 u0]] hf71 (by kernel_rfl) (Nat.le_of_ble_eq_true (by kernel_rfl)) (args_ok (by kernel_rfl) ⟨⟨hu0,trivial⟩,trivial⟩) fun w => ?_
 change T _ _ _ (endQ _ _ _)
 refine T_seq (c1:=(sub [0] Bd71)) (c2:=(sub [1] Bd71)) (by kernel_rfl) ?_
 refine T_region (id:=0) (by kernel_rfl) ?_
 refine TI_segK (i:=0) (j:=2) (s':={ σ := [(1,.lf (.own 1 0))],H := [(1,[.arr .i64 2 u0])],V := [],M := M,ds := [] }) [1] [1] [] (by kernel_rfl) (by kernel_rfl) ?_
 refine TI_end (by kernel_rfl) ?_
 refine thenQ_n ?_
 refine T_seq (c1:=(sub [1,0] Bd71)) (c2:=(sub [1,1] Bd71)) (by kernel_rfl) ?_
 refine T_region (id:=1) (by kernel_rfl) ?_
 refine TI_segK (i:=0) (j:=1) (s':={ σ := [(3,.agg [.arr .i64 2 u0])],H := [],V := [],M := M,ds := [] }) [3] [] [] (by kernel_rfl) (by kernel_rfl) ?_
 obtain ⟨v1,c_v1,h⟩ := cl_some h
 refine TI_at (i:=1) (d:=4) (x:=vb v1) (At_call (d:=4) (f:=61) (args:=[rval (.agg [.arr .i64 2 u0])]) (x:=vb v1) (by kernel_rfl) (w61 k hu0 c_v1)) (by kernel_rfl) trivial ?_
 refine TI_segK (i:=2) (j:=4) (s':={ σ := [(2,vb (!v1))],H := [],V := [],M := M,ds := [] }) [2] [] [] (by kernel_rfl) (by kernel_rfl) ?_
 refine TI_end (by kernel_rfl) ?_
 refine thenQ_n ?_
 refine T_ret (by kernel_rfl) ?_
 have h := Option.some.inj h
 subst h
 refine fin_ret (vb (!v1)) (by kernel_rfl) (by kernel_rfl) rfl ?_
 rfl
end Go.Proofs.Ythjkejbgknemgaa
namespace Go.Proofs.Ythjkejbgknemgaa
open Go.RowKit
def p83_l1 (k : Nat) (j6 : List Int → Option (List Int)) (P4 : List (List Int)) : Nat → Int → List Int → Option (List Int)
 | 0,_,_ => none
 | n9 + 1,x7,L8 => lt' (decide (x7 < (P4.length : Int))) fun b10 => sp b10 (gd ((0 : Int) ≤ x7 ∧ x7 < (P4.length : Int)) <| lt' (List.getD P4 ((x7).toNat) []) fun L12 => lt' (List.getD L8 0 0) fun x13 => lt' (List.getD L12 0 0) fun x14 => lt' (mx x13 x14) fun x15 => lt' (List.getD L8 1 0) fun x16 => lt' (List.getD L12 1 0) fun x17 => lt' (mn x16 x17) fun x18 => lt' (List.set L8 0 x15) fun L19 => lt' (List.set L19 1 x18) fun L20 => lt' (wr .i64 (x7 + (1 : Int))) fun x21 => p83_l1 k j6 P4 n9 x21 L20) (j6 L8)
def p83 (k : Nat) (u0 : List (List Int)) : Option (List Int) :=
 gd ((0 : Int) ≤ (0 : Int) ∧ (0 : Int) < (u0.length : Int)) <| lt' (List.getD u0 0 []) fun L2 => gd ((0 : Int) ≤ (1 : Int) ∧ (0 : Int) ≤ (0 : Int) ∧ ((1 : Int)).toNat ≤ List.length u0 ∧ List.length u0 ≤ List.length u0) <| lt' (part u0 (((1 : Int)).toNat) (u0.length)) fun P4 => jn (fun (L5 : List Int) => some L5) fun j6 => p83_l1 k j6 P4 k (0 : Int) L2
theorem hf83 : Try.prog.funcs[83]? = some Try.f83 := by kernel_rfl
theorem w83 (k : Nat) {M : Mem} {Au0 : Option Addr} {cu0 : Nat} {u0 : List (List Int)} (hu0 : SlR M Au0 cu0 .i64 2 u0) {r} (h : p83 k u0 = some r) :
  Fn Try.prog 83 [rval (.lf (.v (.slice Au0 (u0.length) cu0)))] M (fun x _ => x = .agg [.arr .i64 2 r]) := by
 unfold p83 at h
 refine Fn_of (P:=Try.prog) (fn:=Try.f83) (c:=bodyOf Try.f83) [.lf (.v (.slice Au0 (u0.length) cu0))] hf83 (by kernel_rfl) (Nat.le_of_ble_eq_true (by kernel_rfl)) (args_ok (by kernel_rfl) ⟨trivial,trivial⟩) fun w => ?_
 change T _ _ _ (endQ _ _ _)
 refine T_seq (c1:=(sub [0] Bd83)) (c2:=(sub [1] Bd83)) (by kernel_rfl) ?_
 refine T_region (id:=0) (by kernel_rfl) ?_
 refine TI_segK (i:=0) (j:=1) (s':={ σ := [(0,.lf (.v (.slice Au0 (u0.length) cu0))),(2,.lf (.own 2 0))],H := [(2,[.arr .i64 2 [(0 : Int),(0 : Int)]])],V := [],M := M,ds := [] }) [0,2] [2] [] (by kernel_rfl) (by kernel_rfl) ?_
 refine TI_end (by kernel_rfl) ?_
 refine thenQ_n ?_
 refine T_seq (c1:=(sub [1,0] Bd83)) (c2:=(sub [1,1] Bd83)) (by kernel_rfl) ?_
 refine T_region (id:=1) (by kernel_rfl) ?_
 refine TI_segS (i:=0) (j:=1) [(0,.lf (.v (.slice Au0 (u0.length) cu0))),(2,.lf (.own 2 0)),(6,.lf (.v (.slice Au0 (u0.length) cu0)))] (by kernel_rfl) (by kernel_rfl) ?_
 obtain ⟨g1,h⟩ := gd_some h
 refine TI_at (i:=1) (d:=7) (x:=.lf (.ep (.slice Au0 (u0.length) cu0) 2 0 0)) (by exact At_idxR (d:=7) (z:=(0 : Int)) (by kernel_rfl) g1 hu0) (by kernel_rfl) trivial ?_
 obtain ⟨L2,e_L2,h⟩ := lt_some h
 have l_L2 : (L2).length = 2 := by rw [e_L2]; exact SlR_row hu0 (toNat_lt g1)
 refine TI_at (i:=2) (d:=8) (x:=.agg [.arr .i64 2 L2]) (by rw [e_L2]; exact At_ldRow (d:=8) (q:=0) (by subst e_L2; kernel_rfl) (toNat_lt g1) hu0) (by kernel_rfl) ⟨l_L2,trivial⟩ ?_
 refine TI_segK (i:=3) (j:=5) (s':={ σ := [(0,.lf (.v (.slice Au0 (u0.length) cu0))),(2,.lf (.own 2 0)),(3,.lf (.own 3 0))],H := [(2,[.arr .i64 2 [(0 : Int),(0 : Int)]]),(3,[.arr .i64 2 L2])],V := [],M := M,ds := [] }) [0,2,3] [2,3] [] (by kernel_rfl) (by kernel_rfl) ?_
 refine TI_end (by kernel_rfl) ?_
 refine thenQ_n ?_
 refine T_seq (c1:=(sub [1,1,0] Bd83)) (c2:=(sub [1,1,1] Bd83)) (by kernel_rfl) ?_
 refine T_seq (c1:=(sub [1,1,0,0] Bd83)) (c2:=(sub [1,1,0,1] Bd83)) (by kernel_rfl) ?_
 refine T_region (id:=2) (by kernel_rfl) ?_
 refine TI_segS (i:=0) (j:=1) [(2,.lf (.own 2 0)),(3,.lf (.own 3 0)),(9,.lf (.v (.slice Au0 (u0.length) cu0)))] (by kernel_rfl) (by kernel_rfl) ?_
 obtain ⟨g3,h⟩ := gd_some h
 obtain ⟨P4,e_P4,h⟩ := lt_some h
 refine TI_at (i:=1) (d:=10) (x:=.lf (.v (.slice (cutA Au0 cu0 (((1 : Int)).toNat) 2) (P4.length) (cu0 - ((1 : Int)).toNat)))) (by exact At_slR (d:=10) (a:=(some (1 : Int))) (b:=none) (P:=P4) (by subst e_P4;kernel_rfl) hu0 (some_nn g3.1) none_nn g3.2.2.1 g3.2.2.2 e_P4) (by kernel_rfl) trivial ?_
 refine TI_segK (i:=2) (j:=4) (s':={ σ := [(2,.lf (.own 2 0)),(3,.lf (.own 3 0)),(10,.lf (.v (.slice (cutA Au0 cu0 (((1 : Int)).toNat) 2) (P4.length) (cu0 - ((1 : Int)).toNat)))),(11,vi (P4.length : Int)),(12,vi (0 : Int))],H := [(2,[.arr .i64 2 [(0 : Int),(0 : Int)]]),(3,[.arr .i64 2 L2])],V := [],M := M,ds := [] }) [2,3,10,11,12] [2,3] [] (by kernel_rfl) (by kernel_rfl) ?_
 refine TI_end (by kernel_rfl) ?_
 refine thenQ_n ?_
 obtain ⟨j6,e_j6,h⟩ := jn_some h
 refine T_bcut (id:=0) (c1:=(sub [1,1,0,1,0] Bd83)) (fun s' => ∃ (L5 : List Int),Sub { σ := [(2,.lf (.own 2 0)),(3,.lf (.own 3 0))],H := [(2,[.arr .i64 2 [(0 : Int),(0 : Int)]]),(3,[.arr .i64 2 L5])],V := [],M := M,ds := [] } s' ∧ (L5).length = 2 ∧ j6 L5 = some r) (by kernel_rfl) ?_ ?_
 ·refine T_loop (c1:=(sub [1,1,0,1,0,0] Bd83)) (by kernel_rfl) (fun n9 s' => ∃ (x7 : Int) (L8 : List Int),Sub { σ := [(2,.lf (.own 2 0)),(3,.lf (.own 3 0)),(10,.lf (.v (.slice (cutA Au0 cu0 (((1 : Int)).toNat) 2) (P4.length) (cu0 - ((1 : Int)).toNat)))),(11,vi (P4.length : Int)),(12,vi x7)],H := [(2,[.arr .i64 2 [(0 : Int),(0 : Int)]]),(3,[.arr .i64 2 L8])],V := [],M := M,ds := [] } s' ∧ (L8).length = 2 ∧ p83_l1 k j6 P4 n9 x7 L8 = some r) (k:=k) ⟨(0 : Int),L2,keep_sub (ts:=[2,3,10,11,12]) (hs:=[2,3]) (vs:=[]) (by kernel_rfl),l_L2,h⟩ ?_
  rintro n9 s' ⟨x7,L8,hsub,l_L8,h⟩
  cases n9 with
  | zero => rw [p83_l1] at h;cases h
  | succ n9 =>
   rw [p83_l1] at h
   refine T_sub hsub ?_
   refine T_seq (c1:=(sub [1,1,0,1,0,0,0] Bd83)) (c2:=(sub [1,1,0,1,0,0,1] Bd83)) (by kernel_rfl) ?_
   refine T_region (id:=3) (by kernel_rfl) ?_
   obtain ⟨b10,e_b10,h⟩ := lt_some h
   refine TI_segK (i:=0) (j:=1) (s':={ σ := [(2,.lf (.own 2 0)),(3,.lf (.own 3 0)),(10,.lf (.v (.slice (cutA Au0 cu0 (((1 : Int)).toNat) 2) (P4.length) (cu0 - ((1 : Int)).toNat)))),(11,vi (P4.length : Int)),(12,vi x7),(13,vb b10)],H := [(2,[.arr .i64 2 [(0 : Int),(0 : Int)]]),(3,[.arr .i64 2 L8])],V := [],M := M,ds := [] }) [2,3,10,11,12,13] [2,3] [] (by subst e_b10;kernel_rfl) (by kernel_rfl) ?_
   refine TI_end (by kernel_rfl) ?_
   refine thenQ_n ?_
   refine T_seq (c1:=(sub [1,1,0,1,0,0,1,0] Bd83)) (c2:=(sub [1,1,0,1,0,0,1,1] Bd83)) (by kernel_rfl) ?_
   cases b10 with
   | true =>
    replace h := sp_t h
    refine T_condT (x:=(.tmp 13)) (c1:=(sub [1,1,0,1,0,0,1,0,0] Bd83)) (c2:=(sub [1,1,0,1,0,0,1,0,1] Bd83)) (by kernel_rfl) (by kernel_rfl) ?_
    refine T_keepS [(2,.lf (.own 2 0)),(3,.lf (.own 3 0)),(10,.lf (.v (.slice (cutA Au0 cu0 (((1 : Int)).toNat) 2) (P4.length) (cu0 - ((1 : Int)).toNat)))),(11,vi (P4.length : Int)),(12,vi x7)] (by kernel_rfl) ?_
    refine T_skip (by kernel_rfl) ?_
    refine thenQ_n ?_
    refine T_seq (c1:=(sub [1,1,0,1,0,0,1,1,0] Bd83)) (c2:=(sub [1,1,0,1,0,0,1,1,1] Bd83)) (by kernel_rfl) ?_
    refine T_block (id:=1) (c1:=(sub [1,1,0,1,0,0,1,1,0,0] Bd83)) (by kernel_rfl) ?_
    refine T_seq (c1:=(sub [1,1,0,1,0,0,1,1,0,0,0] Bd83)) (c2:=(sub [1,1,0,1,0,0,1,1,0,0,1] Bd83)) (by kernel_rfl) ?_
    refine T_region (id:=4) (by kernel_rfl) ?_
    obtain ⟨g11,h⟩ := gd_some h
    refine TI_at (i:=0) (d:=14) (x:=.lf (.ep (.slice (cutA Au0 cu0 (((1 : Int)).toNat) 2) (P4.length) (cu0 - ((1 : Int)).toNat)) 2 ((x7).toNat) 0)) (by exact At_idxR (d:=14) (z:=x7) (by kernel_rfl) g11 (SlR.part hu0 e_P4 g3.2.2.1 g3.2.2.2)) (by kernel_rfl) trivial ?_
    obtain ⟨L12,e_L12,h⟩ := lt_some h
    have l_L12 : (L12).length = 2 := by rw [e_L12]; exact SlR_row (SlR.part hu0 e_P4 g3.2.2.1 g3.2.2.2) (toNat_lt g11)
    refine TI_at (i:=1) (d:=15) (x:=.agg [.arr .i64 2 L12]) (by rw [e_L12]; exact At_ldRow (d:=15) (q:=(x7).toNat) (by subst e_L12; kernel_rfl) (toNat_lt g11) (SlR.part hu0 e_P4 g3.2.2.1 g3.2.2.2)) (by kernel_rfl) ⟨l_L12,trivial⟩ ?_
    refine TI_segK (i:=2) (j:=4) (s':={ σ := [(2,.lf (.own 2 0)),(3,.lf (.own 3 0)),(5,.lf (.own 5 0)),(10,.lf (.v (.slice (cutA Au0 cu0 (((1 : Int)).toNat) 2) (P4.length) (cu0 - ((1 : Int)).toNat)))),(11,vi (P4.length : Int)),(12,vi x7)],H := [(2,[.arr .i64 2 [(0 : Int),(0 : Int)]]),(3,[.arr .i64 2 L8]),(5,[.arr .i64 2 L12])],V := [],M := M,ds := [] }) [2,3,5,10,11,12] [2,3,5] [] (by kernel_rfl) (by kernel_rfl) ?_
    refine TI_end (by kernel_rfl) ?_
    refine thenQ_n ?_
    obtain ⟨x13,e_x13,h⟩ := lt_some h
    obtain ⟨x14,e_x14,h⟩ := lt_some h
    obtain ⟨x15,e_x15,h⟩ := lt_some h
    obtain ⟨x16,e_x16,h⟩ := lt_some h
    obtain ⟨x17,e_x17,h⟩ := lt_some h
    obtain ⟨x18,e_x18,h⟩ := lt_some h
    obtain ⟨L19,e_L19,h⟩ := lt_some h
    have l_L19 : (L19).length = 2 := by rw [e_L19]; exact (by rw [List.length_set]; exact l_L8)
    obtain ⟨L20,e_L20,h⟩ := lt_some h
    have l_L20 : (L20).length = 2 := by rw [e_L20]; exact (by rw [List.length_set]; exact l_L19)
    refine T_draw' (id:=5) [11,13] [0,0,0,0,0,0,0,0,0,0,0,0,1,0] (by kernel_rfl) (by kernel_rfl) (by kernel_rfl) (by kernel_rfl) [(16,.lf (.own 3 0)),(17,vi x13),(18,.lf (.own 5 0)),(19,vi x14),(20,vi x15),(21,.lf (.own 3 1)),(22,vi x16),(23,.lf (.own 5 1)),(24,vi x17),(25,vi x18),(26,.lf (.own 3 0))] (by kernel_rfl) (wfs_lf _ (by kernel_rfl)) ?_
    refine Stage_ex (stage_all' [0,1,2,3,4,5,6,7,8,9,10] [] (by kernel_rfl) (by subst_vars;kernel_rfl) (by kernel_rfl) trivial) ({ σ := [(16,.lf (.own 3 0)),(17,vi x13),(18,.lf (.own 5 0)),(19,vi x14),(20,vi x15),(21,.lf (.own 3 1)),(22,vi x16),(23,.lf (.own 5 1)),(24,vi x17),(25,vi x18),(26,.lf (.own 3 0)),(2,.lf (.own 2 0)),(3,.lf (.own 3 0)),(5,.lf (.own 5 0)),(10,.lf (.v (.slice (cutA Au0 cu0 (((1 : Int)).toNat) 2) (P4.length) (cu0 - ((1 : Int)).toNat)))),(11,vi (P4.length : Int)),(12,vi x7)],H := [(3,[.arr .i64 2 L19]),(2,[.arr .i64 2 [(0 : Int),(0 : Int)]]),(3,[.arr .i64 2 L8]),(5,[.arr .i64 2 L12])],V := [],M := M,ds := [] }) (by subst_vars;kernel_rfl) [(27,.lf (.own 3 1))] (by kernel_rfl) ⟨trivial,trivial⟩ ?_
    refine Stage_ex (stage_all' [7,8,9,12] [] (by kernel_rfl) (by subst_vars;kernel_rfl) (by kernel_rfl) trivial) ({ σ := [(27,.lf (.own 3 1)),(16,.lf (.own 3 0)),(17,vi x13),(18,.lf (.own 5 0)),(19,vi x14),(20,vi x15),(21,.lf (.own 3 1)),(22,vi x16),(23,.lf (.own 5 1)),(24,vi x17),(25,vi x18),(26,.lf (.own 3 0)),(2,.lf (.own 2 0)),(3,.lf (.own 3 0)),(5,.lf (.own 5 0)),(10,.lf (.v (.slice (cutA Au0 cu0 (((1 : Int)).toNat) 2) (P4.length) (cu0 - ((1 : Int)).toNat)))),(11,vi (P4.length : Int)),(12,vi x7)],H := [(3,[.arr .i64 2 L20]),(3,[.arr .i64 2 L19]),(2,[.arr .i64 2 [(0 : Int),(0 : Int)]]),(3,[.arr .i64 2 L8]),(5,[.arr .i64 2 L12])],V := [],M := M,ds := [] }) (by subst_vars;kernel_rfl) [] (by kernel_rfl) trivial ?_
    refine Stage_nil (stage_all' [] [] (by kernel_rfl) (by subst_vars;kernel_rfl) (by kernel_rfl) trivial) ?_
    refine blockQ_n ?_
    refine thenQ_n ?_
    refine T_keep (s':={ σ := [(2,.lf (.own 2 0)),(3,.lf (.own 3 0)),(10,.lf (.v (.slice (cutA Au0 cu0 (((1 : Int)).toNat) 2) (P4.length) (cu0 - ((1 : Int)).toNat)))),(11,vi (P4.length : Int)),(12,vi x7)],H := [(2,[.arr .i64 2 [(0 : Int),(0 : Int)]]),(3,[.arr .i64 2 L20])],V := [],M := M,ds := [] }) [2,3,10,11,12] [2,3] [] (by subst_vars;kernel_rfl) ?_
    refine T_region (id:=6) (by kernel_rfl) ?_
    obtain ⟨x21,e_x21,h⟩ := lt_some h
    refine TI_segS (i:=0) (j:=2) [(2,.lf (.own 2 0)),(3,.lf (.own 3 0)),(10,.lf (.v (.slice (cutA Au0 cu0 (((1 : Int)).toNat) 2) (P4.length) (cu0 - ((1 : Int)).toNat)))),(11,vi (P4.length : Int)),(12,vi x21)] (by subst e_x21;kernel_rfl) (by kernel_rfl) ?_
    refine TI_end (by kernel_rfl) ?_
    refine thenQ_n ?_
    exact ⟨n9,Nat.lt_succ_self _,x21,L20,keep_sub (ts:=[2,3,10,11,12]) (hs:=[2,3]) (vs:=[]) (by kernel_rfl),l_L20,h⟩
   | false =>
    replace h := sp_f h
    refine T_condF (x:=(.tmp 13)) (c1:=(sub [1,1,0,1,0,0,1,0,0] Bd83)) (c2:=(sub [1,1,0,1,0,0,1,0,1] Bd83)) (by kernel_rfl) (by kernel_rfl) ?_
    refine T_keepS [(2,.lf (.own 2 0)),(3,.lf (.own 3 0))] (by kernel_rfl) ?_
    refine T_exit (id:=0) (by kernel_rfl) ?_
    refine thenQ_x ?_
    refine thenQ_x ?_
    refine blockQ_x ?_
    refine thenQ_n ?_
    exact ⟨L8,keep_sub (ts:=[2,3]) (hs:=[2,3]) (vs:=[]) (by kernel_rfl),l_L8,h⟩
 ·rintro s' ⟨L5,hsub,l_L5,h⟩
  subst e_j6
  refine thenQ_n ?_
  refine T_sub hsub ?_
  refine T_seq (c1:=(sub [1,1,1,0] Bd83)) (c2:=(sub [1,1,1,1] Bd83)) (by kernel_rfl) ?_
  refine T_region (id:=7) (by kernel_rfl) ?_
  refine TI_segK (i:=0) (j:=2) (s':={ σ := [(2,.lf (.own 2 0))],H := [(2,[.arr .i64 2 L5])],V := [],M := M,ds := [] }) [2] [2] [] (by kernel_rfl) (by kernel_rfl) ?_
  refine TI_end (by kernel_rfl) ?_
  refine thenQ_n ?_
  refine T_ret (by kernel_rfl) ?_
  have h := Option.some.inj h
  subst h
  refine fin_ret (.agg [.arr .i64 2 L5]) (by kernel_rfl) (by kernel_rfl) rfl ?_
  rfl
def p59_l1 (k : Nat) (u0_0 : List (List Int)) (u0_1 : List Int) (u1 : List Int) (j5 : List Int → Option (List Int)) : Nat → Int → List Int → Option (List Int)
 | 0,_,_ => none
 | n8 + 1,x6,L7 => cl (p53 k u0_0 u0_1) fun v9 => lt' (decide (x6 < v9)) fun b10 => sp b10 (jn (fun (L11 : List Int) => lt' (wr .i64 (x6 + (1 : Int))) fun x30 => p59_l1 k u0_0 u0_1 u1 j5 n8 x30 L11) fun j12 => lt' (List.getD u1 2 0) fun x13 => cl (p17 k u0_0 u0_1 x6 x13) fun v14 => gd ((v14).length = 2) <| lt' (List.getD v14 0 0) fun x16 => lt' (wr .i64 (x6 + (1 : Int))) fun x17 => lt' (List.getD u1 2 0) fun x18 => cl (p17 k u0_0 u0_1 x17 x18) fun v19 => gd ((v19).length = 2) <| lt' (List.getD v19 0 0) fun x21 => lt' (mx x16 x21) fun x22 => jn (fun (b23 : Bool) => sp b23 (gd ((L7.length + List.length ([x6])) * 8 ≤ 140737488355328) <| lt' (L7 ++ ([x6])) fun W29 => j12 W29) (j12 L7)) fun j24 => cl (p80 k u0_0 u0_1 u1 x6) fun v25 => sp v25 (lt' (List.getD u1 3 0) fun x26 => lt' (decide (x22 > x26)) fun b27 => j24 b27) (j24 false)) (j5 L7)
def p59 (k : Nat) (u0_0 : List (List Int)) (u0_1 : List Int) (u1 : List Int) : Option (List Int) :=
 jn (fun (L4 : List Int) => some L4) fun j5 => p59_l1 k u0_0 u0_1 u1 j5 k (0 : Int) ([] : List Int)
theorem hf59 : Try.prog.funcs[59]? = some Try.f59 := by kernel_rfl
theorem w59 (k : Nat) {M : Mem} {Au0_0 : Option Addr} {cu0_0 : Nat} {u0_0 : List (List Int)} {u0_1 : List Int} {u1 : List Int} (hu0_0 : SlR M Au0_0 cu0_0 .i64 11 u0_0) (hu0_1 : u0_1.length = 4) (hu1 : u1.length = 7) {r} (h : p59 k u0_0 u0_1 u1 = some r) :
  Fn Try.prog 59 [rval (.agg [.one (.v (.slice Au0_0 (u0_0.length) cu0_0)),.arr .i64 4 u0_1]),rval (.agg [.arr .i64 7 u1])] M (fun x M' => ∃ (A1 : Option Addr) (c2 : Nat),x = .lf (.v (.slice A1 (r.length) c2)) ∧ SlI M' A1 c2 .i64 r) := by
 unfold p59 at h
 refine Fn_of (P:=Try.prog) (fn:=Try.f59) (c:=bodyOf Try.f59) [.agg [.one (.v (.slice Au0_0 (u0_0.length) cu0_0)),.arr .i64 4 u0_1],.agg [.arr .i64 7 u1]] hf59 (by kernel_rfl) (Nat.le_of_ble_eq_true (by kernel_rfl)) (args_ok (by kernel_rfl) ⟨⟨rfl,⟨hu0_1,trivial⟩⟩,⟨⟨hu1,trivial⟩,trivial⟩⟩) fun w => ?_
 change T _ _ _ (endQ _ _ _)
 refine T_seq (c1:=(sub [0] Bd59)) (c2:=(sub [1] Bd59)) (by kernel_rfl) ?_
 refine T_region (id:=0) (by kernel_rfl) ?_
 refine TI_segK (i:=0) (j:=3) (s':={ σ := [(2,.lf (.own 2 0)),(3,.lf (.own 3 0))],H := [(2,[.one (.v (.slice Au0_0 (u0_0.length) cu0_0)),.arr .i64 4 u0_1]),(3,[.arr .i64 7 u1])],V := [],M := M,ds := [] }) [2,3] [2,3] [] (by kernel_rfl) (by kernel_rfl) ?_
 refine TI_end (by kernel_rfl) ?_
 refine thenQ_n ?_
 refine T_seq (c1:=(sub [1,0] Bd59)) (c2:=(sub [1,1] Bd59)) (by kernel_rfl) ?_
 refine T_region (id:=1) (by kernel_rfl) ?_
 refine TI_segS (i:=0) (j:=1) [(2,.lf (.own 2 0)),(3,.lf (.own 3 0)),(5,.lf (.v (.slice none (List.length ([] : List Int)) 0)))] (by kernel_rfl) (by kernel_rfl) ?_
 refine TI_end (by kernel_rfl) ?_
 refine thenQ_n ?_
 refine T_turn (turn_nil 5003 3 1 [(2,.lf (.own 2 0)),(3,.lf (.own 3 0)),(5,.lf (.vec 5003))] [(2,[.one (.v (.slice Au0_0 (u0_0.length) cu0_0)),.arr .i64 4 u0_1]),(3,[.arr .i64 7 u1])] (by kernel_rfl) (by kernel_rfl) (by kernel_rfl)) ?_
 rintro _ rfl
 refine T_keep (s':={ σ := [(2,.lf (.own 2 0)),(3,.lf (.own 3 0)),(5,.lf (.vec 5003))],H := [(2,[.one (.v (.slice Au0_0 (u0_0.length) cu0_0)),.arr .i64 4 u0_1]),(3,[.arr .i64 7 u1])],V := [(5003,⟨3,1,List.length ([] : List Int),ints .i64 ([] : List Int)⟩)],M := M,ds := [] }) [2,3,5] [2,3] [5003] (by kernel_rfl) ?_
 refine T_seq (c1:=(sub [1,1,0] Bd59)) (c2:=(sub [1,1,1] Bd59)) (by kernel_rfl) ?_
 refine T_seq (c1:=(sub [1,1,0,0] Bd59)) (c2:=(sub [1,1,0,1] Bd59)) (by kernel_rfl) ?_
 refine T_region (id:=2) (by kernel_rfl) ?_
 refine TI_segS (i:=0) (j:=1) [(2,.lf (.own 2 0)),(3,.lf (.own 3 0)),(5,.lf (.vec 5003)),(6,vi (0 : Int))] (by kernel_rfl) (by kernel_rfl) ?_
 refine TI_end (by kernel_rfl) ?_
 refine thenQ_n ?_
 obtain ⟨j5,e_j5,h⟩ := jn_some h
 refine T_bcut (id:=0) (c1:=(sub [1,1,0,1,0] Bd59)) (fun s' => ∃ (L4 : List Int),Sub { σ := [(5,.lf (.vec 5003))],H := [],V := [(5003,⟨3,1,List.length L4,ints .i64 L4⟩)],M := M,ds := [] } s' ∧ j5 L4 = some r) (by kernel_rfl) ?_ ?_
 ·refine T_loop (c1:=(sub [1,1,0,1,0,0] Bd59)) (by kernel_rfl) (fun n8 s' => ∃ (x6 : Int) (L7 : List Int),Sub { σ := [(2,.lf (.own 2 0)),(3,.lf (.own 3 0)),(5,.lf (.vec 5003)),(6,vi x6)],H := [(2,[.one (.v (.slice Au0_0 (u0_0.length) cu0_0)),.arr .i64 4 u0_1]),(3,[.arr .i64 7 u1])],V := [(5003,⟨3,1,List.length L7,ints .i64 L7⟩)],M := M,ds := [] } s' ∧ p59_l1 k u0_0 u0_1 u1 j5 n8 x6 L7 = some r) (k:=k) ⟨(0 : Int),([] : List Int),keep_sub (ts:=[2,3,5,6]) (hs:=[2,3]) (vs:=[5003]) (by kernel_rfl),h⟩ ?_
  rintro n8 s' ⟨x6,L7,hsub,h⟩
  cases n8 with
  | zero => rw [p59_l1] at h;cases h
  | succ n8 =>
   rw [p59_l1] at h
   refine T_sub hsub ?_
   refine T_seq (c1:=(sub [1,1,0,1,0,0,0] Bd59)) (c2:=(sub [1,1,0,1,0,0,1] Bd59)) (by kernel_rfl) ?_
   refine T_seq (c1:=(sub [1,1,0,1,0,0,0,0] Bd59)) (c2:=(sub [1,1,0,1,0,0,0,1] Bd59)) (by kernel_rfl) ?_
   refine T_region (id:=3) (by kernel_rfl) ?_
   refine TI_segK (i:=0) (j:=2) (s':={ σ := [(2,.lf (.own 2 0)),(3,.lf (.own 3 0)),(5,.lf (.vec 5003)),(6,vi x6),(8,vi x6),(9,.agg [.one (.v (.slice Au0_0 (u0_0.length) cu0_0)),.arr .i64 4 u0_1])],H := [(2,[.one (.v (.slice Au0_0 (u0_0.length) cu0_0)),.arr .i64 4 u0_1]),(3,[.arr .i64 7 u1])],V := [(5003,⟨3,1,List.length L7,ints .i64 L7⟩)],M := M,ds := [] }) [2,3,5,6,8,9] [2,3] [5003] (by kernel_rfl) (by kernel_rfl) ?_
   obtain ⟨v9,c_v9,h⟩ := cl_some h
   refine TI_at (i:=2) (d:=10) (x:=vi v9) (At_call (d:=10) (f:=53) (args:=[rval (.agg [.one (.v (.slice Au0_0 (u0_0.length) cu0_0)),.arr .i64 4 u0_1])]) (x:=vi v9) (by kernel_rfl) (w53 k hu0_0 hu0_1 c_v9)) (by kernel_rfl) trivial ?_
   obtain ⟨b10,e_b10,h⟩ := lt_some h
   refine TI_segK (i:=3) (j:=4) (s':={ σ := [(2,.lf (.own 2 0)),(3,.lf (.own 3 0)),(5,.lf (.vec 5003)),(6,vi x6),(11,vb b10)],H := [(2,[.one (.v (.slice Au0_0 (u0_0.length) cu0_0)),.arr .i64 4 u0_1]),(3,[.arr .i64 7 u1])],V := [(5003,⟨3,1,List.length L7,ints .i64 L7⟩)],M := M,ds := [] }) [2,3,5,6,11] [2,3] [5003] (by subst e_b10;kernel_rfl) (by kernel_rfl) ?_
   refine TI_end (by kernel_rfl) ?_
   refine thenQ_n ?_
   cases b10 with
   | true =>
    replace h := sp_t h
    refine T_condT (x:=(.tmp 11)) (c1:=(sub [1,1,0,1,0,0,0,1,0] Bd59)) (c2:=(sub [1,1,0,1,0,0,0,1,1] Bd59)) (by kernel_rfl) (by kernel_rfl) ?_
    refine T_keepS [(2,.lf (.own 2 0)),(3,.lf (.own 3 0)),(5,.lf (.vec 5003)),(6,vi x6)] (by kernel_rfl) ?_
    refine T_skip (by kernel_rfl) ?_
    refine thenQ_n ?_
    obtain ⟨j12,e_j12,h⟩ := jn_some h
    refine T_cut (c1:=(sub [1,1,0,1,0,0,1,0] Bd59)) (c2:=(sub [1,1,0,1,0,0,1,1] Bd59)) (fun s' => ∃ (L11 : List Int),Sub { σ := [(2,.lf (.own 2 0)),(3,.lf (.own 3 0)),(5,.lf (.vec 41)),(6,vi x6)],H := [(2,[.one (.v (.slice Au0_0 (u0_0.length) cu0_0)),.arr .i64 4 u0_1]),(3,[.arr .i64 7 u1])],V := [(41,⟨3,1,List.length L11,ints .i64 L11⟩)],M := M,ds := [] } s' ∧ j12 L11 = some r) (by kernel_rfl) ?_ ?_
    ·refine T_block (id:=1) (c1:=(sub [1,1,0,1,0,0,1,0,0] Bd59)) (by kernel_rfl) ?_
     refine T_seq (c1:=(sub [1,1,0,1,0,0,1,0,0,0] Bd59)) (c2:=(sub [1,1,0,1,0,0,1,0,0,1] Bd59)) (by kernel_rfl) ?_
     obtain ⟨x13,e_x13,h⟩ := lt_some h
     obtain ⟨v14,c_v14,h⟩ := cl_some h
     obtain ⟨g15,h⟩ := gd_some h
     obtain ⟨x16,e_x16,h⟩ := lt_some h
     obtain ⟨x17,e_x17,h⟩ := lt_some h
     obtain ⟨x18,e_x18,h⟩ := lt_some h
     obtain ⟨v19,c_v19,h⟩ := cl_some h
     obtain ⟨g20,h⟩ := gd_some h
     obtain ⟨x21,e_x21,h⟩ := lt_some h
     obtain ⟨x22,e_x22,h⟩ := lt_some h
     refine T_draw' (id:=5) [] [0,0,0,0,0,0,0,0,0,0,0,0,0,0,0] (by kernel_rfl) (by kernel_rfl) (by kernel_rfl) (by kernel_rfl) [(14,.agg [.one (.v (.slice Au0_0 (u0_0.length) cu0_0)),.arr .i64 4 u0_1]),(15,vi x6),(16,.lf (.own 3 2)),(17,vi x13),(18,.agg [.arr .i64 2 v14]),(19,vi x16),(20,.agg [.one (.v (.slice Au0_0 (u0_0.length) cu0_0)),.arr .i64 4 u0_1]),(21,vi x6),(22,vi x17),(23,.lf (.own 3 2)),(24,vi x18),(25,.agg [.arr .i64 2 v19]),(26,vi x21),(27,vi x22),(7,vi x22)] (by kernel_rfl) ⟨⟨rfl,⟨hu0_1,trivial⟩⟩,⟨trivial,⟨trivial,⟨trivial,⟨⟨g15,trivial⟩,⟨trivial,⟨⟨rfl,⟨hu0_1,trivial⟩⟩,⟨trivial,⟨trivial,⟨trivial,⟨trivial,⟨⟨g20,trivial⟩,⟨trivial,⟨trivial,⟨trivial,trivial⟩⟩⟩⟩⟩⟩⟩⟩⟩⟩⟩⟩⟩⟩⟩ ?_
     refine Stage_nil (stage_all' [0,1,2,3,5,6,7,8,9,10,12,13,14] [4,11] (by kernel_rfl) (by subst_vars;kernel_rfl) (by kernel_rfl) ⟨QF_at (i:=4) (d:=18) (x:=.agg [.arr .i64 2 v14]) (show OpAt _ _ _ 4 18 _ from by exact At_call (d:=18) (f:=17) (args:=[rval (.agg [.one (.v (.slice Au0_0 (u0_0.length) cu0_0)),.arr .i64 4 u0_1]),rval (vi x6),rval (vi x13)]) (x:=.agg [.arr .i64 2 v14]) (by subst_vars;kernel_rfl) (w17 k hu0_0 hu0_1 c_v14)) (by kernel_rfl) (by subst_vars;kernel_rfl),⟨QF_at (i:=11) (d:=25) (x:=.agg [.arr .i64 2 v19]) (show OpAt _ _ _ 11 25 _ from by exact At_call (d:=25) (f:=17) (args:=[rval (.agg [.one (.v (.slice Au0_0 (u0_0.length) cu0_0)),.arr .i64 4 u0_1]),rval (vi x17),rval (vi x18)]) (x:=.agg [.arr .i64 2 v19]) (by subst_vars;kernel_rfl) (w17 k hu0_0 hu0_1 c_v19)) (by kernel_rfl) (by subst_vars;kernel_rfl),trivial⟩⟩) ?_
     refine thenQ_n ?_
     refine T_keep (s':={ σ := [(2,.lf (.own 2 0)),(3,.lf (.own 3 0)),(5,.lf (.vec 5003)),(6,vi x6),(7,vi x22)],H := [(2,[.one (.v (.slice Au0_0 (u0_0.length) cu0_0)),.arr .i64 4 u0_1]),(3,[.arr .i64 7 u1])],V := [(5003,⟨3,1,List.length L7,ints .i64 L7⟩)],M := M,ds := [] }) [2,3,5,6,7] [2,3] [5003] (by subst_vars;kernel_rfl) ?_
     obtain ⟨j24,e_j24,h⟩ := jn_some h
     refine T_cut (c1:=(sub [1,1,0,1,0,0,1,0,0,1,0] Bd59)) (c2:=(sub [1,1,0,1,0,0,1,0,0,1,1] Bd59)) (fun s' => ∃ (b23 : Bool),Sub { σ := [(2,.lf (.own 2 0)),(3,.lf (.own 3 0)),(5,.lf (.vec 5003)),(6,vi x6),(37,vb b23)],H := [(2,[.one (.v (.slice Au0_0 (u0_0.length) cu0_0)),.arr .i64 4 u0_1]),(3,[.arr .i64 7 u1])],V := [(5003,⟨3,1,List.length L7,ints .i64 L7⟩)],M := M,ds := [] } s' ∧ j24 b23 = some r) (by kernel_rfl) ?_ ?_
     ·refine T_region (id:=6) (by kernel_rfl) ?_
      refine TI_segK (i:=0) (j:=3) (s':={ σ := [(2,.lf (.own 2 0)),(3,.lf (.own 3 0)),(5,.lf (.vec 5003)),(6,vi x6),(7,vi x22),(28,.agg [.one (.v (.slice Au0_0 (u0_0.length) cu0_0)),.arr .i64 4 u0_1]),(29,.agg [.arr .i64 7 u1]),(30,vi x6)],H := [(2,[.one (.v (.slice Au0_0 (u0_0.length) cu0_0)),.arr .i64 4 u0_1]),(3,[.arr .i64 7 u1])],V := [(5003,⟨3,1,List.length L7,ints .i64 L7⟩)],M := M,ds := [] }) [2,3,5,6,7,28,29,30] [2,3] [5003] (by kernel_rfl) (by kernel_rfl) ?_
      obtain ⟨v25,c_v25,h⟩ := cl_some h
      refine TI_at (i:=3) (d:=31) (x:=vb v25) (At_call (d:=31) (f:=80) (args:=[rval (.agg [.one (.v (.slice Au0_0 (u0_0.length) cu0_0)),.arr .i64 4 u0_1]),rval (.agg [.arr .i64 7 u1]),rval (vi x6)]) (x:=vb v25) (by kernel_rfl) (w80 k hu0_0 hu0_1 hu1 c_v25)) (by kernel_rfl) trivial ?_
      refine TI_segK (i:=4) (j:=5) (s':={ σ := [(2,.lf (.own 2 0)),(3,.lf (.own 3 0)),(5,.lf (.vec 5003)),(6,vi x6),(7,vi x22),(32,vb v25)],H := [(2,[.one (.v (.slice Au0_0 (u0_0.length) cu0_0)),.arr .i64 4 u0_1]),(3,[.arr .i64 7 u1])],V := [(5003,⟨3,1,List.length L7,ints .i64 L7⟩)],M := M,ds := [] }) [2,3,5,6,7,32] [2,3] [5003] (by kernel_rfl) (by kernel_rfl) ?_
      cases v25 with
      | true =>
       replace h := sp_t h
       obtain ⟨x26,e_x26,h⟩ := lt_some h
       obtain ⟨b27,e_b27,h⟩ := lt_some h
       refine TI_segS (i:=5) (j:=10) [(2,.lf (.own 2 0)),(3,.lf (.own 3 0)),(5,.lf (.vec 5003)),(6,vi x6),(37,vb b27)] (by subst e_b27 e_x26;kernel_rfl) (by kernel_rfl) ?_
       refine TI_end (by kernel_rfl) ?_
       refine thenQ_n ?_
       exact ⟨b27,keep_sub (ts:=[2,3,5,6,37]) (hs:=[2,3]) (vs:=[5003]) (by kernel_rfl),h⟩
      | false =>
       replace h := sp_f h
       refine TI_segS (i:=5) (j:=10) [(2,.lf (.own 2 0)),(3,.lf (.own 3 0)),(5,.lf (.vec 5003)),(6,vi x6),(37,vb false)] (by kernel_rfl) (by kernel_rfl) ?_
       refine TI_end (by kernel_rfl) ?_
       refine thenQ_n ?_
       exact ⟨false,keep_sub (ts:=[2,3,5,6,37]) (hs:=[2,3]) (vs:=[5003]) (by kernel_rfl),h⟩
     ·rintro s' ⟨b23,hsub,h⟩
      subst e_j24
      refine T_sub hsub ?_
      cases b23 with
      | true =>
       replace h := sp_t h
       refine T_condT (x:=(.tmp 37)) (c1:=(sub [1,1,0,1,0,0,1,0,0,1,1,0] Bd59)) (c2:=(sub [1,1,0,1,0,0,1,0,0,1,1,1] Bd59)) (by kernel_rfl) (by kernel_rfl) ?_
       refine T_keep (s':={ σ := [(2,.lf (.own 2 0)),(3,.lf (.own 3 0)),(5,.lf (.vec 5003)),(6,vi x6)],H := [(2,[.one (.v (.slice Au0_0 (u0_0.length) cu0_0)),.arr .i64 4 u0_1]),(3,[.arr .i64 7 u1])],V := [(5003,⟨3,1,List.length L7,ints .i64 L7⟩)],M := M,ds := [] }) [2,3,5,6] [2,3] [5003] (by kernel_rfl) ?_
       refine T_region (id:=7) (by kernel_rfl) ?_
       refine TI_segS (i:=0) (j:=2) [(2,.lf (.own 2 0)),(3,.lf (.own 3 0)),(6,vi x6),(38,.lf (.vec 5003)),(39,vi x6)] (by kernel_rfl) (by kernel_rfl) ?_
       refine TI_of (i:=2) (by kernel_rfl) (TE_litC (d:=40) (e:=3) (sz:=1) (len:=1) (cs:=ints .i64 ([x6])) (by kernel_rfl) (by kernel_rfl) (by kernel_rfl) ?_)
       obtain ⟨g28,h⟩ := gd_some h
       obtain ⟨W29,e_W29,h⟩ := lt_some h
       refine TI_of (i:=3) (by kernel_rfl) (TE_appC (d:=41) (e:=3) (sz:=1) (bytes:=8) (n:=5003) (x:=(.tmp 40)) (len:=List.length L7) (cs0:=ints .i64 L7) (cs2:=ints .i64 W29) (by subst e_W29;kernel_rfl) (by kernel_rfl) (by subst e_W29;kernel_rfl) (vecI_src (n:=40) (e:=3) (k:=.i64) (L:=[x6]) (by subst e_W29;kernel_rfl) (by subst e_W29;kernel_rfl)) g28 rfl (len_app_eq e_W29) (ints_app_eq e_W29) ?_)
       refine TI_segK (i:=4) (j:=5) (s':={ σ := [(2,.lf (.own 2 0)),(3,.lf (.own 3 0)),(5,.lf (.vec 41)),(6,vi x6)],H := [(2,[.one (.v (.slice Au0_0 (u0_0.length) cu0_0)),.arr .i64 4 u0_1]),(3,[.arr .i64 7 u1])],V := [(41,⟨3,1,List.length W29,ints .i64 W29⟩)],M := M,ds := [] }) [2,3,5,6] [2,3] [41] (by kernel_rfl) (by kernel_rfl) ?_
       refine TI_end (by kernel_rfl) ?_
       refine blockQ_n ?_
       refine thenQ_n ?_
       exact ⟨W29,keep_sub (ts:=[2,3,5,6]) (hs:=[2,3]) (vs:=[41]) (by kernel_rfl),h⟩
      | false =>
       replace h := sp_f h
       refine T_condF (x:=(.tmp 37)) (c1:=(sub [1,1,0,1,0,0,1,0,0,1,1,0] Bd59)) (c2:=(sub [1,1,0,1,0,0,1,0,0,1,1,1] Bd59)) (by kernel_rfl) (by kernel_rfl) ?_
       refine T_keep (s':={ σ := [(2,.lf (.own 2 0)),(3,.lf (.own 3 0)),(5,.lf (.vec 5003)),(6,vi x6)],H := [(2,[.one (.v (.slice Au0_0 (u0_0.length) cu0_0)),.arr .i64 4 u0_1]),(3,[.arr .i64 7 u1])],V := [(5003,⟨3,1,List.length L7,ints .i64 L7⟩)],M := M,ds := [] }) [2,3,5,6] [2,3] [5003] (by kernel_rfl) ?_
       refine T_skip (by kernel_rfl) ?_
       refine blockQ_n ?_
       refine thenQ_n ?_
       exact ⟨L7,Sub.trans (keep_sub (ts:=[2,3,5,6]) (hs:=[2,3]) (vs:=[41]) (by kernel_rfl)) (Sub.trans (ren_sub 5003 41 (s':={ σ := [(2,.lf (.own 2 0)),(3,.lf (.own 3 0)),(5,.lf (.vec 41)),(6,vi x6)],H := [(2,[.one (.v (.slice Au0_0 (u0_0.length) cu0_0)),.arr .i64 4 u0_1]),(3,[.arr .i64 7 u1])],V := [(41,⟨3,1,List.length L7,ints .i64 L7⟩)],M := M,ds := [] }) (by kernel_rfl) (by kernel_rfl)) (keep_sub (s':={ σ := [(2,.lf (.own 2 0)),(3,.lf (.own 3 0)),(5,.lf (.vec 5003)),(6,vi x6)],H := [(2,[.one (.v (.slice Au0_0 (u0_0.length) cu0_0)),.arr .i64 4 u0_1]),(3,[.arr .i64 7 u1])],V := [(5003,⟨3,1,List.length L7,ints .i64 L7⟩)],M := M,ds := [] }) (ts:=[2,3,5,6]) (hs:=[2,3]) (vs:=[5003]) (by kernel_rfl))),h⟩
    ·rintro s' ⟨L11,hsub,h⟩
     subst e_j12
     refine T_sub hsub ?_
     refine T_region (id:=4) (by kernel_rfl) ?_
     obtain ⟨x30,e_x30,h⟩ := lt_some h
     refine TI_segK (i:=0) (j:=3) (s':={ σ := [(2,.lf (.own 2 0)),(3,.lf (.own 3 0)),(5,.lf (.vec 41)),(6,vi x30)],H := [(2,[.one (.v (.slice Au0_0 (u0_0.length) cu0_0)),.arr .i64 4 u0_1]),(3,[.arr .i64 7 u1])],V := [(41,⟨3,1,List.length L11,ints .i64 L11⟩)],M := M,ds := [] }) [2,3,5,6] [2,3] [41] (by subst e_x30;kernel_rfl) (by kernel_rfl) ?_
     refine TI_end (by kernel_rfl) ?_
     refine thenQ_n ?_
     exact ⟨n8,Nat.lt_succ_self _,x30,L11,Sub.trans (keep_sub (ts:=[2,3,5,6]) (hs:=[2,3]) (vs:=[5003]) (by kernel_rfl)) (Sub.trans (ren_sub 41 5003 (s':={ σ := [(2,.lf (.own 2 0)),(3,.lf (.own 3 0)),(5,.lf (.vec 5003)),(6,vi x30)],H := [(2,[.one (.v (.slice Au0_0 (u0_0.length) cu0_0)),.arr .i64 4 u0_1]),(3,[.arr .i64 7 u1])],V := [(5003,⟨3,1,List.length L11,ints .i64 L11⟩)],M := M,ds := [] }) (by kernel_rfl) (by kernel_rfl)) (keep_sub (s':={ σ := [(2,.lf (.own 2 0)),(3,.lf (.own 3 0)),(5,.lf (.vec 41)),(6,vi x30)],H := [(2,[.one (.v (.slice Au0_0 (u0_0.length) cu0_0)),.arr .i64 4 u0_1]),(3,[.arr .i64 7 u1])],V := [(41,⟨3,1,List.length L11,ints .i64 L11⟩)],M := M,ds := [] }) (ts:=[2,3,5,6]) (hs:=[2,3]) (vs:=[41]) (by kernel_rfl))),h⟩
   | false =>
    replace h := sp_f h
    refine T_condF (x:=(.tmp 11)) (c1:=(sub [1,1,0,1,0,0,0,1,0] Bd59)) (c2:=(sub [1,1,0,1,0,0,0,1,1] Bd59)) (by kernel_rfl) (by kernel_rfl) ?_
    refine T_keep (s':={ σ := [(5,.lf (.vec 5003))],H := [],V := [(5003,⟨3,1,List.length L7,ints .i64 L7⟩)],M := M,ds := [] }) [5] [] [5003] (by kernel_rfl) ?_
    refine T_exit (id:=0) (by kernel_rfl) ?_
    refine thenQ_x ?_
    refine thenQ_x ?_
    refine blockQ_x ?_
    refine thenQ_n ?_
    exact ⟨L7,keep_sub (ts:=[5]) (hs:=[]) (vs:=[5003]) (by kernel_rfl),h⟩
 ·rintro s' ⟨L4,hsub,h⟩
  subst e_j5
  refine thenQ_n ?_
  refine T_sub hsub ?_
  refine T_seq (c1:=(sub [1,1,1,0] Bd59)) (c2:=(sub [1,1,1,1] Bd59)) (by kernel_rfl) ?_
  refine T_region (id:=8) (by kernel_rfl) ?_
  refine TI_segK (i:=0) (j:=2) (s':={ σ := [(4,.lf (.vec 5003))],H := [],V := [(5003,⟨3,1,List.length L4,ints .i64 L4⟩)],M := M,ds := [] }) [4] [] [5003] (by kernel_rfl) (by kernel_rfl) ?_
  refine TI_end (by kernel_rfl) ?_
  refine thenQ_n ?_
  refine T_turn (turn_pubV 5003 (v:=⟨3,1,List.length L4,ints .i64 L4⟩) (by kernel_rfl)) ?_
  rintro _ ⟨A31,c32,M33,rfl,hSA31,hcA31,-,hNA31,hM33⟩
  have fA31 : SlI M33 A31 c32 .i64 L4 := ⟨hSA31,hcA31⟩
  refine T_keep (s':={ σ := [(4,.lf (.v (.slice A31 (L4.length) c32)))],H := [],V := [],M := M33,ds := [] }) [4] [] [] (by kernel_rfl) ?_
  refine T_ret (by kernel_rfl) ?_
  have h := Option.some.inj h
  subst h
  refine fin_ret (.lf (.v (.slice A31 (L4.length) c32))) (by kernel_rfl) (by kernel_rfl) rfl ?_
  exact ⟨A31,c32,rfl,fA31⟩
def p51 (k : Nat) (u0_0 : List (List Int)) (u0_1 : List Int) (u1 : List Int) : Option Int :=
 cl (p59 k u0_0 u0_1 u1) fun v1 => cl (p60 k u0_0 u0_1 u1 v1) fun v5 => lt' (decide (v5 < (0 : Int))) fun b6 => sp b6 (some (1 : Int)) (cl (p76 k u0_0 u0_1 u1) fun v7 => lt' (decide (v7 < (0 : Int))) fun b8 => sp b8 (some (2 : Int)) (some (0 : Int)))
theorem hf51 : Try.prog.funcs[51]? = some Try.f51 := by kernel_rfl
theorem w51 (k : Nat) {M : Mem} {Au0_0 : Option Addr} {cu0_0 : Nat} {u0_0 : List (List Int)} {u0_1 : List Int} {u1 : List Int} (hu0_0 : SlR M Au0_0 cu0_0 .i64 11 u0_0) (hu0_1 : u0_1.length = 4) (hu1 : u1.length = 7) {r} (h : p51 k u0_0 u0_1 u1 = some r) :
  Fn Try.prog 51 [rval (.agg [.one (.v (.slice Au0_0 (u0_0.length) cu0_0)),.arr .i64 4 u0_1]),rval (.agg [.arr .i64 7 u1])] M (fun x _ => x = vi r) := by
 unfold p51 at h
 refine Fn_of (P:=Try.prog) (fn:=Try.f51) (c:=bodyOf Try.f51) [.agg [.one (.v (.slice Au0_0 (u0_0.length) cu0_0)),.arr .i64 4 u0_1],.agg [.arr .i64 7 u1]] hf51 (by kernel_rfl) (Nat.le_of_ble_eq_true (by kernel_rfl)) (args_ok (by kernel_rfl) ⟨⟨rfl,⟨hu0_1,trivial⟩⟩,⟨⟨hu1,trivial⟩,trivial⟩⟩) fun w => ?_
 change T _ _ _ (endQ _ _ _)
 refine T_seq (c1:=(sub [0] Bd51)) (c2:=(sub [1] Bd51)) (by kernel_rfl) ?_
 refine T_region (id:=0) (by kernel_rfl) ?_
 refine TI_segK (i:=0) (j:=3) (s':={ σ := [(2,.lf (.own 2 0)),(3,.lf (.own 3 0))],H := [(2,[.one (.v (.slice Au0_0 (u0_0.length) cu0_0)),.arr .i64 4 u0_1]),(3,[.arr .i64 7 u1])],V := [],M := M,ds := [] }) [2,3] [2,3] [] (by kernel_rfl) (by kernel_rfl) ?_
 refine TI_end (by kernel_rfl) ?_
 refine thenQ_n ?_
 refine T_seq (c1:=(sub [1,0] Bd51)) (c2:=(sub [1,1] Bd51)) (by kernel_rfl) ?_
 refine T_seq (c1:=(sub [1,0,0] Bd51)) (c2:=(sub [1,0,1] Bd51)) (by kernel_rfl) ?_
 obtain ⟨v1,c_v1,h⟩ := cl_some h
 obtain ⟨v5,c_v5,h⟩ := cl_some h
 obtain ⟨b6,e_b6,h⟩ := lt_some h
 refine T_draw' (id:=1) [4] [0,0,0,0,0,1,1] (by kernel_rfl) (by kernel_rfl) (by kernel_rfl) (by kernel_rfl) [(5,.agg [.one (.v (.slice Au0_0 (u0_0.length) cu0_0)),.arr .i64 4 u0_1]),(6,.agg [.arr .i64 7 u1]),(7,.agg [.one (.v (.slice Au0_0 (u0_0.length) cu0_0)),.arr .i64 4 u0_1]),(8,.agg [.arr .i64 7 u1])] (by kernel_rfl) ⟨⟨rfl,⟨hu0_1,trivial⟩⟩,⟨⟨hu1,trivial⟩,⟨⟨rfl,⟨hu0_1,trivial⟩⟩,⟨⟨hu1,trivial⟩,trivial⟩⟩⟩⟩ ?_
 refine Stage_te (stage_all' [0,1,2,3] [] (by kernel_rfl) (by subst e_b6;kernel_rfl) (by kernel_rfl) trivial) (TE_callR (d:=9) (f:=59) (args:=[rval (.agg [.one (.v (.slice Au0_0 (u0_0.length) cu0_0)),.arr .i64 4 u0_1]),rval (.agg [.arr .i64 7 u1])]) (by subst e_b6;kernel_rfl) (by subst e_b6;kernel_rfl) (w59 k hu0_0 hu0_1 hu1 c_v1) ?_) 
 rintro _ M4 _ hM4 _ ⟨A2,c3,rfl,fA2⟩
 refine TL_nil (stageQ_of [(10,vi v5),(11,vb b6)] (by kernel_rfl) ⟨trivial,⟨trivial,trivial⟩⟩ ?_)
 refine Stage_nil (stage_all' [0,1,6] [5] (by kernel_rfl) (by subst e_b6;kernel_rfl) (by kernel_rfl) ⟨QF_at (i:=5) (d:=10) (x:=vi v5) (show OpAt _ _ _ 5 10 _ from by exact At_call (d:=10) (f:=60) (args:=[rval (.agg [.one (.v (.slice Au0_0 (u0_0.length) cu0_0)),.arr .i64 4 u0_1]),rval (.agg [.arr .i64 7 u1]),rval (.lf (.v (.slice A2 (v1.length) c3)))]) (x:=vi v5) (by subst e_b6;kernel_rfl) (w60 k (hu0_0.le hM4) hu0_1 hu1 fA2 c_v5)) (by kernel_rfl) (by subst e_b6;kernel_rfl),trivial⟩) ?_
 refine thenQ_n ?_
 refine T_keep (s':={ σ := [(2,.lf (.own 2 0)),(3,.lf (.own 3 0)),(11,vb b6)],H := [(2,[.one (.v (.slice Au0_0 (u0_0.length) cu0_0)),.arr .i64 4 u0_1]),(3,[.arr .i64 7 u1])],V := [],M := M4,ds := [] }) [2,3,11] [2,3] [] (by subst e_b6;kernel_rfl) ?_
 cases b6 with
 | true =>
  replace h := sp_t h
  refine T_condT (x:=(.tmp 11)) (c1:=(sub [1,0,1,0] Bd51)) (c2:=(sub [1,0,1,1] Bd51)) (by kernel_rfl) (by kernel_rfl) ?_
  refine T_keep (s':={ σ := [],H := [],V := [],M := M4,ds := [] }) [] [] [] (by kernel_rfl) ?_
  refine T_seq (c1:=(sub [1,0,1,0,0] Bd51)) (c2:=(sub [1,0,1,0,1] Bd51)) (by kernel_rfl) ?_
  refine T_region (id:=2) (by kernel_rfl) ?_
  refine TI_segS (i:=0) (j:=1) [(4,vi (1 : Int))] (by kernel_rfl) (by kernel_rfl) ?_
  refine TI_end (by kernel_rfl) ?_
  refine thenQ_n ?_
  refine T_ret (by kernel_rfl) ?_
  refine thenQ_r ?_
  have h := Option.some.inj h
  subst h
  refine fin_ret (vi (1 : Int)) (by kernel_rfl) (by kernel_rfl) rfl ?_
  rfl
 | false =>
  replace h := sp_f h
  refine T_condF (x:=(.tmp 11)) (c1:=(sub [1,0,1,0] Bd51)) (c2:=(sub [1,0,1,1] Bd51)) (by kernel_rfl) (by kernel_rfl) ?_
  refine T_keepS [(2,.lf (.own 2 0)),(3,.lf (.own 3 0))] (by kernel_rfl) ?_
  refine T_skip (by kernel_rfl) ?_
  refine thenQ_n ?_
  refine T_seq (c1:=(sub [1,1,0] Bd51)) (c2:=(sub [1,1,1] Bd51)) (by kernel_rfl) ?_
  refine T_seq (c1:=(sub [1,1,0,0] Bd51)) (c2:=(sub [1,1,0,1] Bd51)) (by kernel_rfl) ?_
  refine T_region (id:=3) (by kernel_rfl) ?_
  refine TI_segK (i:=0) (j:=2) (s':={ σ := [(12,.agg [.one (.v (.slice Au0_0 (u0_0.length) cu0_0)),.arr .i64 4 u0_1]),(13,.agg [.arr .i64 7 u1])],H := [],V := [],M := M4,ds := [] }) [12,13] [] [] (by kernel_rfl) (by kernel_rfl) ?_
  obtain ⟨v7,c_v7,h⟩ := cl_some h
  refine TI_at (i:=2) (d:=14) (x:=vi v7) (At_call (d:=14) (f:=76) (args:=[rval (.agg [.one (.v (.slice Au0_0 (u0_0.length) cu0_0)),.arr .i64 4 u0_1]),rval (.agg [.arr .i64 7 u1])]) (x:=vi v7) (by kernel_rfl) (w76 k (hu0_0.le hM4) hu0_1 hu1 c_v7)) (by kernel_rfl) trivial ?_
  obtain ⟨b8,e_b8,h⟩ := lt_some h
  refine TI_segK (i:=3) (j:=4) (s':={ σ := [(15,vb b8)],H := [],V := [],M := M4,ds := [] }) [15] [] [] (by subst e_b8;kernel_rfl) (by kernel_rfl) ?_
  refine TI_end (by kernel_rfl) ?_
  refine thenQ_n ?_
  cases b8 with
  | true =>
   replace h := sp_t h
   refine T_condT (x:=(.tmp 15)) (c1:=(sub [1,1,0,1,0] Bd51)) (c2:=(sub [1,1,0,1,1] Bd51)) (by kernel_rfl) (by kernel_rfl) ?_
   refine T_keepS [] (by kernel_rfl) ?_
   refine T_seq (c1:=(sub [1,1,0,1,0,0] Bd51)) (c2:=(sub [1,1,0,1,0,1] Bd51)) (by kernel_rfl) ?_
   refine T_region (id:=4) (by kernel_rfl) ?_
   refine TI_segS (i:=0) (j:=1) [(4,vi (2 : Int))] (by kernel_rfl) (by kernel_rfl) ?_
   refine TI_end (by kernel_rfl) ?_
   refine thenQ_n ?_
   refine T_ret (by kernel_rfl) ?_
   refine thenQ_r ?_
   have h := Option.some.inj h
   subst h
   refine fin_ret (vi (2 : Int)) (by kernel_rfl) (by kernel_rfl) rfl ?_
   rfl
  | false =>
   replace h := sp_f h
   refine T_condF (x:=(.tmp 15)) (c1:=(sub [1,1,0,1,0] Bd51)) (c2:=(sub [1,1,0,1,1] Bd51)) (by kernel_rfl) (by kernel_rfl) ?_
   refine T_keepS [] (by kernel_rfl) ?_
   refine T_skip (by kernel_rfl) ?_
   refine thenQ_n ?_
   refine T_seq (c1:=(sub [1,1,1,0] Bd51)) (c2:=(sub [1,1,1,1] Bd51)) (by kernel_rfl) ?_
   refine T_region (id:=5) (by kernel_rfl) ?_
   refine TI_segS (i:=0) (j:=1) [(4,vi (0 : Int))] (by kernel_rfl) (by kernel_rfl) ?_
   refine TI_end (by kernel_rfl) ?_
   refine thenQ_n ?_
   refine T_ret (by kernel_rfl) ?_
   have h := Option.some.inj h
   subst h
   refine fin_ret (vi (0 : Int)) (by kernel_rfl) (by kernel_rfl) rfl ?_
   rfl
def p25 (k : Nat) (u0_0 : List (List Int)) (u0_1 : List Int) (u1 : List Int) : Option (Int × Int) :=
 cl (p55 k u0_0 u0_1 u1) fun v1 => lt' (v1 != (0 : Int)) fun b2 => sp b2 (some ((0 : Int),v1)) (cl (p51 k u0_0 u0_1 u1) fun v3 => some (v3,(0 : Int)))
theorem hf25 : Try.prog.funcs[25]? = some Try.f25 := by kernel_rfl
theorem w25 (k : Nat) {M : Mem} {Au0_0 : Option Addr} {cu0_0 : Nat} {u0_0 : List (List Int)} {u0_1 : List Int} {u1 : List Int} (hu0_0 : SlR M Au0_0 cu0_0 .i64 11 u0_0) (hu0_1 : u0_1.length = 4) (hu1 : u1.length = 7) {r} (h : p25 k u0_0 u0_1 u1 = some r) :
  Fn Try.prog 25 [rval (.agg [.one (.v (.slice Au0_0 (u0_0.length) cu0_0)),.arr .i64 4 u0_1]),rval (.agg [.arr .i64 7 u1])] M (fun x _ => x = .tup [(some (.v (.int .i64 r.1)),[]),(some (.v (.int .i64 r.2)),[])]) := by
 unfold p25 at h
 refine Fn_of (P:=Try.prog) (fn:=Try.f25) (c:=bodyOf Try.f25) [.agg [.one (.v (.slice Au0_0 (u0_0.length) cu0_0)),.arr .i64 4 u0_1],.agg [.arr .i64 7 u1]] hf25 (by kernel_rfl) (Nat.le_of_ble_eq_true (by kernel_rfl)) (args_ok (by kernel_rfl) ⟨⟨rfl,⟨hu0_1,trivial⟩⟩,⟨⟨hu1,trivial⟩,trivial⟩⟩) fun w => ?_
 change T _ _ _ (endQ _ _ _)
 refine T_seq (c1:=(sub [0] Bd25)) (c2:=(sub [1] Bd25)) (by kernel_rfl) ?_
 refine T_region (id:=0) (by kernel_rfl) ?_
 refine TI_segK (i:=0) (j:=4) (s':={ σ := [(2,.lf (.own 2 0)),(3,.lf (.own 3 0))],H := [(2,[.one (.v (.slice Au0_0 (u0_0.length) cu0_0)),.arr .i64 4 u0_1]),(3,[.arr .i64 7 u1])],V := [],M := M,ds := [] }) [2,3] [2,3] [] (by kernel_rfl) (by kernel_rfl) ?_
 refine TI_end (by kernel_rfl) ?_
 refine thenQ_n ?_
 refine T_seq (c1:=(sub [1,0] Bd25)) (c2:=(sub [1,1] Bd25)) (by kernel_rfl) ?_
 refine T_region (id:=1) (by kernel_rfl) ?_
 refine TI_segS (i:=0) (j:=2) [(2,.lf (.own 2 0)),(3,.lf (.own 3 0)),(7,.agg [.one (.v (.slice Au0_0 (u0_0.length) cu0_0)),.arr .i64 4 u0_1]),(8,.agg [.arr .i64 7 u1])] (by kernel_rfl) (by kernel_rfl) ?_
 obtain ⟨v1,c_v1,h⟩ := cl_some h
 refine TI_at (i:=2) (d:=9) (x:=vi v1) (At_call (d:=9) (f:=55) (args:=[rval (.agg [.one (.v (.slice Au0_0 (u0_0.length) cu0_0)),.arr .i64 4 u0_1]),rval (.agg [.arr .i64 7 u1])]) (x:=vi v1) (by kernel_rfl) (w55 k hu0_0 hu0_1 hu1 c_v1)) (by kernel_rfl) trivial ?_
 refine TI_segK (i:=3) (j:=4) (s':={ σ := [(2,.lf (.own 2 0)),(3,.lf (.own 3 0)),(6,vi v1)],H := [(2,[.one (.v (.slice Au0_0 (u0_0.length) cu0_0)),.arr .i64 4 u0_1]),(3,[.arr .i64 7 u1])],V := [],M := M,ds := [] }) [2,3,6] [2,3] [] (by kernel_rfl) (by kernel_rfl) ?_
 refine TI_end (by kernel_rfl) ?_
 refine thenQ_n ?_
 refine T_seq (c1:=(sub [1,1,0] Bd25)) (c2:=(sub [1,1,1] Bd25)) (by kernel_rfl) ?_
 refine T_seq (c1:=(sub [1,1,0,0] Bd25)) (c2:=(sub [1,1,0,1] Bd25)) (by kernel_rfl) ?_
 refine T_region (id:=2) (by kernel_rfl) ?_
 obtain ⟨b2,e_b2,h⟩ := lt_some h
 refine TI_segS (i:=0) (j:=2) [(2,.lf (.own 2 0)),(3,.lf (.own 3 0)),(6,vi v1),(11,vb b2)] (by subst e_b2;kernel_rfl) (by kernel_rfl) ?_
 refine TI_end (by kernel_rfl) ?_
 refine thenQ_n ?_
 cases b2 with
 | true =>
  replace h := sp_t h
  refine T_condT (x:=(.tmp 11)) (c1:=(sub [1,1,0,1,0] Bd25)) (c2:=(sub [1,1,0,1,1] Bd25)) (by kernel_rfl) (by kernel_rfl) ?_
  refine T_keep (s':={ σ := [(6,vi v1)],H := [],V := [],M := M,ds := [] }) [6] [] [] (by kernel_rfl) ?_
  refine T_seq (c1:=(sub [1,1,0,1,0,0] Bd25)) (c2:=(sub [1,1,0,1,0,1] Bd25)) (by kernel_rfl) ?_
  refine T_region (id:=3) (by kernel_rfl) ?_
  refine TI_segS (i:=0) (j:=3) [(4,vi (0 : Int)),(5,vi v1)] (by kernel_rfl) (by kernel_rfl) ?_
  refine TI_end (by kernel_rfl) ?_
  refine thenQ_n ?_
  refine T_ret (by kernel_rfl) ?_
  refine thenQ_r ?_
  have h := Option.some.inj h
  subst h
  refine fin_ret (.tup [(some (.v (.int .i64 (0 : Int))),[]),(some (.v (.int .i64 v1)),[])]) (by kernel_rfl) (by kernel_rfl) rfl ?_
  rfl
 | false =>
  replace h := sp_f h
  refine T_condF (x:=(.tmp 11)) (c1:=(sub [1,1,0,1,0] Bd25)) (c2:=(sub [1,1,0,1,1] Bd25)) (by kernel_rfl) (by kernel_rfl) ?_
  refine T_keepS [(2,.lf (.own 2 0)),(3,.lf (.own 3 0))] (by kernel_rfl) ?_
  refine T_skip (by kernel_rfl) ?_
  refine thenQ_n ?_
  refine T_seq (c1:=(sub [1,1,1,0] Bd25)) (c2:=(sub [1,1,1,1] Bd25)) (by kernel_rfl) ?_
  refine T_region (id:=4) (by kernel_rfl) ?_
  refine TI_segK (i:=0) (j:=2) (s':={ σ := [(13,.agg [.one (.v (.slice Au0_0 (u0_0.length) cu0_0)),.arr .i64 4 u0_1]),(14,.agg [.arr .i64 7 u1])],H := [],V := [],M := M,ds := [] }) [13,14] [] [] (by kernel_rfl) (by kernel_rfl) ?_
  obtain ⟨v3,c_v3,h⟩ := cl_some h
  refine TI_at (i:=2) (d:=15) (x:=vi v3) (At_call (d:=15) (f:=51) (args:=[rval (.agg [.one (.v (.slice Au0_0 (u0_0.length) cu0_0)),.arr .i64 4 u0_1]),rval (.agg [.arr .i64 7 u1])]) (x:=vi v3) (by kernel_rfl) (w51 k hu0_0 hu0_1 hu1 c_v3)) (by kernel_rfl) trivial ?_
  refine TI_segK (i:=3) (j:=5) (s':={ σ := [(4,vi v3),(5,vi (0 : Int))],H := [],V := [],M := M,ds := [] }) [4,5] [] [] (by kernel_rfl) (by kernel_rfl) ?_
  refine TI_end (by kernel_rfl) ?_
  refine thenQ_n ?_
  refine T_ret (by kernel_rfl) ?_
  have h := Option.some.inj h
  subst h
  refine fin_ret (.tup [(some (.v (.int .i64 v3)),[]),(some (.v (.int .i64 (0 : Int))),[])]) (by kernel_rfl) (by kernel_rfl) rfl ?_
  rfl
def p40 (k : Nat) : Option (List (List Int) × List Int) :=
 some ([[(100 : Int),(0 : Int),(10 : Int),(5 : Int),(5 : Int),(0 : Int),(0 : Int),(0 : Int),(0 : Int),(0 : Int),(0 : Int)],[(104 : Int),(90 : Int),(100 : Int),(9 : Int),(9 : Int),(0 : Int),(0 : Int),(0 : Int),(0 : Int),(0 : Int),(0 : Int)]],[(2 : Int),(0 : Int),(0 : Int),(0 : Int)])
theorem hf40 : Try.prog.funcs[40]? = some Try.f40 := by kernel_rfl
theorem w40 (k : Nat) {M : Mem} {r} (h : p40 k = some r) :
  Fn Try.prog 40 [] M (fun x M' => ∃ (A1 : Option Addr) (c2 : Nat),x = .agg [.one (.v (.slice A1 (List.length r.1) c2)),.arr .i64 4 r.2] ∧ SlR M' A1 c2 .i64 11 r.1) := by
 unfold p40 at h
 refine Fn_of (P:=Try.prog) (fn:=Try.f40) (c:=bodyOf Try.f40) [] hf40 (by kernel_rfl) (Nat.le_of_ble_eq_true (by kernel_rfl)) (args_ok (by kernel_rfl) trivial) fun w => ?_
 change T _ _ _ (endQ _ _ _)
 refine T_seq (c1:=(sub [0] Bd40)) (c2:=(sub [1] Bd40)) (by kernel_rfl) ?_
 refine T_region (id:=0) (by kernel_rfl) ?_
 refine TI_segK (i:=0) (j:=1) (s':={ σ := [(0,.lf (.own 0 0))],H := [(0,[.one (.v (.slice none (List.length ([] : List (List Int))) 0)),.arr .i64 4 [(0 : Int),(0 : Int),(0 : Int),(0 : Int)]])],V := [],M := M,ds := [] }) [0] [0] [] (by kernel_rfl) (by kernel_rfl) ?_
 refine TI_end (by kernel_rfl) ?_
 refine thenQ_n ?_
 refine T_seq (c1:=(sub [1,0] Bd40)) (c2:=(sub [1,1] Bd40)) (by kernel_rfl) ?_
 refine T_region (id:=1) (by kernel_rfl) ?_
 refine TI_segS (i:=0) (j:=9) [(0,.lf (.own 0 0)),(1,.agg [.arr .i64 4 [(2 : Int),(0 : Int),(0 : Int),(0 : Int)]]),(5,.agg [.arr .i64 11 [(100 : Int),(0 : Int),(10 : Int),(5 : Int),(5 : Int),(0 : Int),(0 : Int),(0 : Int),(0 : Int),(0 : Int),(0 : Int)]]),(9,.agg [.arr .i64 11 [(104 : Int),(90 : Int),(100 : Int),(9 : Int),(9 : Int),(0 : Int),(0 : Int),(0 : Int),(0 : Int),(0 : Int),(0 : Int)]])] (by kernel_rfl) (by kernel_rfl) ?_
 refine TI_of (i:=9) (by kernel_rfl) (TE_litC (d:=10) (e:=43) (sz:=11) (len:=2) (cs:=rowsC .i64 ([[(100 : Int),(0 : Int),(10 : Int),(5 : Int),(5 : Int),(0 : Int),(0 : Int),(0 : Int),(0 : Int),(0 : Int),(0 : Int)],[(104 : Int),(90 : Int),(100 : Int),(9 : Int),(9 : Int),(0 : Int),(0 : Int),(0 : Int),(0 : Int),(0 : Int),(0 : Int)]])) (by kernel_rfl) (by kernel_rfl) (by kernel_rfl) ?_)
 refine TI_segK (i:=10) (j:=12) (s':={ σ := [(0,.lf (.own 0 0))],H := [(0,[.one (.vec 10),.arr .i64 4 [(2 : Int),(0 : Int),(0 : Int),(0 : Int)]])],V := [(10,⟨43,11,List.length ([[(100 : Int),(0 : Int),(10 : Int),(5 : Int),(5 : Int),(0 : Int),(0 : Int),(0 : Int),(0 : Int),(0 : Int),(0 : Int)],[(104 : Int),(90 : Int),(100 : Int),(9 : Int),(9 : Int),(0 : Int),(0 : Int),(0 : Int),(0 : Int),(0 : Int),(0 : Int)]]),rowsC .i64 ([[(100 : Int),(0 : Int),(10 : Int),(5 : Int),(5 : Int),(0 : Int),(0 : Int),(0 : Int),(0 : Int),(0 : Int),(0 : Int)],[(104 : Int),(90 : Int),(100 : Int),(9 : Int),(9 : Int),(0 : Int),(0 : Int),(0 : Int),(0 : Int),(0 : Int),(0 : Int)]])⟩)],M := M,ds := [] }) [0] [0] [10] (by kernel_rfl) (by kernel_rfl) ?_
 refine TI_end (by kernel_rfl) ?_
 refine thenQ_n ?_
 refine T_turn (turn_pubV 10 (v:=⟨43,11,List.length ([[(100 : Int),(0 : Int),(10 : Int),(5 : Int),(5 : Int),(0 : Int),(0 : Int),(0 : Int),(0 : Int),(0 : Int),(0 : Int)],[(104 : Int),(90 : Int),(100 : Int),(9 : Int),(9 : Int),(0 : Int),(0 : Int),(0 : Int),(0 : Int),(0 : Int),(0 : Int)]]),rowsC .i64 ([[(100 : Int),(0 : Int),(10 : Int),(5 : Int),(5 : Int),(0 : Int),(0 : Int),(0 : Int),(0 : Int),(0 : Int),(0 : Int)],[(104 : Int),(90 : Int),(100 : Int),(9 : Int),(9 : Int),(0 : Int),(0 : Int),(0 : Int),(0 : Int),(0 : Int),(0 : Int)]])⟩) (by kernel_rfl)) ?_
 rintro _ ⟨A3,c4,M5,rfl,hSA3,hcA3,-,hNA3,hM5⟩
 have fA3 : SlR M5 A3 c4 .i64 11 ([[(100 : Int),(0 : Int),(10 : Int),(5 : Int),(5 : Int),(0 : Int),(0 : Int),(0 : Int),(0 : Int),(0 : Int),(0 : Int)],[(104 : Int),(90 : Int),(100 : Int),(9 : Int),(9 : Int),(0 : Int),(0 : Int),(0 : Int),(0 : Int),(0 : Int),(0 : Int)]]) := ⟨(rows_cons rfl (rows_cons rfl rows_nil)),hSA3,hcA3⟩
 refine T_keep (s':={ σ := [(0,.lf (.own 0 0))],H := [(0,[.one (.v (.slice A3 (List.length ([[(100 : Int),(0 : Int),(10 : Int),(5 : Int),(5 : Int),(0 : Int),(0 : Int),(0 : Int),(0 : Int),(0 : Int),(0 : Int)],[(104 : Int),(90 : Int),(100 : Int),(9 : Int),(9 : Int),(0 : Int),(0 : Int),(0 : Int),(0 : Int),(0 : Int),(0 : Int)]])) c4)),.arr .i64 4 [(2 : Int),(0 : Int),(0 : Int),(0 : Int)]])],V := [],M := M5,ds := [] }) [0] [0] [] (by kernel_rfl) ?_
 refine T_ret (by kernel_rfl) ?_
 have h := Option.some.inj h
 subst h
 refine fin_ret (.agg [.one (.v (.slice A3 (List.length ([[(100 : Int),(0 : Int),(10 : Int),(5 : Int),(5 : Int),(0 : Int),(0 : Int),(0 : Int),(0 : Int),(0 : Int),(0 : Int)],[(104 : Int),(90 : Int),(100 : Int),(9 : Int),(9 : Int),(0 : Int),(0 : Int),(0 : Int),(0 : Int),(0 : Int),(0 : Int)]])) c4)),.arr .i64 4 [(2 : Int),(0 : Int),(0 : Int),(0 : Int)]]) (by kernel_rfl) (by kernel_rfl) rfl ?_
 exact ⟨A3,c4,rfl,fA3⟩
end Go.Proofs.Ythjkejbgknemgaa
namespace Go.Proofs.Ythjkejbgknemgaa
open Go.RowKit
def p27_l2 (k : Nat) (u2 : List Int) (x10 : Int) (j14 : Int → Option Int) (v4 : List Int) : Nat → Int → Option Int
 | 0,_ => none
 | n16 + 1,x15 => jn (fun (b17 : Bool) => sp b17 (lt' (wr .i64 (x15 + (1 : Int))) fun x25 => p27_l2 k u2 x10 j14 v4 n16 x25) (j14 x15)) fun j18 => lt' (decide (x15 < (v4.length : Int))) fun b19 => sp b19 (gd ((0 : Int) ≤ x15 ∧ x15 < (v4.length : Int)) <| lt' (List.getD v4 ((x15).toNat) 0) fun x21 => gd ((0 : Int) ≤ x10 ∧ x10 < (u2.length : Int)) <| lt' (List.getD u2 ((x10).toNat) 0) fun x23 => lt' (decide (x21 < x23)) fun b24 => j18 b24) (j18 false)
def p27_l1 (k : Nat) (u2 : List Int) (j8 : Option Int) (v4 : List Int) : Nat → Int → Int → Option Int
 | 0,_,_ => none
 | n11 + 1,x9,x10 => lt' (decide (x10 < (u2.length : Int))) fun b12 => sp b12 (jn (fun (x13 : Int) => jn (fun (b26 : Bool) => sp b26 (some (16 : Int)) (lt' (wr .i64 (x10 + (1 : Int))) fun x41 => p27_l1 k u2 j8 v4 n11 x13 x41)) fun j27 => lt' (x13 == (v4.length : Int)) fun b28 => sp b28 (j27 true) (gd ((0 : Int) ≤ x13 ∧ x13 < (v4.length : Int)) <| lt' (List.getD v4 ((x13).toNat) 0) fun x30 => gd ((0 : Int) ≤ x10 ∧ x10 < (u2.length : Int)) <| lt' (List.getD u2 ((x10).toNat) 0) fun x32 => lt' (x30 != x32) fun b33 => sp b33 (j27 true) (lt' (decide (x10 > (0 : Int))) fun b34 => sp b34 (gd ((0 : Int) ≤ x10 ∧ x10 < (u2.length : Int)) <| lt' (List.getD u2 ((x10).toNat) 0) fun x36 => lt' (wr .i64 (x10 - (1 : Int))) fun x37 => gd ((0 : Int) ≤ x37 ∧ x37 < (u2.length : Int)) <| lt' (List.getD u2 ((x37).toNat) 0) fun x39 => lt' (decide (x36 ≤ x39)) fun b40 => j27 b40) (j27 false)))) fun j14 => p27_l2 k u2 x10 j14 v4 k x9) (j8)
def p27 (k : Nat) (u0_0 : List (List Int)) (u0_1 : List Int) (u1 : List Int) (u2 : List Int) : Option Int :=
 cl (p55 k u0_0 u0_1 u1) fun v1 => lt' (v1 != (0 : Int)) fun b2 => sp b2 (some v1) (lt' (decide ((u2.length : Int) > (2000 : Int))) fun b3 => sp b3 (some (6 : Int)) (cl (p59 k u0_0 u0_1 u1) fun v4 => jn (cl (p60 k u0_0 u0_1 u1 u2) fun v42 => lt' (decide (v42 ≥ (0 : Int))) fun b43 => sp b43 (some (16 : Int)) (some (0 : Int))) fun j8 => p27_l1 k u2 j8 v4 k (0 : Int) (0 : Int)))
theorem hf27 : Try.prog.funcs[27]? = some Try.f27 := by kernel_rfl
theorem w27 (k : Nat) {M : Mem} {Au0_0 : Option Addr} {cu0_0 : Nat} {Au2 : Option Addr} {cu2 : Nat} {u0_0 : List (List Int)} {u0_1 : List Int} {u1 : List Int} {u2 : List Int} (hu0_0 : SlR M Au0_0 cu0_0 .i64 11 u0_0) (hu0_1 : u0_1.length = 4) (hu1 : u1.length = 7) (hu2 : SlI M Au2 cu2 .i64 u2) {r} (h : p27 k u0_0 u0_1 u1 u2 = some r) :
  Fn Try.prog 27 [rval (.agg [.one (.v (.slice Au0_0 (u0_0.length) cu0_0)),.arr .i64 4 u0_1]),rval (.agg [.arr .i64 7 u1]),rval (.lf (.v (.slice Au2 (u2.length) cu2)))] M (fun x _ => x = vi r) := by
 unfold p27 at h
 refine Fn_of (P:=Try.prog) (fn:=Try.f27) (c:=bodyOf Try.f27) [.agg [.one (.v (.slice Au0_0 (u0_0.length) cu0_0)),.arr .i64 4 u0_1],.agg [.arr .i64 7 u1],.lf (.v (.slice Au2 (u2.length) cu2))] hf27 (by kernel_rfl) (Nat.le_of_ble_eq_true (by kernel_rfl)) (args_ok (by kernel_rfl) ⟨⟨rfl,⟨hu0_1,trivial⟩⟩,⟨⟨hu1,trivial⟩,⟨trivial,trivial⟩⟩⟩) fun w => ?_
 change T _ _ _ (endQ _ _ _)
 refine T_seq (c1:=(sub [0] Bd27)) (c2:=(sub [1] Bd27)) (by kernel_rfl) ?_
 refine T_region (id:=0) (by kernel_rfl) ?_
 refine TI_segK (i:=0) (j:=3) (s':={ σ := [(2,.lf (.v (.slice Au2 (u2.length) cu2))),(3,.lf (.own 3 0)),(4,.lf (.own 4 0))],H := [(3,[.one (.v (.slice Au0_0 (u0_0.length) cu0_0)),.arr .i64 4 u0_1]),(4,[.arr .i64 7 u1])],V := [],M := M,ds := [] }) [2,3,4] [3,4] [] (by kernel_rfl) (by kernel_rfl) ?_
 refine TI_end (by kernel_rfl) ?_
 refine thenQ_n ?_
 refine T_seq (c1:=(sub [1,0] Bd27)) (c2:=(sub [1,1] Bd27)) (by kernel_rfl) ?_
 refine T_region (id:=1) (by kernel_rfl) ?_
 refine TI_segS (i:=0) (j:=2) [(2,.lf (.v (.slice Au2 (u2.length) cu2))),(3,.lf (.own 3 0)),(4,.lf (.own 4 0)),(11,.agg [.one (.v (.slice Au0_0 (u0_0.length) cu0_0)),.arr .i64 4 u0_1]),(12,.agg [.arr .i64 7 u1])] (by kernel_rfl) (by kernel_rfl) ?_
 obtain ⟨v1,c_v1,h⟩ := cl_some h
 refine TI_at (i:=2) (d:=13) (x:=vi v1) (At_call (d:=13) (f:=55) (args:=[rval (.agg [.one (.v (.slice Au0_0 (u0_0.length) cu0_0)),.arr .i64 4 u0_1]),rval (.agg [.arr .i64 7 u1])]) (x:=vi v1) (by kernel_rfl) (w55 k hu0_0 hu0_1 hu1 c_v1)) (by kernel_rfl) trivial ?_
 refine TI_segK (i:=3) (j:=4) (s':={ σ := [(2,.lf (.v (.slice Au2 (u2.length) cu2))),(3,.lf (.own 3 0)),(4,.lf (.own 4 0)),(7,vi v1)],H := [(3,[.one (.v (.slice Au0_0 (u0_0.length) cu0_0)),.arr .i64 4 u0_1]),(4,[.arr .i64 7 u1])],V := [],M := M,ds := [] }) [2,3,4,7] [3,4] [] (by kernel_rfl) (by kernel_rfl) ?_
 refine TI_end (by kernel_rfl) ?_
 refine thenQ_n ?_
 refine T_seq (c1:=(sub [1,1,0] Bd27)) (c2:=(sub [1,1,1] Bd27)) (by kernel_rfl) ?_
 refine T_seq (c1:=(sub [1,1,0,0] Bd27)) (c2:=(sub [1,1,0,1] Bd27)) (by kernel_rfl) ?_
 refine T_region (id:=2) (by kernel_rfl) ?_
 obtain ⟨b2,e_b2,h⟩ := lt_some h
 refine TI_segS (i:=0) (j:=2) [(2,.lf (.v (.slice Au2 (u2.length) cu2))),(3,.lf (.own 3 0)),(4,.lf (.own 4 0)),(7,vi v1),(15,vb b2)] (by subst e_b2;kernel_rfl) (by kernel_rfl) ?_
 refine TI_end (by kernel_rfl) ?_
 refine thenQ_n ?_
 cases b2 with
 | true =>
  replace h := sp_t h
  refine T_condT (x:=(.tmp 15)) (c1:=(sub [1,1,0,1,0] Bd27)) (c2:=(sub [1,1,0,1,1] Bd27)) (by kernel_rfl) (by kernel_rfl) ?_
  refine T_keep (s':={ σ := [(7,vi v1)],H := [],V := [],M := M,ds := [] }) [7] [] [] (by kernel_rfl) ?_
  refine T_seq (c1:=(sub [1,1,0,1,0,0] Bd27)) (c2:=(sub [1,1,0,1,0,1] Bd27)) (by kernel_rfl) ?_
  refine T_region (id:=3) (by kernel_rfl) ?_
  refine TI_segS (i:=0) (j:=2) [(6,vi v1)] (by kernel_rfl) (by kernel_rfl) ?_
  refine TI_end (by kernel_rfl) ?_
  refine thenQ_n ?_
  refine T_ret (by kernel_rfl) ?_
  refine thenQ_r ?_
  have h := Option.some.inj h
  subst h
  refine fin_ret (vi v1) (by kernel_rfl) (by kernel_rfl) rfl ?_
  rfl
 | false =>
  replace h := sp_f h
  refine T_condF (x:=(.tmp 15)) (c1:=(sub [1,1,0,1,0] Bd27)) (c2:=(sub [1,1,0,1,1] Bd27)) (by kernel_rfl) (by kernel_rfl) ?_
  refine T_keepS [(2,.lf (.v (.slice Au2 (u2.length) cu2))),(3,.lf (.own 3 0)),(4,.lf (.own 4 0))] (by kernel_rfl) ?_
  refine T_skip (by kernel_rfl) ?_
  refine thenQ_n ?_
  refine T_seq (c1:=(sub [1,1,1,0] Bd27)) (c2:=(sub [1,1,1,1] Bd27)) (by kernel_rfl) ?_
  refine T_seq (c1:=(sub [1,1,1,0,0] Bd27)) (c2:=(sub [1,1,1,0,1] Bd27)) (by kernel_rfl) ?_
  refine T_region (id:=4) (by kernel_rfl) ?_
  obtain ⟨b3,e_b3,h⟩ := lt_some h
  refine TI_segS (i:=0) (j:=3) [(2,.lf (.v (.slice Au2 (u2.length) cu2))),(3,.lf (.own 3 0)),(4,.lf (.own 4 0)),(19,vb b3)] (by subst e_b3;kernel_rfl) (by kernel_rfl) ?_
  refine TI_end (by kernel_rfl) ?_
  refine thenQ_n ?_
  cases b3 with
  | true =>
   replace h := sp_t h
   refine T_condT (x:=(.tmp 19)) (c1:=(sub [1,1,1,0,1,0] Bd27)) (c2:=(sub [1,1,1,0,1,1] Bd27)) (by kernel_rfl) (by kernel_rfl) ?_
   refine T_keep (s':={ σ := [],H := [],V := [],M := M,ds := [] }) [] [] [] (by kernel_rfl) ?_
   refine T_seq (c1:=(sub [1,1,1,0,1,0,0] Bd27)) (c2:=(sub [1,1,1,0,1,0,1] Bd27)) (by kernel_rfl) ?_
   refine T_region (id:=5) (by kernel_rfl) ?_
   refine TI_segS (i:=0) (j:=1) [(6,vi (6 : Int))] (by kernel_rfl) (by kernel_rfl) ?_
   refine TI_end (by kernel_rfl) ?_
   refine thenQ_n ?_
   refine T_ret (by kernel_rfl) ?_
   refine thenQ_r ?_
   have h := Option.some.inj h
   subst h
   refine fin_ret (vi (6 : Int)) (by kernel_rfl) (by kernel_rfl) rfl ?_
   rfl
  | false =>
   replace h := sp_f h
   refine T_condF (x:=(.tmp 19)) (c1:=(sub [1,1,1,0,1,0] Bd27)) (c2:=(sub [1,1,1,0,1,1] Bd27)) (by kernel_rfl) (by kernel_rfl) ?_
   refine T_keepS [(2,.lf (.v (.slice Au2 (u2.length) cu2))),(3,.lf (.own 3 0)),(4,.lf (.own 4 0))] (by kernel_rfl) ?_
   refine T_skip (by kernel_rfl) ?_
   refine thenQ_n ?_
   refine T_seq (c1:=(sub [1,1,1,1,0] Bd27)) (c2:=(sub [1,1,1,1,1] Bd27)) (by kernel_rfl) ?_
   refine T_region (id:=6) (by kernel_rfl) ?_
   refine TI_segS (i:=0) (j:=2) [(2,.lf (.v (.slice Au2 (u2.length) cu2))),(3,.lf (.own 3 0)),(4,.lf (.own 4 0)),(20,.agg [.one (.v (.slice Au0_0 (u0_0.length) cu0_0)),.arr .i64 4 u0_1]),(21,.agg [.arr .i64 7 u1])] (by kernel_rfl) (by kernel_rfl) ?_
   obtain ⟨v4,c_v4,h⟩ := cl_some h
   refine TI_of (i:=2) (by kernel_rfl) (TE_callR (d:=22) (f:=59) (args:=[rval (.agg [.one (.v (.slice Au0_0 (u0_0.length) cu0_0)),.arr .i64 4 u0_1]),rval (.agg [.arr .i64 7 u1])]) (by kernel_rfl) (by kernel_rfl) (w59 k hu0_0 hu0_1 hu1 c_v4) ?_)
   rintro _ M7 _ hM7 _ ⟨A5,c6,rfl,fA5⟩
   refine TI_segK (i:=3) (j:=4) (s':={ σ := [(2,.lf (.v (.slice Au2 (u2.length) cu2))),(3,.lf (.own 3 0)),(4,.lf (.own 4 0)),(8,.lf (.v (.slice A5 (v4.length) c6)))],H := [(3,[.one (.v (.slice Au0_0 (u0_0.length) cu0_0)),.arr .i64 4 u0_1]),(4,[.arr .i64 7 u1])],V := [],M := M7,ds := [] }) [2,3,4,8] [3,4] [] (by kernel_rfl) (by kernel_rfl) ?_
   refine TI_end (by kernel_rfl) ?_
   refine thenQ_n ?_
   refine T_seq (c1:=(sub [1,1,1,1,1,0] Bd27)) (c2:=(sub [1,1,1,1,1,1] Bd27)) (by kernel_rfl) ?_
   refine T_region (id:=7) (by kernel_rfl) ?_
   refine TI_segS (i:=0) (j:=1) [(2,.lf (.v (.slice Au2 (u2.length) cu2))),(3,.lf (.own 3 0)),(4,.lf (.own 4 0)),(8,.lf (.v (.slice A5 (v4.length) c6))),(9,vi (0 : Int))] (by kernel_rfl) (by kernel_rfl) ?_
   refine TI_end (by kernel_rfl) ?_
   refine thenQ_n ?_
   refine T_seq (c1:=(sub [1,1,1,1,1,1,0] Bd27)) (c2:=(sub [1,1,1,1,1,1,1] Bd27)) (by kernel_rfl) ?_
   refine T_seq (c1:=(sub [1,1,1,1,1,1,0,0] Bd27)) (c2:=(sub [1,1,1,1,1,1,0,1] Bd27)) (by kernel_rfl) ?_
   refine T_region (id:=8) (by kernel_rfl) ?_
   refine TI_segS (i:=0) (j:=1) [(2,.lf (.v (.slice Au2 (u2.length) cu2))),(3,.lf (.own 3 0)),(4,.lf (.own 4 0)),(8,.lf (.v (.slice A5 (v4.length) c6))),(9,vi (0 : Int)),(10,vi (0 : Int))] (by kernel_rfl) (by kernel_rfl) ?_
   refine TI_end (by kernel_rfl) ?_
   refine thenQ_n ?_
   obtain ⟨j8,e_j8,h⟩ := jn_some h
   refine T_bcut (id:=0) (c1:=(sub [1,1,1,1,1,1,0,1,0] Bd27)) (fun s' => Sub { σ := [(2,.lf (.v (.slice Au2 (u2.length) cu2))),(3,.lf (.own 3 0)),(4,.lf (.own 4 0))],H := [(3,[.one (.v (.slice Au0_0 (u0_0.length) cu0_0)),.arr .i64 4 u0_1]),(4,[.arr .i64 7 u1])],V := [],M := M7,ds := [] } s' ∧ j8 = some r) (by kernel_rfl) ?_ ?_
   ·refine T_loop (c1:=(sub [1,1,1,1,1,1,0,1,0,0] Bd27)) (by kernel_rfl) (fun n11 s' => ∃ (x9 : Int) (x10 : Int),Sub { σ := [(2,.lf (.v (.slice Au2 (u2.length) cu2))),(3,.lf (.own 3 0)),(4,.lf (.own 4 0)),(8,.lf (.v (.slice A5 (v4.length) c6))),(9,vi x9),(10,vi x10)],H := [(3,[.one (.v (.slice Au0_0 (u0_0.length) cu0_0)),.arr .i64 4 u0_1]),(4,[.arr .i64 7 u1])],V := [],M := M7,ds := [] } s' ∧ p27_l1 k u2 j8 v4 n11 x9 x10 = some r) (k:=k) ⟨(0 : Int),(0 : Int),keep_sub (ts:=[2,3,4,8,9,10]) (hs:=[3,4]) (vs:=[]) (by kernel_rfl),h⟩ ?_
    rintro n11 s' ⟨x9,x10,hsub,h⟩
    cases n11 with
    | zero => rw [p27_l1] at h;cases h
    | succ n11 =>
     rw [p27_l1] at h
     refine T_sub hsub ?_
     refine T_seq (c1:=(sub [1,1,1,1,1,1,0,1,0,0,0] Bd27)) (c2:=(sub [1,1,1,1,1,1,0,1,0,0,1] Bd27)) (by kernel_rfl) ?_
     refine T_seq (c1:=(sub [1,1,1,1,1,1,0,1,0,0,0,0] Bd27)) (c2:=(sub [1,1,1,1,1,1,0,1,0,0,0,1] Bd27)) (by kernel_rfl) ?_
     refine T_region (id:=9) (by kernel_rfl) ?_
     obtain ⟨b12,e_b12,h⟩ := lt_some h
     refine TI_segK (i:=0) (j:=4) (s':={ σ := [(2,.lf (.v (.slice Au2 (u2.length) cu2))),(3,.lf (.own 3 0)),(4,.lf (.own 4 0)),(8,.lf (.v (.slice A5 (v4.length) c6))),(9,vi x9),(10,vi x10),(26,vb b12)],H := [(3,[.one (.v (.slice Au0_0 (u0_0.length) cu0_0)),.arr .i64 4 u0_1]),(4,[.arr .i64 7 u1])],V := [],M := M7,ds := [] }) [2,3,4,8,9,10,26] [3,4] [] (by subst e_b12;kernel_rfl) (by kernel_rfl) ?_
     refine TI_end (by kernel_rfl) ?_
     refine thenQ_n ?_
     cases b12 with
     | true =>
      replace h := sp_t h
      refine T_condT (x:=(.tmp 26)) (c1:=(sub [1,1,1,1,1,1,0,1,0,0,0,1,0] Bd27)) (c2:=(sub [1,1,1,1,1,1,0,1,0,0,0,1,1] Bd27)) (by kernel_rfl) (by kernel_rfl) ?_
      refine T_keepS [(2,.lf (.v (.slice Au2 (u2.length) cu2))),(3,.lf (.own 3 0)),(4,.lf (.own 4 0)),(8,.lf (.v (.slice A5 (v4.length) c6))),(9,vi x9),(10,vi x10)] (by kernel_rfl) ?_
      refine T_skip (by kernel_rfl) ?_
      refine thenQ_n ?_
      refine T_seq (c1:=(sub [1,1,1,1,1,1,0,1,0,0,1,0] Bd27)) (c2:=(sub [1,1,1,1,1,1,0,1,0,0,1,1] Bd27)) (by kernel_rfl) ?_
      refine T_block (id:=1) (c1:=(sub [1,1,1,1,1,1,0,1,0,0,1,0,0] Bd27)) (by kernel_rfl) ?_
      refine T_seq (c1:=(sub [1,1,1,1,1,1,0,1,0,0,1,0,0,0] Bd27)) (c2:=(sub [1,1,1,1,1,1,0,1,0,0,1,0,0,1] Bd27)) (by kernel_rfl) ?_
      obtain ⟨j14,e_j14,h⟩ := jn_some h
      refine T_bcut (id:=2) (c1:=(sub [1,1,1,1,1,1,0,1,0,0,1,0,0,0,0] Bd27)) (fun s' => ∃ (x13 : Int),Sub { σ := [(2,.lf (.v (.slice Au2 (u2.length) cu2))),(3,.lf (.own 3 0)),(4,.lf (.own 4 0)),(8,.lf (.v (.slice A5 (v4.length) c6))),(9,vi x13),(10,vi x10)],H := [(3,[.one (.v (.slice Au0_0 (u0_0.length) cu0_0)),.arr .i64 4 u0_1]),(4,[.arr .i64 7 u1])],V := [],M := M7,ds := [] } s' ∧ j14 x13 = some r) (by kernel_rfl) ?_ ?_
      ·refine T_loop (c1:=(sub [1,1,1,1,1,1,0,1,0,0,1,0,0,0,0,0] Bd27)) (by kernel_rfl) (fun n16 s' => ∃ (x15 : Int),Sub { σ := [(2,.lf (.v (.slice Au2 (u2.length) cu2))),(3,.lf (.own 3 0)),(4,.lf (.own 4 0)),(8,.lf (.v (.slice A5 (v4.length) c6))),(9,vi x15),(10,vi x10)],H := [(3,[.one (.v (.slice Au0_0 (u0_0.length) cu0_0)),.arr .i64 4 u0_1]),(4,[.arr .i64 7 u1])],V := [],M := M7,ds := [] } s' ∧ p27_l2 k u2 x10 j14 v4 n16 x15 = some r) (k:=k) ⟨x9,keep_sub (ts:=[2,3,4,8,9,10]) (hs:=[3,4]) (vs:=[]) (by kernel_rfl),h⟩ ?_
       rintro n16 s' ⟨x15,hsub,h⟩
       cases n16 with
       | zero => rw [p27_l2] at h;cases h
       | succ n16 =>
        rw [p27_l2] at h
        refine T_sub hsub ?_
        refine T_seq (c1:=(sub [1,1,1,1,1,1,0,1,0,0,1,0,0,0,0,0,0] Bd27)) (c2:=(sub [1,1,1,1,1,1,0,1,0,0,1,0,0,0,0,0,1] Bd27)) (by kernel_rfl) ?_
        obtain ⟨j18,e_j18,h⟩ := jn_some h
        refine T_cut (c1:=(sub [1,1,1,1,1,1,0,1,0,0,1,0,0,0,0,0,0,0] Bd27)) (c2:=(sub [1,1,1,1,1,1,0,1,0,0,1,0,0,0,0,0,0,1] Bd27)) (fun s' => ∃ (b17 : Bool),Sub { σ := [(2,.lf (.v (.slice Au2 (u2.length) cu2))),(3,.lf (.own 3 0)),(4,.lf (.own 4 0)),(8,.lf (.v (.slice A5 (v4.length) c6))),(9,vi x15),(10,vi x10),(43,vb b17)],H := [(3,[.one (.v (.slice Au0_0 (u0_0.length) cu0_0)),.arr .i64 4 u0_1]),(4,[.arr .i64 7 u1])],V := [],M := M7,ds := [] } s' ∧ j18 b17 = some r) (by kernel_rfl) ?_ ?_
        ·obtain ⟨b19,e_b19,h⟩ := lt_some h
         cases b19 with
         | true =>
          replace h := sp_t h
          obtain ⟨g20,h⟩ := gd_some h
          obtain ⟨x21,e_x21,h⟩ := lt_some h
          obtain ⟨g22,h⟩ := gd_some h
          obtain ⟨x23,e_x23,h⟩ := lt_some h
          obtain ⟨b24,e_b24,h⟩ := lt_some h
          refine T_draw' (id:=11) [] [0,0,0,0,0,0,0,0,0,0,0,0,0,0,0] (by kernel_rfl) (by kernel_rfl) (by kernel_rfl) (by kernel_rfl) [(29,vi x15),(30,.lf (.v (.slice A5 (v4.length) c6))),(31,vi (v4.length : Int)),(32,vb true),(33,vb true),(34,.lf (.v (.slice A5 (v4.length) c6))),(35,vi x15),(36,.lf (.ep (.slice A5 (v4.length) c6) 1 ((x15).toNat) 0)),(37,vi x21),(38,.lf (.v (.slice Au2 (u2.length) cu2))),(39,vi x10),(40,.lf (.ep (.slice Au2 (u2.length) cu2) 1 ((x10).toNat) 0)),(41,vi x23),(42,vb b24),(43,vb b24)] (by kernel_rfl) (wfs_lf _ (by kernel_rfl)) ?_
          refine Stage_nil (stage_all' [0,1,2,4,5,6,9,10,13,14] [3,7,8,11,12] (by kernel_rfl) (by subst_vars; kernel_rfl) (by kernel_rfl) ⟨QF_at (i:=3) (d:=32) (x:=vb true) (show OpAt _ _ _ 3 32 _ from by exact At_bin (d:=32) (b:=.lss) (u:=.int .i64 x15) (v:=.int .i64 (v4.length : Int)) (w':=.bool true) (by subst_vars; kernel_rfl) (by rw [show exBin .lss (.int .i64 x15) (.int .i64 (v4.length : Int)) = some (.bool (decide (x15 < (v4.length : Int)))) from by kernel_rfl,← e_b19])) (by kernel_rfl) (by subst_vars; kernel_rfl),⟨QF_at (i:=7) (d:=36) (x:=.lf (.ep (.slice A5 (v4.length) c6) 1 ((x15).toNat) 0)) (show OpAt _ _ _ 7 36 _ from by exact At_idxI (d:=36) (z:=x15) (by subst_vars; kernel_rfl) g20 fA5) (by kernel_rfl) (by subst_vars; kernel_rfl),⟨QF_at (i:=8) (d:=37) (x:=vi x21) (show OpAt _ _ _ 8 37 _ from by rw [e_x21]; exact At_ldI (d:=37) (q:=(x15).toNat) (by subst_vars; kernel_rfl) (toNat_lt g20) fA5) (by kernel_rfl) (by subst_vars; kernel_rfl),⟨QF_at (i:=11) (d:=40) (x:=.lf (.ep (.slice Au2 (u2.length) cu2) 1 ((x10).toNat) 0)) (show OpAt _ _ _ 11 40 _ from by exact At_idxI (d:=40) (z:=x10) (by subst_vars; kernel_rfl) g22 (hu2.le hM7)) (by kernel_rfl) (by subst_vars; kernel_rfl),⟨QF_at (i:=12) (d:=41) (x:=vi x23) (show OpAt _ _ _ 12 41 _ from by rw [e_x23]; exact At_ldI (d:=41) (q:=(x10).toNat) (by subst_vars; kernel_rfl) (toNat_lt g22) (hu2.le hM7)) (by kernel_rfl) (by subst_vars; kernel_rfl),trivial⟩⟩⟩⟩⟩) ?_
          refine thenQ_n ?_
          exact ⟨b24,keep_sub (ts:=[2,3,4,8,9,10,43]) (hs:=[3,4]) (vs:=[]) (by subst_vars;kernel_rfl),h⟩
         | false =>
          replace h := sp_f h
          refine T_draw' (id:=11) [] [0,0,0,0,0,0,0,0,0,0,0,0,0,0,0] (by kernel_rfl) (by kernel_rfl) (by kernel_rfl) (by kernel_rfl) [(29,vi x15),(30,.lf (.v (.slice A5 (v4.length) c6))),(31,vi (v4.length : Int)),(32,vb false),(33,vb false),(34,.tup []),(35,.tup []),(36,.tup []),(37,.tup []),(38,.tup []),(39,.tup []),(40,.tup []),(41,.tup []),(42,.tup []),(43,vb false)] (by kernel_rfl) ⟨trivial,⟨trivial,⟨trivial,⟨trivial,⟨trivial,⟨(by intro y hy;cases hy),⟨(by intro y hy;cases hy),⟨(by intro y hy;cases hy),⟨(by intro y hy;cases hy),⟨(by intro y hy;cases hy),⟨(by intro y hy;cases hy),⟨(by intro y hy;cases hy),⟨(by intro y hy;cases hy),⟨(by intro y hy;cases hy),⟨trivial,trivial⟩⟩⟩⟩⟩⟩⟩⟩⟩⟩⟩⟩⟩⟩⟩ ?_
          refine Stage_nil (stage_all' [0,1,2,4,5,6,7,8,9,10,11,12,13,14] [3] (by kernel_rfl) (by kernel_rfl) (by kernel_rfl) ⟨QF_at (i:=3) (d:=32) (x:=vb false) (show OpAt _ _ _ 3 32 _ from by exact At_bin (d:=32) (b:=.lss) (u:=.int .i64 x15) (v:=.int .i64 (v4.length : Int)) (w':=.bool false) (by kernel_rfl) (by rw [show exBin .lss (.int .i64 x15) (.int .i64 (v4.length : Int)) = some (.bool (decide (x15 < (v4.length : Int)))) from by kernel_rfl,← e_b19])) (by kernel_rfl) (by kernel_rfl),trivial⟩) ?_
          refine thenQ_n ?_
          exact ⟨false,keep_sub (ts:=[2,3,4,8,9,10,43]) (hs:=[3,4]) (vs:=[]) (by kernel_rfl),h⟩
        ·rintro s' ⟨b17,hsub,h⟩
         subst e_j18
         refine T_sub hsub ?_
         cases b17 with
         | true =>
          replace h := sp_t h
          refine T_condT (x:=(.tmp 43)) (c1:=(sub [1,1,1,1,1,1,0,1,0,0,1,0,0,0,0,0,0,1,0] Bd27)) (c2:=(sub [1,1,1,1,1,1,0,1,0,0,1,0,0,0,0,0,0,1,1] Bd27)) (by kernel_rfl) (by kernel_rfl) ?_
          refine T_keep (s':={ σ := [(2,.lf (.v (.slice Au2 (u2.length) cu2))),(3,.lf (.own 3 0)),(4,.lf (.own 4 0)),(8,.lf (.v (.slice A5 (v4.length) c6))),(9,vi x15),(10,vi x10)],H := [(3,[.one (.v (.slice Au0_0 (u0_0.length) cu0_0)),.arr .i64 4 u0_1]),(4,[.arr .i64 7 u1])],V := [],M := M7,ds := [] }) [2,3,4,8,9,10] [3,4] [] (by kernel_rfl) ?_
          refine T_skip (by kernel_rfl) ?_
          refine thenQ_n ?_
          refine T_block (id:=3) (c1:=(sub [1,1,1,1,1,1,0,1,0,0,1,0,0,0,0,0,1,0] Bd27)) (by kernel_rfl) ?_
          refine T_region (id:=12) (by kernel_rfl) ?_
          obtain ⟨x25,e_x25,h⟩ := lt_some h
          refine TI_segS (i:=0) (j:=3) [(2,.lf (.v (.slice Au2 (u2.length) cu2))),(3,.lf (.own 3 0)),(4,.lf (.own 4 0)),(8,.lf (.v (.slice A5 (v4.length) c6))),(9,vi x25),(10,vi x10)] (by subst e_x25;kernel_rfl) (by kernel_rfl) ?_
          refine TI_end (by kernel_rfl) ?_
          refine blockQ_n ?_
          refine thenQ_n ?_
          exact ⟨n16,Nat.lt_succ_self _,x25,keep_sub (ts:=[2,3,4,8,9,10]) (hs:=[3,4]) (vs:=[]) (by kernel_rfl),h⟩
         | false =>
          replace h := sp_f h
          refine T_condF (x:=(.tmp 43)) (c1:=(sub [1,1,1,1,1,1,0,1,0,0,1,0,0,0,0,0,0,1,0] Bd27)) (c2:=(sub [1,1,1,1,1,1,0,1,0,0,1,0,0,0,0,0,0,1,1] Bd27)) (by kernel_rfl) (by kernel_rfl) ?_
          refine T_keep (s':={ σ := [(2,.lf (.v (.slice Au2 (u2.length) cu2))),(3,.lf (.own 3 0)),(4,.lf (.own 4 0)),(8,.lf (.v (.slice A5 (v4.length) c6))),(9,vi x15),(10,vi x10)],H := [(3,[.one (.v (.slice Au0_0 (u0_0.length) cu0_0)),.arr .i64 4 u0_1]),(4,[.arr .i64 7 u1])],V := [],M := M7,ds := [] }) [2,3,4,8,9,10] [3,4] [] (by kernel_rfl) ?_
          refine T_exit (id:=2) (by kernel_rfl) ?_
          refine thenQ_x ?_
          refine thenQ_x ?_
          refine blockQ_x ?_
          refine thenQ_n ?_
          exact ⟨x15,keep_sub (ts:=[2,3,4,8,9,10]) (hs:=[3,4]) (vs:=[]) (by kernel_rfl),h⟩
      ·rintro s' ⟨x13,hsub,h⟩
       subst e_j14
       refine thenQ_n ?_
       refine T_sub hsub ?_
       obtain ⟨j27,e_j27,h⟩ := jn_some h
       refine T_cut (c1:=(sub [1,1,1,1,1,1,0,1,0,0,1,0,0,1,0] Bd27)) (c2:=(sub [1,1,1,1,1,1,0,1,0,0,1,0,0,1,1] Bd27)) (fun s' => ∃ (b26 : Bool),Sub { σ := [(2,.lf (.v (.slice Au2 (u2.length) cu2))),(3,.lf (.own 3 0)),(4,.lf (.own 4 0)),(8,.lf (.v (.slice A5 (v4.length) c6))),(9,vi x13),(10,vi x10),(76,vb b26)],H := [(3,[.one (.v (.slice Au0_0 (u0_0.length) cu0_0)),.arr .i64 4 u0_1]),(4,[.arr .i64 7 u1])],V := [],M := M7,ds := [] } s' ∧ j27 b26 = some r) (by kernel_rfl) ?_ ?_
       ·obtain ⟨b28,e_b28,h⟩ := lt_some h
        cases b28 with
        | true =>
         replace h := sp_t h
         refine T_draw' (id:=13) [] [0,0,0,0,0,0,0,0,0,0,0,0,0,0,0,0,0,0,0,0,0,0,0,0,0,0,0,0,0,0,0] (by kernel_rfl) (by kernel_rfl) (by kernel_rfl) (by kernel_rfl) ((46,vi x13)::(47,.lf (.v (.slice A5 (v4.length) c6)))::(48,vi (v4.length : Int))::(49,vb true)::(50,vb true)::(51,.tup [])::(52,.tup [])::(53,.tup [])::(54,.tup [])::(55,.tup [])::(56,.tup [])::(57,.tup [])::(58,.tup [])::(59,.tup [])::(60,vb true)::(61,vb true)::(62,.tup [])::(63,.tup [])::(64,.tup [])::(65,.tup [])::(66,.tup [])::(67,.tup [])::(68,.tup [])::(69,.tup [])::(70,.tup [])::(71,.tup [])::(72,.tup [])::(73,.tup [])::(74,.tup [])::(75,.tup [])::(76,vb true)::[]) (by kernel_rfl) ⟨trivial,⟨trivial,⟨trivial,⟨trivial,⟨trivial,⟨(by intro y hy;cases hy),⟨(by intro y hy;cases hy),⟨(by intro y hy;cases hy),⟨(by intro y hy;cases hy),⟨(by intro y hy;cases hy),⟨(by intro y hy;cases hy),⟨(by intro y hy;cases hy),⟨(by intro y hy;cases hy),⟨(by intro y hy;cases hy),⟨trivial,⟨trivial,⟨(by intro y hy;cases hy),⟨(by intro y hy;cases hy),⟨(by intro y hy;cases hy),⟨(by intro y hy;cases hy),⟨(by intro y hy;cases hy),⟨(by intro y hy;cases hy),⟨(by intro y hy;cases hy),⟨(by intro y hy;cases hy),⟨(by intro y hy;cases hy),⟨(by intro y hy;cases hy),⟨(by intro y hy;cases hy),⟨(by intro y hy;cases hy),⟨(by intro y hy;cases hy),⟨(by intro y hy;cases hy),⟨trivial,trivial⟩⟩⟩⟩⟩⟩⟩⟩⟩⟩⟩⟩⟩⟩⟩⟩⟩⟩⟩⟩⟩⟩⟩⟩⟩⟩⟩⟩⟩⟩⟩ ?_
         refine Stage_nil (stage_all' [0,1,2,4,5,6,7,8,9,10,11,12,13,14,15,16,17,18,19,20,21,22,23,24,25,26,27,28,29,30] [3] (by kernel_rfl) (by kernel_rfl) (by kernel_rfl) ⟨QF_at (i:=3) (d:=49) (x:=vb true) (show OpAt _ _ _ 3 49 _ from by exact At_bin (d:=49) (b:=.eql) (u:=.int .i64 x13) (v:=.int .i64 (v4.length : Int)) (w':=.bool true) (by kernel_rfl) (by rw [show exBin .eql (.int .i64 x13) (.int .i64 (v4.length : Int)) = some (.bool (x13 == (v4.length : Int))) from by kernel_rfl,← e_b28])) (by kernel_rfl) (by kernel_rfl),trivial⟩) ?_
         refine thenQ_n ?_
         exact ⟨true,keep_sub (ts:=[2,3,4,8,9,10,76]) (hs:=[3,4]) (vs:=[]) (by kernel_rfl),h⟩
        | false =>
         replace h := sp_f h
         obtain ⟨g29,h⟩ := gd_some h
         obtain ⟨x30,e_x30,h⟩ := lt_some h
         obtain ⟨g31,h⟩ := gd_some h
         obtain ⟨x32,e_x32,h⟩ := lt_some h
         obtain ⟨b33,e_b33,h⟩ := lt_some h
         cases b33 with
         | true =>
          replace h := sp_t h
          refine T_draw' (id:=13) [] [0,0,0,0,0,0,0,0,0,0,0,0,0,0,0,0,0,0,0,0,0,0,0,0,0,0,0,0,0,0,0] (by kernel_rfl) (by kernel_rfl) (by kernel_rfl) (by kernel_rfl) ((46,vi x13)::(47,.lf (.v (.slice A5 (v4.length) c6)))::(48,vi (v4.length : Int))::(49,vb false)::(50,vb false)::(51,.lf (.v (.slice A5 (v4.length) c6)))::(52,vi x13)::(53,.lf (.ep (.slice A5 (v4.length) c6) 1 ((x13).toNat) 0))::(54,vi x30)::(55,.lf (.v (.slice Au2 (u2.length) cu2)))::(56,vi x10)::(57,.lf (.ep (.slice Au2 (u2.length) cu2) 1 ((x10).toNat) 0))::(58,vi x32)::(59,vb true)::(60,vb true)::(61,vb true)::(62,.tup [])::(63,.tup [])::(64,.tup [])::(65,.tup [])::(66,.tup [])::(67,.tup [])::(68,.tup [])::(69,.tup [])::(70,.tup [])::(71,.tup [])::(72,.tup [])::(73,.tup [])::(74,.tup [])::(75,.tup [])::(76,vb true)::[]) (by kernel_rfl) ⟨trivial,⟨trivial,⟨trivial,⟨trivial,⟨trivial,⟨trivial,⟨trivial,⟨trivial,⟨trivial,⟨trivial,⟨trivial,⟨trivial,⟨trivial,⟨trivial,⟨trivial,⟨trivial,⟨(by intro y hy;cases hy),⟨(by intro y hy;cases hy),⟨(by intro y hy;cases hy),⟨(by intro y hy;cases hy),⟨(by intro y hy;cases hy),⟨(by intro y hy;cases hy),⟨(by intro y hy;cases hy),⟨(by intro y hy;cases hy),⟨(by intro y hy;cases hy),⟨(by intro y hy;cases hy),⟨(by intro y hy;cases hy),⟨(by intro y hy;cases hy),⟨(by intro y hy;cases hy),⟨(by intro y hy;cases hy),⟨trivial,trivial⟩⟩⟩⟩⟩⟩⟩⟩⟩⟩⟩⟩⟩⟩⟩⟩⟩⟩⟩⟩⟩⟩⟩⟩⟩⟩⟩⟩⟩⟩⟩ ?_
          refine Stage_nil (stage_all' [0,1,2,4,5,6,9,10,14,15,16,17,18,19,20,21,22,23,24,25,26,27,28,29,30] [3,7,8,11,12,13] (by kernel_rfl) (by subst e_x32 e_x30; kernel_rfl) (by kernel_rfl) ⟨QF_at (i:=3) (d:=49) (x:=vb false) (show OpAt _ _ _ 3 49 _ from by exact At_bin (d:=49) (b:=.eql) (u:=.int .i64 x13) (v:=.int .i64 (v4.length : Int)) (w':=.bool false) (by subst e_x32 e_x30; kernel_rfl) (by rw [show exBin .eql (.int .i64 x13) (.int .i64 (v4.length : Int)) = some (.bool (x13 == (v4.length : Int))) from by kernel_rfl,← e_b28])) (by kernel_rfl) (by subst e_x32 e_x30; kernel_rfl),⟨QF_at (i:=7) (d:=53) (x:=.lf (.ep (.slice A5 (v4.length) c6) 1 ((x13).toNat) 0)) (show OpAt _ _ _ 7 53 _ from by exact At_idxI (d:=53) (z:=x13) (by subst e_x32 e_x30; kernel_rfl) g29 fA5) (by kernel_rfl) (by subst e_x32 e_x30; kernel_rfl),⟨QF_at (i:=8) (d:=54) (x:=vi x30) (show OpAt _ _ _ 8 54 _ from by rw [e_x30]; exact At_ldI (d:=54) (q:=(x13).toNat) (by subst e_x32 e_x30; kernel_rfl) (toNat_lt g29) fA5) (by kernel_rfl) (by subst e_x32 e_x30; kernel_rfl),⟨QF_at (i:=11) (d:=57) (x:=.lf (.ep (.slice Au2 (u2.length) cu2) 1 ((x10).toNat) 0)) (show OpAt _ _ _ 11 57 _ from by exact At_idxI (d:=57) (z:=x10) (by subst e_x32 e_x30; kernel_rfl) g31 (hu2.le hM7)) (by kernel_rfl) (by subst e_x32 e_x30; kernel_rfl),⟨QF_at (i:=12) (d:=58) (x:=vi x32) (show OpAt _ _ _ 12 58 _ from by rw [e_x32]; exact At_ldI (d:=58) (q:=(x10).toNat) (by subst e_x32 e_x30; kernel_rfl) (toNat_lt g31) (hu2.le hM7)) (by kernel_rfl) (by subst e_x32 e_x30; kernel_rfl),⟨QF_at (i:=13) (d:=59) (x:=vb true) (show OpAt _ _ _ 13 59 _ from by exact At_bin (d:=59) (b:=.neq) (u:=.int .i64 x30) (v:=.int .i64 x32) (w':=.bool true) (by subst e_x32 e_x30; kernel_rfl) (by rw [show exBin .neq (.int .i64 x30) (.int .i64 x32) = some (.bool (x30 != x32)) from by kernel_rfl,← e_b33])) (by kernel_rfl) (by subst e_x32 e_x30; kernel_rfl),trivial⟩⟩⟩⟩⟩⟩) ?_
          refine thenQ_n ?_
          exact ⟨true,keep_sub (ts:=[2,3,4,8,9,10,76]) (hs:=[3,4]) (vs:=[]) (by subst e_x32 e_x30;kernel_rfl),h⟩
         | false =>
          replace h := sp_f h
          obtain ⟨b34,e_b34,h⟩ := lt_some h
          cases b34 with
          | true =>
           replace h := sp_t h
           obtain ⟨g35,h⟩ := gd_some h
           obtain ⟨x36,e_x36,h⟩ := lt_some h
           obtain ⟨x37,e_x37,h⟩ := lt_some h
           obtain ⟨g38,h⟩ := gd_some h
           obtain ⟨x39,e_x39,h⟩ := lt_some h
           obtain ⟨b40,e_b40,h⟩ := lt_some h
           refine T_draw' (id:=13) [] [0,0,0,0,0,0,0,0,0,0,0,0,0,0,0,0,0,0,0,0,0,0,0,0,0,0,0,0,0,0,0] (by kernel_rfl) (by kernel_rfl) (by kernel_rfl) (by kernel_rfl) ((46,vi x13)::(47,.lf (.v (.slice A5 (v4.length) c6)))::(48,vi (v4.length : Int))::(49,vb false)::(50,vb false)::(51,.lf (.v (.slice A5 (v4.length) c6)))::(52,vi x13)::(53,.lf (.ep (.slice A5 (v4.length) c6) 1 ((x13).toNat) 0))::(54,vi x30)::(55,.lf (.v (.slice Au2 (u2.length) cu2)))::(56,vi x10)::(57,.lf (.ep (.slice Au2 (u2.length) cu2) 1 ((x10).toNat) 0))::(58,vi x32)::(59,vb false)::(60,vb false)::(61,vb false)::(62,vi x10)::(63,vb true)::(64,vb true)::(65,.lf (.v (.slice Au2 (u2.length) cu2)))::(66,vi x10)::(67,.lf (.ep (.slice Au2 (u2.length) cu2) 1 ((x10).toNat) 0))::(68,vi x36)::(69,.lf (.v (.slice Au2 (u2.length) cu2)))::(70,vi x10)::(71,vi x37)::(72,.lf (.ep (.slice Au2 (u2.length) cu2) 1 ((x37).toNat) 0))::(73,vi x39)::(74,vb b40)::(75,vb b40)::(76,vb b40)::[]) (by kernel_rfl) (wfs_lf _ (by kernel_rfl)) ?_
           refine Stage_nil (stage_all' [0,1,2,4,5,6,9,10,14,15,16,18,19,20,23,24,25,28,29,30] [3,7,8,11,12,13,17,21,22,26,27] (by kernel_rfl) (by subst_vars; kernel_rfl) (by kernel_rfl) ⟨QF_at (i:=3) (d:=49) (x:=vb false) (show OpAt _ _ _ 3 49 _ from by exact At_bin (d:=49) (b:=.eql) (u:=.int .i64 x13) (v:=.int .i64 (v4.length : Int)) (w':=.bool false) (by subst_vars; kernel_rfl) (by rw [show exBin .eql (.int .i64 x13) (.int .i64 (v4.length : Int)) = some (.bool (x13 == (v4.length : Int))) from by kernel_rfl,← e_b28])) (by kernel_rfl) (by subst_vars; kernel_rfl),⟨QF_at (i:=7) (d:=53) (x:=.lf (.ep (.slice A5 (v4.length) c6) 1 ((x13).toNat) 0)) (show OpAt _ _ _ 7 53 _ from by exact At_idxI (d:=53) (z:=x13) (by subst_vars; kernel_rfl) g29 fA5) (by kernel_rfl) (by subst_vars; kernel_rfl),⟨QF_at (i:=8) (d:=54) (x:=vi x30) (show OpAt _ _ _ 8 54 _ from by rw [e_x30]; exact At_ldI (d:=54) (q:=(x13).toNat) (by subst_vars; kernel_rfl) (toNat_lt g29) fA5) (by kernel_rfl) (by subst_vars; kernel_rfl),⟨QF_at (i:=11) (d:=57) (x:=.lf (.ep (.slice Au2 (u2.length) cu2) 1 ((x10).toNat) 0)) (show OpAt _ _ _ 11 57 _ from by exact At_idxI (d:=57) (z:=x10) (by subst_vars; kernel_rfl) g31 (hu2.le hM7)) (by kernel_rfl) (by subst_vars; kernel_rfl),⟨QF_at (i:=12) (d:=58) (x:=vi x32) (show OpAt _ _ _ 12 58 _ from by rw [e_x32]; exact At_ldI (d:=58) (q:=(x10).toNat) (by subst_vars; kernel_rfl) (toNat_lt g31) (hu2.le hM7)) (by kernel_rfl) (by subst_vars; kernel_rfl),⟨QF_at (i:=13) (d:=59) (x:=vb false) (show OpAt _ _ _ 13 59 _ from by exact At_bin (d:=59) (b:=.neq) (u:=.int .i64 x30) (v:=.int .i64 x32) (w':=.bool false) (by subst_vars; kernel_rfl) (by rw [show exBin .neq (.int .i64 x30) (.int .i64 x32) = some (.bool (x30 != x32)) from by kernel_rfl,← e_b33])) (by kernel_rfl) (by subst_vars; kernel_rfl),⟨QF_at (i:=17) (d:=63) (x:=vb true) (show OpAt _ _ _ 17 63 _ from by exact At_bin (d:=63) (b:=.gtr) (u:=.int .i64 x10) (v:=.int .i64 (0 : Int)) (w':=.bool true) (by subst_vars; kernel_rfl) (by rw [show exBin .gtr (.int .i64 x10) (.int .i64 (0 : Int)) = some (.bool (decide (x10 > (0 : Int)))) from by kernel_rfl,← e_b34])) (by kernel_rfl) (by subst_vars; kernel_rfl),⟨QF_at (i:=21) (d:=67) (x:=.lf (.ep (.slice Au2 (u2.length) cu2) 1 ((x10).toNat) 0)) (show OpAt _ _ _ 21 67 _ from by exact At_idxI (d:=67) (z:=x10) (by subst_vars; kernel_rfl) g35 (hu2.le hM7)) (by kernel_rfl) (by subst_vars; kernel_rfl),⟨QF_at (i:=22) (d:=68) (x:=vi x36) (show OpAt _ _ _ 22 68 _ from by rw [e_x36]; exact At_ldI (d:=68) (q:=(x10).toNat) (by subst_vars; kernel_rfl) (toNat_lt g35) (hu2.le hM7)) (by kernel_rfl) (by subst_vars; kernel_rfl),⟨QF_at (i:=26) (d:=72) (x:=.lf (.ep (.slice Au2 (u2.length) cu2) 1 ((x37).toNat) 0)) (show OpAt _ _ _ 26 72 _ from by exact At_idxI (d:=72) (z:=x37) (by subst_vars; kernel_rfl) g38 (hu2.le hM7)) (by kernel_rfl) (by subst_vars; kernel_rfl),⟨QF_at (i:=27) (d:=73) (x:=vi x39) (show OpAt _ _ _ 27 73 _ from by rw [e_x39]; exact At_ldI (d:=73) (q:=(x37).toNat) (by subst_vars; kernel_rfl) (toNat_lt g38) (hu2.le hM7)) (by kernel_rfl) (by subst_vars; kernel_rfl),trivial⟩⟩⟩⟩⟩⟩⟩⟩⟩⟩⟩) ?_
           refine thenQ_n ?_
           exact ⟨b40,keep_sub (ts:=[2,3,4,8,9,10,76]) (hs:=[3,4]) (vs:=[]) (by subst_vars;kernel_rfl),h⟩
          | false =>
           replace h := sp_f h
           refine T_draw' (id:=13) [] [0,0,0,0,0,0,0,0,0,0,0,0,0,0,0,0,0,0,0,0,0,0,0,0,0,0,0,0,0,0,0] (by kernel_rfl) (by kernel_rfl) (by kernel_rfl) (by kernel_rfl) ((46,vi x13)::(47,.lf (.v (.slice A5 (v4.length) c6)))::(48,vi (v4.length : Int))::(49,vb false)::(50,vb false)::(51,.lf (.v (.slice A5 (v4.length) c6)))::(52,vi x13)::(53,.lf (.ep (.slice A5 (v4.length) c6) 1 ((x13).toNat) 0))::(54,vi x30)::(55,.lf (.v (.slice Au2 (u2.length) cu2)))::(56,vi x10)::(57,.lf (.ep (.slice Au2 (u2.length) cu2) 1 ((x10).toNat) 0))::(58,vi x32)::(59,vb false)::(60,vb false)::(61,vb false)::(62,vi x10)::(63,vb false)::(64,vb false)::(65,.tup [])::(66,.tup [])::(67,.tup [])::(68,.tup [])::(69,.tup [])::(70,.tup [])::(71,.tup [])::(72,.tup [])::(73,.tup [])::(74,.tup [])::(75,vb false)::(76,vb false)::[]) (by kernel_rfl) ⟨trivial,⟨trivial,⟨trivial,⟨trivial,⟨trivial,⟨trivial,⟨trivial,⟨trivial,⟨trivial,⟨trivial,⟨trivial,⟨trivial,⟨trivial,⟨trivial,⟨trivial,⟨trivial,⟨trivial,⟨trivial,⟨trivial,⟨(by intro y hy;cases hy),⟨(by intro y hy;cases hy),⟨(by intro y hy;cases hy),⟨(by intro y hy;cases hy),⟨(by intro y hy;cases hy),⟨(by intro y hy;cases hy),⟨(by intro y hy;cases hy),⟨(by intro y hy;cases hy),⟨(by intro y hy;cases hy),⟨(by intro y hy;cases hy),⟨trivial,⟨trivial,trivial⟩⟩⟩⟩⟩⟩⟩⟩⟩⟩⟩⟩⟩⟩⟩⟩⟩⟩⟩⟩⟩⟩⟩⟩⟩⟩⟩⟩⟩⟩⟩ ?_
           refine Stage_nil (stage_all' [0,1,2,4,5,6,9,10,14,15,16,18,19,20,21,22,23,24,25,26,27,28,29,30] [3,7,8,11,12,13,17] (by kernel_rfl) (by subst e_x32 e_x30; kernel_rfl) (by kernel_rfl) ⟨QF_at (i:=3) (d:=49) (x:=vb false) (show OpAt _ _ _ 3 49 _ from by exact At_bin (d:=49) (b:=.eql) (u:=.int .i64 x13) (v:=.int .i64 (v4.length : Int)) (w':=.bool false) (by subst e_x32 e_x30; kernel_rfl) (by rw [show exBin .eql (.int .i64 x13) (.int .i64 (v4.length : Int)) = some (.bool (x13 == (v4.length : Int))) from by kernel_rfl,← e_b28])) (by kernel_rfl) (by subst e_x32 e_x30; kernel_rfl),⟨QF_at (i:=7) (d:=53) (x:=.lf (.ep (.slice A5 (v4.length) c6) 1 ((x13).toNat) 0)) (show OpAt _ _ _ 7 53 _ from by exact At_idxI (d:=53) (z:=x13) (by subst e_x32 e_x30; kernel_rfl) g29 fA5) (by kernel_rfl) (by subst e_x32 e_x30; kernel_rfl),⟨QF_at (i:=8) (d:=54) (x:=vi x30) (show OpAt _ _ _ 8 54 _ from by rw [e_x30]; exact At_ldI (d:=54) (q:=(x13).toNat) (by subst e_x32 e_x30; kernel_rfl) (toNat_lt g29) fA5) (by kernel_rfl) (by subst e_x32 e_x30; kernel_rfl),⟨QF_at (i:=11) (d:=57) (x:=.lf (.ep (.slice Au2 (u2.length) cu2) 1 ((x10).toNat) 0)) (show OpAt _ _ _ 11 57 _ from by exact At_idxI (d:=57) (z:=x10) (by subst e_x32 e_x30; kernel_rfl) g31 (hu2.le hM7)) (by kernel_rfl) (by subst e_x32 e_x30; kernel_rfl),⟨QF_at (i:=12) (d:=58) (x:=vi x32) (show OpAt _ _ _ 12 58 _ from by rw [e_x32]; exact At_ldI (d:=58) (q:=(x10).toNat) (by subst e_x32 e_x30; kernel_rfl) (toNat_lt g31) (hu2.le hM7)) (by kernel_rfl) (by subst e_x32 e_x30; kernel_rfl),⟨QF_at (i:=13) (d:=59) (x:=vb false) (show OpAt _ _ _ 13 59 _ from by exact At_bin (d:=59) (b:=.neq) (u:=.int .i64 x30) (v:=.int .i64 x32) (w':=.bool false) (by subst e_x32 e_x30; kernel_rfl) (by rw [show exBin .neq (.int .i64 x30) (.int .i64 x32) = some (.bool (x30 != x32)) from by kernel_rfl,← e_b33])) (by kernel_rfl) (by subst e_x32 e_x30; kernel_rfl),⟨QF_at (i:=17) (d:=63) (x:=vb false) (show OpAt _ _ _ 17 63 _ from by exact At_bin (d:=63) (b:=.gtr) (u:=.int .i64 x10) (v:=.int .i64 (0 : Int)) (w':=.bool false) (by subst e_x32 e_x30; kernel_rfl) (by rw [show exBin .gtr (.int .i64 x10) (.int .i64 (0 : Int)) = some (.bool (decide (x10 > (0 : Int)))) from by kernel_rfl,← e_b34])) (by kernel_rfl) (by subst e_x32 e_x30; kernel_rfl),trivial⟩⟩⟩⟩⟩⟩⟩) ?_
           refine thenQ_n ?_
           exact ⟨false,keep_sub (ts:=[2,3,4,8,9,10,76]) (hs:=[3,4]) (vs:=[]) (by subst e_x32 e_x30;kernel_rfl),h⟩
       ·rintro s' ⟨b26,hsub,h⟩
        subst e_j27
        refine T_sub hsub ?_
        cases b26 with
        | true =>
         replace h := sp_t h
         refine T_condT (x:=(.tmp 76)) (c1:=(sub [1,1,1,1,1,1,0,1,0,0,1,0,0,1,1,0] Bd27)) (c2:=(sub [1,1,1,1,1,1,0,1,0,0,1,0,0,1,1,1] Bd27)) (by kernel_rfl) (by kernel_rfl) ?_
         refine T_keep (s':={ σ := [],H := [],V := [],M := M7,ds := [] }) [] [] [] (by kernel_rfl) ?_
         refine T_seq (c1:=(sub [1,1,1,1,1,1,0,1,0,0,1,0,0,1,1,0,0] Bd27)) (c2:=(sub [1,1,1,1,1,1,0,1,0,0,1,0,0,1,1,0,1] Bd27)) (by kernel_rfl) ?_
         refine T_region (id:=14) (by kernel_rfl) ?_
         refine TI_segS (i:=0) (j:=1) [(6,vi (16 : Int))] (by kernel_rfl) (by kernel_rfl) ?_
         refine TI_end (by kernel_rfl) ?_
         refine thenQ_n ?_
         refine T_ret (by kernel_rfl) ?_
         refine blockQ_r ?_
         refine thenQ_r ?_
         refine thenQ_r ?_
         refine blockQ_r ?_
         refine thenQ_r ?_
         refine thenQ_r ?_
         have h := Option.some.inj h
         subst h
         refine fin_ret (vi (16 : Int)) (by kernel_rfl) (by kernel_rfl) rfl ?_
         rfl
        | false =>
         replace h := sp_f h
         refine T_condF (x:=(.tmp 76)) (c1:=(sub [1,1,1,1,1,1,0,1,0,0,1,0,0,1,1,0] Bd27)) (c2:=(sub [1,1,1,1,1,1,0,1,0,0,1,0,0,1,1,1] Bd27)) (by kernel_rfl) (by kernel_rfl) ?_
         refine T_keep (s':={ σ := [(2,.lf (.v (.slice Au2 (u2.length) cu2))),(3,.lf (.own 3 0)),(4,.lf (.own 4 0)),(8,.lf (.v (.slice A5 (v4.length) c6))),(9,vi x13),(10,vi x10)],H := [(3,[.one (.v (.slice Au0_0 (u0_0.length) cu0_0)),.arr .i64 4 u0_1]),(4,[.arr .i64 7 u1])],V := [],M := M7,ds := [] }) [2,3,4,8,9,10] [3,4] [] (by kernel_rfl) ?_
         refine T_skip (by kernel_rfl) ?_
         refine blockQ_n ?_
         refine thenQ_n ?_
         refine T_region (id:=10) (by kernel_rfl) ?_
         obtain ⟨x41,e_x41,h⟩ := lt_some h
         refine TI_segS (i:=0) (j:=3) [(2,.lf (.v (.slice Au2 (u2.length) cu2))),(3,.lf (.own 3 0)),(4,.lf (.own 4 0)),(8,.lf (.v (.slice A5 (v4.length) c6))),(9,vi x13),(10,vi x41)] (by subst e_x41;kernel_rfl) (by kernel_rfl) ?_
         refine TI_end (by kernel_rfl) ?_
         refine thenQ_n ?_
         exact ⟨n11,Nat.lt_succ_self _,x13,x41,keep_sub (ts:=[2,3,4,8,9,10]) (hs:=[3,4]) (vs:=[]) (by kernel_rfl),h⟩
     | false =>
      replace h := sp_f h
      refine T_condF (x:=(.tmp 26)) (c1:=(sub [1,1,1,1,1,1,0,1,0,0,0,1,0] Bd27)) (c2:=(sub [1,1,1,1,1,1,0,1,0,0,0,1,1] Bd27)) (by kernel_rfl) (by kernel_rfl) ?_
      refine T_keepS [(2,.lf (.v (.slice Au2 (u2.length) cu2))),(3,.lf (.own 3 0)),(4,.lf (.own 4 0))] (by kernel_rfl) ?_
      refine T_exit (id:=0) (by kernel_rfl) ?_
      refine thenQ_x ?_
      refine thenQ_x ?_
      refine blockQ_x ?_
      refine thenQ_n ?_
      exact ⟨keep_sub (ts:=[2,3,4]) (hs:=[3,4]) (vs:=[]) (by kernel_rfl),h⟩
   ·rintro s' ⟨hsub,h⟩
    subst e_j8
    refine thenQ_n ?_
    refine T_sub hsub ?_
    refine T_seq (c1:=(sub [1,1,1,1,1,1,1,0] Bd27)) (c2:=(sub [1,1,1,1,1,1,1,1] Bd27)) (by kernel_rfl) ?_
    refine T_seq (c1:=(sub [1,1,1,1,1,1,1,0,0] Bd27)) (c2:=(sub [1,1,1,1,1,1,1,0,1] Bd27)) (by kernel_rfl) ?_
    refine T_region (id:=15) (by kernel_rfl) ?_
    refine TI_segK (i:=0) (j:=3) (s':={ σ := [(77,.agg [.one (.v (.slice Au0_0 (u0_0.length) cu0_0)),.arr .i64 4 u0_1]),(78,.agg [.arr .i64 7 u1]),(79,.lf (.v (.slice Au2 (u2.length) cu2)))],H := [],V := [],M := M7,ds := [] }) [77,78,79] [] [] (by kernel_rfl) (by kernel_rfl) ?_
    obtain ⟨v42,c_v42,h⟩ := cl_some h
    refine TI_at (i:=3) (d:=80) (x:=vi v42) (At_call (d:=80) (f:=60) (args:=[rval (.agg [.one (.v (.slice Au0_0 (u0_0.length) cu0_0)),.arr .i64 4 u0_1]),rval (.agg [.arr .i64 7 u1]),rval (.lf (.v (.slice Au2 (u2.length) cu2)))]) (x:=vi v42) (by kernel_rfl) (w60 k (hu0_0.le hM7) hu0_1 hu1 (hu2.le hM7) c_v42)) (by kernel_rfl) trivial ?_
    obtain ⟨b43,e_b43,h⟩ := lt_some h
    refine TI_segK (i:=4) (j:=5) (s':={ σ := [(81,vb b43)],H := [],V := [],M := M7,ds := [] }) [81] [] [] (by subst e_b43;kernel_rfl) (by kernel_rfl) ?_
    refine TI_end (by kernel_rfl) ?_
    refine thenQ_n ?_
    cases b43 with
    | true =>
     replace h := sp_t h
     refine T_condT (x:=(.tmp 81)) (c1:=(sub [1,1,1,1,1,1,1,0,1,0] Bd27)) (c2:=(sub [1,1,1,1,1,1,1,0,1,1] Bd27)) (by kernel_rfl) (by kernel_rfl) ?_
     refine T_keepS [] (by kernel_rfl) ?_
     refine T_seq (c1:=(sub [1,1,1,1,1,1,1,0,1,0,0] Bd27)) (c2:=(sub [1,1,1,1,1,1,1,0,1,0,1] Bd27)) (by kernel_rfl) ?_
     refine T_region (id:=16) (by kernel_rfl) ?_
     refine TI_segS (i:=0) (j:=1) [(6,vi (16 : Int))] (by kernel_rfl) (by kernel_rfl) ?_
     refine TI_end (by kernel_rfl) ?_
     refine thenQ_n ?_
     refine T_ret (by kernel_rfl) ?_
     refine thenQ_r ?_
     have h := Option.some.inj h
     subst h
     refine fin_ret (vi (16 : Int)) (by kernel_rfl) (by kernel_rfl) rfl ?_
     rfl
    | false =>
     replace h := sp_f h
     refine T_condF (x:=(.tmp 81)) (c1:=(sub [1,1,1,1,1,1,1,0,1,0] Bd27)) (c2:=(sub [1,1,1,1,1,1,1,0,1,1] Bd27)) (by kernel_rfl) (by kernel_rfl) ?_
     refine T_keepS [] (by kernel_rfl) ?_
     refine T_skip (by kernel_rfl) ?_
     refine thenQ_n ?_
     refine T_seq (c1:=(sub [1,1,1,1,1,1,1,1,0] Bd27)) (c2:=(sub [1,1,1,1,1,1,1,1,1] Bd27)) (by kernel_rfl) ?_
     refine T_region (id:=17) (by kernel_rfl) ?_
     refine TI_segS (i:=0) (j:=1) [(6,vi (0 : Int))] (by kernel_rfl) (by kernel_rfl) ?_
     refine TI_end (by kernel_rfl) ?_
     refine thenQ_n ?_
     refine T_ret (by kernel_rfl) ?_
     have h := Option.some.inj h
     subst h
     refine fin_ret (vi (0 : Int)) (by kernel_rfl) (by kernel_rfl) rfl ?_
     rfl
end Go.Proofs.Ythjkejbgknemgaa
namespace Go.Proofs.Ythjkejbgknemgaa
open Go.RowKit
abbrev CT := List (List Int) × List Int × Int × List (List Int) × List (List (List Int))
structure Crs (M : Mem) (b : Nat) (A : Option Addr) (c : Nat) (AP : Option Addr) (cP : Nat) (AV : Nat → Option Addr) (cV : Nat → Nat) (R : List (List Int)) (D : List Int) (st : Int) (P : List (List Int)) (V : List (List (List Int))) : Prop where
  log : memCell M b 0 = some (.slice A (List.length R) c)
  lR : SlR M A c .i64 11 R
  lD : D.length = 4
  dr : ∀ j, j < 4 → memCell M b (1 + j) = some (.int .i64 (D.getD j 0))
  start : memCell M b 5 = some (.int .i64 st)
  plc : memCell M b 6 = some (.slice AP (List.length P) cP)
  lP : SlR M AP cP .i64 2 P
  lV : V.length = 4
  val : ∀ k, k < 4 → memCell M b (7 + k) = some (.slice (AV k) (List.length (V.getD k [])) (cV k)) ∧ SlR M (AV k) (cV k) .i64 2 (V.getD k [])
theorem Crs.le {M M' : Mem} {b A c AP cP AV cV R D st P V} (h : Crs M b A c AP cP AV cV R D st P V) (hM : Mem.le M M') : Crs M' b A c AP cP AV cV R D st P V :=
  ⟨memCell_le hM h.log, h.lR.le hM, h.lD, fun j hj => memCell_le hM (h.dr j hj), memCell_le hM h.start, memCell_le hM h.plc, h.lP.le hM, h.lV, fun k hk => ⟨memCell_le hM (h.val k hk).1, (h.val k hk).2.le hM⟩⟩
def PtrR (M : Mem) (pv : Value) : Option CT → Prop
  | none => pv = .pointer none
  | some t => ∃ b A c AP cP AV cV, pv = .pointer (some ⟨b, 0, none⟩) ∧ Crs M b A c AP cP AV cV t.1 t.2.1 t.2.2.1 t.2.2.2.1 t.2.2.2.2
theorem PtrR.le {M M' : Mem} {pv : Value} : ∀ {o : Option CT}, PtrR M pv o → Mem.le M M' → PtrR M' pv o
  | none, h, _ => h
  | some _, ⟨b, A, c, AP, cP, AV, cV, h1, h2⟩, hM => ⟨b, A, c, AP, cP, AV, cV, h1, h2.le hM⟩
def AVof (A0 A1 A2 A3 : Option Addr) : Nat → Option Addr := fun k => [A0, A1, A2, A3].getD k none
def cVof (c0 c1 c2 c3 : Nat) : Nat → Nat := fun k => [c0, c1, c2, c3].getD k 0
theorem Crs_mk {M : Mem} {b c cP c0 c1 c2 c3 : Nat} {A AP A0 A1 A2 A3 : Option Addr} {R P V0 V1 V2 V3 : List (List Int)} {D : List Int} {st : Int}
    (hM : M b = some (sgCells (fun _ => 0) (fun _ => .slice none 0 0) [.one (.v (.slice A (List.length R) c)), .arr .i64 4 D, .one (.v (.int .i64 st)), .one (.v (.slice AP (List.length P) cP)), .one (.v (.slice A0 (List.length V0) c0)), .one (.v (.slice A1 (List.length V1) c1)), .one (.v (.slice A2 (List.length V2) c2)), .one (.v (.slice A3 (List.length V3) c3))]).toArray)
    (hD : D.length = 4) (hR : SlR M A c .i64 11 R) (hP : SlR M AP cP .i64 2 P) (h0 : SlR M A0 c0 .i64 2 V0) (h1 : SlR M A1 c1 .i64 2 V1) (h2 : SlR M A2 c2 .i64 2 V2) (h3 : SlR M A3 c3 .i64 2 V3) :
    Crs M b A c AP cP (AVof A0 A1 A2 A3) (cVof c0 c1 c2 c3) R D st P [V0, V1, V2, V3] := by
  obtain ⟨d0, d1, d2, d3, rfl⟩ : ∃ d0 d1 d2 d3, D = [d0, d1, d2, d3] := by
    match D, hD with
    | [d0, d1, d2, d3], _ => exact ⟨d0, d1, d2, d3, rfl⟩
  have g : ∀ {off v}, (sgCells (fun _ => 0) (fun _ => Value.slice none 0 0) [.one (.v (.slice A (List.length R) c)), .arr .i64 4 [d0, d1, d2, d3], .one (.v (.int .i64 st)), .one (.v (.slice AP (List.length P) cP)), .one (.v (.slice A0 (List.length V0) c0)), .one (.v (.slice A1 (List.length V1) c1)), .one (.v (.slice A2 (List.length V2) c2)), .one (.v (.slice A3 (List.length V3) c3))])[off]? = some v → memCell M b off = some v := fun h => cell_block hM h
  refine ⟨g rfl, hR, rfl, ?_, g rfl, g rfl, hP, rfl, ?_⟩
  · intro j hj
    match j, hj with
    | 0, _ => exact g rfl
    | 1, _ => exact g rfl
    | 2, _ => exact g rfl
    | 3, _ => exact g rfl
  · intro k hk
    match k, hk with
    | 0, _ => exact ⟨g rfl, h0⟩
    | 1, _ => exact ⟨g rfl, h1⟩
    | 2, _ => exact ⟨g rfl, h2⟩
    | 3, _ => exact ⟨g rfl, h3⟩
def bands4 (L : List Int) : List (List Int) := [List.take 2 (List.drop 3 L), List.take 2 (List.drop 5 L), List.take 2 (List.drop 7 L), List.take 2 (List.drop 9 L)]
theorem bands4_rows {L : List Int} (h : L.length = 11) : ∀ r ∈ bands4 L, r.length = 2 := by
  intro r hr
  simp only [bands4, List.mem_cons, List.mem_nil_iff, or_false] at hr
  rcases hr with rfl | rfl | rfl | rfl <;> (rw [List.length_take, List.length_drop, h]; rfl)
theorem bands4_cells {k : IntKind} {L : List Int} (h : L.length = 11) : ((sgCells (fun _ => 0) (fun _ => Value.slice none 0 0) [.arr k 11 L]).drop 3).take 8 = rowsC k (bands4 L) := by
  match L, h with
  | [a0, a1, a2, a3, a4, a5, a6, a7, a8, a9, a10], _ => rfl
end Go.Proofs.Ythjkejbgknemgaa
