/- Lemmas and walks for the law ClaimProven (part 3). No condition: every theorem names its own hypotheses. -/
import Derived.Test.YthjkejbgknemgaaK2
import Derived.Test.YthjkejbgknemgaaProg
set_option linter.unusedVariables false
set_option linter.unusedSimpArgs false
set_option maxHeartbeats 4000000
namespace Go.Proofs.Ythjkejbgknemgaa
open Go.RowKit
def p21_l2 (k : Nat) (j21 : Option Int) (L8 : List Int) : Nat → Int → Option Int
 | 0,_ => none
 | n23 + 1,x22 => lt' (decide (x22 < (4 : Int))) fun b24 => sp b24 (gd ((0 : Int) ≤ x22 ∧ x22 < ((4 : Nat) : Int)) <| lt' (List.take 2 (List.drop (3 + (x22).toNat * 2) L8)) fun L26 => cl (p52 k L26) fun v27 => sp v27 (lt' (wr .i64 (x22 + (1 : Int))) fun x28 => p21_l2 k j21 L8 n23 x28) (some (2 : Int))) (j21)
def p21_l1 (k : Nat) (u0_0 : List (List Int)) (j3 : Option Int) : Nat → Int → Option Int
 | 0,_ => none
 | n5 + 1,x4 => lt' (decide (x4 < (u0_0.length : Int))) fun b6 => sp b6 (gd ((0 : Int) ≤ x4 ∧ x4 < (u0_0.length : Int)) <| lt' (List.getD u0_0 ((x4).toNat) []) fun L8 => jn (fun (b9 : Bool) => sp b9 (some (2 : Int)) (jn (lt' (wr .i64 (x4 + (1 : Int))) fun x29 => p21_l1 k u0_0 j3 n5 x29) fun j21 => p21_l2 k j21 L8 k (0 : Int))) fun j10 => lt' (List.getD L8 0 0) fun x11 => cl (p50 k x11 (0 : Int) (1099511627776 : Int)) fun v12 => sp v12 (lt' (decide (x4 > (0 : Int))) fun b13 => sp b13 (lt' (List.getD L8 0 0) fun x14 => lt' (wr .i64 (x4 - (1 : Int))) fun x15 => gd ((0 : Int) ≤ x15 ∧ x15 < (u0_0.length : Int)) <| lt' (List.getD (List.getD u0_0 ((x15).toNat) []) 0 0) fun x17 => lt' (decide (x14 ≤ x17)) fun b18 => sp b18 (j10 true) (cl (p52 k (List.take 2 (List.drop 1 L8))) fun v19 => j10 (!v19))) (cl (p52 k (List.take 2 (List.drop 1 L8))) fun v20 => j10 (!v20))) (j10 true)) (j3)
def p21_l3 (k : Nat) (u0_1 : List Int) (j37 : Option Int) : Nat → Int → Option Int
 | 0,_ => none
 | n39 + 1,x38 => lt' (decide (x38 < (4 : Int))) fun b40 => sp b40 (gd ((0 : Int) ≤ x38 ∧ x38 < ((4 : Nat) : Int)) <| lt' (List.getD u0_1 (0 + (x38).toNat * 1) 0) fun x42 => cl (p50 k x42 (0 : Int) (1048576 : Int)) fun v43 => sp v43 (lt' (wr .i64 (x38 + (1 : Int))) fun x44 => p21_l3 k u0_1 j37 n39 x44) (some (2 : Int))) (j37)
def p21_l5 (k : Nat) (u0_0 : List (List Int)) (u0_1 : List Int) (x46 : Int) (j55 : Option Int) : Nat → Int → Option Int
 | 0,_ => none
 | n57 + 1,x56 => lt' (decide (x56 < (4 : Int))) fun b58 => sp b58 (cl (p17 k u0_0 u0_1 x46 x56) fun v59 => gd ((v59).length = 2) <| lt' (List.getD v59 0 0) fun x61 => lt' (List.getD v59 1 0) fun x62 => lt' (decide (x61 > x62)) fun b63 => sp b63 (some (16 : Int)) (lt' (wr .i64 (x56 + (1 : Int))) fun x64 => p21_l5 k u0_0 u0_1 x46 j55 n57 x64)) (j55)
def p21_l4 (k : Nat) (u0_0 : List (List Int)) (u0_1 : List Int) (j45 : Option Int) : Nat → Int → Option Int
 | 0,_ => none
 | n47 + 1,x46 => cl (p53 k u0_0 u0_1) fun v48 => lt' (decide (x46 ≤ v48)) fun b49 => sp b49 (cl (p16 k u0_0 u0_1 x46) fun v50 => gd ((v50).length = 2) <| lt' (List.getD v50 0 0) fun x52 => lt' (List.getD v50 1 0) fun x53 => lt' (decide (x52 > x53)) fun b54 => sp b54 (some (16 : Int)) (jn (lt' (wr .i64 (x46 + (1 : Int))) fun x65 => p21_l4 k u0_0 u0_1 j45 n47 x65) fun j55 => p21_l5 k u0_0 u0_1 x46 j55 k (0 : Int))) (j45)
def p21 (k : Nat) (u0_0 : List (List Int)) (u0_1 : List Int) : Option Int :=
 lt' (decide ((u0_0.length : Int) > (64 : Int))) fun b1 => sp b1 (some (6 : Int)) (lt' (decide ((u0_0.length : Int) < (2 : Int))) fun b2 => sp b2 (some (2 : Int)) (jn (lt' (wr .i64 ((u0_0.length : Int) - (1 : Int))) fun x30 => gd ((0 : Int) ≤ x30 ∧ x30 < (u0_0.length : Int)) <| lt' (List.getD (List.getD u0_0 ((x30).toNat) []) 0 0) fun x32 => gd ((0 : Int) ≤ (0 : Int) ∧ (0 : Int) < (u0_0.length : Int)) <| lt' (List.getD (List.getD u0_0 0 []) 0 0) fun x34 => lt' (wr .i64 (x32 - x34)) fun x35 => lt' (decide (x35 > (2000 : Int))) fun b36 => sp b36 (some (2 : Int)) (jn (jn (some (0 : Int)) fun j45 => p21_l4 k u0_0 u0_1 j45 k (0 : Int)) fun j37 => p21_l3 k u0_1 j37 k (0 : Int))) fun j3 => p21_l1 k u0_0 j3 k (0 : Int)))
theorem hf21 : Try.prog.funcs[21]? = some Try.f21 := by kernel_rfl
theorem w21 (k : Nat) {M : Mem} {Au0_0 : Option Addr} {cu0_0 : Nat} {u0_0 : List (List Int)} {u0_1 : List Int} (hu0_0 : SlR M Au0_0 cu0_0 .i64 11 u0_0) (hu0_1 : u0_1.length = 4) {r} (h : p21 k u0_0 u0_1 = some r) :
  Fn Try.prog 21 [rval (.agg [.one (.v (.slice Au0_0 (u0_0.length) cu0_0)),.arr .i64 4 u0_1])] M (fun x _ => x = vi r) := by
 unfold p21 at h
 refine Fn_of (P:=Try.prog) (fn:=Try.f21) (c:=bodyOf Try.f21) [.agg [.one (.v (.slice Au0_0 (u0_0.length) cu0_0)),.arr .i64 4 u0_1]] hf21 (by kernel_rfl) (Nat.le_of_ble_eq_true (by kernel_rfl)) (args_ok (by kernel_rfl) ⟨⟨rfl,⟨hu0_1,trivial⟩⟩,trivial⟩) fun w => ?_
 change T _ _ _ (endQ _ _ _)
 refine T_seq (c1:=(sub [0] Bd21)) (c2:=(sub [1] Bd21)) (by kernel_rfl) ?_
 refine T_region (id:=0) (by kernel_rfl) ?_
 refine TI_segK (i:=0) (j:=2) (s':={ σ := [(1,.lf (.own 1 0))],H := [(1,[.one (.v (.slice Au0_0 (u0_0.length) cu0_0)),.arr .i64 4 u0_1])],V := [],M := M,ds := [] }) [1] [1] [] (by kernel_rfl) (by kernel_rfl) ?_
 refine TI_end (by kernel_rfl) ?_
 refine thenQ_n ?_
 refine T_sq (by kernel_rfl) ?_
 refine T_region (id:=1) (by kernel_rfl) ?_
 refine TI_segS (i:=0) (j:=4) [(1,.lf (.own 1 0)),(3,vi (u0_0.length : Int))] (by kernel_rfl) (by kernel_rfl) ?_
 refine TI_end (by kernel_rfl) ?_
 refine thenQ_n ?_
 refine T_sq (by kernel_rfl) ?_
 refine T_sq (by kernel_rfl) ?_
 refine T_region (id:=2) (by kernel_rfl) ?_
 obtain ⟨b1,e_b1,h⟩ := lt_some h
 refine TI_segS (i:=0) (j:=2) [(1,.lf (.own 1 0)),(3,vi (u0_0.length : Int)),(16,vb b1)] (by subst e_b1;kernel_rfl) (by kernel_rfl) ?_
 refine TI_end (by kernel_rfl) ?_
 refine thenQ_n ?_
 cases b1 with
 | true =>
  replace h := sp_t h
  refine T_condT (x:=(.tmp 16)) (c1:=(sub [1,1,0,1,0] Bd21)) (c2:=(sub [1,1,0,1,1] Bd21)) (by kernel_rfl) (by kernel_rfl) ?_
  refine T_keep (s':={ σ := [],H := [],V := [],M := M,ds := [] }) [] [] [] (by kernel_rfl) ?_
  refine T_sq (by kernel_rfl) ?_
  refine T_region (id:=3) (by kernel_rfl) ?_
  refine TI_segS (i:=0) (j:=1) [(2,vi (6 : Int))] (by kernel_rfl) (by kernel_rfl) ?_
  refine TI_end (by kernel_rfl) ?_
  refine thenQ_n ?_
  refine T_ret (by kernel_rfl) ?_
  refine thenQ_r ?_
  have h := Option.some.inj h
  subst h
  refine fin_ret (vi (6 : Int)) (by kernel_rfl) (by kernel_rfl) rfl ?_
  rfl
 | false =>
  replace h := sp_f h
  refine T_condF (x:=(.tmp 16)) (c1:=(sub [1,1,0,1,0] Bd21)) (c2:=(sub [1,1,0,1,1] Bd21)) (by kernel_rfl) (by kernel_rfl) ?_
  refine T_keepS [(1,.lf (.own 1 0)),(3,vi (u0_0.length : Int))] (by kernel_rfl) ?_
  refine T_skip (by kernel_rfl) ?_
  refine thenQ_n ?_
  refine T_sq (by kernel_rfl) ?_
  refine T_sq (by kernel_rfl) ?_
  refine T_region (id:=4) (by kernel_rfl) ?_
  obtain ⟨b2,e_b2,h⟩ := lt_some h
  refine TI_segS (i:=0) (j:=2) [(1,.lf (.own 1 0)),(3,vi (u0_0.length : Int)),(18,vb b2)] (by subst e_b2;kernel_rfl) (by kernel_rfl) ?_
  refine TI_end (by kernel_rfl) ?_
  refine thenQ_n ?_
  cases b2 with
  | true =>
   replace h := sp_t h
   refine T_condT (x:=(.tmp 18)) (c1:=(sub [1,1,1,0,1,0] Bd21)) (c2:=(sub [1,1,1,0,1,1] Bd21)) (by kernel_rfl) (by kernel_rfl) ?_
   refine T_keep (s':={ σ := [],H := [],V := [],M := M,ds := [] }) [] [] [] (by kernel_rfl) ?_
   refine T_sq (by kernel_rfl) ?_
   refine T_region (id:=5) (by kernel_rfl) ?_
   refine TI_segS (i:=0) (j:=1) [(2,vi (2 : Int))] (by kernel_rfl) (by kernel_rfl) ?_
   refine TI_end (by kernel_rfl) ?_
   refine thenQ_n ?_
   refine T_ret (by kernel_rfl) ?_
   refine thenQ_r ?_
   have h := Option.some.inj h
   subst h
   refine fin_ret (vi (2 : Int)) (by kernel_rfl) (by kernel_rfl) rfl ?_
   rfl
  | false =>
   replace h := sp_f h
   refine T_condF (x:=(.tmp 18)) (c1:=(sub [1,1,1,0,1,0] Bd21)) (c2:=(sub [1,1,1,0,1,1] Bd21)) (by kernel_rfl) (by kernel_rfl) ?_
   refine T_keepS [(1,.lf (.own 1 0)),(3,vi (u0_0.length : Int))] (by kernel_rfl) ?_
   refine T_skip (by kernel_rfl) ?_
   refine thenQ_n ?_
   refine T_sq (by kernel_rfl) ?_
   refine T_sq (by kernel_rfl) ?_
   refine T_region (id:=6) (by kernel_rfl) ?_
   refine TI_segS (i:=0) (j:=1) [(1,.lf (.own 1 0)),(3,vi (u0_0.length : Int)),(4,vi (0 : Int))] (by kernel_rfl) (by kernel_rfl) ?_
   refine TI_end (by kernel_rfl) ?_
   refine thenQ_n ?_
   obtain ⟨j3,e_j3,h⟩ := jn_some h
   refine T_bcut (id:=0) (c1:=(sub [1,1,1,1,0,1,0] Bd21)) (fun s' => Sub { σ := [(1,.lf (.own 1 0)),(3,vi (u0_0.length : Int))],H := [(1,[.one (.v (.slice Au0_0 (u0_0.length) cu0_0)),.arr .i64 4 u0_1])],V := [],M := M,ds := [] } s' ∧ j3 = some r) (by kernel_rfl) ?_ ?_
   ·refine T_loop (c1:=(sub [1,1,1,1,0,1,0,0] Bd21)) (by kernel_rfl) (fun n5 s' => ∃ (x4 : Int),Sub { σ := [(1,.lf (.own 1 0)),(3,vi (u0_0.length : Int)),(4,vi x4)],H := [(1,[.one (.v (.slice Au0_0 (u0_0.length) cu0_0)),.arr .i64 4 u0_1])],V := [],M := M,ds := [] } s' ∧ p21_l1 k u0_0 j3 n5 x4 = some r) (k:=k) ⟨(0 : Int),keep_sub (ts:=[1,3,4]) (hs:=[1]) (vs:=[]) (by kernel_rfl),h⟩ ?_
    rintro n5 s' ⟨x4,hsub,h⟩
    cases n5 with
    | zero => rw [p21_l1] at h;cases h
    | succ n5 =>
     rw [p21_l1] at h
     refine T_sub hsub ?_
     refine T_sq (by kernel_rfl) ?_
     refine T_sq (by kernel_rfl) ?_
     refine T_region (id:=7) (by kernel_rfl) ?_
     obtain ⟨b6,e_b6,h⟩ := lt_some h
     refine TI_segK (i:=0) (j:=3) (s':={ σ := [(1,.lf (.own 1 0)),(3,vi (u0_0.length : Int)),(4,vi x4),(21,vb b6)],H := [(1,[.one (.v (.slice Au0_0 (u0_0.length) cu0_0)),.arr .i64 4 u0_1])],V := [],M := M,ds := [] }) [1,3,4,21] [1] [] (by subst e_b6;kernel_rfl) (by kernel_rfl) ?_
     refine TI_end (by kernel_rfl) ?_
     refine thenQ_n ?_
     cases b6 with
     | true =>
      replace h := sp_t h
      refine T_condT (x:=(.tmp 21)) (c1:=(sub [1,1,1,1,0,1,0,0,0,1,0] Bd21)) (c2:=(sub [1,1,1,1,0,1,0,0,0,1,1] Bd21)) (by kernel_rfl) (by kernel_rfl) ?_
      refine T_keepS [(1,.lf (.own 1 0)),(3,vi (u0_0.length : Int)),(4,vi x4)] (by kernel_rfl) ?_
      refine T_skip (by kernel_rfl) ?_
      refine thenQ_n ?_
      refine T_sq (by kernel_rfl) ?_
      refine T_block (id:=1) (c1:=(sub [1,1,1,1,0,1,0,0,1,0,0] Bd21)) (by kernel_rfl) ?_
      refine T_sq (by kernel_rfl) ?_
      refine T_region (id:=9) (by kernel_rfl) ?_
      refine TI_segS (i:=0) (j:=3) [(1,.lf (.own 1 0)),(3,vi (u0_0.length : Int)),(4,vi x4),(25,.lf (.v (.slice Au0_0 (u0_0.length) cu0_0))),(26,vi x4)] (by kernel_rfl) (by kernel_rfl) ?_
      obtain ⟨g7,h⟩ := gd_some h
      refine TI_at (i:=3) (d:=27) (x:=.lf (.ep (.slice Au0_0 (u0_0.length) cu0_0) 11 ((x4).toNat) 0)) (by exact At_idxR (d:=27) (z:=x4) (by kernel_rfl) g7 hu0_0) (by kernel_rfl) trivial ?_
      obtain ⟨L8,e_L8,h⟩ := lt_some h
      have l_L8 : (L8).length = 11 := by rw [e_L8]; exact SlR_row hu0_0 (toNat_lt g7)
      refine TI_at (i:=4) (d:=28) (x:=.agg [.arr .i64 11 L8]) (by rw [e_L8]; exact At_ldRow (d:=28) (q:=(x4).toNat) (by subst e_L8; kernel_rfl) (toNat_lt g7) hu0_0) (by kernel_rfl) ⟨l_L8,trivial⟩ ?_
      refine TI_segK (i:=5) (j:=7) (s':={ σ := [(1,.lf (.own 1 0)),(3,vi (u0_0.length : Int)),(4,vi x4),(5,.lf (.own 5 0))],H := [(1,[.one (.v (.slice Au0_0 (u0_0.length) cu0_0)),.arr .i64 4 u0_1]),(5,[.arr .i64 11 L8])],V := [],M := M,ds := [] }) [1,3,4,5] [1,5] [] (by kernel_rfl) (by kernel_rfl) ?_
      refine TI_end (by kernel_rfl) ?_
      refine thenQ_n ?_
      refine T_sq (by kernel_rfl) ?_
      obtain ⟨j10,e_j10,h⟩ := jn_some h
      refine T_cut (c1:=(sub [1,1,1,1,0,1,0,0,1,0,0,1,0,0] Bd21)) (c2:=(sub [1,1,1,1,0,1,0,0,1,0,0,1,0,1] Bd21)) (fun s' => ∃ (b9 : Bool),Sub { σ := [(1,.lf (.own 1 0)),(3,vi (u0_0.length : Int)),(4,vi x4),(5,.lf (.own 5 0)),(54,vb b9)],H := [(1,[.one (.v (.slice Au0_0 (u0_0.length) cu0_0)),.arr .i64 4 u0_1]),(5,[.arr .i64 11 L8])],V := [],M := M,ds := [] } s' ∧ j10 b9 = some r) (by kernel_rfl) ?_ ?_
      ·obtain ⟨x11,e_x11,h⟩ := lt_some h
       obtain ⟨v12,c_v12,h⟩ := cl_some h
       cases v12 with
       | true =>
        replace h := sp_t h
        obtain ⟨b13,e_b13,h⟩ := lt_some h
        cases b13 with
        | true =>
         replace h := sp_t h
         obtain ⟨x14,e_x14,h⟩ := lt_some h
         obtain ⟨x15,e_x15,h⟩ := lt_some h
         obtain ⟨g16,h⟩ := gd_some h
         obtain ⟨x17,e_x17,h⟩ := lt_some h
         obtain ⟨b18,e_b18,h⟩ := lt_some h
         cases b18 with
         | true =>
          replace h := sp_t h
          refine T_draw' (id:=10) [] [0,0,0,0,0,0,0,0,0,0,0,0,0,0,0,0,0,0,0,0,0,0,0,0,0,0] (by kernel_rfl) (by kernel_rfl) (by kernel_rfl) (by kernel_rfl) [(29,.lf (.own 5 0)),(30,vi x11),(31,vb true),(32,vb false),(33,vb false),(34,vi x4),(35,vb true),(36,vb true),(37,.lf (.own 5 0)),(38,vi x14),(39,.lf (.own 1 0)),(40,.lf (.v (.slice Au0_0 (u0_0.length) cu0_0))),(41,vi x4),(42,vi x15),(43,.lf (.ep (.slice Au0_0 (u0_0.length) cu0_0) 11 ((x15).toNat) 0)),(44,.lf (.ep (.slice Au0_0 (u0_0.length) cu0_0) 11 ((x15).toNat) 0)),(45,vi x17),(46,vb true),(47,vb true),(48,vb true),(49,vb true),(50,.tup []),(51,.tup []),(52,.tup []),(53,.tup []),(54,vb true)] (by kernel_rfl) ⟨trivial,⟨trivial,⟨trivial,⟨trivial,⟨trivial,⟨trivial,⟨trivial,⟨trivial,⟨trivial,⟨trivial,⟨trivial,⟨trivial,⟨trivial,⟨trivial,⟨trivial,⟨trivial,⟨trivial,⟨trivial,⟨trivial,⟨trivial,⟨trivial,⟨(by intro y hy;cases hy),⟨(by intro y hy;cases hy),⟨(by intro y hy;cases hy),⟨(by intro y hy;cases hy),⟨trivial,trivial⟩⟩⟩⟩⟩⟩⟩⟩⟩⟩⟩⟩⟩⟩⟩⟩⟩⟩⟩⟩⟩⟩⟩⟩⟩⟩ ?_
          refine Stage_nil (stage_all' [0,1,3,4,5,7,8,9,10,11,12,13,15,18,19,20,21,22,23,24,25] [2,6,14,16,17] (by kernel_rfl) (by subst_vars; kernel_rfl) (by kernel_rfl) ⟨QF_at (i:=2) (d:=31) (x:=vb true) (show OpAt _ _ _ 2 31 _ from by exact At_call (d:=31) (f:=50) (args:=[rval (vi x11),rval (vi (0 : Int)),rval (vi (1099511627776 : Int))]) (x:=vb true) (by subst_vars; kernel_rfl) (w50 k  c_v12)) (by kernel_rfl) (by subst_vars; kernel_rfl),⟨QF_at (i:=6) (d:=35) (x:=vb true) (show OpAt _ _ _ 6 35 _ from by exact At_bin (d:=35) (b:=.gtr) (u:=.int .i64 x4) (v:=.int .i64 (0 : Int)) (w':=.bool true) (by subst_vars; kernel_rfl) (by rw [show exBin .gtr (.int .i64 x4) (.int .i64 (0 : Int)) = some (.bool (decide (x4 > (0 : Int)))) from by kernel_rfl,← e_b13])) (by kernel_rfl) (by subst_vars; kernel_rfl),⟨QF_at (i:=14) (d:=43) (x:=.lf (.ep (.slice Au0_0 (u0_0.length) cu0_0) 11 ((x15).toNat) 0)) (show OpAt _ _ _ 14 43 _ from by exact At_idxR (d:=43) (z:=x15) (by subst_vars; kernel_rfl) g16 hu0_0) (by kernel_rfl) (by subst_vars; kernel_rfl),⟨QF_at (i:=16) (d:=45) (x:=vi x17) (show OpAt _ _ _ 16 45 _ from by rw [e_x17]; exact At_ldR1 (d:=45) (q:=(x15).toNat) (j:=0) (by subst_vars; kernel_rfl) rfl (toNat_lt g16) hu0_0) (by kernel_rfl) (by subst_vars; kernel_rfl),⟨QF_at (i:=17) (d:=46) (x:=vb true) (show OpAt _ _ _ 17 46 _ from by exact At_bin (d:=46) (b:=.leq) (u:=.int .i64 x14) (v:=.int .i64 x17) (w':=.bool true) (by subst_vars; kernel_rfl) (by rw [show exBin .leq (.int .i64 x14) (.int .i64 x17) = some (.bool (decide (x14 ≤ x17))) from by kernel_rfl,← e_b18])) (by kernel_rfl) (by subst_vars; kernel_rfl),trivial⟩⟩⟩⟩⟩) ?_
          refine thenQ_n ?_
          exact ⟨true,keep_sub (ts:=[1,3,4,5,54]) (hs:=[1,5]) (vs:=[]) (by subst_vars;kernel_rfl),h⟩
         | false =>
          replace h := sp_f h
          obtain ⟨v19,c_v19,h⟩ := cl_some h
          refine T_draw' (id:=10) [] [0,0,0,0,0,0,0,0,0,0,0,0,0,0,0,0,0,0,0,0,0,0,0,0,0,0] (by kernel_rfl) (by kernel_rfl) (by kernel_rfl) (by kernel_rfl) [(29,.lf (.own 5 0)),(30,vi x11),(31,vb true),(32,vb false),(33,vb false),(34,vi x4),(35,vb true),(36,vb true),(37,.lf (.own 5 0)),(38,vi x14),(39,.lf (.own 1 0)),(40,.lf (.v (.slice Au0_0 (u0_0.length) cu0_0))),(41,vi x4),(42,vi x15),(43,.lf (.ep (.slice Au0_0 (u0_0.length) cu0_0) 11 ((x15).toNat) 0)),(44,.lf (.ep (.slice Au0_0 (u0_0.length) cu0_0) 11 ((x15).toNat) 0)),(45,vi x17),(46,vb false),(47,vb false),(48,vb false),(49,vb false),(50,.lf (.own 5 1)),(51,.agg [.arr .i64 2 (List.take 2 (List.drop 1 L8))]),(52,vb v19),(53,vb (!v19)),(54,vb (!v19))] (by kernel_rfl) ⟨trivial,⟨trivial,⟨trivial,⟨trivial,⟨trivial,⟨trivial,⟨trivial,⟨trivial,⟨trivial,⟨trivial,⟨trivial,⟨trivial,⟨trivial,⟨trivial,⟨trivial,⟨trivial,⟨trivial,⟨trivial,⟨trivial,⟨trivial,⟨trivial,⟨trivial,⟨⟨(len_dt l_L8 (Nat.le_of_ble_eq_true rfl)),trivial⟩,⟨trivial,⟨trivial,⟨trivial,trivial⟩⟩⟩⟩⟩⟩⟩⟩⟩⟩⟩⟩⟩⟩⟩⟩⟩⟩⟩⟩⟩⟩⟩⟩⟩⟩ ?_
          refine Stage_nil (stage_all' [0,1,3,4,5,7,8,9,10,11,12,13,15,18,19,20,21,22,24,25] [2,6,14,16,17,23] (by kernel_rfl) (by subst_vars; kernel_rfl) (by kernel_rfl) ⟨QF_at (i:=2) (d:=31) (x:=vb true) (show OpAt _ _ _ 2 31 _ from by exact At_call (d:=31) (f:=50) (args:=[rval (vi x11),rval (vi (0 : Int)),rval (vi (1099511627776 : Int))]) (x:=vb true) (by subst_vars; kernel_rfl) (w50 k  c_v12)) (by kernel_rfl) (by subst_vars; kernel_rfl),⟨QF_at (i:=6) (d:=35) (x:=vb true) (show OpAt _ _ _ 6 35 _ from by exact At_bin (d:=35) (b:=.gtr) (u:=.int .i64 x4) (v:=.int .i64 (0 : Int)) (w':=.bool true) (by subst_vars; kernel_rfl) (by rw [show exBin .gtr (.int .i64 x4) (.int .i64 (0 : Int)) = some (.bool (decide (x4 > (0 : Int)))) from by kernel_rfl,← e_b13])) (by kernel_rfl) (by subst_vars; kernel_rfl),⟨QF_at (i:=14) (d:=43) (x:=.lf (.ep (.slice Au0_0 (u0_0.length) cu0_0) 11 ((x15).toNat) 0)) (show OpAt _ _ _ 14 43 _ from by exact At_idxR (d:=43) (z:=x15) (by subst_vars; kernel_rfl) g16 hu0_0) (by kernel_rfl) (by subst_vars; kernel_rfl),⟨QF_at (i:=16) (d:=45) (x:=vi x17) (show OpAt _ _ _ 16 45 _ from by rw [e_x17]; exact At_ldR1 (d:=45) (q:=(x15).toNat) (j:=0) (by subst_vars; kernel_rfl) rfl (toNat_lt g16) hu0_0) (by kernel_rfl) (by subst_vars; kernel_rfl),⟨QF_at (i:=17) (d:=46) (x:=vb false) (show OpAt _ _ _ 17 46 _ from by exact At_bin (d:=46) (b:=.leq) (u:=.int .i64 x14) (v:=.int .i64 x17) (w':=.bool false) (by subst_vars; kernel_rfl) (by rw [show exBin .leq (.int .i64 x14) (.int .i64 x17) = some (.bool (decide (x14 ≤ x17))) from by kernel_rfl,← e_b18])) (by kernel_rfl) (by subst_vars; kernel_rfl),⟨QF_at (i:=23) (d:=52) (x:=vb v19) (show OpAt _ _ _ 23 52 _ from by exact At_call (d:=52) (f:=52) (args:=[rval (.agg [.arr .i64 2 (List.take 2 (List.drop 1 L8))])]) (x:=vb v19) (by subst_vars; kernel_rfl) (w52 k (len_dt l_L8 (Nat.le_of_ble_eq_true rfl)) c_v19)) (by kernel_rfl) (by subst_vars; kernel_rfl),trivial⟩⟩⟩⟩⟩⟩) ?_
          refine thenQ_n ?_
          exact ⟨(!v19),keep_sub (ts:=[1,3,4,5,54]) (hs:=[1,5]) (vs:=[]) (by subst_vars;kernel_rfl),h⟩
        | false =>
         replace h := sp_f h
         obtain ⟨v20,c_v20,h⟩ := cl_some h
         refine T_draw' (id:=10) [] [0,0,0,0,0,0,0,0,0,0,0,0,0,0,0,0,0,0,0,0,0,0,0,0,0,0] (by kernel_rfl) (by kernel_rfl) (by kernel_rfl) (by kernel_rfl) [(29,.lf (.own 5 0)),(30,vi x11),(31,vb true),(32,vb false),(33,vb false),(34,vi x4),(35,vb false),(36,vb false),(37,.tup []),(38,.tup []),(39,.tup []),(40,.tup []),(41,.tup []),(42,.tup []),(43,.tup []),(44,.tup []),(45,.tup []),(46,.tup []),(47,vb false),(48,vb false),(49,vb false),(50,.lf (.own 5 1)),(51,.agg [.arr .i64 2 (List.take 2 (List.drop 1 L8))]),(52,vb v20),(53,vb (!v20)),(54,vb (!v20))] (by kernel_rfl) ⟨trivial,⟨trivial,⟨trivial,⟨trivial,⟨trivial,⟨trivial,⟨trivial,⟨trivial,⟨(by intro y hy;cases hy),⟨(by intro y hy;cases hy),⟨(by intro y hy;cases hy),⟨(by intro y hy;cases hy),⟨(by intro y hy;cases hy),⟨(by intro y hy;cases hy),⟨(by intro y hy;cases hy),⟨(by intro y hy;cases hy),⟨(by intro y hy;cases hy),⟨(by intro y hy;cases hy),⟨trivial,⟨trivial,⟨trivial,⟨trivial,⟨⟨(len_dt l_L8 (Nat.le_of_ble_eq_true rfl)),trivial⟩,⟨trivial,⟨trivial,⟨trivial,trivial⟩⟩⟩⟩⟩⟩⟩⟩⟩⟩⟩⟩⟩⟩⟩⟩⟩⟩⟩⟩⟩⟩⟩⟩⟩⟩ ?_
         refine Stage_nil (stage_all' [0,1,3,4,5,7,8,9,10,11,12,13,14,15,16,17,18,19,20,21,22,24,25] [2,6,23] (by kernel_rfl) (by subst e_x11;kernel_rfl) (by kernel_rfl) ⟨QF_at (i:=2) (d:=31) (x:=vb true) (show OpAt _ _ _ 2 31 _ from by exact At_call (d:=31) (f:=50) (args:=[rval (vi x11),rval (vi (0 : Int)),rval (vi (1099511627776 : Int))]) (x:=vb true) (by subst e_x11;kernel_rfl) (w50 k  c_v12)) (by kernel_rfl) (by subst e_x11;kernel_rfl),⟨QF_at (i:=6) (d:=35) (x:=vb false) (show OpAt _ _ _ 6 35 _ from by exact At_bin (d:=35) (b:=.gtr) (u:=.int .i64 x4) (v:=.int .i64 (0 : Int)) (w':=.bool false) (by subst e_x11;kernel_rfl) (by rw [show exBin .gtr (.int .i64 x4) (.int .i64 (0 : Int)) = some (.bool (decide (x4 > (0 : Int)))) from by kernel_rfl,← e_b13])) (by kernel_rfl) (by subst e_x11;kernel_rfl),⟨QF_at (i:=23) (d:=52) (x:=vb v20) (show OpAt _ _ _ 23 52 _ from by exact At_call (d:=52) (f:=52) (args:=[rval (.agg [.arr .i64 2 (List.take 2 (List.drop 1 L8))])]) (x:=vb v20) (by subst e_x11;kernel_rfl) (w52 k (len_dt l_L8 (Nat.le_of_ble_eq_true rfl)) c_v20)) (by kernel_rfl) (by subst e_x11;kernel_rfl),trivial⟩⟩⟩) ?_
         refine thenQ_n ?_
         exact ⟨(!v20),keep_sub (ts:=[1,3,4,5,54]) (hs:=[1,5]) (vs:=[]) (by subst e_x11;kernel_rfl),h⟩
       | false =>
        replace h := sp_f h
        refine T_draw' (id:=10) [] [0,0,0,0,0,0,0,0,0,0,0,0,0,0,0,0,0,0,0,0,0,0,0,0,0,0] (by kernel_rfl) (by kernel_rfl) (by kernel_rfl) (by kernel_rfl) [(29,.lf (.own 5 0)),(30,vi x11),(31,vb false),(32,vb true),(33,vb true),(34,.tup []),(35,.tup []),(36,.tup []),(37,.tup []),(38,.tup []),(39,.tup []),(40,.tup []),(41,.tup []),(42,.tup []),(43,.tup []),(44,.tup []),(45,.tup []),(46,.tup []),(47,.tup []),(48,vb true),(49,vb true),(50,.tup []),(51,.tup []),(52,.tup []),(53,.tup []),(54,vb true)] (by kernel_rfl) ⟨trivial,⟨trivial,⟨trivial,⟨trivial,⟨trivial,⟨(by intro y hy;cases hy),⟨(by intro y hy;cases hy),⟨(by intro y hy;cases hy),⟨(by intro y hy;cases hy),⟨(by intro y hy;cases hy),⟨(by intro y hy;cases hy),⟨(by intro y hy;cases hy),⟨(by intro y hy;cases hy),⟨(by intro y hy;cases hy),⟨(by intro y hy;cases hy),⟨(by intro y hy;cases hy),⟨(by intro y hy;cases hy),⟨(by intro y hy;cases hy),⟨(by intro y hy;cases hy),⟨trivial,⟨trivial,⟨(by intro y hy;cases hy),⟨(by intro y hy;cases hy),⟨(by intro y hy;cases hy),⟨(by intro y hy;cases hy),⟨trivial,trivial⟩⟩⟩⟩⟩⟩⟩⟩⟩⟩⟩⟩⟩⟩⟩⟩⟩⟩⟩⟩⟩⟩⟩⟩⟩⟩ ?_
        refine Stage_nil (stage_all' [0,1,3,4,5,6,7,8,9,10,11,12,13,14,15,16,17,18,19,20,21,22,23,24,25] [2] (by kernel_rfl) (by subst e_x11;kernel_rfl) (by kernel_rfl) ⟨QF_at (i:=2) (d:=31) (x:=vb false) (show OpAt _ _ _ 2 31 _ from by exact At_call (d:=31) (f:=50) (args:=[rval (vi x11),rval (vi (0 : Int)),rval (vi (1099511627776 : Int))]) (x:=vb false) (by subst e_x11;kernel_rfl) (w50 k  c_v12)) (by kernel_rfl) (by subst e_x11;kernel_rfl),trivial⟩) ?_
        refine thenQ_n ?_
        exact ⟨true,keep_sub (ts:=[1,3,4,5,54]) (hs:=[1,5]) (vs:=[]) (by subst e_x11;kernel_rfl),h⟩
      ·rintro s' ⟨b9,hsub,h⟩
       subst e_j10
       refine T_sub hsub ?_
       cases b9 with
       | true =>
        replace h := sp_t h
        refine T_condT (x:=(.tmp 54)) (c1:=(sub [1,1,1,1,0,1,0,0,1,0,0,1,0,1,0] Bd21)) (c2:=(sub [1,1,1,1,0,1,0,0,1,0,0,1,0,1,1] Bd21)) (by kernel_rfl) (by kernel_rfl) ?_
        refine T_keep (s':={ σ := [],H := [],V := [],M := M,ds := [] }) [] [] [] (by kernel_rfl) ?_
        refine T_sq (by kernel_rfl) ?_
        refine T_region (id:=11) (by kernel_rfl) ?_
        refine TI_segS (i:=0) (j:=1) [(2,vi (2 : Int))] (by kernel_rfl) (by kernel_rfl) ?_
        refine TI_end (by kernel_rfl) ?_
        refine thenQ_n ?_
        refine T_ret (by kernel_rfl) ?_
        refine thenQ_r ?_
        refine blockQ_r ?_
        refine thenQ_r ?_
        refine thenQ_r ?_
        refine blockQ_r ?_
        refine thenQ_r ?_
        refine thenQ_r ?_
        have h := Option.some.inj h
        subst h
        refine fin_ret (vi (2 : Int)) (by kernel_rfl) (by kernel_rfl) rfl ?_
        rfl
       | false =>
        replace h := sp_f h
        refine T_condF (x:=(.tmp 54)) (c1:=(sub [1,1,1,1,0,1,0,0,1,0,0,1,0,1,0] Bd21)) (c2:=(sub [1,1,1,1,0,1,0,0,1,0,0,1,0,1,1] Bd21)) (by kernel_rfl) (by kernel_rfl) ?_
        refine T_keep (s':={ σ := [(1,.lf (.own 1 0)),(3,vi (u0_0.length : Int)),(4,vi x4),(5,.lf (.own 5 0))],H := [(1,[.one (.v (.slice Au0_0 (u0_0.length) cu0_0)),.arr .i64 4 u0_1]),(5,[.arr .i64 11 L8])],V := [],M := M,ds := [] }) [1,3,4,5] [1,5] [] (by kernel_rfl) ?_
        refine T_skip (by kernel_rfl) ?_
        refine thenQ_n ?_
        refine T_sq (by kernel_rfl) ?_
        refine T_region (id:=12) (by kernel_rfl) ?_
        refine TI_segS (i:=0) (j:=1) [(1,.lf (.own 1 0)),(3,vi (u0_0.length : Int)),(4,vi x4),(5,.lf (.own 5 0)),(6,vi (0 : Int))] (by kernel_rfl) (by kernel_rfl) ?_
        refine TI_end (by kernel_rfl) ?_
        refine thenQ_n ?_
        obtain ⟨j21,e_j21,h⟩ := jn_some h
        refine T_bcut (id:=2) (c1:=(sub [1,1,1,1,0,1,0,0,1,0,0,1,1,1,0] Bd21)) (fun s' => Sub { σ := [(1,.lf (.own 1 0)),(3,vi (u0_0.length : Int)),(4,vi x4)],H := [(1,[.one (.v (.slice Au0_0 (u0_0.length) cu0_0)),.arr .i64 4 u0_1])],V := [],M := M,ds := [] } s' ∧ j21 = some r) (by kernel_rfl) ?_ ?_
        ·refine T_loop (c1:=(sub [1,1,1,1,0,1,0,0,1,0,0,1,1,1,0,0] Bd21)) (by kernel_rfl) (fun n23 s' => ∃ (x22 : Int),Sub { σ := [(1,.lf (.own 1 0)),(3,vi (u0_0.length : Int)),(4,vi x4),(5,.lf (.own 5 0)),(6,vi x22)],H := [(1,[.one (.v (.slice Au0_0 (u0_0.length) cu0_0)),.arr .i64 4 u0_1]),(5,[.arr .i64 11 L8])],V := [],M := M,ds := [] } s' ∧ p21_l2 k j21 L8 n23 x22 = some r) (k:=k) ⟨(0 : Int),keep_sub (ts:=[1,3,4,5,6]) (hs:=[1,5]) (vs:=[]) (by kernel_rfl),h⟩ ?_
         rintro n23 s' ⟨x22,hsub,h⟩
         cases n23 with
         | zero => rw [p21_l2] at h;cases h
         | succ n23 =>
          rw [p21_l2] at h
          refine T_sub hsub ?_
          refine T_sq (by kernel_rfl) ?_
          refine T_sq (by kernel_rfl) ?_
          refine T_region (id:=13) (by kernel_rfl) ?_
          obtain ⟨b24,e_b24,h⟩ := lt_some h
          refine TI_segK (i:=0) (j:=2) (s':={ σ := [(1,.lf (.own 1 0)),(3,vi (u0_0.length : Int)),(4,vi x4),(5,.lf (.own 5 0)),(6,vi x22),(56,vb b24)],H := [(1,[.one (.v (.slice Au0_0 (u0_0.length) cu0_0)),.arr .i64 4 u0_1]),(5,[.arr .i64 11 L8])],V := [],M := M,ds := [] }) [1,3,4,5,6,56] [1,5] [] (by subst e_b24;kernel_rfl) (by kernel_rfl) ?_
          refine TI_end (by kernel_rfl) ?_
          refine thenQ_n ?_
          cases b24 with
          | true =>
           replace h := sp_t h
           refine T_condT (x:=(.tmp 56)) (c1:=(sub [1,1,1,1,0,1,0,0,1,0,0,1,1,1,0,0,0,1,0] Bd21)) (c2:=(sub [1,1,1,1,0,1,0,0,1,0,0,1,1,1,0,0,0,1,1] Bd21)) (by kernel_rfl) (by kernel_rfl) ?_
           refine T_keepS [(1,.lf (.own 1 0)),(3,vi (u0_0.length : Int)),(4,vi x4),(5,.lf (.own 5 0)),(6,vi x22)] (by kernel_rfl) ?_
           refine T_skip (by kernel_rfl) ?_
           refine thenQ_n ?_
           refine T_sq (by kernel_rfl) ?_
           refine T_block (id:=3) (c1:=(sub [1,1,1,1,0,1,0,0,1,0,0,1,1,1,0,0,1,0,0] Bd21)) (by kernel_rfl) ?_
           refine T_sq (by kernel_rfl) ?_
           refine T_region (id:=15) (by kernel_rfl) ?_
           refine TI_segS (i:=0) (j:=2) [(1,.lf (.own 1 0)),(3,vi (u0_0.length : Int)),(4,vi x4),(5,.lf (.own 5 0)),(6,vi x22),(59,vi x22),(60,.lf (.own 5 3))] (by kernel_rfl) (by kernel_rfl) ?_
           obtain ⟨g25,h⟩ := gd_some h
           refine TI_at (i:=2) (d:=61) (x:=.lf (.oel 5 (3 + (x22).toNat * 2))) (by exact At_idxO (d:=61) (z:=x22) (b:=5) (off:=3) (sz:=2) (n:=4) (by kernel_rfl) g25) (by kernel_rfl) trivial ?_
           obtain ⟨L26,e_L26,h⟩ := lt_some h
           have l_L26 : (L26).length = 2 := by rw [e_L26]; exact len_dt l_L8 (by omega)
           refine TI_at (i:=3) (d:=62) (x:=.agg [.arr .i64 2 L26]) (by rw [e_L26]; exact At_ldO (d:=62) (b:=5) (off:=3 + (x22).toNat * 2) (base:=0) (q:=3 + (x22).toNat * 2) (n:=11) (k:=.i64) (L:=L8) (by subst e_L26; kernel_rfl) (by subst e_L26; kernel_rfl) (by omega) (by omega)) (by kernel_rfl) ⟨l_L26,trivial⟩ ?_
           obtain ⟨v27,c_v27,h⟩ := cl_some h
           refine TI_at (i:=4) (d:=63) (x:=vb v27) (At_call (d:=63) (f:=52) (args:=[rval (.agg [.arr .i64 2 L26])]) (x:=vb v27) (by kernel_rfl) (w52 k l_L26 c_v27)) (by kernel_rfl) trivial ?_
           refine TI_segK (i:=5) (j:=6) (s':={ σ := [(1,.lf (.own 1 0)),(3,vi (u0_0.length : Int)),(4,vi x4),(5,.lf (.own 5 0)),(6,vi x22),(64,vb (!v27))],H := [(1,[.one (.v (.slice Au0_0 (u0_0.length) cu0_0)),.arr .i64 4 u0_1]),(5,[.arr .i64 11 L8])],V := [],M := M,ds := [] }) [1,3,4,5,6,64] [1,5] [] (by kernel_rfl) (by kernel_rfl) ?_
           refine TI_end (by kernel_rfl) ?_
           refine thenQ_n ?_
           cases v27 with
           | true =>
            replace h := sp_t h
            refine T_condF (x:=(.tmp 64)) (c1:=(sub [1,1,1,1,0,1,0,0,1,0,0,1,1,1,0,0,1,0,0,1,0] Bd21)) (c2:=(sub [1,1,1,1,0,1,0,0,1,0,0,1,1,1,0,0,1,0,0,1,1] Bd21)) (by kernel_rfl) (by kernel_rfl) ?_
            refine T_keepS [(1,.lf (.own 1 0)),(3,vi (u0_0.length : Int)),(4,vi x4),(5,.lf (.own 5 0)),(6,vi x22)] (by kernel_rfl) ?_
            refine T_skip (by kernel_rfl) ?_
            refine blockQ_n ?_
            refine thenQ_n ?_
            refine T_region (id:=14) (by kernel_rfl) ?_
            obtain ⟨x28,e_x28,h⟩ := lt_some h
            refine TI_segS (i:=0) (j:=3) [(1,.lf (.own 1 0)),(3,vi (u0_0.length : Int)),(4,vi x4),(5,.lf (.own 5 0)),(6,vi x28)] (by subst e_x28;kernel_rfl) (by kernel_rfl) ?_
            refine TI_end (by kernel_rfl) ?_
            refine thenQ_n ?_
            exact ⟨n23,Nat.lt_succ_self _,x28,keep_sub (ts:=[1,3,4,5,6]) (hs:=[1,5]) (vs:=[]) (by kernel_rfl),h⟩
           | false =>
            replace h := sp_f h
            refine T_condT (x:=(.tmp 64)) (c1:=(sub [1,1,1,1,0,1,0,0,1,0,0,1,1,1,0,0,1,0,0,1,0] Bd21)) (c2:=(sub [1,1,1,1,0,1,0,0,1,0,0,1,1,1,0,0,1,0,0,1,1] Bd21)) (by kernel_rfl) (by kernel_rfl) ?_
            refine T_keep (s':={ σ := [],H := [],V := [],M := M,ds := [] }) [] [] [] (by kernel_rfl) ?_
            refine T_sq (by kernel_rfl) ?_
            refine T_region (id:=16) (by kernel_rfl) ?_
            refine TI_segS (i:=0) (j:=1) [(2,vi (2 : Int))] (by kernel_rfl) (by kernel_rfl) ?_
            refine TI_end (by kernel_rfl) ?_
            refine thenQ_n ?_
            refine T_ret (by kernel_rfl) ?_
            refine blockQ_r ?_
            refine thenQ_r ?_
            refine thenQ_r ?_
            refine blockQ_r ?_
            refine thenQ_r ?_
            refine blockQ_r ?_
            refine thenQ_r ?_
            refine thenQ_r ?_
            refine blockQ_r ?_
            refine thenQ_r ?_
            refine thenQ_r ?_
            have h := Option.some.inj h
            subst h
            refine fin_ret (vi (2 : Int)) (by kernel_rfl) (by kernel_rfl) rfl ?_
            rfl
          | false =>
           replace h := sp_f h
           refine T_condF (x:=(.tmp 56)) (c1:=(sub [1,1,1,1,0,1,0,0,1,0,0,1,1,1,0,0,0,1,0] Bd21)) (c2:=(sub [1,1,1,1,0,1,0,0,1,0,0,1,1,1,0,0,0,1,1] Bd21)) (by kernel_rfl) (by kernel_rfl) ?_
           refine T_keep (s':={ σ := [(1,.lf (.own 1 0)),(3,vi (u0_0.length : Int)),(4,vi x4)],H := [(1,[.one (.v (.slice Au0_0 (u0_0.length) cu0_0)),.arr .i64 4 u0_1])],V := [],M := M,ds := [] }) [1,3,4] [1] [] (by kernel_rfl) ?_
           refine T_exit (id:=2) (by kernel_rfl) ?_
           refine thenQ_x ?_
           refine thenQ_x ?_
           refine blockQ_x ?_
           refine thenQ_n ?_
           exact ⟨keep_sub (ts:=[1,3,4]) (hs:=[1]) (vs:=[]) (by kernel_rfl),h⟩
        ·rintro s' ⟨hsub,h⟩
         subst e_j21
         refine blockQ_n ?_
         refine thenQ_n ?_
         refine T_sub hsub ?_
         refine T_region (id:=8) (by kernel_rfl) ?_
         obtain ⟨x29,e_x29,h⟩ := lt_some h
         refine TI_segK (i:=0) (j:=3) (s':={ σ := [(1,.lf (.own 1 0)),(3,vi (u0_0.length : Int)),(4,vi x29)],H := [(1,[.one (.v (.slice Au0_0 (u0_0.length) cu0_0)),.arr .i64 4 u0_1])],V := [],M := M,ds := [] }) [1,3,4] [1] [] (by subst e_x29;kernel_rfl) (by kernel_rfl) ?_
         refine TI_end (by kernel_rfl) ?_
         refine thenQ_n ?_
         exact ⟨n5,Nat.lt_succ_self _,x29,keep_sub (ts:=[1,3,4]) (hs:=[1]) (vs:=[]) (by kernel_rfl),h⟩
     | false =>
      replace h := sp_f h
      refine T_condF (x:=(.tmp 21)) (c1:=(sub [1,1,1,1,0,1,0,0,0,1,0] Bd21)) (c2:=(sub [1,1,1,1,0,1,0,0,0,1,1] Bd21)) (by kernel_rfl) (by kernel_rfl) ?_
      refine T_keepS [(1,.lf (.own 1 0)),(3,vi (u0_0.length : Int))] (by kernel_rfl) ?_
      refine T_exit (id:=0) (by kernel_rfl) ?_
      refine thenQ_x ?_
      refine thenQ_x ?_
      refine blockQ_x ?_
      refine thenQ_n ?_
      exact ⟨keep_sub (ts:=[1,3]) (hs:=[1]) (vs:=[]) (by kernel_rfl),h⟩
   ·rintro s' ⟨hsub,h⟩
    subst e_j3
    refine thenQ_n ?_
    refine T_sub hsub ?_
    refine T_sq (by kernel_rfl) ?_
    refine T_sq (by kernel_rfl) ?_
    obtain ⟨x30,e_x30,h⟩ := lt_some h
    obtain ⟨g31,h⟩ := gd_some h
    obtain ⟨x32,e_x32,h⟩ := lt_some h
    obtain ⟨g33,h⟩ := gd_some h
    obtain ⟨x34,e_x34,h⟩ := lt_some h
    obtain ⟨x35,e_x35,h⟩ := lt_some h
    obtain ⟨b36,e_b36,h⟩ := lt_some h
    refine T_draw' (id:=17) [] [0,0,0,0,0,0,0,0,0,0,0,0,0,0] (by kernel_rfl) (by kernel_rfl) (by kernel_rfl) (by kernel_rfl) [(65,.lf (.own 1 0)),(66,.lf (.v (.slice Au0_0 (u0_0.length) cu0_0))),(67,vi (u0_0.length : Int)),(68,vi x30),(69,.lf (.ep (.slice Au0_0 (u0_0.length) cu0_0) 11 ((x30).toNat) 0)),(70,.lf (.ep (.slice Au0_0 (u0_0.length) cu0_0) 11 ((x30).toNat) 0)),(71,vi x32),(72,.lf (.own 1 0)),(73,.lf (.v (.slice Au0_0 (u0_0.length) cu0_0))),(74,.lf (.ep (.slice Au0_0 (u0_0.length) cu0_0) 11 0 0)),(75,.lf (.ep (.slice Au0_0 (u0_0.length) cu0_0) 11 0 0)),(76,vi x34),(77,vi x35),(78,vb b36)] (by kernel_rfl) (wfs_lf _ (by kernel_rfl)) ?_
    refine Stage_nil (stage_all' [0,1,2,3,5,7,8,10,12,13] [4,6,9,11] (by kernel_rfl) (by subst_vars; kernel_rfl) (by kernel_rfl) ⟨QF_at (i:=4) (d:=69) (x:=.lf (.ep (.slice Au0_0 (u0_0.length) cu0_0) 11 ((x30).toNat) 0)) (show OpAt _ _ _ 4 69 _ from by exact At_idxR (d:=69) (z:=x30) (by subst_vars; kernel_rfl) g31 hu0_0) (by kernel_rfl) (by subst_vars; kernel_rfl),⟨QF_at (i:=6) (d:=71) (x:=vi x32) (show OpAt _ _ _ 6 71 _ from by rw [e_x32]; exact At_ldR1 (d:=71) (q:=(x30).toNat) (j:=0) (by subst_vars; kernel_rfl) rfl (toNat_lt g31) hu0_0) (by kernel_rfl) (by subst_vars; kernel_rfl),⟨QF_at (i:=9) (d:=74) (x:=.lf (.ep (.slice Au0_0 (u0_0.length) cu0_0) 11 0 0)) (show OpAt _ _ _ 9 74 _ from by exact At_idxR (d:=74) (z:=(0 : Int)) (by subst_vars; kernel_rfl) g33 hu0_0) (by kernel_rfl) (by subst_vars; kernel_rfl),⟨QF_at (i:=11) (d:=76) (x:=vi x34) (show OpAt _ _ _ 11 76 _ from by rw [e_x34]; exact At_ldR1 (d:=76) (q:=0) (j:=0) (by subst_vars; kernel_rfl) rfl (toNat_lt g33) hu0_0) (by kernel_rfl) (by subst_vars; kernel_rfl),trivial⟩⟩⟩⟩) ?_
    refine thenQ_n ?_
    refine T_keep (s':={ σ := [(1,.lf (.own 1 0)),(78,vb b36)],H := [(1,[.one (.v (.slice Au0_0 (u0_0.length) cu0_0)),.arr .i64 4 u0_1])],V := [],M := M,ds := [] }) [1,78] [1] [] (by subst_vars;kernel_rfl) ?_
    cases b36 with
    | true =>
     replace h := sp_t h
     refine T_condT (x:=(.tmp 78)) (c1:=(sub [1,1,1,1,1,0,1,0] Bd21)) (c2:=(sub [1,1,1,1,1,0,1,1] Bd21)) (by kernel_rfl) (by kernel_rfl) ?_
     refine T_keep (s':={ σ := [],H := [],V := [],M := M,ds := [] }) [] [] [] (by kernel_rfl) ?_
     refine T_sq (by kernel_rfl) ?_
     refine T_region (id:=18) (by kernel_rfl) ?_
     refine TI_segS (i:=0) (j:=1) [(2,vi (2 : Int))] (by kernel_rfl) (by kernel_rfl) ?_
     refine TI_end (by kernel_rfl) ?_
     refine thenQ_n ?_
     refine T_ret (by kernel_rfl) ?_
     refine thenQ_r ?_
     have h := Option.some.inj h
     subst h
     refine fin_ret (vi (2 : Int)) (by kernel_rfl) (by kernel_rfl) rfl ?_
     rfl
    | false =>
     replace h := sp_f h
     refine T_condF (x:=(.tmp 78)) (c1:=(sub [1,1,1,1,1,0,1,0] Bd21)) (c2:=(sub [1,1,1,1,1,0,1,1] Bd21)) (by kernel_rfl) (by kernel_rfl) ?_
     refine T_keepS [(1,.lf (.own 1 0))] (by kernel_rfl) ?_
     refine T_skip (by kernel_rfl) ?_
     refine thenQ_n ?_
     refine T_sq (by kernel_rfl) ?_
     refine T_sq (by kernel_rfl) ?_
     refine T_region (id:=19) (by kernel_rfl) ?_
     refine TI_segS (i:=0) (j:=1) [(1,.lf (.own 1 0)),(7,vi (0 : Int))] (by kernel_rfl) (by kernel_rfl) ?_
     refine TI_end (by kernel_rfl) ?_
     refine thenQ_n ?_
     obtain ⟨j37,e_j37,h⟩ := jn_some h
     refine T_bcut (id:=4) (c1:=(sub [1,1,1,1,1,1,0,1,0] Bd21)) (fun s' => Sub { σ := [(1,.lf (.own 1 0))],H := [(1,[.one (.v (.slice Au0_0 (u0_0.length) cu0_0)),.arr .i64 4 u0_1])],V := [],M := M,ds := [] } s' ∧ j37 = some r) (by kernel_rfl) ?_ ?_
     ·refine T_loop (c1:=(sub [1,1,1,1,1,1,0,1,0,0] Bd21)) (by kernel_rfl) (fun n39 s' => ∃ (x38 : Int),Sub { σ := [(1,.lf (.own 1 0)),(7,vi x38)],H := [(1,[.one (.v (.slice Au0_0 (u0_0.length) cu0_0)),.arr .i64 4 u0_1])],V := [],M := M,ds := [] } s' ∧ p21_l3 k u0_1 j37 n39 x38 = some r) (k:=k) ⟨(0 : Int),keep_sub (ts:=[1,7]) (hs:=[1]) (vs:=[]) (by kernel_rfl),h⟩ ?_
      rintro n39 s' ⟨x38,hsub,h⟩
      cases n39 with
      | zero => rw [p21_l3] at h;cases h
      | succ n39 =>
       rw [p21_l3] at h
       refine T_sub hsub ?_
       refine T_sq (by kernel_rfl) ?_
       refine T_sq (by kernel_rfl) ?_
       refine T_region (id:=20) (by kernel_rfl) ?_
       obtain ⟨b40,e_b40,h⟩ := lt_some h
       refine TI_segK (i:=0) (j:=2) (s':={ σ := [(1,.lf (.own 1 0)),(7,vi x38),(80,vb b40)],H := [(1,[.one (.v (.slice Au0_0 (u0_0.length) cu0_0)),.arr .i64 4 u0_1])],V := [],M := M,ds := [] }) [1,7,80] [1] [] (by subst e_b40;kernel_rfl) (by kernel_rfl) ?_
       refine TI_end (by kernel_rfl) ?_
       refine thenQ_n ?_
       cases b40 with
       | true =>
        replace h := sp_t h
        refine T_condT (x:=(.tmp 80)) (c1:=(sub [1,1,1,1,1,1,0,1,0,0,0,1,0] Bd21)) (c2:=(sub [1,1,1,1,1,1,0,1,0,0,0,1,1] Bd21)) (by kernel_rfl) (by kernel_rfl) ?_
        refine T_keepS [(1,.lf (.own 1 0)),(7,vi x38)] (by kernel_rfl) ?_
        refine T_skip (by kernel_rfl) ?_
        refine thenQ_n ?_
        refine T_sq (by kernel_rfl) ?_
        refine T_block (id:=5) (c1:=(sub [1,1,1,1,1,1,0,1,0,0,1,0,0] Bd21)) (by kernel_rfl) ?_
        refine T_sq (by kernel_rfl) ?_
        refine T_region (id:=22) (by kernel_rfl) ?_
        refine TI_segS (i:=0) (j:=2) [(1,.lf (.own 1 0)),(7,vi x38),(83,vi x38),(84,.lf (.own 1 1))] (by kernel_rfl) (by kernel_rfl) ?_
        obtain ⟨g41,h⟩ := gd_some h
        refine TI_at (i:=2) (d:=85) (x:=.lf (.oel 1 (1 + (x38).toNat * 1))) (by exact At_idxO (d:=85) (z:=x38) (b:=1) (off:=1) (sz:=1) (n:=4) (by kernel_rfl) g41) (by kernel_rfl) trivial ?_
        obtain ⟨x42,e_x42,h⟩ := lt_some h
        refine TI_at (i:=3) (d:=86) (x:=vi x42) (by rw [e_x42]; exact At_ldO1 (d:=86) (b:=1) (off:=1 + (x38).toNat * 1) (base:=1) (q:=0 + (x38).toNat * 1) (n:=4) (k:=.i64) (L:=u0_1) (by subst e_x42; kernel_rfl) (by subst e_x42; kernel_rfl) (by omega) (by omega)) (by kernel_rfl) trivial ?_
        obtain ⟨v43,c_v43,h⟩ := cl_some h
        refine TI_at (i:=4) (d:=87) (x:=vb v43) (At_call (d:=87) (f:=50) (args:=[rval (vi x42),rval (vi (0 : Int)),rval (vi (1048576 : Int))]) (x:=vb v43) (by kernel_rfl) (w50 k  c_v43)) (by kernel_rfl) trivial ?_
        refine TI_segK (i:=5) (j:=6) (s':={ σ := [(1,.lf (.own 1 0)),(7,vi x38),(88,vb (!v43))],H := [(1,[.one (.v (.slice Au0_0 (u0_0.length) cu0_0)),.arr .i64 4 u0_1])],V := [],M := M,ds := [] }) [1,7,88] [1] [] (by kernel_rfl) (by kernel_rfl) ?_
        refine TI_end (by kernel_rfl) ?_
        refine thenQ_n ?_
        cases v43 with
        | true =>
         replace h := sp_t h
         refine T_condF (x:=(.tmp 88)) (c1:=(sub [1,1,1,1,1,1,0,1,0,0,1,0,0,1,0] Bd21)) (c2:=(sub [1,1,1,1,1,1,0,1,0,0,1,0,0,1,1] Bd21)) (by kernel_rfl) (by kernel_rfl) ?_
         refine T_keepS [(1,.lf (.own 1 0)),(7,vi x38)] (by kernel_rfl) ?_
         refine T_skip (by kernel_rfl) ?_
         refine blockQ_n ?_
         refine thenQ_n ?_
         refine T_region (id:=21) (by kernel_rfl) ?_
         obtain ⟨x44,e_x44,h⟩ := lt_some h
         refine TI_segS (i:=0) (j:=3) [(1,.lf (.own 1 0)),(7,vi x44)] (by subst e_x44;kernel_rfl) (by kernel_rfl) ?_
         refine TI_end (by kernel_rfl) ?_
         refine thenQ_n ?_
         exact ⟨n39,Nat.lt_succ_self _,x44,keep_sub (ts:=[1,7]) (hs:=[1]) (vs:=[]) (by kernel_rfl),h⟩
        | false =>
         replace h := sp_f h
         refine T_condT (x:=(.tmp 88)) (c1:=(sub [1,1,1,1,1,1,0,1,0,0,1,0,0,1,0] Bd21)) (c2:=(sub [1,1,1,1,1,1,0,1,0,0,1,0,0,1,1] Bd21)) (by kernel_rfl) (by kernel_rfl) ?_
         refine T_keep (s':={ σ := [],H := [],V := [],M := M,ds := [] }) [] [] [] (by kernel_rfl) ?_
         refine T_sq (by kernel_rfl) ?_
         refine T_region (id:=23) (by kernel_rfl) ?_
         refine TI_segS (i:=0) (j:=1) [(2,vi (2 : Int))] (by kernel_rfl) (by kernel_rfl) ?_
         refine TI_end (by kernel_rfl) ?_
         refine thenQ_n ?_
         refine T_ret (by kernel_rfl) ?_
         refine blockQ_r ?_
         refine thenQ_r ?_
         refine thenQ_r ?_
         refine blockQ_r ?_
         refine thenQ_r ?_
         refine thenQ_r ?_
         have h := Option.some.inj h
         subst h
         refine fin_ret (vi (2 : Int)) (by kernel_rfl) (by kernel_rfl) rfl ?_
         rfl
       | false =>
        replace h := sp_f h
        refine T_condF (x:=(.tmp 80)) (c1:=(sub [1,1,1,1,1,1,0,1,0,0,0,1,0] Bd21)) (c2:=(sub [1,1,1,1,1,1,0,1,0,0,0,1,1] Bd21)) (by kernel_rfl) (by kernel_rfl) ?_
        refine T_keepS [(1,.lf (.own 1 0))] (by kernel_rfl) ?_
        refine T_exit (id:=4) (by kernel_rfl) ?_
        refine thenQ_x ?_
        refine thenQ_x ?_
        refine blockQ_x ?_
        refine thenQ_n ?_
        exact ⟨keep_sub (ts:=[1]) (hs:=[1]) (vs:=[]) (by kernel_rfl),h⟩
     ·rintro s' ⟨hsub,h⟩
      subst e_j37
      refine thenQ_n ?_
      refine T_sub hsub ?_
      refine T_sq (by kernel_rfl) ?_
      refine T_sq (by kernel_rfl) ?_
      refine T_region (id:=24) (by kernel_rfl) ?_
      refine TI_segK (i:=0) (j:=1) (s':={ σ := [(1,.lf (.own 1 0)),(8,vi (0 : Int))],H := [(1,[.one (.v (.slice Au0_0 (u0_0.length) cu0_0)),.arr .i64 4 u0_1])],V := [],M := M,ds := [] }) [1,8] [1] [] (by kernel_rfl) (by kernel_rfl) ?_
      refine TI_end (by kernel_rfl) ?_
      refine thenQ_n ?_
      obtain ⟨j45,e_j45,h⟩ := jn_some h
      refine T_bcut (id:=6) (c1:=(sub [1,1,1,1,1,1,1,0,1,0] Bd21)) (fun s' => Sub { σ := [],H := [],V := [],M := M,ds := [] } s' ∧ j45 = some r) (by kernel_rfl) ?_ ?_
      ·refine T_loop (c1:=(sub [1,1,1,1,1,1,1,0,1,0,0] Bd21)) (by kernel_rfl) (fun n47 s' => ∃ (x46 : Int),Sub { σ := [(1,.lf (.own 1 0)),(8,vi x46)],H := [(1,[.one (.v (.slice Au0_0 (u0_0.length) cu0_0)),.arr .i64 4 u0_1])],V := [],M := M,ds := [] } s' ∧ p21_l4 k u0_0 u0_1 j45 n47 x46 = some r) (k:=k) ⟨(0 : Int),keep_sub (ts:=[1,8]) (hs:=[1]) (vs:=[]) (by kernel_rfl),h⟩ ?_
       rintro n47 s' ⟨x46,hsub,h⟩
       cases n47 with
       | zero => rw [p21_l4] at h;cases h
       | succ n47 =>
        rw [p21_l4] at h
        refine T_sub hsub ?_
        refine T_sq (by kernel_rfl) ?_
        refine T_sq (by kernel_rfl) ?_
        refine T_region (id:=25) (by kernel_rfl) ?_
        refine TI_segK (i:=0) (j:=2) (s':={ σ := [(1,.lf (.own 1 0)),(8,vi x46),(89,vi x46),(90,.agg [.one (.v (.slice Au0_0 (u0_0.length) cu0_0)),.arr .i64 4 u0_1])],H := [(1,[.one (.v (.slice Au0_0 (u0_0.length) cu0_0)),.arr .i64 4 u0_1])],V := [],M := M,ds := [] }) [1,8,89,90] [1] [] (by kernel_rfl) (by kernel_rfl) ?_
        obtain ⟨v48,c_v48,h⟩ := cl_some h
        refine TI_at (i:=2) (d:=91) (x:=vi v48) (At_call (d:=91) (f:=53) (args:=[rval (.agg [.one (.v (.slice Au0_0 (u0_0.length) cu0_0)),.arr .i64 4 u0_1])]) (x:=vi v48) (by kernel_rfl) (w53 k hu0_0 hu0_1 c_v48)) (by kernel_rfl) trivial ?_
        obtain ⟨b49,e_b49,h⟩ := lt_some h
        refine TI_segK (i:=3) (j:=4) (s':={ σ := [(1,.lf (.own 1 0)),(8,vi x46),(92,vb b49)],H := [(1,[.one (.v (.slice Au0_0 (u0_0.length) cu0_0)),.arr .i64 4 u0_1])],V := [],M := M,ds := [] }) [1,8,92] [1] [] (by subst e_b49;kernel_rfl) (by kernel_rfl) ?_
        refine TI_end (by kernel_rfl) ?_
        refine thenQ_n ?_
        cases b49 with
        | true =>
         replace h := sp_t h
         refine T_condT (x:=(.tmp 92)) (c1:=(sub [1,1,1,1,1,1,1,0,1,0,0,0,1,0] Bd21)) (c2:=(sub [1,1,1,1,1,1,1,0,1,0,0,0,1,1] Bd21)) (by kernel_rfl) (by kernel_rfl) ?_
         refine T_keepS [(1,.lf (.own 1 0)),(8,vi x46)] (by kernel_rfl) ?_
         refine T_skip (by kernel_rfl) ?_
         refine thenQ_n ?_
         refine T_sq (by kernel_rfl) ?_
         refine T_block (id:=7) (c1:=(sub [1,1,1,1,1,1,1,0,1,0,0,1,0,0] Bd21)) (by kernel_rfl) ?_
         refine T_sq (by kernel_rfl) ?_
         refine T_region (id:=27) (by kernel_rfl) ?_
         refine TI_segS (i:=0) (j:=2) [(1,.lf (.own 1 0)),(8,vi x46),(95,.agg [.one (.v (.slice Au0_0 (u0_0.length) cu0_0)),.arr .i64 4 u0_1]),(96,vi x46)] (by kernel_rfl) (by kernel_rfl) ?_
         obtain ⟨v50,c_v50,h⟩ := cl_some h
         obtain ⟨g51,h⟩ := gd_some h
         refine TI_at (i:=2) (d:=97) (x:=.agg [.arr .i64 2 v50]) (At_call (d:=97) (f:=16) (args:=[rval (.agg [.one (.v (.slice Au0_0 (u0_0.length) cu0_0)),.arr .i64 4 u0_1]),rval (vi x46)]) (x:=.agg [.arr .i64 2 v50]) (by kernel_rfl) (w16 k hu0_0 hu0_1 c_v50)) (by kernel_rfl) ⟨g51,trivial⟩ ?_
         refine TI_segK (i:=3) (j:=5) (s':={ σ := [(1,.lf (.own 1 0)),(8,vi x46),(9,.lf (.own 9 0))],H := [(1,[.one (.v (.slice Au0_0 (u0_0.length) cu0_0)),.arr .i64 4 u0_1]),(9,[.arr .i64 2 v50])],V := [],M := M,ds := [] }) [1,8,9] [1,9] [] (by kernel_rfl) (by kernel_rfl) ?_
         refine TI_end (by kernel_rfl) ?_
         refine thenQ_n ?_
         refine T_sq (by kernel_rfl) ?_
         refine T_sq (by kernel_rfl) ?_
         refine T_region (id:=28) (by kernel_rfl) ?_
         obtain ⟨x52,e_x52,h⟩ := lt_some h
         obtain ⟨x53,e_x53,h⟩ := lt_some h
         obtain ⟨b54,e_b54,h⟩ := lt_some h
         refine TI_segK (i:=0) (j:=5) (s':={ σ := [(1,.lf (.own 1 0)),(8,vi x46),(102,vb b54)],H := [(1,[.one (.v (.slice Au0_0 (u0_0.length) cu0_0)),.arr .i64 4 u0_1])],V := [],M := M,ds := [] }) [1,8,102] [1] [] (by subst_vars;kernel_rfl) (by kernel_rfl) ?_
         refine TI_end (by kernel_rfl) ?_
         refine thenQ_n ?_
         cases b54 with
         | true =>
          replace h := sp_t h
          refine T_condT (x:=(.tmp 102)) (c1:=(sub [1,1,1,1,1,1,1,0,1,0,0,1,0,0,1,0,1,0] Bd21)) (c2:=(sub [1,1,1,1,1,1,1,0,1,0,0,1,0,0,1,0,1,1] Bd21)) (by kernel_rfl) (by kernel_rfl) ?_
          refine T_keep (s':={ σ := [],H := [],V := [],M := M,ds := [] }) [] [] [] (by kernel_rfl) ?_
          refine T_sq (by kernel_rfl) ?_
          refine T_region (id:=29) (by kernel_rfl) ?_
          refine TI_segS (i:=0) (j:=1) [(2,vi (16 : Int))] (by kernel_rfl) (by kernel_rfl) ?_
          refine TI_end (by kernel_rfl) ?_
          refine thenQ_n ?_
          refine T_ret (by kernel_rfl) ?_
          refine thenQ_r ?_
          refine blockQ_r ?_
          refine thenQ_r ?_
          refine thenQ_r ?_
          refine blockQ_r ?_
          refine thenQ_r ?_
          refine thenQ_r ?_
          have h := Option.some.inj h
          subst h
          refine fin_ret (vi (16 : Int)) (by kernel_rfl) (by kernel_rfl) rfl ?_
          rfl
         | false =>
          replace h := sp_f h
          refine T_condF (x:=(.tmp 102)) (c1:=(sub [1,1,1,1,1,1,1,0,1,0,0,1,0,0,1,0,1,0] Bd21)) (c2:=(sub [1,1,1,1,1,1,1,0,1,0,0,1,0,0,1,0,1,1] Bd21)) (by kernel_rfl) (by kernel_rfl) ?_
          refine T_keepS [(1,.lf (.own 1 0)),(8,vi x46)] (by kernel_rfl) ?_
          refine T_skip (by kernel_rfl) ?_
          refine thenQ_n ?_
          refine T_sq (by kernel_rfl) ?_
          refine T_region (id:=30) (by kernel_rfl) ?_
          refine TI_segS (i:=0) (j:=1) [(1,.lf (.own 1 0)),(8,vi x46),(10,vi (0 : Int))] (by kernel_rfl) (by kernel_rfl) ?_
          refine TI_end (by kernel_rfl) ?_
          refine thenQ_n ?_
          obtain ⟨j55,e_j55,h⟩ := jn_some h
          refine T_bcut (id:=8) (c1:=(sub [1,1,1,1,1,1,1,0,1,0,0,1,0,0,1,1,1,0] Bd21)) (fun s' => Sub { σ := [(1,.lf (.own 1 0)),(8,vi x46)],H := [(1,[.one (.v (.slice Au0_0 (u0_0.length) cu0_0)),.arr .i64 4 u0_1])],V := [],M := M,ds := [] } s' ∧ j55 = some r) (by kernel_rfl) ?_ ?_
          ·refine T_loop (c1:=(sub [1,1,1,1,1,1,1,0,1,0,0,1,0,0,1,1,1,0,0] Bd21)) (by kernel_rfl) (fun n57 s' => ∃ (x56 : Int),Sub { σ := [(1,.lf (.own 1 0)),(8,vi x46),(10,vi x56)],H := [(1,[.one (.v (.slice Au0_0 (u0_0.length) cu0_0)),.arr .i64 4 u0_1])],V := [],M := M,ds := [] } s' ∧ p21_l5 k u0_0 u0_1 x46 j55 n57 x56 = some r) (k:=k) ⟨(0 : Int),keep_sub (ts:=[1,8,10]) (hs:=[1]) (vs:=[]) (by kernel_rfl),h⟩ ?_
           rintro n57 s' ⟨x56,hsub,h⟩
           cases n57 with
           | zero => rw [p21_l5] at h;cases h
           | succ n57 =>
            rw [p21_l5] at h
            refine T_sub hsub ?_
            refine T_sq (by kernel_rfl) ?_
            refine T_sq (by kernel_rfl) ?_
            refine T_region (id:=31) (by kernel_rfl) ?_
            obtain ⟨b58,e_b58,h⟩ := lt_some h
            refine TI_segK (i:=0) (j:=2) (s':={ σ := [(1,.lf (.own 1 0)),(8,vi x46),(10,vi x56),(104,vb b58)],H := [(1,[.one (.v (.slice Au0_0 (u0_0.length) cu0_0)),.arr .i64 4 u0_1])],V := [],M := M,ds := [] }) [1,8,10,104] [1] [] (by subst e_b58;kernel_rfl) (by kernel_rfl) ?_
            refine TI_end (by kernel_rfl) ?_
            refine thenQ_n ?_
            cases b58 with
            | true =>
             replace h := sp_t h
             refine T_condT (x:=(.tmp 104)) (c1:=(sub [1,1,1,1,1,1,1,0,1,0,0,1,0,0,1,1,1,0,0,0,1,0] Bd21)) (c2:=(sub [1,1,1,1,1,1,1,0,1,0,0,1,0,0,1,1,1,0,0,0,1,1] Bd21)) (by kernel_rfl) (by kernel_rfl) ?_
             refine T_keepS [(1,.lf (.own 1 0)),(8,vi x46),(10,vi x56)] (by kernel_rfl) ?_
             refine T_skip (by kernel_rfl) ?_
             refine thenQ_n ?_
             refine T_sq (by kernel_rfl) ?_
             refine T_block (id:=9) (c1:=(sub [1,1,1,1,1,1,1,0,1,0,0,1,0,0,1,1,1,0,0,1,0,0] Bd21)) (by kernel_rfl) ?_
             refine T_sq (by kernel_rfl) ?_
             refine T_region (id:=33) (by kernel_rfl) ?_
             refine TI_segS (i:=0) (j:=3) [(1,.lf (.own 1 0)),(8,vi x46),(10,vi x56),(107,.agg [.one (.v (.slice Au0_0 (u0_0.length) cu0_0)),.arr .i64 4 u0_1]),(108,vi x46),(109,vi x56)] (by kernel_rfl) (by kernel_rfl) ?_
             obtain ⟨v59,c_v59,h⟩ := cl_some h
             obtain ⟨g60,h⟩ := gd_some h
             refine TI_at (i:=3) (d:=110) (x:=.agg [.arr .i64 2 v59]) (At_call (d:=110) (f:=17) (args:=[rval (.agg [.one (.v (.slice Au0_0 (u0_0.length) cu0_0)),.arr .i64 4 u0_1]),rval (vi x46),rval (vi x56)]) (x:=.agg [.arr .i64 2 v59]) (by kernel_rfl) (w17 k hu0_0 hu0_1 c_v59)) (by kernel_rfl) ⟨g60,trivial⟩ ?_
             refine TI_segK (i:=4) (j:=6) (s':={ σ := [(1,.lf (.own 1 0)),(8,vi x46),(10,vi x56),(11,.lf (.own 11 0))],H := [(1,[.one (.v (.slice Au0_0 (u0_0.length) cu0_0)),.arr .i64 4 u0_1]),(11,[.arr .i64 2 v59])],V := [],M := M,ds := [] }) [1,8,10,11] [1,11] [] (by kernel_rfl) (by kernel_rfl) ?_
             refine TI_end (by kernel_rfl) ?_
             refine thenQ_n ?_
             refine T_sq (by kernel_rfl) ?_
             refine T_region (id:=34) (by kernel_rfl) ?_
             obtain ⟨x61,e_x61,h⟩ := lt_some h
             obtain ⟨x62,e_x62,h⟩ := lt_some h
             obtain ⟨b63,e_b63,h⟩ := lt_some h
             refine TI_segK (i:=0) (j:=5) (s':={ σ := [(1,.lf (.own 1 0)),(8,vi x46),(10,vi x56),(115,vb b63)],H := [(1,[.one (.v (.slice Au0_0 (u0_0.length) cu0_0)),.arr .i64 4 u0_1])],V := [],M := M,ds := [] }) [1,8,10,115] [1] [] (by subst_vars;kernel_rfl) (by kernel_rfl) ?_
             refine TI_end (by kernel_rfl) ?_
             refine thenQ_n ?_
             cases b63 with
             | true =>
              replace h := sp_t h
              refine T_condT (x:=(.tmp 115)) (c1:=(sub [1,1,1,1,1,1,1,0,1,0,0,1,0,0,1,1,1,0,0,1,0,0,1,1,0] Bd21)) (c2:=(sub [1,1,1,1,1,1,1,0,1,0,0,1,0,0,1,1,1,0,0,1,0,0,1,1,1] Bd21)) (by kernel_rfl) (by kernel_rfl) ?_
              refine T_keep (s':={ σ := [],H := [],V := [],M := M,ds := [] }) [] [] [] (by kernel_rfl) ?_
              refine T_sq (by kernel_rfl) ?_
              refine T_region (id:=35) (by kernel_rfl) ?_
              refine TI_segS (i:=0) (j:=1) [(2,vi (16 : Int))] (by kernel_rfl) (by kernel_rfl) ?_
              refine TI_end (by kernel_rfl) ?_
              refine thenQ_n ?_
              refine T_ret (by kernel_rfl) ?_
              refine blockQ_r ?_
              refine thenQ_r ?_
              refine thenQ_r ?_
              refine blockQ_r ?_
              refine thenQ_r ?_
              refine blockQ_r ?_
              refine thenQ_r ?_
              refine thenQ_r ?_
              refine blockQ_r ?_
              refine thenQ_r ?_
              refine thenQ_r ?_
              have h := Option.some.inj h
              subst h
              refine fin_ret (vi (16 : Int)) (by kernel_rfl) (by kernel_rfl) rfl ?_
              rfl
             | false =>
              replace h := sp_f h
              refine T_condF (x:=(.tmp 115)) (c1:=(sub [1,1,1,1,1,1,1,0,1,0,0,1,0,0,1,1,1,0,0,1,0,0,1,1,0] Bd21)) (c2:=(sub [1,1,1,1,1,1,1,0,1,0,0,1,0,0,1,1,1,0,0,1,0,0,1,1,1] Bd21)) (by kernel_rfl) (by kernel_rfl) ?_
              refine T_keepS [(1,.lf (.own 1 0)),(8,vi x46),(10,vi x56)] (by kernel_rfl) ?_
              refine T_skip (by kernel_rfl) ?_
              refine blockQ_n ?_
              refine thenQ_n ?_
              refine T_region (id:=32) (by kernel_rfl) ?_
              obtain ⟨x64,e_x64,h⟩ := lt_some h
              refine TI_segS (i:=0) (j:=3) [(1,.lf (.own 1 0)),(8,vi x46),(10,vi x64)] (by subst e_x64;kernel_rfl) (by kernel_rfl) ?_
              refine TI_end (by kernel_rfl) ?_
              refine thenQ_n ?_
              exact ⟨n57,Nat.lt_succ_self _,x64,keep_sub (ts:=[1,8,10]) (hs:=[1]) (vs:=[]) (by kernel_rfl),h⟩
            | false =>
             replace h := sp_f h
             refine T_condF (x:=(.tmp 104)) (c1:=(sub [1,1,1,1,1,1,1,0,1,0,0,1,0,0,1,1,1,0,0,0,1,0] Bd21)) (c2:=(sub [1,1,1,1,1,1,1,0,1,0,0,1,0,0,1,1,1,0,0,0,1,1] Bd21)) (by kernel_rfl) (by kernel_rfl) ?_
             refine T_keepS [(1,.lf (.own 1 0)),(8,vi x46)] (by kernel_rfl) ?_
             refine T_exit (id:=8) (by kernel_rfl) ?_
             refine thenQ_x ?_
             refine thenQ_x ?_
             refine blockQ_x ?_
             refine thenQ_n ?_
             exact ⟨keep_sub (ts:=[1,8]) (hs:=[1]) (vs:=[]) (by kernel_rfl),h⟩
          ·rintro s' ⟨hsub,h⟩
           subst e_j55
           refine blockQ_n ?_
           refine thenQ_n ?_
           refine T_sub hsub ?_
           refine T_region (id:=26) (by kernel_rfl) ?_
           obtain ⟨x65,e_x65,h⟩ := lt_some h
           refine TI_segK (i:=0) (j:=3) (s':={ σ := [(1,.lf (.own 1 0)),(8,vi x65)],H := [(1,[.one (.v (.slice Au0_0 (u0_0.length) cu0_0)),.arr .i64 4 u0_1])],V := [],M := M,ds := [] }) [1,8] [1] [] (by subst e_x65;kernel_rfl) (by kernel_rfl) ?_
           refine TI_end (by kernel_rfl) ?_
           refine thenQ_n ?_
           exact ⟨n47,Nat.lt_succ_self _,x65,keep_sub (ts:=[1,8]) (hs:=[1]) (vs:=[]) (by kernel_rfl),h⟩
        | false =>
         replace h := sp_f h
         refine T_condF (x:=(.tmp 92)) (c1:=(sub [1,1,1,1,1,1,1,0,1,0,0,0,1,0] Bd21)) (c2:=(sub [1,1,1,1,1,1,1,0,1,0,0,0,1,1] Bd21)) (by kernel_rfl) (by kernel_rfl) ?_
         refine T_keep (s':={ σ := [],H := [],V := [],M := M,ds := [] }) [] [] [] (by kernel_rfl) ?_
         refine T_exit (id:=6) (by kernel_rfl) ?_
         refine thenQ_x ?_
         refine thenQ_x ?_
         refine blockQ_x ?_
         refine thenQ_n ?_
         exact ⟨keep_sub (ts:=[]) (hs:=[]) (vs:=[]) (by kernel_rfl),h⟩
      ·rintro s' ⟨hsub,h⟩
       subst e_j45
       refine thenQ_n ?_
       refine T_sub hsub ?_
       refine T_sq (by kernel_rfl) ?_
       refine T_region (id:=36) (by kernel_rfl) ?_
       refine TI_segK (i:=0) (j:=1) (s':={ σ := [(2,vi (0 : Int))],H := [],V := [],M := M,ds := [] }) [2] [] [] (by kernel_rfl) (by kernel_rfl) ?_
       refine TI_end (by kernel_rfl) ?_
       refine thenQ_n ?_
       refine T_ret (by kernel_rfl) ?_
       have h := Option.some.inj h
       subst h
       refine fin_ret (vi (0 : Int)) (by kernel_rfl) (by kernel_rfl) rfl ?_
       rfl
def p30 (k : Nat) (u0_0 : List (List Int)) (u0_1 : List Int) : Option (Int × Int) :=
 cl (p21 k u0_0 u0_1) fun v1 => lt' (v1 != (0 : Int)) fun b2 => sp b2 (some ((0 : Int),v1)) (cl (p53 k u0_0 u0_1) fun v3 => lt' (wr .i64 (v3 + (1 : Int))) fun x4 => some (x4,(0 : Int)))
theorem hf30 : Try.prog.funcs[30]? = some Try.f30 := by kernel_rfl
theorem w30 (k : Nat) {M : Mem} {Au0_0 : Option Addr} {cu0_0 : Nat} {u0_0 : List (List Int)} {u0_1 : List Int} (hu0_0 : SlR M Au0_0 cu0_0 .i64 11 u0_0) (hu0_1 : u0_1.length = 4) {r} (h : p30 k u0_0 u0_1 = some r) :
  Fn Try.prog 30 [rval (.agg [.one (.v (.slice Au0_0 (u0_0.length) cu0_0)),.arr .i64 4 u0_1])] M (fun x _ => x = .tup [(some (.v (.int .i64 r.1)),[]),(some (.v (.int .i64 r.2)),[])]) := by
 unfold p30 at h
 refine Fn_of (P:=Try.prog) (fn:=Try.f30) (c:=bodyOf Try.f30) [.agg [.one (.v (.slice Au0_0 (u0_0.length) cu0_0)),.arr .i64 4 u0_1]] hf30 (by kernel_rfl) (Nat.le_of_ble_eq_true (by kernel_rfl)) (args_ok (by kernel_rfl) ⟨⟨rfl,⟨hu0_1,trivial⟩⟩,trivial⟩) fun w => ?_
 change T _ _ _ (endQ _ _ _)
 refine T_seq (c1:=(sub [0] Bd30)) (c2:=(sub [1] Bd30)) (by kernel_rfl) ?_
 refine T_region (id:=0) (by kernel_rfl) ?_
 refine TI_segK (i:=0) (j:=3) (s':={ σ := [(1,.lf (.own 1 0))],H := [(1,[.one (.v (.slice Au0_0 (u0_0.length) cu0_0)),.arr .i64 4 u0_1])],V := [],M := M,ds := [] }) [1] [1] [] (by kernel_rfl) (by kernel_rfl) ?_
 refine TI_end (by kernel_rfl) ?_
 refine thenQ_n ?_
 refine T_sq (by kernel_rfl) ?_
 refine T_region (id:=1) (by kernel_rfl) ?_
 refine TI_segS (i:=0) (j:=1) [(1,.lf (.own 1 0)),(5,.agg [.one (.v (.slice Au0_0 (u0_0.length) cu0_0)),.arr .i64 4 u0_1])] (by kernel_rfl) (by kernel_rfl) ?_
 obtain ⟨v1,c_v1,h⟩ := cl_some h
 refine TI_at (i:=1) (d:=6) (x:=vi v1) (At_call (d:=6) (f:=21) (args:=[rval (.agg [.one (.v (.slice Au0_0 (u0_0.length) cu0_0)),.arr .i64 4 u0_1])]) (x:=vi v1) (by kernel_rfl) (w21 k hu0_0 hu0_1 c_v1)) (by kernel_rfl) trivial ?_
 refine TI_segK (i:=2) (j:=3) (s':={ σ := [(1,.lf (.own 1 0)),(4,vi v1)],H := [(1,[.one (.v (.slice Au0_0 (u0_0.length) cu0_0)),.arr .i64 4 u0_1])],V := [],M := M,ds := [] }) [1,4] [1] [] (by kernel_rfl) (by kernel_rfl) ?_
 refine TI_end (by kernel_rfl) ?_
 refine thenQ_n ?_
 refine T_sq (by kernel_rfl) ?_
 refine T_sq (by kernel_rfl) ?_
 refine T_region (id:=2) (by kernel_rfl) ?_
 obtain ⟨b2,e_b2,h⟩ := lt_some h
 refine TI_segS (i:=0) (j:=2) [(1,.lf (.own 1 0)),(4,vi v1),(8,vb b2)] (by subst e_b2;kernel_rfl) (by kernel_rfl) ?_
 refine TI_end (by kernel_rfl) ?_
 refine thenQ_n ?_
 cases b2 with
 | true =>
  replace h := sp_t h
  refine T_condT (x:=(.tmp 8)) (c1:=(sub [1,1,0,1,0] Bd30)) (c2:=(sub [1,1,0,1,1] Bd30)) (by kernel_rfl) (by kernel_rfl) ?_
  refine T_keep (s':={ σ := [(4,vi v1)],H := [],V := [],M := M,ds := [] }) [4] [] [] (by kernel_rfl) ?_
  refine T_sq (by kernel_rfl) ?_
  refine T_region (id:=3) (by kernel_rfl) ?_
  refine TI_segS (i:=0) (j:=3) [(2,vi (0 : Int)),(3,vi v1)] (by kernel_rfl) (by kernel_rfl) ?_
  refine TI_end (by kernel_rfl) ?_
  refine thenQ_n ?_
  refine T_ret (by kernel_rfl) ?_
  refine thenQ_r ?_
  have h := Option.some.inj h
  subst h
  refine fin_ret (.tup [(some (.v (.int .i64 (0 : Int))),[]),(some (.v (.int .i64 v1)),[])]) (by kernel_rfl) (by kernel_rfl) rfl ?_
  rfl
 | false =>
  replace h := sp_f h
  refine T_condF (x:=(.tmp 8)) (c1:=(sub [1,1,0,1,0] Bd30)) (c2:=(sub [1,1,0,1,1] Bd30)) (by kernel_rfl) (by kernel_rfl) ?_
  refine T_keepS [(1,.lf (.own 1 0))] (by kernel_rfl) ?_
  refine T_skip (by kernel_rfl) ?_
  refine thenQ_n ?_
  refine T_sq (by kernel_rfl) ?_
  refine T_region (id:=4) (by kernel_rfl) ?_
  refine TI_segK (i:=0) (j:=1) (s':={ σ := [(10,.agg [.one (.v (.slice Au0_0 (u0_0.length) cu0_0)),.arr .i64 4 u0_1])],H := [],V := [],M := M,ds := [] }) [10] [] [] (by kernel_rfl) (by kernel_rfl) ?_
  obtain ⟨v3,c_v3,h⟩ := cl_some h
  refine TI_at (i:=1) (d:=11) (x:=vi v3) (At_call (d:=11) (f:=53) (args:=[rval (.agg [.one (.v (.slice Au0_0 (u0_0.length) cu0_0)),.arr .i64 4 u0_1])]) (x:=vi v3) (by kernel_rfl) (w53 k hu0_0 hu0_1 c_v3)) (by kernel_rfl) trivial ?_
  obtain ⟨x4,e_x4,h⟩ := lt_some h
  refine TI_segK (i:=2) (j:=5) (s':={ σ := [(2,vi x4),(3,vi (0 : Int))],H := [],V := [],M := M,ds := [] }) [2,3] [] [] (by subst e_x4;kernel_rfl) (by kernel_rfl) ?_
  refine TI_end (by kernel_rfl) ?_
  refine thenQ_n ?_
  refine T_ret (by kernel_rfl) ?_
  have h := Option.some.inj h
  subst h
  refine fin_ret (.tup [(some (.v (.int .i64 x4)),[]),(some (.v (.int .i64 (0 : Int))),[])]) (by kernel_rfl) (by kernel_rfl) rfl ?_
  rfl
end Go.Proofs.Ythjkejbgknemgaa
namespace Go.Proofs.Ythjkejbgknemgaa
open Go.RowKit
def p87 (k : Nat) (u0 : Int) : Option Bool :=
 lt' (u0 != u0) fun b1 => some b1
theorem hf87 : Try.prog.funcs[87]? = some Try.f87 := by kernel_rfl
theorem w87 (k : Nat) {M : Mem} {u0 : Int} {r} (h : p87 k u0 = some r) :
  Fn Try.prog 87 [rval (vi u0)] M (fun x _ => x = vb r) := by
 unfold p87 at h
 refine Fn_of (P:=Try.prog) (fn:=Try.f87) (c:=bodyOf Try.f87) [vi u0] hf87 (by kernel_rfl) (Nat.le_of_ble_eq_true (by kernel_rfl)) (args_ok (by kernel_rfl) ⟨trivial,trivial⟩) fun w => ?_
 change T _ _ _ (endQ _ _ _)
 refine T_seq (c1:=(sub [0] Bd87)) (c2:=(sub [1] Bd87)) (by kernel_rfl) ?_
 refine T_region (id:=0) (by kernel_rfl) ?_
 refine TI_segK (i:=0) (j:=1) (s':={ σ := [(0,vi u0)],H := [],V := [],M := M,ds := [] }) [0] [] [] (by kernel_rfl) (by kernel_rfl) ?_
 refine TI_end (by kernel_rfl) ?_
 refine thenQ_n ?_
 refine T_sq (by kernel_rfl) ?_
 refine T_region (id:=1) (by kernel_rfl) ?_
 obtain ⟨b1,e_b1,h⟩ := lt_some h
 refine TI_segS (i:=0) (j:=4) [(2,vb b1)] (by subst e_b1;kernel_rfl) (by kernel_rfl) ?_
 refine TI_end (by kernel_rfl) ?_
 refine thenQ_n ?_
 refine T_ret (by kernel_rfl) ?_
 have h := Option.some.inj h
 subst h
 refine fin_ret (vb b1) (by kernel_rfl) (by kernel_rfl) rfl ?_
 rfl
def p78 (k : Nat) (u0 : Int) (u1 : Int) : Option Bool :=
 jn (fun (b1 : Bool) => some b1) fun j2 => cl (p87 k u0) fun v3 => sp v3 (cl (p87 k u1) fun v4 => sp v4 (lt' (decide (u0 < u1)) fun b5 => j2 b5) (j2 true)) (lt' (decide (u0 < u1)) fun b6 => j2 b6)
theorem hf78 : Try.prog.funcs[78]? = some Try.f78 := by kernel_rfl
theorem w78 (k : Nat) {M : Mem} {u0 : Int} {u1 : Int} {r} (h : p78 k u0 u1 = some r) :
  Fn Try.prog 78 [rval (vi u0),rval (vi u1)] M (fun x _ => x = vb r) := by
 unfold p78 at h
 refine Fn_of (P:=Try.prog) (fn:=Try.f78) (c:=bodyOf Try.f78) [vi u0,vi u1] hf78 (by kernel_rfl) (Nat.le_of_ble_eq_true (by kernel_rfl)) (args_ok (by kernel_rfl) ⟨trivial,⟨trivial,trivial⟩⟩) fun w => ?_
 change T _ _ _ (endQ _ _ _)
 refine T_seq (c1:=(sub [0] Bd78)) (c2:=(sub [1] Bd78)) (by kernel_rfl) ?_
 refine T_region (id:=0) (by kernel_rfl) ?_
 refine TI_segK (i:=0) (j:=1) (s':={ σ := [(0,vi u0),(1,vi u1)],H := [],V := [],M := M,ds := [] }) [0,1] [] [] (by kernel_rfl) (by kernel_rfl) ?_
 refine TI_end (by kernel_rfl) ?_
 refine thenQ_n ?_
 obtain ⟨j2,e_j2,h⟩ := jn_some h
 refine T_cut (c1:=(sub [1,0] Bd78)) (c2:=(sub [1,1] Bd78)) (fun s' => ∃ (b1 : Bool),Sub { σ := [(4,vb b1)],H := [],V := [],M := M,ds := [] } s' ∧ j2 b1 = some r) (by kernel_rfl) ?_ ?_
 ·refine T_region (id:=1) (by kernel_rfl) ?_
  refine TI_segK (i:=0) (j:=1) (s':={ σ := [(0,vi u0),(1,vi u1),(5,vi u0)],H := [],V := [],M := M,ds := [] }) [0,1,5] [] [] (by kernel_rfl) (by kernel_rfl) ?_
  obtain ⟨v3,c_v3,h⟩ := cl_some h
  refine TI_at (i:=1) (d:=6) (x:=vb v3) (At_call (d:=6) (f:=87) (args:=[rval (vi u0)]) (x:=vb v3) (by kernel_rfl) (w87 k  c_v3)) (by kernel_rfl) trivial ?_
  refine TI_segK (i:=2) (j:=3) (s':={ σ := [(0,vi u0),(1,vi u1),(7,vb v3)],H := [],V := [],M := M,ds := [] }) [0,1,7] [] [] (by kernel_rfl) (by kernel_rfl) ?_
  cases v3 with
  | true =>
   replace h := sp_t h
   refine TI_segS (i:=3) (j:=4) [(0,vi u0),(1,vi u1),(7,vb true),(8,vi u1)] (by kernel_rfl) (by kernel_rfl) ?_
   obtain ⟨v4,c_v4,h⟩ := cl_some h
   refine TI_at (i:=4) (d:=9) (x:=vb v4) (At_call (d:=9) (f:=87) (args:=[rval (vi u1)]) (x:=vb v4) (by kernel_rfl) (w87 k  c_v4)) (by kernel_rfl) trivial ?_
   refine TI_segK (i:=5) (j:=8) (s':={ σ := [(0,vi u0),(1,vi u1),(12,vb (!v4))],H := [],V := [],M := M,ds := [] }) [0,1,12] [] [] (by kernel_rfl) (by kernel_rfl) ?_
   cases v4 with
   | true =>
    replace h := sp_t h
    obtain ⟨b5,e_b5,h⟩ := lt_some h
    refine TI_segS (i:=8) (j:=13) [(4,vb b5)] (by subst e_b5;kernel_rfl) (by kernel_rfl) ?_
    refine TI_end (by kernel_rfl) ?_
    refine thenQ_n ?_
    exact ⟨b5,keep_sub (ts:=[4]) (hs:=[]) (vs:=[]) (by kernel_rfl),h⟩
   | false =>
    replace h := sp_f h
    refine TI_segS (i:=8) (j:=13) [(4,vb true)] (by kernel_rfl) (by kernel_rfl) ?_
    refine TI_end (by kernel_rfl) ?_
    refine thenQ_n ?_
    exact ⟨true,keep_sub (ts:=[4]) (hs:=[]) (vs:=[]) (by kernel_rfl),h⟩
  | false =>
   replace h := sp_f h
   obtain ⟨b6,e_b6,h⟩ := lt_some h
   refine TI_segS (i:=3) (j:=13) [(4,vb b6)] (by subst e_b6;kernel_rfl) (by kernel_rfl) ?_
   refine TI_end (by kernel_rfl) ?_
   refine thenQ_n ?_
   exact ⟨b6,keep_sub (ts:=[4]) (hs:=[]) (vs:=[]) (by kernel_rfl),h⟩
 ·rintro s' ⟨b1,hsub,h⟩
  subst e_j2
  refine T_sub hsub ?_
  refine T_ret (by kernel_rfl) ?_
  have h := Option.some.inj h
  subst h
  refine fin_ret (vb b1) (by kernel_rfl) (by kernel_rfl) rfl ?_
  rfl
def p79 (k : Nat) (u0 : Int) : Option Bool :=
 lt' (u0 != u0) fun b1 => some b1
theorem hf79 : Try.prog.funcs[79]? = some Try.f79 := by kernel_rfl
theorem w79 (k : Nat) {M : Mem} {u0 : Int} {r} (h : p79 k u0 = some r) :
  Fn Try.prog 79 [rval (vi u0)] M (fun x _ => x = vb r) := by
 unfold p79 at h
 refine Fn_of (P:=Try.prog) (fn:=Try.f79) (c:=bodyOf Try.f79) [vi u0] hf79 (by kernel_rfl) (Nat.le_of_ble_eq_true (by kernel_rfl)) (args_ok (by kernel_rfl) ⟨trivial,trivial⟩) fun w => ?_
 change T _ _ _ (endQ _ _ _)
 refine T_seq (c1:=(sub [0] Bd79)) (c2:=(sub [1] Bd79)) (by kernel_rfl) ?_
 refine T_region (id:=0) (by kernel_rfl) ?_
 refine TI_segK (i:=0) (j:=1) (s':={ σ := [(0,vi u0)],H := [],V := [],M := M,ds := [] }) [0] [] [] (by kernel_rfl) (by kernel_rfl) ?_
 refine TI_end (by kernel_rfl) ?_
 refine thenQ_n ?_
 refine T_sq (by kernel_rfl) ?_
 refine T_region (id:=1) (by kernel_rfl) ?_
 obtain ⟨b1,e_b1,h⟩ := lt_some h
 refine TI_segS (i:=0) (j:=4) [(2,vb b1)] (by subst e_b1;kernel_rfl) (by kernel_rfl) ?_
 refine TI_end (by kernel_rfl) ?_
 refine thenQ_n ?_
 refine T_ret (by kernel_rfl) ?_
 have h := Option.some.inj h
 subst h
 refine fin_ret (vb b1) (by kernel_rfl) (by kernel_rfl) rfl ?_
 rfl
def p57_l1 (k : Nat) (u0 : List Int) (u1 : Int) (j2 : Int → Option (Int × Bool)) : Nat → Int → Int → Option (Int × Bool)
 | 0,_,_ => none
 | n5 + 1,x3,x4 => lt' (decide (x3 < x4)) fun b6 => sp b6 (lt' (wr .i64 (x3 + x4)) fun x7 => lt' (wr .u64 (x7)) fun x8 => lt' (Int.fdiv x8 (2 ^ (min (1 : Int).toNat (IntKind.bits .u64)))) fun x9 => lt' (wr .i64 (x9)) fun x10 => gd ((0 : Int) ≤ x10 ∧ x10 < (u0.length : Int)) <| lt' (List.getD u0 ((x10).toNat) 0) fun x12 => cl (p78 k x12 u1) fun v13 => sp v13 (lt' (wr .i64 (x10 + (1 : Int))) fun x14 => p57_l1 k u0 u1 j2 n5 x14 x4) (p57_l1 k u0 u1 j2 n5 x3 x10)) (j2 x3)
def p57 (k : Nat) (u0 : List Int) (u1 : Int) : Option (Int × Bool) :=
 jn (fun (x1 : Int) => jn (fun (b15 : Bool) => some (x1,b15)) fun j16 => lt' (decide (x1 < (u0.length : Int))) fun b17 => sp b17 (gd ((0 : Int) ≤ x1 ∧ x1 < (u0.length : Int)) <| lt' (List.getD u0 ((x1).toNat) 0) fun x19 => lt' (x19 == u1) fun b20 => sp b20 (j16 true) (gd ((0 : Int) ≤ x1 ∧ x1 < (u0.length : Int)) <| lt' (List.getD u0 ((x1).toNat) 0) fun x22 => cl (p79 k x22) fun v23 => sp v23 (cl (p79 k u1) fun v24 => j16 v24) (j16 false))) (j16 false)) fun j2 => p57_l1 k u0 u1 j2 k (0 : Int) (u0.length : Int)
theorem hf57 : Try.prog.funcs[57]? = some Try.f57 := by kernel_rfl
theorem w57 (k : Nat) {M : Mem} {Au0 : Option Addr} {cu0 : Nat} {u0 : List Int} {u1 : Int} (hu0 : SlI M Au0 cu0 .i64 u0) {r} (h : p57 k u0 u1 = some r) :
  Fn Try.prog 57 [rval (.lf (.v (.slice Au0 (u0.length) cu0))),rval (vi u1)] M (fun x _ => x = .tup [(some (.v (.int .i64 r.1)),[]),(some (.v (.bool r.2)),[])]) := by
 unfold p57 at h
 refine Fn_of (P:=Try.prog) (fn:=Try.f57) (c:=bodyOf Try.f57) [.lf (.v (.slice Au0 (u0.length) cu0)),vi u1] hf57 (by kernel_rfl) (Nat.le_of_ble_eq_true (by kernel_rfl)) (args_ok (by kernel_rfl) ⟨trivial,⟨trivial,trivial⟩⟩) fun w => ?_
 change T _ _ _ (endQ _ _ _)
 refine T_seq (c1:=(sub [0] Bd57)) (c2:=(sub [1] Bd57)) (by kernel_rfl) ?_
 refine T_region (id:=0) (by kernel_rfl) ?_
 refine TI_segK (i:=0) (j:=2) (s':={ σ := [(0,.lf (.v (.slice Au0 (u0.length) cu0))),(1,vi u1)],H := [],V := [],M := M,ds := [] }) [0,1] [] [] (by kernel_rfl) (by kernel_rfl) ?_
 refine TI_end (by kernel_rfl) ?_
 refine thenQ_n ?_
 refine T_sq (by kernel_rfl) ?_
 refine T_region (id:=1) (by kernel_rfl) ?_
 refine TI_segS (i:=0) (j:=3) [(0,.lf (.v (.slice Au0 (u0.length) cu0))),(1,vi u1),(6,vi (u0.length : Int))] (by kernel_rfl) (by kernel_rfl) ?_
 refine TI_end (by kernel_rfl) ?_
 refine thenQ_n ?_
 refine T_sq (by kernel_rfl) ?_
 refine T_region (id:=2) (by kernel_rfl) ?_
 refine TI_segS (i:=0) (j:=3) [(0,.lf (.v (.slice Au0 (u0.length) cu0))),(1,vi u1),(6,vi (u0.length : Int)),(7,vi (0 : Int)),(8,vi (u0.length : Int))] (by kernel_rfl) (by kernel_rfl) ?_
 refine TI_end (by kernel_rfl) ?_
 refine thenQ_n ?_
 refine T_sq (by kernel_rfl) ?_
 obtain ⟨j2,e_j2,h⟩ := jn_some h
 refine T_bcut (id:=0) (c1:=(sub [1,1,1,0,0] Bd57)) (fun s' => ∃ (x1 : Int),Sub { σ := [(0,.lf (.v (.slice Au0 (u0.length) cu0))),(1,vi u1),(6,vi (u0.length : Int)),(7,vi x1)],H := [],V := [],M := M,ds := [] } s' ∧ j2 x1 = some r) (by kernel_rfl) ?_ ?_
 ·refine T_loop (c1:=(sub [1,1,1,0,0,0] Bd57)) (by kernel_rfl) (fun n5 s' => ∃ (x3 : Int) (x4 : Int),Sub { σ := [(0,.lf (.v (.slice Au0 (u0.length) cu0))),(1,vi u1),(6,vi (u0.length : Int)),(7,vi x3),(8,vi x4)],H := [],V := [],M := M,ds := [] } s' ∧ p57_l1 k u0 u1 j2 n5 x3 x4 = some r) (k:=k) ⟨(0 : Int),(u0.length : Int),keep_sub (ts:=[0,1,6,7,8]) (hs:=[]) (vs:=[]) (by kernel_rfl),h⟩ ?_
  rintro n5 s' ⟨x3,x4,hsub,h⟩
  cases n5 with
  | zero => rw [p57_l1] at h;cases h
  | succ n5 =>
   rw [p57_l1] at h
   refine T_sub hsub ?_
   refine T_sq (by kernel_rfl) ?_
   refine T_sq (by kernel_rfl) ?_
   refine T_region (id:=3) (by kernel_rfl) ?_
   obtain ⟨b6,e_b6,h⟩ := lt_some h
   refine TI_segK (i:=0) (j:=3) (s':={ σ := [(0,.lf (.v (.slice Au0 (u0.length) cu0))),(1,vi u1),(6,vi (u0.length : Int)),(7,vi x3),(8,vi x4),(15,vb b6)],H := [],V := [],M := M,ds := [] }) [0,1,6,7,8,15] [] [] (by subst e_b6;kernel_rfl) (by kernel_rfl) ?_
   refine TI_end (by kernel_rfl) ?_
   refine thenQ_n ?_
   cases b6 with
   | true =>
    replace h := sp_t h
    refine T_condT (x:=(.tmp 15)) (c1:=(sub [1,1,1,0,0,0,0,1,0] Bd57)) (c2:=(sub [1,1,1,0,0,0,0,1,1] Bd57)) (by kernel_rfl) (by kernel_rfl) ?_
    refine T_keepS [(0,.lf (.v (.slice Au0 (u0.length) cu0))),(1,vi u1),(6,vi (u0.length : Int)),(7,vi x3),(8,vi x4)] (by kernel_rfl) ?_
    refine T_skip (by kernel_rfl) ?_
    refine thenQ_n ?_
    refine T_block (id:=1) (c1:=(sub [1,1,1,0,0,0,1,0] Bd57)) (by kernel_rfl) ?_
    refine T_sq (by kernel_rfl) ?_
    refine T_region (id:=4) (by kernel_rfl) ?_
    obtain ⟨x7,e_x7,h⟩ := lt_some h
    obtain ⟨x8,e_x8,h⟩ := lt_some h
    obtain ⟨x9,e_x9,h⟩ := lt_some h
    obtain ⟨x10,e_x10,h⟩ := lt_some h
    refine TI_segS (i:=0) (j:=7) [(0,.lf (.v (.slice Au0 (u0.length) cu0))),(1,vi u1),(6,vi (u0.length : Int)),(7,vi x3),(8,vi x4),(9,vi x10)] (by subst_vars;kernel_rfl) (by kernel_rfl) ?_
    refine TI_end (by kernel_rfl) ?_
    refine thenQ_n ?_
    refine T_sq (by kernel_rfl) ?_
    refine T_region (id:=5) (by kernel_rfl) ?_
    refine TI_segS (i:=0) (j:=2) [(0,.lf (.v (.slice Au0 (u0.length) cu0))),(1,vi u1),(6,vi (u0.length : Int)),(7,vi x3),(8,vi x4),(9,vi x10),(22,.lf (.v (.slice Au0 (u0.length) cu0))),(23,vi x10)] (by kernel_rfl) (by kernel_rfl) ?_
    obtain ⟨g11,h⟩ := gd_some h
    refine TI_at (i:=2) (d:=24) (x:=.lf (.ep (.slice Au0 (u0.length) cu0) 1 ((x10).toNat) 0)) (by exact At_idxI (d:=24) (z:=x10) (by kernel_rfl) g11 hu0) (by kernel_rfl) trivial ?_
    obtain ⟨x12,e_x12,h⟩ := lt_some h
    refine TI_at (i:=3) (d:=25) (x:=vi x12) (by rw [e_x12]; exact At_ldI (d:=25) (q:=(x10).toNat) (by subst e_x12; kernel_rfl) (toNat_lt g11) hu0) (by kernel_rfl) trivial ?_
    refine TI_segK (i:=4) (j:=5) (s':={ σ := [(0,.lf (.v (.slice Au0 (u0.length) cu0))),(1,vi u1),(6,vi (u0.length : Int)),(7,vi x3),(8,vi x4),(9,vi x10),(25,vi x12),(26,vi u1)],H := [],V := [],M := M,ds := [] }) [0,1,6,7,8,9,25,26] [] [] (by kernel_rfl) (by kernel_rfl) ?_
    obtain ⟨v13,c_v13,h⟩ := cl_some h
    refine TI_at (i:=5) (d:=27) (x:=vb v13) (At_call (d:=27) (f:=78) (args:=[rval (vi x12),rval (vi u1)]) (x:=vb v13) (by kernel_rfl) (w78 k  c_v13)) (by kernel_rfl) trivial ?_
    refine TI_segK (i:=6) (j:=6) (s':={ σ := [(0,.lf (.v (.slice Au0 (u0.length) cu0))),(1,vi u1),(6,vi (u0.length : Int)),(7,vi x3),(8,vi x4),(9,vi x10),(27,vb v13)],H := [],V := [],M := M,ds := [] }) [0,1,6,7,8,9,27] [] [] (by kernel_rfl) (by kernel_rfl) ?_
    refine TI_end (by kernel_rfl) ?_
    refine thenQ_n ?_
    cases v13 with
    | true =>
     replace h := sp_t h
     refine T_condT (x:=(.tmp 27)) (c1:=(sub [1,1,1,0,0,0,1,0,1,1,0] Bd57)) (c2:=(sub [1,1,1,0,0,0,1,0,1,1,1] Bd57)) (by kernel_rfl) (by kernel_rfl) ?_
     refine T_keepS [(0,.lf (.v (.slice Au0 (u0.length) cu0))),(1,vi u1),(6,vi (u0.length : Int)),(8,vi x4),(9,vi x10)] (by kernel_rfl) ?_
     refine T_region (id:=6) (by kernel_rfl) ?_
     obtain ⟨x14,e_x14,h⟩ := lt_some h
     refine TI_segS (i:=0) (j:=3) [(0,.lf (.v (.slice Au0 (u0.length) cu0))),(1,vi u1),(6,vi (u0.length : Int)),(7,vi x14),(8,vi x4)] (by subst e_x14;kernel_rfl) (by kernel_rfl) ?_
     refine TI_end (by kernel_rfl) ?_
     refine blockQ_n ?_
     refine thenQ_n ?_
     exact ⟨n5,Nat.lt_succ_self _,x14,x4,keep_sub (ts:=[0,1,6,7,8]) (hs:=[]) (vs:=[]) (by kernel_rfl),h⟩
    | false =>
     replace h := sp_f h
     refine T_condF (x:=(.tmp 27)) (c1:=(sub [1,1,1,0,0,0,1,0,1,1,0] Bd57)) (c2:=(sub [1,1,1,0,0,0,1,0,1,1,1] Bd57)) (by kernel_rfl) (by kernel_rfl) ?_
     refine T_keepS [(0,.lf (.v (.slice Au0 (u0.length) cu0))),(1,vi u1),(6,vi (u0.length : Int)),(7,vi x3),(9,vi x10)] (by kernel_rfl) ?_
     refine T_region (id:=7) (by kernel_rfl) ?_
     refine TI_segS (i:=0) (j:=2) [(0,.lf (.v (.slice Au0 (u0.length) cu0))),(1,vi u1),(6,vi (u0.length : Int)),(7,vi x3),(8,vi x10)] (by kernel_rfl) (by kernel_rfl) ?_
     refine TI_end (by kernel_rfl) ?_
     refine blockQ_n ?_
     refine thenQ_n ?_
     exact ⟨n5,Nat.lt_succ_self _,x3,x10,keep_sub (ts:=[0,1,6,7,8]) (hs:=[]) (vs:=[]) (by kernel_rfl),h⟩
   | false =>
    replace h := sp_f h
    refine T_condF (x:=(.tmp 15)) (c1:=(sub [1,1,1,0,0,0,0,1,0] Bd57)) (c2:=(sub [1,1,1,0,0,0,0,1,1] Bd57)) (by kernel_rfl) (by kernel_rfl) ?_
    refine T_keepS [(0,.lf (.v (.slice Au0 (u0.length) cu0))),(1,vi u1),(6,vi (u0.length : Int)),(7,vi x3)] (by kernel_rfl) ?_
    refine T_exit (id:=0) (by kernel_rfl) ?_
    refine thenQ_x ?_
    refine thenQ_x ?_
    refine blockQ_x ?_
    refine thenQ_n ?_
    exact ⟨x3,keep_sub (ts:=[0,1,6,7]) (hs:=[]) (vs:=[]) (by kernel_rfl),h⟩
 ·rintro s' ⟨x1,hsub,h⟩
  subst e_j2
  refine thenQ_n ?_
  refine T_sub hsub ?_
  obtain ⟨j16,e_j16,h⟩ := jn_some h
  refine T_cut (c1:=(sub [1,1,1,1,0] Bd57)) (c2:=(sub [1,1,1,1,1] Bd57)) (fun s' => ∃ (b15 : Bool),Sub { σ := [(4,vi x1),(5,vb b15)],H := [],V := [],M := M,ds := [] } s' ∧ j16 b15 = some r) (by kernel_rfl) ?_ ?_
  ·refine T_region (id:=8) (by kernel_rfl) ?_
   obtain ⟨b17,e_b17,h⟩ := lt_some h
   refine TI_segK (i:=0) (j:=5) (s':={ σ := [(0,.lf (.v (.slice Au0 (u0.length) cu0))),(1,vi u1),(7,vi x1),(31,vi x1),(35,vb b17)],H := [],V := [],M := M,ds := [] }) [0,1,7,31,35] [] [] (by subst e_b17;kernel_rfl) (by kernel_rfl) ?_
   cases b17 with
   | true =>
    replace h := sp_t h
    refine TI_segS (i:=5) (j:=7) [(0,.lf (.v (.slice Au0 (u0.length) cu0))),(1,vi u1),(7,vi x1),(31,vi x1),(35,vb true),(36,.lf (.v (.slice Au0 (u0.length) cu0))),(37,vi x1)] (by kernel_rfl) (by kernel_rfl) ?_
    obtain ⟨g18,h⟩ := gd_some h
    refine TI_at (i:=7) (d:=38) (x:=.lf (.ep (.slice Au0 (u0.length) cu0) 1 ((x1).toNat) 0)) (by exact At_idxI (d:=38) (z:=x1) (by kernel_rfl) g18 hu0) (by kernel_rfl) trivial ?_
    obtain ⟨x19,e_x19,h⟩ := lt_some h
    refine TI_at (i:=8) (d:=39) (x:=vi x19) (by rw [e_x19]; exact At_ldI (d:=39) (q:=(x1).toNat) (by subst e_x19; kernel_rfl) (toNat_lt g18) hu0) (by kernel_rfl) trivial ?_
    obtain ⟨b20,e_b20,h⟩ := lt_some h
    refine TI_segK (i:=9) (j:=12) (s':={ σ := [(0,.lf (.v (.slice Au0 (u0.length) cu0))),(1,vi u1),(7,vi x1),(31,vi x1),(35,vb true),(42,vb b20)],H := [],V := [],M := M,ds := [] }) [0,1,7,31,35,42] [] [] (by subst e_b20;kernel_rfl) (by kernel_rfl) ?_
    cases b20 with
    | true =>
     replace h := sp_t h
     refine TI_segS (i:=12) (j:=25) [(4,vi x1),(5,vb true)] (by kernel_rfl) (by kernel_rfl) ?_
     refine TI_end (by kernel_rfl) ?_
     refine thenQ_n ?_
     exact ⟨true,keep_sub (ts:=[4,5]) (hs:=[]) (vs:=[]) (by kernel_rfl),h⟩
    | false =>
     replace h := sp_f h
     refine TI_segS (i:=12) (j:=14) [(1,vi u1),(31,vi x1),(35,vb true),(42,vb false),(43,.lf (.v (.slice Au0 (u0.length) cu0))),(44,vi x1)] (by kernel_rfl) (by kernel_rfl) ?_
     obtain ⟨g21,h⟩ := gd_some h
     refine TI_at (i:=14) (d:=45) (x:=.lf (.ep (.slice Au0 (u0.length) cu0) 1 ((x1).toNat) 0)) (by exact At_idxI (d:=45) (z:=x1) (by kernel_rfl) g21 hu0) (by kernel_rfl) trivial ?_
     obtain ⟨x22,e_x22,h⟩ := lt_some h
     refine TI_at (i:=15) (d:=46) (x:=vi x22) (by rw [e_x22]; exact At_ldI (d:=46) (q:=(x1).toNat) (by subst e_x22; kernel_rfl) (toNat_lt g21) hu0) (by kernel_rfl) trivial ?_
     obtain ⟨v23,c_v23,h⟩ := cl_some h
     refine TI_at (i:=16) (d:=47) (x:=vb v23) (At_call (d:=47) (f:=79) (args:=[rval (vi x22)]) (x:=vb v23) (by kernel_rfl) (w79 k  c_v23)) (by kernel_rfl) trivial ?_
     refine TI_segK (i:=17) (j:=18) (s':={ σ := [(1,vi u1),(31,vi x1),(35,vb true),(42,vb false),(48,vb v23)],H := [],V := [],M := M,ds := [] }) [1,31,35,42,48] [] [] (by kernel_rfl) (by kernel_rfl) ?_
     cases v23 with
     | true =>
      replace h := sp_t h
      refine TI_segS (i:=18) (j:=19) [(31,vi x1),(35,vb true),(42,vb false),(48,vb true),(49,vi u1)] (by kernel_rfl) (by kernel_rfl) ?_
      obtain ⟨v24,c_v24,h⟩ := cl_some h
      refine TI_at (i:=19) (d:=50) (x:=vb v24) (At_call (d:=50) (f:=79) (args:=[rval (vi u1)]) (x:=vb v24) (by kernel_rfl) (w79 k  c_v24)) (by kernel_rfl) trivial ?_
      refine TI_segK (i:=20) (j:=25) (s':={ σ := [(4,vi x1),(5,vb v24)],H := [],V := [],M := M,ds := [] }) [4,5] [] [] (by kernel_rfl) (by kernel_rfl) ?_
      refine TI_end (by kernel_rfl) ?_
      refine thenQ_n ?_
      exact ⟨v24,keep_sub (ts:=[4,5]) (hs:=[]) (vs:=[]) (by kernel_rfl),h⟩
     | false =>
      replace h := sp_f h
      refine TI_segS (i:=18) (j:=25) [(4,vi x1),(5,vb false)] (by kernel_rfl) (by kernel_rfl) ?_
      refine TI_end (by kernel_rfl) ?_
      refine thenQ_n ?_
      exact ⟨false,keep_sub (ts:=[4,5]) (hs:=[]) (vs:=[]) (by kernel_rfl),h⟩
   | false =>
    replace h := sp_f h
    refine TI_segS (i:=5) (j:=25) [(4,vi x1),(5,vb false)] (by kernel_rfl) (by kernel_rfl) ?_
    refine TI_end (by kernel_rfl) ?_
    refine thenQ_n ?_
    exact ⟨false,keep_sub (ts:=[4,5]) (hs:=[]) (vs:=[]) (by kernel_rfl),h⟩
  ·rintro s' ⟨b15,hsub,h⟩
   subst e_j16
   refine T_sub hsub ?_
   refine T_ret (by kernel_rfl) ?_
   have h := Option.some.inj h
   subst h
   refine fin_ret (.tup [(some (.v (.int .i64 x1)),[]),(some (.v (.bool b15)),[])]) (by kernel_rfl) (by kernel_rfl) rfl ?_
   rfl
def p18 (k : Nat) (u0_0 : List (List Int)) (u0_1 : List Int) : Option Bool :=
 jn (fun (b1 : Bool) => sp b1 (some true) (jn (fun (b6 : Bool) => some b6) fun j7 => lt' (decide ((u0_0.length : Int) > (1 : Int))) fun b8 => sp b8 (lt' (wr .i64 ((u0_0.length : Int) - (1 : Int))) fun x9 => gd ((0 : Int) ≤ x9 ∧ x9 < (u0_0.length : Int)) <| lt' (List.getD (List.getD u0_0 ((x9).toNat) []) 0 0) fun x11 => gd ((0 : Int) ≤ (0 : Int) ∧ (0 : Int) < (u0_0.length : Int)) <| lt' (List.getD (List.getD u0_0 0 []) 0 0) fun x13 => lt' (decide (x11 > x13)) fun b14 => sp b14 (lt' (wr .i64 ((u0_0.length : Int) - (1 : Int))) fun x15 => gd ((0 : Int) ≤ x15 ∧ x15 < (u0_0.length : Int)) <| lt' (List.getD (List.getD u0_0 ((x15).toNat) []) 0 0) fun x17 => gd ((0 : Int) ≤ (0 : Int) ∧ (0 : Int) < (u0_0.length : Int)) <| lt' (List.getD (List.getD u0_0 0 []) 0 0) fun x19 => lt' (wr .i64 (x17 - x19)) fun x20 => lt' (decide (x20 > (120 : Int))) fun b21 => sp b21 (lt' (wr .i64 ((u0_0.length : Int) - (1 : Int))) fun x22 => gd ((0 : Int) ≤ x22 ∧ x22 < (u0_0.length : Int)) <| lt' (List.getD (List.getD u0_0 ((x22).toNat) []) 0 0) fun x24 => gd ((0 : Int) ≤ (0 : Int) ∧ (0 : Int) < (u0_0.length : Int)) <| lt' (List.getD (List.getD u0_0 0 []) 0 0) fun x26 => lt' (wr .i64 (x24 - x26)) fun x27 => lt' (decide (x27 ≤ (2000 : Int))) fun b28 => j7 b28) (j7 false)) (j7 false)) (j7 false))) fun j2 => lt' (decide ((u0_0.length : Int) > (100 : Int))) fun b3 => sp b3 (j2 true) (lt' (decide ((u0_0.length : Int) > (20 : Int))) fun b4 => sp b4 (lt' (decide ((u0_0.length : Int) ≤ (64 : Int))) fun b5 => j2 b5) (j2 false))
theorem hf18 : Try.prog.funcs[18]? = some Try.f18 := by kernel_rfl
theorem w18 (k : Nat) {M : Mem} {Au0_0 : Option Addr} {cu0_0 : Nat} {u0_0 : List (List Int)} {u0_1 : List Int} (hu0_0 : SlR M Au0_0 cu0_0 .i64 11 u0_0) (hu0_1 : u0_1.length = 4) {r} (h : p18 k u0_0 u0_1 = some r) :
  Fn Try.prog 18 [rval (.agg [.one (.v (.slice Au0_0 (u0_0.length) cu0_0)),.arr .i64 4 u0_1])] M (fun x _ => x = vb r) := by
 unfold p18 at h
 refine Fn_of (P:=Try.prog) (fn:=Try.f18) (c:=bodyOf Try.f18) [.agg [.one (.v (.slice Au0_0 (u0_0.length) cu0_0)),.arr .i64 4 u0_1]] hf18 (by kernel_rfl) (Nat.le_of_ble_eq_true (by kernel_rfl)) (args_ok (by kernel_rfl) ⟨⟨rfl,⟨hu0_1,trivial⟩⟩,trivial⟩) fun w => ?_
 change T _ _ _ (endQ _ _ _)
 refine T_seq (c1:=(sub [0] Bd18)) (c2:=(sub [1] Bd18)) (by kernel_rfl) ?_
 refine T_region (id:=0) (by kernel_rfl) ?_
 refine TI_segK (i:=0) (j:=2) (s':={ σ := [(1,.lf (.own 1 0))],H := [(1,[.one (.v (.slice Au0_0 (u0_0.length) cu0_0)),.arr .i64 4 u0_1])],V := [],M := M,ds := [] }) [1] [1] [] (by kernel_rfl) (by kernel_rfl) ?_
 refine TI_end (by kernel_rfl) ?_
 refine thenQ_n ?_
 refine T_sq (by kernel_rfl) ?_
 refine T_region (id:=1) (by kernel_rfl) ?_
 refine TI_segS (i:=0) (j:=4) [(1,.lf (.own 1 0)),(3,vi (u0_0.length : Int))] (by kernel_rfl) (by kernel_rfl) ?_
 refine TI_end (by kernel_rfl) ?_
 refine thenQ_n ?_
 refine T_sq (by kernel_rfl) ?_
 obtain ⟨j2,e_j2,h⟩ := jn_some h
 refine T_cut (c1:=(sub [1,1,0,0] Bd18)) (c2:=(sub [1,1,0,1] Bd18)) (fun s' => ∃ (b1 : Bool),Sub { σ := [(1,.lf (.own 1 0)),(3,vi (u0_0.length : Int)),(16,vb b1)],H := [(1,[.one (.v (.slice Au0_0 (u0_0.length) cu0_0)),.arr .i64 4 u0_1])],V := [],M := M,ds := [] } s' ∧ j2 b1 = some r) (by kernel_rfl) ?_ ?_
 ·refine T_region (id:=2) (by kernel_rfl) ?_
  obtain ⟨b3,e_b3,h⟩ := lt_some h
  refine TI_segK (i:=0) (j:=3) (s':={ σ := [(1,.lf (.own 1 0)),(3,vi (u0_0.length : Int)),(9,vb b3)],H := [(1,[.one (.v (.slice Au0_0 (u0_0.length) cu0_0)),.arr .i64 4 u0_1])],V := [],M := M,ds := [] }) [1,3,9] [1] [] (by subst e_b3;kernel_rfl) (by kernel_rfl) ?_
  cases b3 with
  | true =>
   replace h := sp_t h
   refine TI_segS (i:=3) (j:=10) [(1,.lf (.own 1 0)),(3,vi (u0_0.length : Int)),(16,vb true)] (by kernel_rfl) (by kernel_rfl) ?_
   refine TI_end (by kernel_rfl) ?_
   refine thenQ_n ?_
   exact ⟨true,keep_sub (ts:=[1,3,16]) (hs:=[1]) (vs:=[]) (by kernel_rfl),h⟩
  | false =>
   replace h := sp_f h
   obtain ⟨b4,e_b4,h⟩ := lt_some h
   refine TI_segS (i:=3) (j:=6) [(1,.lf (.own 1 0)),(3,vi (u0_0.length : Int)),(9,vb false),(12,vb b4)] (by subst e_b4;kernel_rfl) (by kernel_rfl) ?_
   cases b4 with
   | true =>
    replace h := sp_t h
    obtain ⟨b5,e_b5,h⟩ := lt_some h
    refine TI_segS (i:=6) (j:=10) [(1,.lf (.own 1 0)),(3,vi (u0_0.length : Int)),(16,vb b5)] (by subst e_b5;kernel_rfl) (by kernel_rfl) ?_
    refine TI_end (by kernel_rfl) ?_
    refine thenQ_n ?_
    exact ⟨b5,keep_sub (ts:=[1,3,16]) (hs:=[1]) (vs:=[]) (by kernel_rfl),h⟩
   | false =>
    replace h := sp_f h
    refine TI_segS (i:=6) (j:=10) [(1,.lf (.own 1 0)),(3,vi (u0_0.length : Int)),(16,vb false)] (by kernel_rfl) (by kernel_rfl) ?_
    refine TI_end (by kernel_rfl) ?_
    refine thenQ_n ?_
    exact ⟨false,keep_sub (ts:=[1,3,16]) (hs:=[1]) (vs:=[]) (by kernel_rfl),h⟩
 ·rintro s' ⟨b1,hsub,h⟩
  subst e_j2
  refine T_sub hsub ?_
  cases b1 with
  | true =>
   replace h := sp_t h
   refine T_condT (x:=(.tmp 16)) (c1:=(sub [1,1,0,1,0] Bd18)) (c2:=(sub [1,1,0,1,1] Bd18)) (by kernel_rfl) (by kernel_rfl) ?_
   refine T_keep (s':={ σ := [],H := [],V := [],M := M,ds := [] }) [] [] [] (by kernel_rfl) ?_
   refine T_sq (by kernel_rfl) ?_
   refine T_region (id:=3) (by kernel_rfl) ?_
   refine TI_segS (i:=0) (j:=1) [(2,vb true)] (by kernel_rfl) (by kernel_rfl) ?_
   refine TI_end (by kernel_rfl) ?_
   refine thenQ_n ?_
   refine T_ret (by kernel_rfl) ?_
   refine thenQ_r ?_
   have h := Option.some.inj h
   subst h
   refine fin_ret (vb true) (by kernel_rfl) (by kernel_rfl) rfl ?_
   rfl
  | false =>
   replace h := sp_f h
   refine T_condF (x:=(.tmp 16)) (c1:=(sub [1,1,0,1,0] Bd18)) (c2:=(sub [1,1,0,1,1] Bd18)) (by kernel_rfl) (by kernel_rfl) ?_
   refine T_keep (s':={ σ := [(1,.lf (.own 1 0)),(3,vi (u0_0.length : Int))],H := [(1,[.one (.v (.slice Au0_0 (u0_0.length) cu0_0)),.arr .i64 4 u0_1])],V := [],M := M,ds := [] }) [1,3] [1] [] (by kernel_rfl) ?_
   refine T_skip (by kernel_rfl) ?_
   refine thenQ_n ?_
   obtain ⟨j7,e_j7,h⟩ := jn_some h
   refine T_cut (c1:=(sub [1,1,1,0] Bd18)) (c2:=(sub [1,1,1,1] Bd18)) (fun s' => ∃ (b6 : Bool),Sub { σ := [(2,vb b6)],H := [],V := [],M := M,ds := [] } s' ∧ j7 b6 = some r) (by kernel_rfl) ?_ ?_
   ·obtain ⟨b8,e_b8,h⟩ := lt_some h
    cases b8 with
    | true =>
     replace h := sp_t h
     obtain ⟨x9,e_x9,h⟩ := lt_some h
     obtain ⟨g10,h⟩ := gd_some h
     obtain ⟨x11,e_x11,h⟩ := lt_some h
     obtain ⟨g12,h⟩ := gd_some h
     obtain ⟨x13,e_x13,h⟩ := lt_some h
     obtain ⟨b14,e_b14,h⟩ := lt_some h
     cases b14 with
     | true =>
      replace h := sp_t h
      obtain ⟨x15,e_x15,h⟩ := lt_some h
      obtain ⟨g16,h⟩ := gd_some h
      obtain ⟨x17,e_x17,h⟩ := lt_some h
      obtain ⟨g18,h⟩ := gd_some h
      obtain ⟨x19,e_x19,h⟩ := lt_some h
      obtain ⟨x20,e_x20,h⟩ := lt_some h
      obtain ⟨b21,e_b21,h⟩ := lt_some h
      cases b21 with
      | true =>
       replace h := sp_t h
       obtain ⟨x22,e_x22,h⟩ := lt_some h
       obtain ⟨g23,h⟩ := gd_some h
       obtain ⟨x24,e_x24,h⟩ := lt_some h
       obtain ⟨g25,h⟩ := gd_some h
       obtain ⟨x26,e_x26,h⟩ := lt_some h
       obtain ⟨x27,e_x27,h⟩ := lt_some h
       obtain ⟨b28,e_b28,h⟩ := lt_some h
       refine T_draw' (id:=4) [] [0,0,0,0,0,0,0,0,0,0,0,0,0,0,0,0,0,0,0,0,0,0,0,0,0,0,0,0,0,0,0,0,0,0,0,0,0,0,0,0,0,0,0,0,0,0,0,0,0,0] (by kernel_rfl) (by kernel_rfl) (by kernel_rfl) (by kernel_rfl) ((17,vi (u0_0.length : Int))::(18,vb true)::(19,vb true)::(20,.lf (.own 1 0))::(21,.lf (.v (.slice Au0_0 (u0_0.length) cu0_0)))::(22,vi (u0_0.length : Int))::(23,vi x9)::(24,.lf (.ep (.slice Au0_0 (u0_0.length) cu0_0) 11 ((x9).toNat) 0))::(25,.lf (.ep (.slice Au0_0 (u0_0.length) cu0_0) 11 ((x9).toNat) 0))::(26,vi x11)::(27,.lf (.own 1 0))::(28,.lf (.v (.slice Au0_0 (u0_0.length) cu0_0)))::(29,.lf (.ep (.slice Au0_0 (u0_0.length) cu0_0) 11 0 0))::(30,.lf (.ep (.slice Au0_0 (u0_0.length) cu0_0) 11 0 0))::(31,vi x13)::(32,vb true)::(33,vb true)::(34,vb true)::(35,.lf (.own 1 0))::(36,.lf (.v (.slice Au0_0 (u0_0.length) cu0_0)))::(37,vi (u0_0.length : Int))::(38,vi x15)::(39,.lf (.ep (.slice Au0_0 (u0_0.length) cu0_0) 11 ((x15).toNat) 0))::(40,.lf (.ep (.slice Au0_0 (u0_0.length) cu0_0) 11 ((x15).toNat) 0))::(41,vi x17)::(42,.lf (.own 1 0))::(43,.lf (.v (.slice Au0_0 (u0_0.length) cu0_0)))::(44,.lf (.ep (.slice Au0_0 (u0_0.length) cu0_0) 11 0 0))::(45,.lf (.ep (.slice Au0_0 (u0_0.length) cu0_0) 11 0 0))::(46,vi x19)::(47,vi x20)::(48,vb true)::(49,vb true)::(50,vb true)::(51,.lf (.own 1 0))::(52,.lf (.v (.slice Au0_0 (u0_0.length) cu0_0)))::(53,vi (u0_0.length : Int))::(54,vi x22)::(55,.lf (.ep (.slice Au0_0 (u0_0.length) cu0_0) 11 ((x22).toNat) 0))::(56,.lf (.ep (.slice Au0_0 (u0_0.length) cu0_0) 11 ((x22).toNat) 0))::(57,vi x24)::(58,.lf (.own 1 0))::(59,.lf (.v (.slice Au0_0 (u0_0.length) cu0_0)))::(60,.lf (.ep (.slice Au0_0 (u0_0.length) cu0_0) 11 0 0))::(61,.lf (.ep (.slice Au0_0 (u0_0.length) cu0_0) 11 0 0))::(62,vi x26)::(63,vi x27)::(64,vb b28)::(65,vb b28)::(2,vb b28)::[]) (by kernel_rfl) (wfs_lf _ (by kernel_rfl)) ?_
       refine Stage_nil (stage_all' [0,2,3,4,5,6,8,10,11,13,16,17,18,19,20,21,23,25,26,28,30,32,33,34,35,36,37,39,41,42,44,46,47,48,49] [1,7,9,12,14,15,22,24,27,29,31,38,40,43,45] (by kernel_rfl) (by subst_vars; kernel_rfl) (by kernel_rfl) ⟨QF_at (i:=1) (d:=18) (x:=vb true) (show OpAt _ _ _ 1 18 _ from by exact At_bin (d:=18) (b:=.gtr) (u:=.int .i64 (u0_0.length : Int)) (v:=.int .i64 (1 : Int)) (w':=.bool true) (by subst_vars; kernel_rfl) (by rw [show exBin .gtr (.int .i64 (u0_0.length : Int)) (.int .i64 (1 : Int)) = some (.bool (decide ((u0_0.length : Int) > (1 : Int)))) from by kernel_rfl,← e_b8])) (by kernel_rfl) (by subst_vars; kernel_rfl),⟨QF_at (i:=7) (d:=24) (x:=.lf (.ep (.slice Au0_0 (u0_0.length) cu0_0) 11 ((x9).toNat) 0)) (show OpAt _ _ _ 7 24 _ from by exact At_idxR (d:=24) (z:=x9) (by subst_vars; kernel_rfl) g10 hu0_0) (by kernel_rfl) (by subst_vars; kernel_rfl),⟨QF_at (i:=9) (d:=26) (x:=vi x11) (show OpAt _ _ _ 9 26 _ from by rw [e_x11]; exact At_ldR1 (d:=26) (q:=(x9).toNat) (j:=0) (by subst_vars; kernel_rfl) rfl (toNat_lt g10) hu0_0) (by kernel_rfl) (by subst_vars; kernel_rfl),⟨QF_at (i:=12) (d:=29) (x:=.lf (.ep (.slice Au0_0 (u0_0.length) cu0_0) 11 0 0)) (show OpAt _ _ _ 12 29 _ from by exact At_idxR (d:=29) (z:=(0 : Int)) (by subst_vars; kernel_rfl) g12 hu0_0) (by kernel_rfl) (by subst_vars; kernel_rfl),⟨QF_at (i:=14) (d:=31) (x:=vi x13) (show OpAt _ _ _ 14 31 _ from by rw [e_x13]; exact At_ldR1 (d:=31) (q:=0) (j:=0) (by subst_vars; kernel_rfl) rfl (toNat_lt g12) hu0_0) (by kernel_rfl) (by subst_vars; kernel_rfl),⟨QF_at (i:=15) (d:=32) (x:=vb true) (show OpAt _ _ _ 15 32 _ from by exact At_bin (d:=32) (b:=.gtr) (u:=.int .i64 x11) (v:=.int .i64 x13) (w':=.bool true) (by subst_vars; kernel_rfl) (by rw [show exBin .gtr (.int .i64 x11) (.int .i64 x13) = some (.bool (decide (x11 > x13))) from by kernel_rfl,← e_b14])) (by kernel_rfl) (by subst_vars; kernel_rfl),⟨QF_at (i:=22) (d:=39) (x:=.lf (.ep (.slice Au0_0 (u0_0.length) cu0_0) 11 ((x15).toNat) 0)) (show OpAt _ _ _ 22 39 _ from by exact At_idxR (d:=39) (z:=x15) (by subst_vars; kernel_rfl) g16 hu0_0) (by kernel_rfl) (by subst_vars; kernel_rfl),⟨QF_at (i:=24) (d:=41) (x:=vi x17) (show OpAt _ _ _ 24 41 _ from by rw [e_x17]; exact At_ldR1 (d:=41) (q:=(x15).toNat) (j:=0) (by subst_vars; kernel_rfl) rfl (toNat_lt g16) hu0_0) (by kernel_rfl) (by subst_vars; kernel_rfl),⟨QF_at (i:=27) (d:=44) (x:=.lf (.ep (.slice Au0_0 (u0_0.length) cu0_0) 11 0 0)) (show OpAt _ _ _ 27 44 _ from by exact At_idxR (d:=44) (z:=(0 : Int)) (by subst_vars; kernel_rfl) g18 hu0_0) (by kernel_rfl) (by subst_vars; kernel_rfl),⟨QF_at (i:=29) (d:=46) (x:=vi x19) (show OpAt _ _ _ 29 46 _ from by rw [e_x19]; exact At_ldR1 (d:=46) (q:=0) (j:=0) (by subst_vars; kernel_rfl) rfl (toNat_lt g18) hu0_0) (by kernel_rfl) (by subst_vars; kernel_rfl),⟨QF_at (i:=31) (d:=48) (x:=vb true) (show OpAt _ _ _ 31 48 _ from by exact At_bin (d:=48) (b:=.gtr) (u:=.int .i64 x20) (v:=.int .i64 (120 : Int)) (w':=.bool true) (by subst_vars; kernel_rfl) (by rw [show exBin .gtr (.int .i64 x20) (.int .i64 (120 : Int)) = some (.bool (decide (x20 > (120 : Int)))) from by kernel_rfl,← e_b21])) (by kernel_rfl) (by subst_vars; kernel_rfl),⟨QF_at (i:=38) (d:=55) (x:=.lf (.ep (.slice Au0_0 (u0_0.length) cu0_0) 11 ((x22).toNat) 0)) (show OpAt _ _ _ 38 55 _ from by exact At_idxR (d:=55) (z:=x22) (by subst_vars; kernel_rfl) g23 hu0_0) (by kernel_rfl) (by subst_vars; kernel_rfl),⟨QF_at (i:=40) (d:=57) (x:=vi x24) (show OpAt _ _ _ 40 57 _ from by rw [e_x24]; exact At_ldR1 (d:=57) (q:=(x22).toNat) (j:=0) (by subst_vars; kernel_rfl) rfl (toNat_lt g23) hu0_0) (by kernel_rfl) (by subst_vars; kernel_rfl),⟨QF_at (i:=43) (d:=60) (x:=.lf (.ep (.slice Au0_0 (u0_0.length) cu0_0) 11 0 0)) (show OpAt _ _ _ 43 60 _ from by exact At_idxR (d:=60) (z:=(0 : Int)) (by subst_vars; kernel_rfl) g25 hu0_0) (by kernel_rfl) (by subst_vars; kernel_rfl),⟨QF_at (i:=45) (d:=62) (x:=vi x26) (show OpAt _ _ _ 45 62 _ from by rw [e_x26]; exact At_ldR1 (d:=62) (q:=0) (j:=0) (by subst_vars; kernel_rfl) rfl (toNat_lt g25) hu0_0) (by kernel_rfl) (by subst_vars; kernel_rfl),trivial⟩⟩⟩⟩⟩⟩⟩⟩⟩⟩⟩⟩⟩⟩⟩) ?_
       refine thenQ_n ?_
       exact ⟨b28,keep_sub (ts:=[2]) (hs:=[]) (vs:=[]) (by subst_vars;kernel_rfl),h⟩
      | false =>
       replace h := sp_f h
       refine T_draw' (id:=4) [] [0,0,0,0,0,0,0,0,0,0,0,0,0,0,0,0,0,0,0,0,0,0,0,0,0,0,0,0,0,0,0,0,0,0,0,0,0,0,0,0,0,0,0,0,0,0,0,0,0,0] (by kernel_rfl) (by kernel_rfl) (by kernel_rfl) (by kernel_rfl) ((17,vi (u0_0.length : Int))::(18,vb true)::(19,vb true)::(20,.lf (.own 1 0))::(21,.lf (.v (.slice Au0_0 (u0_0.length) cu0_0)))::(22,vi (u0_0.length : Int))::(23,vi x9)::(24,.lf (.ep (.slice Au0_0 (u0_0.length) cu0_0) 11 ((x9).toNat) 0))::(25,.lf (.ep (.slice Au0_0 (u0_0.length) cu0_0) 11 ((x9).toNat) 0))::(26,vi x11)::(27,.lf (.own 1 0))::(28,.lf (.v (.slice Au0_0 (u0_0.length) cu0_0)))::(29,.lf (.ep (.slice Au0_0 (u0_0.length) cu0_0) 11 0 0))::(30,.lf (.ep (.slice Au0_0 (u0_0.length) cu0_0) 11 0 0))::(31,vi x13)::(32,vb true)::(33,vb true)::(34,vb true)::(35,.lf (.own 1 0))::(36,.lf (.v (.slice Au0_0 (u0_0.length) cu0_0)))::(37,vi (u0_0.length : Int))::(38,vi x15)::(39,.lf (.ep (.slice Au0_0 (u0_0.length) cu0_0) 11 ((x15).toNat) 0))::(40,.lf (.ep (.slice Au0_0 (u0_0.length) cu0_0) 11 ((x15).toNat) 0))::(41,vi x17)::(42,.lf (.own 1 0))::(43,.lf (.v (.slice Au0_0 (u0_0.length) cu0_0)))::(44,.lf (.ep (.slice Au0_0 (u0_0.length) cu0_0) 11 0 0))::(45,.lf (.ep (.slice Au0_0 (u0_0.length) cu0_0) 11 0 0))::(46,vi x19)::(47,vi x20)::(48,vb false)::(49,vb false)::(50,vb false)::(51,.tup [])::(52,.tup [])::(53,.tup [])::(54,.tup [])::(55,.tup [])::(56,.tup [])::(57,.tup [])::(58,.tup [])::(59,.tup [])::(60,.tup [])::(61,.tup [])::(62,.tup [])::(63,.tup [])::(64,.tup [])::(65,vb false)::(2,vb false)::[]) (by kernel_rfl) ⟨trivial,⟨trivial,⟨trivial,⟨trivial,⟨trivial,⟨trivial,⟨trivial,⟨trivial,⟨trivial,⟨trivial,⟨trivial,⟨trivial,⟨trivial,⟨trivial,⟨trivial,⟨trivial,⟨trivial,⟨trivial,⟨trivial,⟨trivial,⟨trivial,⟨trivial,⟨trivial,⟨trivial,⟨trivial,⟨trivial,⟨trivial,⟨trivial,⟨trivial,⟨trivial,⟨trivial,⟨trivial,⟨trivial,⟨trivial,⟨(by intro y hy;cases hy),⟨(by intro y hy;cases hy),⟨(by intro y hy;cases hy),⟨(by intro y hy;cases hy),⟨(by intro y hy;cases hy),⟨(by intro y hy;cases hy),⟨(by intro y hy;cases hy),⟨(by intro y hy;cases hy),⟨(by intro y hy;cases hy),⟨(by intro y hy;cases hy),⟨(by intro y hy;cases hy),⟨(by intro y hy;cases hy),⟨(by intro y hy;cases hy),⟨(by intro y hy;cases hy),⟨trivial,⟨trivial,trivial⟩⟩⟩⟩⟩⟩⟩⟩⟩⟩⟩⟩⟩⟩⟩⟩⟩⟩⟩⟩⟩⟩⟩⟩⟩⟩⟩⟩⟩⟩⟩⟩⟩⟩⟩⟩⟩⟩⟩⟩⟩⟩⟩⟩⟩⟩⟩⟩⟩⟩ ?_
       refine Stage_nil (stage_all' [0,2,3,4,5,6,8,10,11,13,16,17,18,19,20,21,23,25,26,28,30,32,33,34,35,36,37,38,39,40,41,42,43,44,45,46,47,48,49] [1,7,9,12,14,15,22,24,27,29,31] (by kernel_rfl) (by subst_vars; kernel_rfl) (by kernel_rfl) ⟨QF_at (i:=1) (d:=18) (x:=vb true) (show OpAt _ _ _ 1 18 _ from by exact At_bin (d:=18) (b:=.gtr) (u:=.int .i64 (u0_0.length : Int)) (v:=.int .i64 (1 : Int)) (w':=.bool true) (by subst_vars; kernel_rfl) (by rw [show exBin .gtr (.int .i64 (u0_0.length : Int)) (.int .i64 (1 : Int)) = some (.bool (decide ((u0_0.length : Int) > (1 : Int)))) from by kernel_rfl,← e_b8])) (by kernel_rfl) (by subst_vars; kernel_rfl),⟨QF_at (i:=7) (d:=24) (x:=.lf (.ep (.slice Au0_0 (u0_0.length) cu0_0) 11 ((x9).toNat) 0)) (show OpAt _ _ _ 7 24 _ from by exact At_idxR (d:=24) (z:=x9) (by subst_vars; kernel_rfl) g10 hu0_0) (by kernel_rfl) (by subst_vars; kernel_rfl),⟨QF_at (i:=9) (d:=26) (x:=vi x11) (show OpAt _ _ _ 9 26 _ from by rw [e_x11]; exact At_ldR1 (d:=26) (q:=(x9).toNat) (j:=0) (by subst_vars; kernel_rfl) rfl (toNat_lt g10) hu0_0) (by kernel_rfl) (by subst_vars; kernel_rfl),⟨QF_at (i:=12) (d:=29) (x:=.lf (.ep (.slice Au0_0 (u0_0.length) cu0_0) 11 0 0)) (show OpAt _ _ _ 12 29 _ from by exact At_idxR (d:=29) (z:=(0 : Int)) (by subst_vars; kernel_rfl) g12 hu0_0) (by kernel_rfl) (by subst_vars; kernel_rfl),⟨QF_at (i:=14) (d:=31) (x:=vi x13) (show OpAt _ _ _ 14 31 _ from by rw [e_x13]; exact At_ldR1 (d:=31) (q:=0) (j:=0) (by subst_vars; kernel_rfl) rfl (toNat_lt g12) hu0_0) (by kernel_rfl) (by subst_vars; kernel_rfl),⟨QF_at (i:=15) (d:=32) (x:=vb true) (show OpAt _ _ _ 15 32 _ from by exact At_bin (d:=32) (b:=.gtr) (u:=.int .i64 x11) (v:=.int .i64 x13) (w':=.bool true) (by subst_vars; kernel_rfl) (by rw [show exBin .gtr (.int .i64 x11) (.int .i64 x13) = some (.bool (decide (x11 > x13))) from by kernel_rfl,← e_b14])) (by kernel_rfl) (by subst_vars; kernel_rfl),⟨QF_at (i:=22) (d:=39) (x:=.lf (.ep (.slice Au0_0 (u0_0.length) cu0_0) 11 ((x15).toNat) 0)) (show OpAt _ _ _ 22 39 _ from by exact At_idxR (d:=39) (z:=x15) (by subst_vars; kernel_rfl) g16 hu0_0) (by kernel_rfl) (by subst_vars; kernel_rfl),⟨QF_at (i:=24) (d:=41) (x:=vi x17) (show OpAt _ _ _ 24 41 _ from by rw [e_x17]; exact At_ldR1 (d:=41) (q:=(x15).toNat) (j:=0) (by subst_vars; kernel_rfl) rfl (toNat_lt g16) hu0_0) (by kernel_rfl) (by subst_vars; kernel_rfl),⟨QF_at (i:=27) (d:=44) (x:=.lf (.ep (.slice Au0_0 (u0_0.length) cu0_0) 11 0 0)) (show OpAt _ _ _ 27 44 _ from by exact At_idxR (d:=44) (z:=(0 : Int)) (by subst_vars; kernel_rfl) g18 hu0_0) (by kernel_rfl) (by subst_vars; kernel_rfl),⟨QF_at (i:=29) (d:=46) (x:=vi x19) (show OpAt _ _ _ 29 46 _ from by rw [e_x19]; exact At_ldR1 (d:=46) (q:=0) (j:=0) (by subst_vars; kernel_rfl) rfl (toNat_lt g18) hu0_0) (by kernel_rfl) (by subst_vars; kernel_rfl),⟨QF_at (i:=31) (d:=48) (x:=vb false) (show OpAt _ _ _ 31 48 _ from by exact At_bin (d:=48) (b:=.gtr) (u:=.int .i64 x20) (v:=.int .i64 (120 : Int)) (w':=.bool false) (by subst_vars; kernel_rfl) (by rw [show exBin .gtr (.int .i64 x20) (.int .i64 (120 : Int)) = some (.bool (decide (x20 > (120 : Int)))) from by kernel_rfl,← e_b21])) (by kernel_rfl) (by subst_vars; kernel_rfl),trivial⟩⟩⟩⟩⟩⟩⟩⟩⟩⟩⟩) ?_
       refine thenQ_n ?_
       exact ⟨false,keep_sub (ts:=[2]) (hs:=[]) (vs:=[]) (by subst_vars;kernel_rfl),h⟩
     | false =>
      replace h := sp_f h
      refine T_draw' (id:=4) [] [0,0,0,0,0,0,0,0,0,0,0,0,0,0,0,0,0,0,0,0,0,0,0,0,0,0,0,0,0,0,0,0,0,0,0,0,0,0,0,0,0,0,0,0,0,0,0,0,0,0] (by kernel_rfl) (by kernel_rfl) (by kernel_rfl) (by kernel_rfl) ((17,vi (u0_0.length : Int))::(18,vb true)::(19,vb true)::(20,.lf (.own 1 0))::(21,.lf (.v (.slice Au0_0 (u0_0.length) cu0_0)))::(22,vi (u0_0.length : Int))::(23,vi x9)::(24,.lf (.ep (.slice Au0_0 (u0_0.length) cu0_0) 11 ((x9).toNat) 0))::(25,.lf (.ep (.slice Au0_0 (u0_0.length) cu0_0) 11 ((x9).toNat) 0))::(26,vi x11)::(27,.lf (.own 1 0))::(28,.lf (.v (.slice Au0_0 (u0_0.length) cu0_0)))::(29,.lf (.ep (.slice Au0_0 (u0_0.length) cu0_0) 11 0 0))::(30,.lf (.ep (.slice Au0_0 (u0_0.length) cu0_0) 11 0 0))::(31,vi x13)::(32,vb false)::(33,vb false)::(34,vb false)::(35,.tup [])::(36,.tup [])::(37,.tup [])::(38,.tup [])::(39,.tup [])::(40,.tup [])::(41,.tup [])::(42,.tup [])::(43,.tup [])::(44,.tup [])::(45,.tup [])::(46,.tup [])::(47,.tup [])::(48,.tup [])::(49,vb false)::(50,vb false)::(51,.tup [])::(52,.tup [])::(53,.tup [])::(54,.tup [])::(55,.tup [])::(56,.tup [])::(57,.tup [])::(58,.tup [])::(59,.tup [])::(60,.tup [])::(61,.tup [])::(62,.tup [])::(63,.tup [])::(64,.tup [])::(65,vb false)::(2,vb false)::[]) (by kernel_rfl) ⟨trivial,⟨trivial,⟨trivial,⟨trivial,⟨trivial,⟨trivial,⟨trivial,⟨trivial,⟨trivial,⟨trivial,⟨trivial,⟨trivial,⟨trivial,⟨trivial,⟨trivial,⟨trivial,⟨trivial,⟨trivial,⟨(by intro y hy;cases hy),⟨(by intro y hy;cases hy),⟨(by intro y hy;cases hy),⟨(by intro y hy;cases hy),⟨(by intro y hy;cases hy),⟨(by intro y hy;cases hy),⟨(by intro y hy;cases hy),⟨(by intro y hy;cases hy),⟨(by intro y hy;cases hy),⟨(by intro y hy;cases hy),⟨(by intro y hy;cases hy),⟨(by intro y hy;cases hy),⟨(by intro y hy;cases hy),⟨(by intro y hy;cases hy),⟨trivial,⟨trivial,⟨(by intro y hy;cases hy),⟨(by intro y hy;cases hy),⟨(by intro y hy;cases hy),⟨(by intro y hy;cases hy),⟨(by intro y hy;cases hy),⟨(by intro y hy;cases hy),⟨(by intro y hy;cases hy),⟨(by intro y hy;cases hy),⟨(by intro y hy;cases hy),⟨(by intro y hy;cases hy),⟨(by intro y hy;cases hy),⟨(by intro y hy;cases hy),⟨(by intro y hy;cases hy),⟨(by intro y hy;cases hy),⟨trivial,⟨trivial,trivial⟩⟩⟩⟩⟩⟩⟩⟩⟩⟩⟩⟩⟩⟩⟩⟩⟩⟩⟩⟩⟩⟩⟩⟩⟩⟩⟩⟩⟩⟩⟩⟩⟩⟩⟩⟩⟩⟩⟩⟩⟩⟩⟩⟩⟩⟩⟩⟩⟩⟩ ?_
      refine Stage_nil (stage_all' [0,2,3,4,5,6,8,10,11,13,16,17,18,19,20,21,22,23,24,25,26,27,28,29,30,31,32,33,34,35,36,37,38,39,40,41,42,43,44,45,46,47,48,49] [1,7,9,12,14,15] (by kernel_rfl) (by subst_vars; kernel_rfl) (by kernel_rfl) ⟨QF_at (i:=1) (d:=18) (x:=vb true) (show OpAt _ _ _ 1 18 _ from by exact At_bin (d:=18) (b:=.gtr) (u:=.int .i64 (u0_0.length : Int)) (v:=.int .i64 (1 : Int)) (w':=.bool true) (by subst_vars; kernel_rfl) (by rw [show exBin .gtr (.int .i64 (u0_0.length : Int)) (.int .i64 (1 : Int)) = some (.bool (decide ((u0_0.length : Int) > (1 : Int)))) from by kernel_rfl,← e_b8])) (by kernel_rfl) (by subst_vars; kernel_rfl),⟨QF_at (i:=7) (d:=24) (x:=.lf (.ep (.slice Au0_0 (u0_0.length) cu0_0) 11 ((x9).toNat) 0)) (show OpAt _ _ _ 7 24 _ from by exact At_idxR (d:=24) (z:=x9) (by subst_vars; kernel_rfl) g10 hu0_0) (by kernel_rfl) (by subst_vars; kernel_rfl),⟨QF_at (i:=9) (d:=26) (x:=vi x11) (show OpAt _ _ _ 9 26 _ from by rw [e_x11]; exact At_ldR1 (d:=26) (q:=(x9).toNat) (j:=0) (by subst_vars; kernel_rfl) rfl (toNat_lt g10) hu0_0) (by kernel_rfl) (by subst_vars; kernel_rfl),⟨QF_at (i:=12) (d:=29) (x:=.lf (.ep (.slice Au0_0 (u0_0.length) cu0_0) 11 0 0)) (show OpAt _ _ _ 12 29 _ from by exact At_idxR (d:=29) (z:=(0 : Int)) (by subst_vars; kernel_rfl) g12 hu0_0) (by kernel_rfl) (by subst_vars; kernel_rfl),⟨QF_at (i:=14) (d:=31) (x:=vi x13) (show OpAt _ _ _ 14 31 _ from by rw [e_x13]; exact At_ldR1 (d:=31) (q:=0) (j:=0) (by subst_vars; kernel_rfl) rfl (toNat_lt g12) hu0_0) (by kernel_rfl) (by subst_vars; kernel_rfl),⟨QF_at (i:=15) (d:=32) (x:=vb false) (show OpAt _ _ _ 15 32 _ from by exact At_bin (d:=32) (b:=.gtr) (u:=.int .i64 x11) (v:=.int .i64 x13) (w':=.bool false) (by subst_vars; kernel_rfl) (by rw [show exBin .gtr (.int .i64 x11) (.int .i64 x13) = some (.bool (decide (x11 > x13))) from by kernel_rfl,← e_b14])) (by kernel_rfl) (by subst_vars; kernel_rfl),trivial⟩⟩⟩⟩⟩⟩) ?_
      refine thenQ_n ?_
      exact ⟨false,keep_sub (ts:=[2]) (hs:=[]) (vs:=[]) (by subst_vars;kernel_rfl),h⟩
    | false =>
     replace h := sp_f h
     refine T_draw' (id:=4) [] [0,0,0,0,0,0,0,0,0,0,0,0,0,0,0,0,0,0,0,0,0,0,0,0,0,0,0,0,0,0,0,0,0,0,0,0,0,0,0,0,0,0,0,0,0,0,0,0,0,0] (by kernel_rfl) (by kernel_rfl) (by kernel_rfl) (by kernel_rfl) ((17,vi (u0_0.length : Int))::(18,vb false)::(19,vb false)::(20,.tup [])::(21,.tup [])::(22,.tup [])::(23,.tup [])::(24,.tup [])::(25,.tup [])::(26,.tup [])::(27,.tup [])::(28,.tup [])::(29,.tup [])::(30,.tup [])::(31,.tup [])::(32,.tup [])::(33,vb false)::(34,vb false)::(35,.tup [])::(36,.tup [])::(37,.tup [])::(38,.tup [])::(39,.tup [])::(40,.tup [])::(41,.tup [])::(42,.tup [])::(43,.tup [])::(44,.tup [])::(45,.tup [])::(46,.tup [])::(47,.tup [])::(48,.tup [])::(49,vb false)::(50,vb false)::(51,.tup [])::(52,.tup [])::(53,.tup [])::(54,.tup [])::(55,.tup [])::(56,.tup [])::(57,.tup [])::(58,.tup [])::(59,.tup [])::(60,.tup [])::(61,.tup [])::(62,.tup [])::(63,.tup [])::(64,.tup [])::(65,vb false)::(2,vb false)::[]) (by kernel_rfl) ⟨trivial,⟨trivial,⟨trivial,⟨(by intro y hy;cases hy),⟨(by intro y hy;cases hy),⟨(by intro y hy;cases hy),⟨(by intro y hy;cases hy),⟨(by intro y hy;cases hy),⟨(by intro y hy;cases hy),⟨(by intro y hy;cases hy),⟨(by intro y hy;cases hy),⟨(by intro y hy;cases hy),⟨(by intro y hy;cases hy),⟨(by intro y hy;cases hy),⟨(by intro y hy;cases hy),⟨(by intro y hy;cases hy),⟨trivial,⟨trivial,⟨(by intro y hy;cases hy),⟨(by intro y hy;cases hy),⟨(by intro y hy;cases hy),⟨(by intro y hy;cases hy),⟨(by intro y hy;cases hy),⟨(by intro y hy;cases hy),⟨(by intro y hy;cases hy),⟨(by intro y hy;cases hy),⟨(by intro y hy;cases hy),⟨(by intro y hy;cases hy),⟨(by intro y hy;cases hy),⟨(by intro y hy;cases hy),⟨(by intro y hy;cases hy),⟨(by intro y hy;cases hy),⟨trivial,⟨trivial,⟨(by intro y hy;cases hy),⟨(by intro y hy;cases hy),⟨(by intro y hy;cases hy),⟨(by intro y hy;cases hy),⟨(by intro y hy;cases hy),⟨(by intro y hy;cases hy),⟨(by intro y hy;cases hy),⟨(by intro y hy;cases hy),⟨(by intro y hy;cases hy),⟨(by intro y hy;cases hy),⟨(by intro y hy;cases hy),⟨(by intro y hy;cases hy),⟨(by intro y hy;cases hy),⟨(by intro y hy;cases hy),⟨trivial,⟨trivial,trivial⟩⟩⟩⟩⟩⟩⟩⟩⟩⟩⟩⟩⟩⟩⟩⟩⟩⟩⟩⟩⟩⟩⟩⟩⟩⟩⟩⟩⟩⟩⟩⟩⟩⟩⟩⟩⟩⟩⟩⟩⟩⟩⟩⟩⟩⟩⟩⟩⟩⟩ ?_
     refine Stage_nil (stage_all' [0,2,3,4,5,6,7,8,9,10,11,12,13,14,15,16,17,18,19,20,21,22,23,24,25,26,27,28,29,30,31,32,33,34,35,36,37,38,39,40,41,42,43,44,45,46,47,48,49] [1] (by kernel_rfl) (by kernel_rfl) (by kernel_rfl) ⟨QF_at (i:=1) (d:=18) (x:=vb false) (show OpAt _ _ _ 1 18 _ from by exact At_bin (d:=18) (b:=.gtr) (u:=.int .i64 (u0_0.length : Int)) (v:=.int .i64 (1 : Int)) (w':=.bool false) (by kernel_rfl) (by rw [show exBin .gtr (.int .i64 (u0_0.length : Int)) (.int .i64 (1 : Int)) = some (.bool (decide ((u0_0.length : Int) > (1 : Int)))) from by kernel_rfl,← e_b8])) (by kernel_rfl) (by kernel_rfl),trivial⟩) ?_
     refine thenQ_n ?_
     exact ⟨false,keep_sub (ts:=[2]) (hs:=[]) (vs:=[]) (by kernel_rfl),h⟩
   ·rintro s' ⟨b6,hsub,h⟩
    subst e_j7
    refine T_sub hsub ?_
    refine T_ret (by kernel_rfl) ?_
    have h := Option.some.inj h
    subst h
    refine fin_ret (vb b6) (by kernel_rfl) (by kernel_rfl) rfl ?_
    rfl
def p11 (k : Nat) (u0_0 : List (List Int)) (u0_1 : List Int) (u1 : List Int) : Option Bool :=
 jn (fun (b1 : Bool) => some b1) fun j2 => cl (p18 k u0_0 u0_1) fun v3 => sp v3 (j2 false) (cl (p21 k u0_0 u0_1) fun v4 => lt' (v4 == (0 : Int)) fun b5 => sp b5 (cl (p33 k u1) fun v6 => lt' (v6 == (0 : Int)) fun b7 => j2 b7) (j2 false))
theorem hf11 : Try.prog.funcs[11]? = some Try.f11 := by kernel_rfl
theorem w11 (k : Nat) {M : Mem} {Au0_0 : Option Addr} {cu0_0 : Nat} {u0_0 : List (List Int)} {u0_1 : List Int} {u1 : List Int} (hu0_0 : SlR M Au0_0 cu0_0 .i64 11 u0_0) (hu0_1 : u0_1.length = 4) (hu1 : u1.length = 7) {r} (h : p11 k u0_0 u0_1 u1 = some r) :
  Fn Try.prog 11 [rval (.agg [.one (.v (.slice Au0_0 (u0_0.length) cu0_0)),.arr .i64 4 u0_1]),rval (.agg [.arr .i64 7 u1])] M (fun x _ => x = vb r) := by
 unfold p11 at h
 refine Fn_of (P:=Try.prog) (fn:=Try.f11) (c:=bodyOf Try.f11) [.agg [.one (.v (.slice Au0_0 (u0_0.length) cu0_0)),.arr .i64 4 u0_1],.agg [.arr .i64 7 u1]] hf11 (by kernel_rfl) (Nat.le_of_ble_eq_true (by kernel_rfl)) (args_ok (by kernel_rfl) ⟨⟨rfl,⟨hu0_1,trivial⟩⟩,⟨⟨hu1,trivial⟩,trivial⟩⟩) fun w => ?_
 change T _ _ _ (endQ _ _ _)
 refine T_seq (c1:=(sub [0] Bd11)) (c2:=(sub [1] Bd11)) (by kernel_rfl) ?_
 refine T_region (id:=0) (by kernel_rfl) ?_
 refine TI_segK (i:=0) (j:=3) (s':={ σ := [(2,.lf (.own 2 0)),(3,.lf (.own 3 0))],H := [(2,[.one (.v (.slice Au0_0 (u0_0.length) cu0_0)),.arr .i64 4 u0_1]),(3,[.arr .i64 7 u1])],V := [],M := M,ds := [] }) [2,3] [2,3] [] (by kernel_rfl) (by kernel_rfl) ?_
 refine TI_end (by kernel_rfl) ?_
 refine thenQ_n ?_
 obtain ⟨j2,e_j2,h⟩ := jn_some h
 refine T_cut (c1:=(sub [1,0] Bd11)) (c2:=(sub [1,1] Bd11)) (fun s' => ∃ (b1 : Bool),Sub { σ := [(4,vb b1)],H := [],V := [],M := M,ds := [] } s' ∧ j2 b1 = some r) (by kernel_rfl) ?_ ?_
 ·refine T_region (id:=1) (by kernel_rfl) ?_
  refine TI_segK (i:=0) (j:=1) (s':={ σ := [(2,.lf (.own 2 0)),(3,.lf (.own 3 0)),(5,.agg [.one (.v (.slice Au0_0 (u0_0.length) cu0_0)),.arr .i64 4 u0_1])],H := [(2,[.one (.v (.slice Au0_0 (u0_0.length) cu0_0)),.arr .i64 4 u0_1]),(3,[.arr .i64 7 u1])],V := [],M := M,ds := [] }) [2,3,5] [2,3] [] (by kernel_rfl) (by kernel_rfl) ?_
  obtain ⟨v3,c_v3,h⟩ := cl_some h
  refine TI_at (i:=1) (d:=6) (x:=vb v3) (At_call (d:=6) (f:=18) (args:=[rval (.agg [.one (.v (.slice Au0_0 (u0_0.length) cu0_0)),.arr .i64 4 u0_1])]) (x:=vb v3) (by kernel_rfl) (w18 k hu0_0 hu0_1 c_v3)) (by kernel_rfl) trivial ?_
  refine TI_segK (i:=2) (j:=4) (s':={ σ := [(2,.lf (.own 2 0)),(3,.lf (.own 3 0)),(8,vb (!v3))],H := [(2,[.one (.v (.slice Au0_0 (u0_0.length) cu0_0)),.arr .i64 4 u0_1]),(3,[.arr .i64 7 u1])],V := [],M := M,ds := [] }) [2,3,8] [2,3] [] (by kernel_rfl) (by kernel_rfl) ?_
  cases v3 with
  | true =>
   replace h := sp_t h
   refine TI_segK (i:=4) (j:=14) (s':={ σ := [(4,vb false)],H := [],V := [],M := M,ds := [] }) [4] [] [] (by kernel_rfl) (by kernel_rfl) ?_
   refine TI_end (by kernel_rfl) ?_
   refine thenQ_n ?_
   exact ⟨false,keep_sub (ts:=[4]) (hs:=[]) (vs:=[]) (by kernel_rfl),h⟩
  | false =>
   replace h := sp_f h
   refine TI_segK (i:=4) (j:=5) (s':={ σ := [(3,.lf (.own 3 0)),(8,vb true),(9,.agg [.one (.v (.slice Au0_0 (u0_0.length) cu0_0)),.arr .i64 4 u0_1])],H := [(3,[.arr .i64 7 u1])],V := [],M := M,ds := [] }) [3,8,9] [3] [] (by kernel_rfl) (by kernel_rfl) ?_
   obtain ⟨v4,c_v4,h⟩ := cl_some h
   refine TI_at (i:=5) (d:=10) (x:=vi v4) (At_call (d:=10) (f:=21) (args:=[rval (.agg [.one (.v (.slice Au0_0 (u0_0.length) cu0_0)),.arr .i64 4 u0_1])]) (x:=vi v4) (by kernel_rfl) (w21 k hu0_0 hu0_1 c_v4)) (by kernel_rfl) trivial ?_
   obtain ⟨b5,e_b5,h⟩ := lt_some h
   refine TI_segK (i:=6) (j:=9) (s':={ σ := [(3,.lf (.own 3 0)),(13,vb b5)],H := [(3,[.arr .i64 7 u1])],V := [],M := M,ds := [] }) [3,13] [3] [] (by subst e_b5;kernel_rfl) (by kernel_rfl) ?_
   cases b5 with
   | true =>
    replace h := sp_t h
    refine TI_segK (i:=9) (j:=10) (s':={ σ := [(13,vb true),(14,.agg [.arr .i64 7 u1])],H := [],V := [],M := M,ds := [] }) [13,14] [] [] (by kernel_rfl) (by kernel_rfl) ?_
    obtain ⟨v6,c_v6,h⟩ := cl_some h
    refine TI_at (i:=10) (d:=15) (x:=vi v6) (At_call (d:=15) (f:=33) (args:=[rval (.agg [.arr .i64 7 u1])]) (x:=vi v6) (by kernel_rfl) (w33 k hu1 c_v6)) (by kernel_rfl) trivial ?_
    obtain ⟨b7,e_b7,h⟩ := lt_some h
    refine TI_segK (i:=11) (j:=14) (s':={ σ := [(4,vb b7)],H := [],V := [],M := M,ds := [] }) [4] [] [] (by subst e_b7;kernel_rfl) (by kernel_rfl) ?_
    refine TI_end (by kernel_rfl) ?_
    refine thenQ_n ?_
    exact ⟨b7,keep_sub (ts:=[4]) (hs:=[]) (vs:=[]) (by kernel_rfl),h⟩
   | false =>
    replace h := sp_f h
    refine TI_segK (i:=9) (j:=14) (s':={ σ := [(4,vb false)],H := [],V := [],M := M,ds := [] }) [4] [] [] (by kernel_rfl) (by kernel_rfl) ?_
    refine TI_end (by kernel_rfl) ?_
    refine thenQ_n ?_
    exact ⟨false,keep_sub (ts:=[4]) (hs:=[]) (vs:=[]) (by kernel_rfl),h⟩
 ·rintro s' ⟨b1,hsub,h⟩
  subst e_j2
  refine T_sub hsub ?_
  refine T_ret (by kernel_rfl) ?_
  have h := Option.some.inj h
  subst h
  refine fin_ret (vb b1) (by kernel_rfl) (by kernel_rfl) rfl ?_
  rfl
def p69 (k : Nat) (u0 : Int) : Option Bool :=
 cl (p49 k u0 (0 : Int) (1048576 : Int)) fun v1 => some (!v1)
theorem hf69 : Try.prog.funcs[69]? = some Try.f69 := by kernel_rfl
theorem w69 (k : Nat) {M : Mem} {u0 : Int} {r} (h : p69 k u0 = some r) :
  Fn Try.prog 69 [rval (vi u0)] M (fun x _ => x = vb r) := by
 unfold p69 at h
 refine Fn_of (P:=Try.prog) (fn:=Try.f69) (c:=bodyOf Try.f69) [vi u0] hf69 (by kernel_rfl) (Nat.le_of_ble_eq_true (by kernel_rfl)) (args_ok (by kernel_rfl) ⟨trivial,trivial⟩) fun w => ?_
 change T _ _ _ (endQ _ _ _)
 refine T_seq (c1:=(sub [0] Bd69)) (c2:=(sub [1] Bd69)) (by kernel_rfl) ?_
 refine T_region (id:=0) (by kernel_rfl) ?_
 refine TI_segK (i:=0) (j:=1) (s':={ σ := [(0,vi u0)],H := [],V := [],M := M,ds := [] }) [0] [] [] (by kernel_rfl) (by kernel_rfl) ?_
 refine TI_end (by kernel_rfl) ?_
 refine thenQ_n ?_
 refine T_sq (by kernel_rfl) ?_
 refine T_region (id:=1) (by kernel_rfl) ?_
 refine TI_segS (i:=0) (j:=1) [(3,vi u0)] (by kernel_rfl) (by kernel_rfl) ?_
 obtain ⟨v1,c_v1,h⟩ := cl_some h
 refine TI_at (i:=1) (d:=4) (x:=vb v1) (At_call (d:=4) (f:=49) (args:=[rval (vi u0),rval (vi (0 : Int)),rval (vi (1048576 : Int))]) (x:=vb v1) (by kernel_rfl) (w49 k  c_v1)) (by kernel_rfl) trivial ?_
 refine TI_segK (i:=2) (j:=4) (s':={ σ := [(2,vb (!v1))],H := [],V := [],M := M,ds := [] }) [2] [] [] (by kernel_rfl) (by kernel_rfl) ?_
 refine TI_end (by kernel_rfl) ?_
 refine thenQ_n ?_
 refine T_ret (by kernel_rfl) ?_
 have h := Option.some.inj h
 subst h
 refine fin_ret (vb (!v1)) (by kernel_rfl) (by kernel_rfl) rfl ?_
 rfl
def p71 (k : Nat) (u0 : List Int) : Option Bool :=
 cl (p61 k u0) fun v1 => some (!v1)
theorem hf71 : Try.prog.funcs[71]? = some Try.f71 := by kernel_rfl
theorem w71 (k : Nat) {M : Mem} {u0 : List Int} (hu0 : u0.length = 2) {r} (h : p71 k u0 = some r) :
  Fn Try.prog 71 [rval (.agg [.arr .i64 2 u0])] M (fun x _ => x = vb r) := by
 unfold p71 at h
 refine Fn_of (P:=Try.prog) (fn:=Try.f71) (c:=bodyOf Try.f71) [.agg [.arr .i64 2 u0]] hf71 (by kernel_rfl) (Nat.le_of_ble_eq_true (by kernel_rfl)) (args_ok (by kernel_rfl) ⟨⟨hu0,trivial⟩,trivial⟩) fun w => ?_
 change T _ _ _ (endQ _ _ _)
 refine T_seq (c1:=(sub [0] Bd71)) (c2:=(sub [1] Bd71)) (by kernel_rfl) ?_
 refine T_region (id:=0) (by kernel_rfl) ?_
 refine TI_segK (i:=0) (j:=2) (s':={ σ := [(1,.lf (.own 1 0))],H := [(1,[.arr .i64 2 u0])],V := [],M := M,ds := [] }) [1] [1] [] (by kernel_rfl) (by kernel_rfl) ?_
 refine TI_end (by kernel_rfl) ?_
 refine thenQ_n ?_
 refine T_sq (by kernel_rfl) ?_
 refine T_region (id:=1) (by kernel_rfl) ?_
 refine TI_segK (i:=0) (j:=1) (s':={ σ := [(3,.agg [.arr .i64 2 u0])],H := [],V := [],M := M,ds := [] }) [3] [] [] (by kernel_rfl) (by kernel_rfl) ?_
 obtain ⟨v1,c_v1,h⟩ := cl_some h
 refine TI_at (i:=1) (d:=4) (x:=vb v1) (At_call (d:=4) (f:=61) (args:=[rval (.agg [.arr .i64 2 u0])]) (x:=vb v1) (by kernel_rfl) (w61 k hu0 c_v1)) (by kernel_rfl) trivial ?_
 refine TI_segK (i:=2) (j:=4) (s':={ σ := [(2,vb (!v1))],H := [],V := [],M := M,ds := [] }) [2] [] [] (by kernel_rfl) (by kernel_rfl) ?_
 refine TI_end (by kernel_rfl) ?_
 refine thenQ_n ?_
 refine T_ret (by kernel_rfl) ?_
 have h := Option.some.inj h
 subst h
 refine fin_ret (vb (!v1)) (by kernel_rfl) (by kernel_rfl) rfl ?_
 rfl
end Go.Proofs.Ythjkejbgknemgaa
namespace Go.Proofs.Ythjkejbgknemgaa
open Go.RowKit
def p83_l1 (k : Nat) (j6 : List Int → Option (List Int)) (P4 : List (List Int)) : Nat → Int → List Int → Option (List Int)
 | 0,_,_ => none
 | n9 + 1,x7,L8 => lt' (decide (x7 < (P4.length : Int))) fun b10 => sp b10 (gd ((0 : Int) ≤ x7 ∧ x7 < (P4.length : Int)) <| lt' (List.getD P4 ((x7).toNat) []) fun L12 => lt' (List.getD L8 0 0) fun x13 => lt' (List.getD L12 0 0) fun x14 => lt' (mx x13 x14) fun x15 => lt' (List.getD L8 1 0) fun x16 => lt' (List.getD L12 1 0) fun x17 => lt' (mn x16 x17) fun x18 => lt' (List.set L8 0 x15) fun L19 => lt' (List.set L19 1 x18) fun L20 => lt' (wr .i64 (x7 + (1 : Int))) fun x21 => p83_l1 k j6 P4 n9 x21 L20) (j6 L8)
def p83 (k : Nat) (u0 : List (List Int)) : Option (List Int) :=
 gd ((0 : Int) ≤ (0 : Int) ∧ (0 : Int) < (u0.length : Int)) <| lt' (List.getD u0 0 []) fun L2 => gd ((0 : Int) ≤ (1 : Int) ∧ (0 : Int) ≤ (0 : Int) ∧ ((1 : Int)).toNat ≤ List.length u0 ∧ List.length u0 ≤ List.length u0) <| lt' (part u0 (((1 : Int)).toNat) (u0.length)) fun P4 => jn (fun (L5 : List Int) => some L5) fun j6 => p83_l1 k j6 P4 k (0 : Int) L2
theorem hf83 : Try.prog.funcs[83]? = some Try.f83 := by kernel_rfl
theorem w83 (k : Nat) {M : Mem} {Au0 : Option Addr} {cu0 : Nat} {u0 : List (List Int)} (hu0 : SlR M Au0 cu0 .i64 2 u0) {r} (h : p83 k u0 = some r) :
  Fn Try.prog 83 [rval (.lf (.v (.slice Au0 (u0.length) cu0)))] M (fun x _ => x = .agg [.arr .i64 2 r]) := by
 unfold p83 at h
 refine Fn_of (P:=Try.prog) (fn:=Try.f83) (c:=bodyOf Try.f83) [.lf (.v (.slice Au0 (u0.length) cu0))] hf83 (by kernel_rfl) (Nat.le_of_ble_eq_true (by kernel_rfl)) (args_ok (by kernel_rfl) ⟨trivial,trivial⟩) fun w => ?_
 change T _ _ _ (endQ _ _ _)
 refine T_seq (c1:=(sub [0] Bd83)) (c2:=(sub [1] Bd83)) (by kernel_rfl) ?_
 refine T_region (id:=0) (by kernel_rfl) ?_
 refine TI_segK (i:=0) (j:=1) (s':={ σ := [(0,.lf (.v (.slice Au0 (u0.length) cu0))),(2,.lf (.own 2 0))],H := [(2,[.arr .i64 2 [(0 : Int),(0 : Int)]])],V := [],M := M,ds := [] }) [0,2] [2] [] (by kernel_rfl) (by kernel_rfl) ?_
 refine TI_end (by kernel_rfl) ?_
 refine thenQ_n ?_
 refine T_sq (by kernel_rfl) ?_
 refine T_region (id:=1) (by kernel_rfl) ?_
 refine TI_segS (i:=0) (j:=1) [(0,.lf (.v (.slice Au0 (u0.length) cu0))),(2,.lf (.own 2 0)),(6,.lf (.v (.slice Au0 (u0.length) cu0)))] (by kernel_rfl) (by kernel_rfl) ?_
 obtain ⟨g1,h⟩ := gd_some h
 refine TI_at (i:=1) (d:=7) (x:=.lf (.ep (.slice Au0 (u0.length) cu0) 2 0 0)) (by exact At_idxR (d:=7) (z:=(0 : Int)) (by kernel_rfl) g1 hu0) (by kernel_rfl) trivial ?_
 obtain ⟨L2,e_L2,h⟩ := lt_some h
 have l_L2 : (L2).length = 2 := by rw [e_L2]; exact SlR_row hu0 (toNat_lt g1)
 refine TI_at (i:=2) (d:=8) (x:=.agg [.arr .i64 2 L2]) (by rw [e_L2]; exact At_ldRow (d:=8) (q:=0) (by subst e_L2; kernel_rfl) (toNat_lt g1) hu0) (by kernel_rfl) ⟨l_L2,trivial⟩ ?_
 refine TI_segK (i:=3) (j:=5) (s':={ σ := [(0,.lf (.v (.slice Au0 (u0.length) cu0))),(2,.lf (.own 2 0)),(3,.lf (.own 3 0))],H := [(2,[.arr .i64 2 [(0 : Int),(0 : Int)]]),(3,[.arr .i64 2 L2])],V := [],M := M,ds := [] }) [0,2,3] [2,3] [] (by kernel_rfl) (by kernel_rfl) ?_
 refine TI_end (by kernel_rfl) ?_
 refine thenQ_n ?_
 refine T_sq (by kernel_rfl) ?_
 refine T_sq (by kernel_rfl) ?_
 refine T_region (id:=2) (by kernel_rfl) ?_
 refine TI_segS (i:=0) (j:=1) [(2,.lf (.own 2 0)),(3,.lf (.own 3 0)),(9,.lf (.v (.slice Au0 (u0.length) cu0)))] (by kernel_rfl) (by kernel_rfl) ?_
 obtain ⟨g3,h⟩ := gd_some h
 obtain ⟨P4,e_P4,h⟩ := lt_some h
 refine TI_at (i:=1) (d:=10) (x:=.lf (.v (.slice (cutA Au0 cu0 (((1 : Int)).toNat) 2) (P4.length) (cu0 - ((1 : Int)).toNat)))) (by exact At_slR (d:=10) (a:=(some (1 : Int))) (b:=none) (P:=P4) (by subst e_P4;kernel_rfl) hu0 (some_nn g3.1) none_nn g3.2.2.1 g3.2.2.2 e_P4) (by kernel_rfl) trivial ?_
 refine TI_segK (i:=2) (j:=4) (s':={ σ := [(2,.lf (.own 2 0)),(3,.lf (.own 3 0)),(10,.lf (.v (.slice (cutA Au0 cu0 (((1 : Int)).toNat) 2) (P4.length) (cu0 - ((1 : Int)).toNat)))),(11,vi (P4.length : Int)),(12,vi (0 : Int))],H := [(2,[.arr .i64 2 [(0 : Int),(0 : Int)]]),(3,[.arr .i64 2 L2])],V := [],M := M,ds := [] }) [2,3,10,11,12] [2,3] [] (by kernel_rfl) (by kernel_rfl) ?_
 refine TI_end (by kernel_rfl) ?_
 refine thenQ_n ?_
 obtain ⟨j6,e_j6,h⟩ := jn_some h
 refine T_bcut (id:=0) (c1:=(sub [1,1,0,1,0] Bd83)) (fun s' => ∃ (L5 : List Int),Sub { σ := [(2,.lf (.own 2 0)),(3,.lf (.own 3 0))],H := [(2,[.arr .i64 2 [(0 : Int),(0 : Int)]]),(3,[.arr .i64 2 L5])],V := [],M := M,ds := [] } s' ∧ (L5).length = 2 ∧ j6 L5 = some r) (by kernel_rfl) ?_ ?_
 ·refine T_loop (c1:=(sub [1,1,0,1,0,0] Bd83)) (by kernel_rfl) (fun n9 s' => ∃ (x7 : Int) (L8 : List Int),Sub { σ := [(2,.lf (.own 2 0)),(3,.lf (.own 3 0)),(10,.lf (.v (.slice (cutA Au0 cu0 (((1 : Int)).toNat) 2) (P4.length) (cu0 - ((1 : Int)).toNat)))),(11,vi (P4.length : Int)),(12,vi x7)],H := [(2,[.arr .i64 2 [(0 : Int),(0 : Int)]]),(3,[.arr .i64 2 L8])],V := [],M := M,ds := [] } s' ∧ (L8).length = 2 ∧ p83_l1 k j6 P4 n9 x7 L8 = some r) (k:=k) ⟨(0 : Int),L2,keep_sub (ts:=[2,3,10,11,12]) (hs:=[2,3]) (vs:=[]) (by kernel_rfl),l_L2,h⟩ ?_
  rintro n9 s' ⟨x7,L8,hsub,l_L8,h⟩
  cases n9 with
  | zero => rw [p83_l1] at h;cases h
  | succ n9 =>
   rw [p83_l1] at h
   refine T_sub hsub ?_
   refine T_sq (by kernel_rfl) ?_
   refine T_region (id:=3) (by kernel_rfl) ?_
   obtain ⟨b10,e_b10,h⟩ := lt_some h
   refine TI_segK (i:=0) (j:=1) (s':={ σ := [(2,.lf (.own 2 0)),(3,.lf (.own 3 0)),(10,.lf (.v (.slice (cutA Au0 cu0 (((1 : Int)).toNat) 2) (P4.length) (cu0 - ((1 : Int)).toNat)))),(11,vi (P4.length : Int)),(12,vi x7),(13,vb b10)],H := [(2,[.arr .i64 2 [(0 : Int),(0 : Int)]]),(3,[.arr .i64 2 L8])],V := [],M := M,ds := [] }) [2,3,10,11,12,13] [2,3] [] (by subst e_b10;kernel_rfl) (by kernel_rfl) ?_
   refine TI_end (by kernel_rfl) ?_
   refine thenQ_n ?_
   refine T_sq (by kernel_rfl) ?_
   cases b10 with
   | true =>
    replace h := sp_t h
    refine T_condT (x:=(.tmp 13)) (c1:=(sub [1,1,0,1,0,0,1,0,0] Bd83)) (c2:=(sub [1,1,0,1,0,0,1,0,1] Bd83)) (by kernel_rfl) (by kernel_rfl) ?_
    refine T_keepS [(2,.lf (.own 2 0)),(3,.lf (.own 3 0)),(10,.lf (.v (.slice (cutA Au0 cu0 (((1 : Int)).toNat) 2) (P4.length) (cu0 - ((1 : Int)).toNat)))),(11,vi (P4.length : Int)),(12,vi x7)] (by kernel_rfl) ?_
    refine T_skip (by kernel_rfl) ?_
    refine thenQ_n ?_
    refine T_sq (by kernel_rfl) ?_
    refine T_block (id:=1) (c1:=(sub [1,1,0,1,0,0,1,1,0,0] Bd83)) (by kernel_rfl) ?_
    refine T_sq (by kernel_rfl) ?_
    refine T_region (id:=4) (by kernel_rfl) ?_
    obtain ⟨g11,h⟩ := gd_some h
    refine TI_at (i:=0) (d:=14) (x:=.lf (.ep (.slice (cutA Au0 cu0 (((1 : Int)).toNat) 2) (P4.length) (cu0 - ((1 : Int)).toNat)) 2 ((x7).toNat) 0)) (by exact At_idxR (d:=14) (z:=x7) (by kernel_rfl) g11 (SlR.part hu0 e_P4 g3.2.2.1 g3.2.2.2)) (by kernel_rfl) trivial ?_
    obtain ⟨L12,e_L12,h⟩ := lt_some h
    have l_L12 : (L12).length = 2 := by rw [e_L12]; exact SlR_row (SlR.part hu0 e_P4 g3.2.2.1 g3.2.2.2) (toNat_lt g11)
    refine TI_at (i:=1) (d:=15) (x:=.agg [.arr .i64 2 L12]) (by rw [e_L12]; exact At_ldRow (d:=15) (q:=(x7).toNat) (by subst e_L12; kernel_rfl) (toNat_lt g11) (SlR.part hu0 e_P4 g3.2.2.1 g3.2.2.2)) (by kernel_rfl) ⟨l_L12,trivial⟩ ?_
    refine TI_segK (i:=2) (j:=4) (s':={ σ := [(2,.lf (.own 2 0)),(3,.lf (.own 3 0)),(5,.lf (.own 5 0)),(10,.lf (.v (.slice (cutA Au0 cu0 (((1 : Int)).toNat) 2) (P4.length) (cu0 - ((1 : Int)).toNat)))),(11,vi (P4.length : Int)),(12,vi x7)],H := [(2,[.arr .i64 2 [(0 : Int),(0 : Int)]]),(3,[.arr .i64 2 L8]),(5,[.arr .i64 2 L12])],V := [],M := M,ds := [] }) [2,3,5,10,11,12] [2,3,5] [] (by kernel_rfl) (by kernel_rfl) ?_
    refine TI_end (by kernel_rfl) ?_
    refine thenQ_n ?_
    obtain ⟨x13,e_x13,h⟩ := lt_some h
    obtain ⟨x14,e_x14,h⟩ := lt_some h
    obtain ⟨x15,e_x15,h⟩ := lt_some h
    obtain ⟨x16,e_x16,h⟩ := lt_some h
    obtain ⟨x17,e_x17,h⟩ := lt_some h
    obtain ⟨x18,e_x18,h⟩ := lt_some h
    obtain ⟨L19,e_L19,h⟩ := lt_some h
    have l_L19 : (L19).length = 2 := by rw [e_L19]; exact (by rw [List.length_set]; exact l_L8)
    obtain ⟨L20,e_L20,h⟩ := lt_some h
    have l_L20 : (L20).length = 2 := by rw [e_L20]; exact (by rw [List.length_set]; exact l_L19)
    refine T_draw' (id:=5) [11,13] [0,0,0,0,0,0,0,0,0,0,0,0,1,0] (by kernel_rfl) (by kernel_rfl) (by kernel_rfl) (by kernel_rfl) [(16,.lf (.own 3 0)),(17,vi x13),(18,.lf (.own 5 0)),(19,vi x14),(20,vi x15),(21,.lf (.own 3 1)),(22,vi x16),(23,.lf (.own 5 1)),(24,vi x17),(25,vi x18),(26,.lf (.own 3 0))] (by kernel_rfl) (wfs_lf _ (by kernel_rfl)) ?_
    refine Stage_ex (stage_all' [0,1,2,3,4,5,6,7,8,9,10] [] (by kernel_rfl) (by subst_vars;kernel_rfl) (by kernel_rfl) trivial) ({ σ := [(16,.lf (.own 3 0)),(17,vi x13),(18,.lf (.own 5 0)),(19,vi x14),(20,vi x15),(21,.lf (.own 3 1)),(22,vi x16),(23,.lf (.own 5 1)),(24,vi x17),(25,vi x18),(26,.lf (.own 3 0)),(2,.lf (.own 2 0)),(3,.lf (.own 3 0)),(5,.lf (.own 5 0)),(10,.lf (.v (.slice (cutA Au0 cu0 (((1 : Int)).toNat) 2) (P4.length) (cu0 - ((1 : Int)).toNat)))),(11,vi (P4.length : Int)),(12,vi x7)],H := [(3,[.arr .i64 2 L19]),(2,[.arr .i64 2 [(0 : Int),(0 : Int)]]),(3,[.arr .i64 2 L8]),(5,[.arr .i64 2 L12])],V := [],M := M,ds := [] }) (by subst_vars;kernel_rfl) [(27,.lf (.own 3 1))] (by kernel_rfl) ⟨trivial,trivial⟩ ?_
    refine Stage_ex (stage_all' [7,8,9,12] [] (by kernel_rfl) (by subst_vars;kernel_rfl) (by kernel_rfl) trivial) ({ σ := [(27,.lf (.own 3 1)),(16,.lf (.own 3 0)),(17,vi x13),(18,.lf (.own 5 0)),(19,vi x14),(20,vi x15),(21,.lf (.own 3 1)),(22,vi x16),(23,.lf (.own 5 1)),(24,vi x17),(25,vi x18),(26,.lf (.own 3 0)),(2,.lf (.own 2 0)),(3,.lf (.own 3 0)),(5,.lf (.own 5 0)),(10,.lf (.v (.slice (cutA Au0 cu0 (((1 : Int)).toNat) 2) (P4.length) (cu0 - ((1 : Int)).toNat)))),(11,vi (P4.length : Int)),(12,vi x7)],H := [(3,[.arr .i64 2 L20]),(3,[.arr .i64 2 L19]),(2,[.arr .i64 2 [(0 : Int),(0 : Int)]]),(3,[.arr .i64 2 L8]),(5,[.arr .i64 2 L12])],V := [],M := M,ds := [] }) (by subst_vars;kernel_rfl) [] (by kernel_rfl) trivial ?_
    refine Stage_nil (stage_all' [] [] (by kernel_rfl) (by subst_vars;kernel_rfl) (by kernel_rfl) trivial) ?_
    refine blockQ_n ?_
    refine thenQ_n ?_
    refine T_keep (s':={ σ := [(2,.lf (.own 2 0)),(3,.lf (.own 3 0)),(10,.lf (.v (.slice (cutA Au0 cu0 (((1 : Int)).toNat) 2) (P4.length) (cu0 - ((1 : Int)).toNat)))),(11,vi (P4.length : Int)),(12,vi x7)],H := [(2,[.arr .i64 2 [(0 : Int),(0 : Int)]]),(3,[.arr .i64 2 L20])],V := [],M := M,ds := [] }) [2,3,10,11,12] [2,3] [] (by subst_vars;kernel_rfl) ?_
    refine T_region (id:=6) (by kernel_rfl) ?_
    obtain ⟨x21,e_x21,h⟩ := lt_some h
    refine TI_segS (i:=0) (j:=2) [(2,.lf (.own 2 0)),(3,.lf (.own 3 0)),(10,.lf (.v (.slice (cutA Au0 cu0 (((1 : Int)).toNat) 2) (P4.length) (cu0 - ((1 : Int)).toNat)))),(11,vi (P4.length : Int)),(12,vi x21)] (by subst e_x21;kernel_rfl) (by kernel_rfl) ?_
    refine TI_end (by kernel_rfl) ?_
    refine thenQ_n ?_
    exact ⟨n9,Nat.lt_succ_self _,x21,L20,keep_sub (ts:=[2,3,10,11,12]) (hs:=[2,3]) (vs:=[]) (by kernel_rfl),l_L20,h⟩
   | false =>
    replace h := sp_f h
    refine T_condF (x:=(.tmp 13)) (c1:=(sub [1,1,0,1,0,0,1,0,0] Bd83)) (c2:=(sub [1,1,0,1,0,0,1,0,1] Bd83)) (by kernel_rfl) (by kernel_rfl) ?_
    refine T_keepS [(2,.lf (.own 2 0)),(3,.lf (.own 3 0))] (by kernel_rfl) ?_
    refine T_exit (id:=0) (by kernel_rfl) ?_
    refine thenQ_x ?_
    refine thenQ_x ?_
    refine blockQ_x ?_
    refine thenQ_n ?_
    exact ⟨L8,keep_sub (ts:=[2,3]) (hs:=[2,3]) (vs:=[]) (by kernel_rfl),l_L8,h⟩
 ·rintro s' ⟨L5,hsub,l_L5,h⟩
  subst e_j6
  refine thenQ_n ?_
  refine T_sub hsub ?_
  refine T_sq (by kernel_rfl) ?_
  refine T_region (id:=7) (by kernel_rfl) ?_
  refine TI_segK (i:=0) (j:=2) (s':={ σ := [(2,.lf (.own 2 0))],H := [(2,[.arr .i64 2 L5])],V := [],M := M,ds := [] }) [2] [2] [] (by kernel_rfl) (by kernel_rfl) ?_
  refine TI_end (by kernel_rfl) ?_
  refine thenQ_n ?_
  refine T_ret (by kernel_rfl) ?_
  have h := Option.some.inj h
  subst h
  refine fin_ret (.agg [.arr .i64 2 L5]) (by kernel_rfl) (by kernel_rfl) rfl ?_
  rfl
def p40 (k : Nat) : Option (List (List Int) × List Int) :=
 some ([[(100 : Int),(0 : Int),(10 : Int),(5 : Int),(5 : Int),(0 : Int),(0 : Int),(0 : Int),(0 : Int),(0 : Int),(0 : Int)],[(104 : Int),(90 : Int),(100 : Int),(9 : Int),(9 : Int),(0 : Int),(0 : Int),(0 : Int),(0 : Int),(0 : Int),(0 : Int)]],[(2 : Int),(0 : Int),(0 : Int),(0 : Int)])
theorem hf40 : Try.prog.funcs[40]? = some Try.f40 := by kernel_rfl
theorem w40 (k : Nat) {M : Mem} {r} (h : p40 k = some r) :
  Fn Try.prog 40 [] M (fun x M' => ∃ (A1 : Option Addr) (c2 : Nat),x = .agg [.one (.v (.slice A1 (List.length r.1) c2)),.arr .i64 4 r.2] ∧ SlR M' A1 c2 .i64 11 r.1) := by
 unfold p40 at h
 refine Fn_of (P:=Try.prog) (fn:=Try.f40) (c:=bodyOf Try.f40) [] hf40 (by kernel_rfl) (Nat.le_of_ble_eq_true (by kernel_rfl)) (args_ok (by kernel_rfl) trivial) fun w => ?_
 change T _ _ _ (endQ _ _ _)
 refine T_seq (c1:=(sub [0] Bd40)) (c2:=(sub [1] Bd40)) (by kernel_rfl) ?_
 refine T_region (id:=0) (by kernel_rfl) ?_
 refine TI_segK (i:=0) (j:=1) (s':={ σ := [(0,.lf (.own 0 0))],H := [(0,[.one (.v (.slice none (List.length ([] : List (List Int))) 0)),.arr .i64 4 [(0 : Int),(0 : Int),(0 : Int),(0 : Int)]])],V := [],M := M,ds := [] }) [0] [0] [] (by kernel_rfl) (by kernel_rfl) ?_
 refine TI_end (by kernel_rfl) ?_
 refine thenQ_n ?_
 refine T_sq (by kernel_rfl) ?_
 refine T_region (id:=1) (by kernel_rfl) ?_
 refine TI_segS (i:=0) (j:=9) [(0,.lf (.own 0 0)),(1,.agg [.arr .i64 4 [(2 : Int),(0 : Int),(0 : Int),(0 : Int)]]),(5,.agg [.arr .i64 11 [(100 : Int),(0 : Int),(10 : Int),(5 : Int),(5 : Int),(0 : Int),(0 : Int),(0 : Int),(0 : Int),(0 : Int),(0 : Int)]]),(9,.agg [.arr .i64 11 [(104 : Int),(90 : Int),(100 : Int),(9 : Int),(9 : Int),(0 : Int),(0 : Int),(0 : Int),(0 : Int),(0 : Int),(0 : Int)]])] (by kernel_rfl) (by kernel_rfl) ?_
 refine TI_of (i:=9) (by kernel_rfl) (TE_litC (d:=10) (e:=43) (sz:=11) (len:=2) (cs:=rowsC .i64 ([[(100 : Int),(0 : Int),(10 : Int),(5 : Int),(5 : Int),(0 : Int),(0 : Int),(0 : Int),(0 : Int),(0 : Int),(0 : Int)],[(104 : Int),(90 : Int),(100 : Int),(9 : Int),(9 : Int),(0 : Int),(0 : Int),(0 : Int),(0 : Int),(0 : Int),(0 : Int)]])) (by kernel_rfl) (by kernel_rfl) (by kernel_rfl) ?_)
 refine TI_segK (i:=10) (j:=12) (s':={ σ := [(0,.lf (.own 0 0))],H := [(0,[.one (.vec 10),.arr .i64 4 [(2 : Int),(0 : Int),(0 : Int),(0 : Int)]])],V := [(10,⟨43,11,List.length ([[(100 : Int),(0 : Int),(10 : Int),(5 : Int),(5 : Int),(0 : Int),(0 : Int),(0 : Int),(0 : Int),(0 : Int),(0 : Int)],[(104 : Int),(90 : Int),(100 : Int),(9 : Int),(9 : Int),(0 : Int),(0 : Int),(0 : Int),(0 : Int),(0 : Int),(0 : Int)]]),rowsC .i64 ([[(100 : Int),(0 : Int),(10 : Int),(5 : Int),(5 : Int),(0 : Int),(0 : Int),(0 : Int),(0 : Int),(0 : Int),(0 : Int)],[(104 : Int),(90 : Int),(100 : Int),(9 : Int),(9 : Int),(0 : Int),(0 : Int),(0 : Int),(0 : Int),(0 : Int),(0 : Int)]])⟩)],M := M,ds := [] }) [0] [0] [10] (by kernel_rfl) (by kernel_rfl) ?_
 refine TI_end (by kernel_rfl) ?_
 refine thenQ_n ?_
 refine T_turn (turn_pubV 10 (v:=⟨43,11,List.length ([[(100 : Int),(0 : Int),(10 : Int),(5 : Int),(5 : Int),(0 : Int),(0 : Int),(0 : Int),(0 : Int),(0 : Int),(0 : Int)],[(104 : Int),(90 : Int),(100 : Int),(9 : Int),(9 : Int),(0 : Int),(0 : Int),(0 : Int),(0 : Int),(0 : Int),(0 : Int)]]),rowsC .i64 ([[(100 : Int),(0 : Int),(10 : Int),(5 : Int),(5 : Int),(0 : Int),(0 : Int),(0 : Int),(0 : Int),(0 : Int),(0 : Int)],[(104 : Int),(90 : Int),(100 : Int),(9 : Int),(9 : Int),(0 : Int),(0 : Int),(0 : Int),(0 : Int),(0 : Int),(0 : Int)]])⟩) (by kernel_rfl)) ?_
 rintro _ ⟨A3,c4,M5,rfl,hSA3,hcA3,-,hNA3,hM5⟩
 have fA3 : SlR M5 A3 c4 .i64 11 ([[(100 : Int),(0 : Int),(10 : Int),(5 : Int),(5 : Int),(0 : Int),(0 : Int),(0 : Int),(0 : Int),(0 : Int),(0 : Int)],[(104 : Int),(90 : Int),(100 : Int),(9 : Int),(9 : Int),(0 : Int),(0 : Int),(0 : Int),(0 : Int),(0 : Int),(0 : Int)]]) := ⟨(rows_cons rfl (rows_cons rfl rows_nil)),hSA3,hcA3⟩
 refine T_keep (s':={ σ := [(0,.lf (.own 0 0))],H := [(0,[.one (.v (.slice A3 (List.length ([[(100 : Int),(0 : Int),(10 : Int),(5 : Int),(5 : Int),(0 : Int),(0 : Int),(0 : Int),(0 : Int),(0 : Int),(0 : Int)],[(104 : Int),(90 : Int),(100 : Int),(9 : Int),(9 : Int),(0 : Int),(0 : Int),(0 : Int),(0 : Int),(0 : Int),(0 : Int)]])) c4)),.arr .i64 4 [(2 : Int),(0 : Int),(0 : Int),(0 : Int)]])],V := [],M := M5,ds := [] }) [0] [0] [] (by kernel_rfl) ?_
 refine T_ret (by kernel_rfl) ?_
 have h := Option.some.inj h
 subst h
 refine fin_ret (.agg [.one (.v (.slice A3 (List.length ([[(100 : Int),(0 : Int),(10 : Int),(5 : Int),(5 : Int),(0 : Int),(0 : Int),(0 : Int),(0 : Int),(0 : Int),(0 : Int)],[(104 : Int),(90 : Int),(100 : Int),(9 : Int),(9 : Int),(0 : Int),(0 : Int),(0 : Int),(0 : Int),(0 : Int),(0 : Int)]])) c4)),.arr .i64 4 [(2 : Int),(0 : Int),(0 : Int),(0 : Int)]]) (by kernel_rfl) (by kernel_rfl) rfl ?_
 exact ⟨A3,c4,rfl,fA3⟩
end Go.Proofs.Ythjkejbgknemgaa
namespace Go.Proofs.Ythjkejbgknemgaa
open Go.RowKit
def p13_l2 (k : Nat) (u0_0 : List (List Int)) (u0_1 : List Int) (u1 : List Int) (x14 : Int) (R16 : List (List Int)) (j22 : List Int → Option (List Int × List (List Int))) : Nat → Int → List Int → Option (List Int × List (List Int))
 | 0,_,_ => none
 | n25 + 1,x23,L24 => lt' (decide (x23 < (4 : Int))) fun b26 => sp b26 (cl (p17 k u0_0 u0_1 x14 x23) fun v27 => gd ((v27).length = 2) <| jn (fun (L29 : List Int) => lt' (wr .i64 ((5 : Int) * x14)) fun x52 => lt' (wr .i64 (x52 + x23)) fun x53 => cl (p42 k u1 x53) fun v54 => cl (p41 k L29 v54) fun v55 => gd ((0 : Int) ≤ x23 ∧ x23 < ((4 : Nat) : Int)) <| lt' (List.take (0 + (x23).toNat * 1) L24 ++ (v55::[]) ++ List.drop (0 + (x23).toNat * 1 + 1) L24) fun L57 => lt' (wr .i64 (x23 + (1 : Int))) fun x58 => p13_l2 k u0_0 u0_1 u1 x14 R16 j22 n25 x58 L57) fun j30 => lt' (decide (x14 > (0 : Int))) fun b31 => sp b31 (lt' (List.getD v27 0 0) fun x32 => lt' (wr .i64 (x14 - (1 : Int))) fun x33 => gd ((0 : Int) ≤ x33 ∧ x33 < (R16.length : Int)) <| gd ((0 : Int) ≤ x23 ∧ x23 < ((4 : Nat) : Int)) <| lt' (List.getD (List.getD R16 ((x33).toNat) []) (0 + (x23).toNat * 1) 0) fun x36 => gd ((0 : Int) ≤ x23 ∧ x23 < ((4 : Nat) : Int)) <| lt' (List.getD u0_1 (0 + (x23).toNat * 1) 0) fun x38 => lt' (wr .i64 (x36 - x38)) fun x39 => lt' (mx x32 x39) fun x40 => lt' (List.set v27 0 x40) fun L41 => lt' (List.getD L41 1 0) fun x42 => lt' (wr .i64 (x14 - (1 : Int))) fun x43 => gd ((0 : Int) ≤ x43 ∧ x43 < (R16.length : Int)) <| gd ((0 : Int) ≤ x23 ∧ x23 < ((4 : Nat) : Int)) <| lt' (List.getD (List.getD R16 ((x43).toNat) []) (0 + (x23).toNat * 1) 0) fun x46 => gd ((0 : Int) ≤ x23 ∧ x23 < ((4 : Nat) : Int)) <| lt' (List.getD u0_1 (0 + (x23).toNat * 1) 0) fun x48 => lt' (wr .i64 (x46 + x48)) fun x49 => lt' (mn x42 x49) fun x50 => lt' (List.set L41 1 x50) fun L51 => j30 L51) (j30 v27)) (j22 L24)
def p13_l1 (k : Nat) (u0_0 : List (List Int)) (u0_1 : List Int) (u1 : List Int) (j13 : List Int → List (List Int) → Option (List Int × List (List Int))) (v7 : Int) : Nat → Int → List Int → List (List Int) → Option (List Int × List (List Int))
 | 0,_,_,_ => none
 | n17 + 1,x14,L15,R16 => lt' (decide (x14 < v7)) fun b18 => sp b18 (cl (p16 k u0_0 u0_1 x14) fun v19 => gd ((v19).length = 2) <| jn (fun (L21 : List Int) => jn (fun (L59 : List Int) => lt' (wr .i64 ((5 : Int) * x14)) fun x68 => lt' (wr .i64 (x68 + (4 : Int))) fun x69 => cl (p42 k u1 x69) fun v70 => cl (p41 k L59 v70) fun v71 => gd ((L15.length + List.length ([v71])) * 8 ≤ 140737488355328) <| lt' (L15 ++ ([v71])) fun W73 => gd ((R16.length + List.length ([L21])) * 32 ≤ 140737488355328) <| lt' (R16 ++ ([L21])) fun W75 => lt' (wr .i64 (x14 + (1 : Int))) fun x76 => p13_l1 k u0_0 u0_1 u1 j13 v7 n17 x76 W73 W75) fun j60 => lt' (decide (x14 > (0 : Int))) fun b61 => sp b61 (lt' (List.getD v19 0 0) fun x62 => lt' (wr .i64 (x14 - (1 : Int))) fun x63 => gd ((0 : Int) ≤ x63 ∧ x63 < (L15.length : Int)) <| lt' (List.getD L15 ((x63).toNat) 0) fun x65 => lt' (mx x62 x65) fun x66 => lt' (List.set v19 0 x66) fun L67 => j60 L67) (j60 v19)) fun j22 => p13_l2 k u0_0 u0_1 u1 x14 R16 j22 k (0 : Int) ([(0 : Int),(0 : Int),(0 : Int),(0 : Int)])) (j13 L15 R16)
def p13 (k : Nat) (u0_0 : List (List Int)) (u0_1 : List Int) (u1 : List Int) : Option (List Int × List (List Int)) :=
 cl2 (p30 k u0_0 u0_1) fun v7 v8 => jn (fun (L11 : List Int) (R12 : List (List Int)) => some (L11,R12)) fun j13 => p13_l1 k u0_0 u0_1 u1 j13 v7 k (0 : Int) ([] : List Int) ([] : List (List Int))
theorem hf13 : Try.prog.funcs[13]? = some Try.f13 := by kernel_rfl
theorem w13 (k : Nat) {M : Mem} {Au0_0 : Option Addr} {cu0_0 : Nat} {Au1 : Option Addr} {cu1 : Nat} {u0_0 : List (List Int)} {u0_1 : List Int} {u1 : List Int} (hu0_0 : SlR M Au0_0 cu0_0 .i64 11 u0_0) (hu0_1 : u0_1.length = 4) (hu1 : SlI M Au1 cu1 .u8 u1) {r} (h : p13 k u0_0 u0_1 u1 = some r) :
  Fn Try.prog 13 [rval (.agg [.one (.v (.slice Au0_0 (u0_0.length) cu0_0)),.arr .i64 4 u0_1]),rval (.lf (.v (.slice Au1 (u1.length) cu1)))] M (fun x M' => ∃ (A1 : Option Addr) (c2 : Nat) (A3 : Option Addr) (c4 : Nat),x = .agg [.one (.v (.slice A1 (List.length r.1) c2)),.one (.v (.slice A3 (List.length r.2) c4))] ∧ SlI M' A1 c2 .i64 r.1 ∧ SlR M' A3 c4 .i64 4 r.2) := by
 unfold p13 at h
 refine Fn_of (P:=Try.prog) (fn:=Try.f13) (c:=bodyOf Try.f13) [.agg [.one (.v (.slice Au0_0 (u0_0.length) cu0_0)),.arr .i64 4 u0_1],.lf (.v (.slice Au1 (u1.length) cu1))] hf13 (by kernel_rfl) (Nat.le_of_ble_eq_true (by kernel_rfl)) (args_ok (by kernel_rfl) ⟨⟨rfl,⟨hu0_1,trivial⟩⟩,⟨trivial,trivial⟩⟩) fun w => ?_
 change T _ _ _ (endQ _ _ _)
 refine T_seq (c1:=(sub [0] Bd13)) (c2:=(sub [1] Bd13)) (by kernel_rfl) ?_
 refine T_region (id:=0) (by kernel_rfl) ?_
 refine TI_segK (i:=0) (j:=2) (s':={ σ := [(1,.lf (.v (.slice Au1 (u1.length) cu1))),(2,.lf (.own 2 0)),(4,.lf (.own 4 0))],H := [(2,[.one (.v (.slice Au0_0 (u0_0.length) cu0_0)),.arr .i64 4 u0_1]),(4,[.one (.v (.slice none (List.length ([] : List Int)) 0)),.one (.v (.slice none (List.length ([] : List (List Int))) 0))])],V := [],M := M,ds := [] }) [1,2,4] [2,4] [] (by kernel_rfl) (by kernel_rfl) ?_
 refine TI_end (by kernel_rfl) ?_
 refine thenQ_n ?_
 refine T_turn (turn_nil 5005 2 1 [(1,.lf (.v (.slice Au1 (u1.length) cu1))),(2,.lf (.own 2 0)),(4,.lf (.own 4 0))] [(2,[.one (.v (.slice Au0_0 (u0_0.length) cu0_0)),.arr .i64 4 u0_1]),(4,[.one (.vec 5005),.one (.v (.slice none (List.length ([] : List (List Int))) 0))])] (by kernel_rfl) (by kernel_rfl) (by kernel_rfl)) ?_
 rintro _ rfl
 refine T_turn (turn_nil 5006 23 4 [(1,.lf (.v (.slice Au1 (u1.length) cu1))),(2,.lf (.own 2 0)),(4,.lf (.own 4 0))] [(2,[.one (.v (.slice Au0_0 (u0_0.length) cu0_0)),.arr .i64 4 u0_1]),(4,[.one (.vec 5005),.one (.vec 5006)])] (by kernel_rfl) (by kernel_rfl) (by kernel_rfl)) ?_
 rintro _ rfl
 refine T_keep (s':={ σ := [(1,.lf (.v (.slice Au1 (u1.length) cu1))),(2,.lf (.own 2 0)),(4,.lf (.own 4 0))],H := [(2,[.one (.v (.slice Au0_0 (u0_0.length) cu0_0)),.arr .i64 4 u0_1]),(4,[.one (.vec 5005),.one (.vec 5006)])],V := [(5005,⟨2,1,List.length ([] : List Int),ints .i64 ([] : List Int)⟩),(5006,⟨23,4,List.length ([] : List (List Int)),rowsC .i64 ([] : List (List Int))⟩)],M := M,ds := [] }) [1,2,4] [2,4] [5005,5006] (by kernel_rfl) ?_
 refine T_sq (by kernel_rfl) ?_
 refine T_region (id:=1) (by kernel_rfl) ?_
 refine TI_segS (i:=0) (j:=1) [(1,.lf (.v (.slice Au1 (u1.length) cu1))),(2,.lf (.own 2 0)),(4,.lf (.own 4 0)),(14,.agg [.one (.v (.slice Au0_0 (u0_0.length) cu0_0)),.arr .i64 4 u0_1])] (by kernel_rfl) (by kernel_rfl) ?_
 obtain ⟨v7,v8,c_v7,h⟩ := cl2_some h
 refine TI_at (i:=1) (d:=15) (x:=.tup [(some (.v (.int .i64 v7)),[]),(some (.v (.int .i64 v8)),[])]) (At_call (d:=15) (f:=30) (args:=[rval (.agg [.one (.v (.slice Au0_0 (u0_0.length) cu0_0)),.arr .i64 4 u0_1])]) (x:=.tup [(some (.v (.int .i64 v7)),[]),(some (.v (.int .i64 v8)),[])]) (by kernel_rfl) (w30 k hu0_0 hu0_1 c_v7)) (by kernel_rfl) (by intro y hy; simp only [List.mem_cons,List.mem_nil_iff,or_false] at hy; rcases hy with rfl | rfl <;> exact trivial) ?_
 refine TI_segK (i:=2) (j:=7) (s':={ σ := [(1,.lf (.v (.slice Au1 (u1.length) cu1))),(2,.lf (.own 2 0)),(4,.lf (.own 4 0)),(5,vi v7)],H := [(2,[.one (.v (.slice Au0_0 (u0_0.length) cu0_0)),.arr .i64 4 u0_1]),(4,[.one (.vec 5005),.one (.vec 5006)])],V := [(5005,⟨2,1,List.length ([] : List Int),ints .i64 ([] : List Int)⟩),(5006,⟨23,4,List.length ([] : List (List Int)),rowsC .i64 ([] : List (List Int))⟩)],M := M,ds := [] }) [1,2,4,5] [2,4] [5005,5006] (by kernel_rfl) (by kernel_rfl) ?_
 refine TI_end (by kernel_rfl) ?_
 refine thenQ_n ?_
 refine T_sq (by kernel_rfl) ?_
 refine T_region (id:=2) (by kernel_rfl) ?_
 refine TI_segK (i:=0) (j:=1) (s':={ σ := [(1,.lf (.v (.slice Au1 (u1.length) cu1))),(2,.lf (.own 2 0)),(4,.lf (.own 4 0)),(5,vi v7),(7,.lf (.own 7 0))],H := [(2,[.one (.v (.slice Au0_0 (u0_0.length) cu0_0)),.arr .i64 4 u0_1]),(4,[.one (.vec 5005),.one (.vec 5006)]),(7,[.one (.v (.slice none (List.length ([] : List Int)) 0)),.one (.v (.slice none (List.length ([] : List (List Int))) 0))])],V := [(5005,⟨2,1,List.length ([] : List Int),ints .i64 ([] : List Int)⟩),(5006,⟨23,4,List.length ([] : List (List Int)),rowsC .i64 ([] : List (List Int))⟩)],M := M,ds := [] }) [1,2,4,5,7] [2,4,7] [5005,5006] (by kernel_rfl) (by kernel_rfl) ?_
 refine TI_end (by kernel_rfl) ?_
 refine thenQ_n ?_
 refine T_turn (turn_nil 5009 2 1 [(1,.lf (.v (.slice Au1 (u1.length) cu1))),(2,.lf (.own 2 0)),(4,.lf (.own 4 0)),(5,vi v7),(7,.lf (.own 7 0))] [(2,[.one (.v (.slice Au0_0 (u0_0.length) cu0_0)),.arr .i64 4 u0_1]),(4,[.one (.vec 5005),.one (.vec 5006)]),(7,[.one (.vec 5009),.one (.v (.slice none (List.length ([] : List (List Int))) 0))])] (by kernel_rfl) (by kernel_rfl) (by kernel_rfl)) ?_
 rintro _ rfl
 refine T_turn (turn_nil 5010 23 4 [(1,.lf (.v (.slice Au1 (u1.length) cu1))),(2,.lf (.own 2 0)),(4,.lf (.own 4 0)),(5,vi v7),(7,.lf (.own 7 0))] [(2,[.one (.v (.slice Au0_0 (u0_0.length) cu0_0)),.arr .i64 4 u0_1]),(4,[.one (.vec 5005),.one (.vec 5006)]),(7,[.one (.vec 5009),.one (.vec 5010)])] (by kernel_rfl) (by kernel_rfl) (by kernel_rfl)) ?_
 rintro _ rfl
 refine T_keep (s':={ σ := [(1,.lf (.v (.slice Au1 (u1.length) cu1))),(2,.lf (.own 2 0)),(4,.lf (.own 4 0)),(5,vi v7),(7,.lf (.own 7 0))],H := [(2,[.one (.v (.slice Au0_0 (u0_0.length) cu0_0)),.arr .i64 4 u0_1]),(4,[.one (.vec 5005),.one (.vec 5006)]),(7,[.one (.vec 5009),.one (.vec 5010)])],V := [(5005,⟨2,1,List.length ([] : List Int),ints .i64 ([] : List Int)⟩),(5006,⟨23,4,List.length ([] : List (List Int)),rowsC .i64 ([] : List (List Int))⟩),(5009,⟨2,1,List.length ([] : List Int),ints .i64 ([] : List Int)⟩),(5010,⟨23,4,List.length ([] : List (List Int)),rowsC .i64 ([] : List (List Int))⟩)],M := M,ds := [] }) [1,2,4,5,7] [2,4,7] [5005,5006,5009,5010] (by kernel_rfl) ?_
 refine T_sq (by kernel_rfl) ?_
 refine T_sq (by kernel_rfl) ?_
 refine T_region (id:=3) (by kernel_rfl) ?_
 refine TI_segS (i:=0) (j:=1) [(1,.lf (.v (.slice Au1 (u1.length) cu1))),(2,.lf (.own 2 0)),(4,.lf (.own 4 0)),(5,vi v7),(7,.lf (.own 7 0)),(8,vi (0 : Int))] (by kernel_rfl) (by kernel_rfl) ?_
 refine TI_end (by kernel_rfl) ?_
 refine thenQ_n ?_
 obtain ⟨j13,e_j13,h⟩ := jn_some h
 refine T_bcut (id:=0) (c1:=(sub [1,1,1,0,1,0] Bd13)) (fun s' => ∃ (L11 : List Int) (R12 : List (List Int)),Sub { σ := [(4,.lf (.own 4 0)),(7,.lf (.own 7 0))],H := [(4,[.one (.vec 5005),.one (.vec 5006)]),(7,[.one (.vec 5009),.one (.vec 5010)])],V := [(5005,⟨2,1,List.length ([] : List Int),ints .i64 ([] : List Int)⟩),(5006,⟨23,4,List.length ([] : List (List Int)),rowsC .i64 ([] : List (List Int))⟩),(5009,⟨2,1,List.length L11,ints .i64 L11⟩),(5010,⟨23,4,List.length R12,rowsC .i64 R12⟩)],M := M,ds := [] } s' ∧ (∀ r ∈ R12,r.length = 4) ∧ j13 L11 R12 = some r) (by kernel_rfl) ?_ ?_
 ·refine T_loop (c1:=(sub [1,1,1,0,1,0,0] Bd13)) (by kernel_rfl) (fun n17 s' => ∃ (x14 : Int) (L15 : List Int) (R16 : List (List Int)),Sub { σ := [(1,.lf (.v (.slice Au1 (u1.length) cu1))),(2,.lf (.own 2 0)),(4,.lf (.own 4 0)),(5,vi v7),(7,.lf (.own 7 0)),(8,vi x14)],H := [(2,[.one (.v (.slice Au0_0 (u0_0.length) cu0_0)),.arr .i64 4 u0_1]),(4,[.one (.vec 5005),.one (.vec 5006)]),(7,[.one (.vec 5009),.one (.vec 5010)])],V := [(5005,⟨2,1,List.length ([] : List Int),ints .i64 ([] : List Int)⟩),(5006,⟨23,4,List.length ([] : List (List Int)),rowsC .i64 ([] : List (List Int))⟩),(5009,⟨2,1,List.length L15,ints .i64 L15⟩),(5010,⟨23,4,List.length R16,rowsC .i64 R16⟩)],M := M,ds := [] } s' ∧ (∀ r ∈ R16,r.length = 4) ∧ p13_l1 k u0_0 u0_1 u1 j13 v7 n17 x14 L15 R16 = some r) (k:=k) ⟨(0 : Int),([] : List Int),([] : List (List Int)),keep_sub (ts:=[1,2,4,5,7,8]) (hs:=[2,4,7]) (vs:=[5005,5006,5009,5010]) (by kernel_rfl),rows_nil,h⟩ ?_
  rintro n17 s' ⟨x14,L15,R16,hsub,r_R16,h⟩
  cases n17 with
  | zero => rw [p13_l1] at h;cases h
  | succ n17 =>
   rw [p13_l1] at h
   refine T_sub hsub ?_
   refine T_sq (by kernel_rfl) ?_
   refine T_sq (by kernel_rfl) ?_
   refine T_region (id:=4) (by kernel_rfl) ?_
   obtain ⟨b18,e_b18,h⟩ := lt_some h
   refine TI_segK (i:=0) (j:=3) (s':={ σ := [(1,.lf (.v (.slice Au1 (u1.length) cu1))),(2,.lf (.own 2 0)),(4,.lf (.own 4 0)),(5,vi v7),(7,.lf (.own 7 0)),(8,vi x14),(20,vb b18)],H := [(2,[.one (.v (.slice Au0_0 (u0_0.length) cu0_0)),.arr .i64 4 u0_1]),(4,[.one (.vec 5005),.one (.vec 5006)]),(7,[.one (.vec 5009),.one (.vec 5010)])],V := [(5005,⟨2,1,List.length ([] : List Int),ints .i64 ([] : List Int)⟩),(5006,⟨23,4,List.length ([] : List (List Int)),rowsC .i64 ([] : List (List Int))⟩),(5009,⟨2,1,List.length L15,ints .i64 L15⟩),(5010,⟨23,4,List.length R16,rowsC .i64 R16⟩)],M := M,ds := [] }) [1,2,4,5,7,8,20] [2,4,7] [5005,5006,5009,5010] (by subst e_b18;kernel_rfl) (by kernel_rfl) ?_
   refine TI_end (by kernel_rfl) ?_
   refine thenQ_n ?_
   cases b18 with
   | true =>
    replace h := sp_t h
    refine T_condT (x:=(.tmp 20)) (c1:=(sub [1,1,1,0,1,0,0,0,1,0] Bd13)) (c2:=(sub [1,1,1,0,1,0,0,0,1,1] Bd13)) (by kernel_rfl) (by kernel_rfl) ?_
    refine T_keepS [(1,.lf (.v (.slice Au1 (u1.length) cu1))),(2,.lf (.own 2 0)),(4,.lf (.own 4 0)),(5,vi v7),(7,.lf (.own 7 0)),(8,vi x14)] (by kernel_rfl) ?_
    refine T_skip (by kernel_rfl) ?_
    refine thenQ_n ?_
    refine T_sq (by kernel_rfl) ?_
    refine T_block (id:=1) (c1:=(sub [1,1,1,0,1,0,0,1,0,0] Bd13)) (by kernel_rfl) ?_
    refine T_sq (by kernel_rfl) ?_
    refine T_region (id:=6) (by kernel_rfl) ?_
    refine TI_segS (i:=0) (j:=2) [(1,.lf (.v (.slice Au1 (u1.length) cu1))),(2,.lf (.own 2 0)),(4,.lf (.own 4 0)),(5,vi v7),(7,.lf (.own 7 0)),(8,vi x14),(23,.agg [.one (.v (.slice Au0_0 (u0_0.length) cu0_0)),.arr .i64 4 u0_1]),(24,vi x14)] (by kernel_rfl) (by kernel_rfl) ?_
    obtain ⟨v19,c_v19,h⟩ := cl_some h
    obtain ⟨g20,h⟩ := gd_some h
    refine TI_at (i:=2) (d:=25) (x:=.agg [.arr .i64 2 v19]) (At_call (d:=25) (f:=16) (args:=[rval (.agg [.one (.v (.slice Au0_0 (u0_0.length) cu0_0)),.arr .i64 4 u0_1]),rval (vi x14)]) (x:=.agg [.arr .i64 2 v19]) (by kernel_rfl) (w16 k hu0_0 hu0_1 c_v19)) (by kernel_rfl) ⟨g20,trivial⟩ ?_
    refine TI_segK (i:=3) (j:=5) (s':={ σ := [(1,.lf (.v (.slice Au1 (u1.length) cu1))),(2,.lf (.own 2 0)),(4,.lf (.own 4 0)),(5,vi v7),(7,.lf (.own 7 0)),(8,vi x14),(9,.lf (.own 9 0))],H := [(2,[.one (.v (.slice Au0_0 (u0_0.length) cu0_0)),.arr .i64 4 u0_1]),(4,[.one (.vec 5005),.one (.vec 5006)]),(7,[.one (.vec 5009),.one (.vec 5010)]),(9,[.arr .i64 2 v19])],V := [(5005,⟨2,1,List.length ([] : List Int),ints .i64 ([] : List Int)⟩),(5006,⟨23,4,List.length ([] : List (List Int)),rowsC .i64 ([] : List (List Int))⟩),(5009,⟨2,1,List.length L15,ints .i64 L15⟩),(5010,⟨23,4,List.length R16,rowsC .i64 R16⟩)],M := M,ds := [] }) [1,2,4,5,7,8,9] [2,4,7,9] [5005,5006,5009,5010] (by kernel_rfl) (by kernel_rfl) ?_
    refine TI_end (by kernel_rfl) ?_
    refine thenQ_n ?_
    refine T_sq (by kernel_rfl) ?_
    refine T_region (id:=7) (by kernel_rfl) ?_
    refine TI_segK (i:=0) (j:=1) (s':={ σ := [(1,.lf (.v (.slice Au1 (u1.length) cu1))),(2,.lf (.own 2 0)),(4,.lf (.own 4 0)),(5,vi v7),(7,.lf (.own 7 0)),(8,vi x14),(9,.lf (.own 9 0)),(10,.lf (.own 10 0))],H := [(2,[.one (.v (.slice Au0_0 (u0_0.length) cu0_0)),.arr .i64 4 u0_1]),(4,[.one (.vec 5005),.one (.vec 5006)]),(7,[.one (.vec 5009),.one (.vec 5010)]),(9,[.arr .i64 2 v19]),(10,[.arr .i64 4 [(0 : Int),(0 : Int),(0 : Int),(0 : Int)]])],V := [(5005,⟨2,1,List.length ([] : List Int),ints .i64 ([] : List Int)⟩),(5006,⟨23,4,List.length ([] : List (List Int)),rowsC .i64 ([] : List (List Int))⟩),(5009,⟨2,1,List.length L15,ints .i64 L15⟩),(5010,⟨23,4,List.length R16,rowsC .i64 R16⟩)],M := M,ds := [] }) [1,2,4,5,7,8,9,10] [2,4,7,9,10] [5005,5006,5009,5010] (by kernel_rfl) (by kernel_rfl) ?_
    refine TI_end (by kernel_rfl) ?_
    refine thenQ_n ?_
    refine T_sq (by kernel_rfl) ?_
    refine T_sq (by kernel_rfl) ?_
    refine T_region (id:=8) (by kernel_rfl) ?_
    refine TI_segS (i:=0) (j:=1) [(1,.lf (.v (.slice Au1 (u1.length) cu1))),(2,.lf (.own 2 0)),(4,.lf (.own 4 0)),(5,vi v7),(7,.lf (.own 7 0)),(8,vi x14),(9,.lf (.own 9 0)),(10,.lf (.own 10 0)),(11,vi (0 : Int))] (by kernel_rfl) (by kernel_rfl) ?_
    refine TI_end (by kernel_rfl) ?_
    refine thenQ_n ?_
    obtain ⟨j22,e_j22,h⟩ := jn_some h
    refine T_bcut (id:=2) (c1:=(sub [1,1,1,0,1,0,0,1,0,0,1,1,0,1,0] Bd13)) (fun s' => ∃ (L21 : List Int),Sub { σ := [(1,.lf (.v (.slice Au1 (u1.length) cu1))),(2,.lf (.own 2 0)),(4,.lf (.own 4 0)),(5,vi v7),(7,.lf (.own 7 0)),(8,vi x14),(9,.lf (.own 9 0)),(10,.lf (.own 10 0))],H := [(2,[.one (.v (.slice Au0_0 (u0_0.length) cu0_0)),.arr .i64 4 u0_1]),(4,[.one (.vec 5005),.one (.vec 5006)]),(7,[.one (.vec 5009),.one (.vec 5010)]),(9,[.arr .i64 2 v19]),(10,[.arr .i64 4 L21])],V := [(5005,⟨2,1,List.length ([] : List Int),ints .i64 ([] : List Int)⟩),(5006,⟨23,4,List.length ([] : List (List Int)),rowsC .i64 ([] : List (List Int))⟩),(5009,⟨2,1,List.length L15,ints .i64 L15⟩),(5010,⟨23,4,List.length R16,rowsC .i64 R16⟩)],M := M,ds := [] } s' ∧ (L21).length = 4 ∧ j22 L21 = some r) (by kernel_rfl) ?_ ?_
    ·refine T_loop (c1:=(sub [1,1,1,0,1,0,0,1,0,0,1,1,0,1,0,0] Bd13)) (by kernel_rfl) (fun n25 s' => ∃ (x23 : Int) (L24 : List Int),Sub { σ := [(1,.lf (.v (.slice Au1 (u1.length) cu1))),(2,.lf (.own 2 0)),(4,.lf (.own 4 0)),(5,vi v7),(7,.lf (.own 7 0)),(8,vi x14),(9,.lf (.own 9 0)),(10,.lf (.own 10 0)),(11,vi x23)],H := [(2,[.one (.v (.slice Au0_0 (u0_0.length) cu0_0)),.arr .i64 4 u0_1]),(4,[.one (.vec 5005),.one (.vec 5006)]),(7,[.one (.vec 5009),.one (.vec 5010)]),(9,[.arr .i64 2 v19]),(10,[.arr .i64 4 L24])],V := [(5005,⟨2,1,List.length ([] : List Int),ints .i64 ([] : List Int)⟩),(5006,⟨23,4,List.length ([] : List (List Int)),rowsC .i64 ([] : List (List Int))⟩),(5009,⟨2,1,List.length L15,ints .i64 L15⟩),(5010,⟨23,4,List.length R16,rowsC .i64 R16⟩)],M := M,ds := [] } s' ∧ (L24).length = 4 ∧ p13_l2 k u0_0 u0_1 u1 x14 R16 j22 n25 x23 L24 = some r) (k:=k) ⟨(0 : Int),([(0 : Int),(0 : Int),(0 : Int),(0 : Int)]),keep_sub (ts:=[1,2,4,5,7,8,9,10,11]) (hs:=[2,4,7,9,10]) (vs:=[5005,5006,5009,5010]) (by kernel_rfl),rfl,h⟩ ?_
     rintro n25 s' ⟨x23,L24,hsub,l_L24,h⟩
     cases n25 with
     | zero => rw [p13_l2] at h;cases h
     | succ n25 =>
      rw [p13_l2] at h
      refine T_sub hsub ?_
      refine T_sq (by kernel_rfl) ?_
      refine T_sq (by kernel_rfl) ?_
      refine T_region (id:=9) (by kernel_rfl) ?_
      obtain ⟨b26,e_b26,h⟩ := lt_some h
      refine TI_segK (i:=0) (j:=2) (s':={ σ := [(1,.lf (.v (.slice Au1 (u1.length) cu1))),(2,.lf (.own 2 0)),(4,.lf (.own 4 0)),(5,vi v7),(7,.lf (.own 7 0)),(8,vi x14),(9,.lf (.own 9 0)),(10,.lf (.own 10 0)),(11,vi x23),(27,vb b26)],H := [(2,[.one (.v (.slice Au0_0 (u0_0.length) cu0_0)),.arr .i64 4 u0_1]),(4,[.one (.vec 5005),.one (.vec 5006)]),(7,[.one (.vec 5009),.one (.vec 5010)]),(9,[.arr .i64 2 v19]),(10,[.arr .i64 4 L24])],V := [(5005,⟨2,1,List.length ([] : List Int),ints .i64 ([] : List Int)⟩),(5006,⟨23,4,List.length ([] : List (List Int)),rowsC .i64 ([] : List (List Int))⟩),(5009,⟨2,1,List.length L15,ints .i64 L15⟩),(5010,⟨23,4,List.length R16,rowsC .i64 R16⟩)],M := M,ds := [] }) [1,2,4,5,7,8,9,10,11,27] [2,4,7,9,10] [5005,5006,5009,5010] (by subst e_b26;kernel_rfl) (by kernel_rfl) ?_
      refine TI_end (by kernel_rfl) ?_
      refine thenQ_n ?_
      cases b26 with
      | true =>
       replace h := sp_t h
       refine T_condT (x:=(.tmp 27)) (c1:=(sub [1,1,1,0,1,0,0,1,0,0,1,1,0,1,0,0,0,1,0] Bd13)) (c2:=(sub [1,1,1,0,1,0,0,1,0,0,1,1,0,1,0,0,0,1,1] Bd13)) (by kernel_rfl) (by kernel_rfl) ?_
       refine T_keepS [(1,.lf (.v (.slice Au1 (u1.length) cu1))),(2,.lf (.own 2 0)),(4,.lf (.own 4 0)),(5,vi v7),(7,.lf (.own 7 0)),(8,vi x14),(9,.lf (.own 9 0)),(10,.lf (.own 10 0)),(11,vi x23)] (by kernel_rfl) ?_
       refine T_skip (by kernel_rfl) ?_
       refine thenQ_n ?_
       refine T_sq (by kernel_rfl) ?_
       refine T_block (id:=3) (c1:=(sub [1,1,1,0,1,0,0,1,0,0,1,1,0,1,0,0,1,0,0] Bd13)) (by kernel_rfl) ?_
       refine T_sq (by kernel_rfl) ?_
       refine T_region (id:=11) (by kernel_rfl) ?_
       refine TI_segS (i:=0) (j:=3) [(1,.lf (.v (.slice Au1 (u1.length) cu1))),(2,.lf (.own 2 0)),(4,.lf (.own 4 0)),(5,vi v7),(7,.lf (.own 7 0)),(8,vi x14),(9,.lf (.own 9 0)),(10,.lf (.own 10 0)),(11,vi x23),(30,.agg [.one (.v (.slice Au0_0 (u0_0.length) cu0_0)),.arr .i64 4 u0_1]),(31,vi x14),(32,vi x23)] (by kernel_rfl) (by kernel_rfl) ?_
       obtain ⟨v27,c_v27,h⟩ := cl_some h
       obtain ⟨g28,h⟩ := gd_some h
       refine TI_at (i:=3) (d:=33) (x:=.agg [.arr .i64 2 v27]) (At_call (d:=33) (f:=17) (args:=[rval (.agg [.one (.v (.slice Au0_0 (u0_0.length) cu0_0)),.arr .i64 4 u0_1]),rval (vi x14),rval (vi x23)]) (x:=.agg [.arr .i64 2 v27]) (by kernel_rfl) (w17 k hu0_0 hu0_1 c_v27)) (by kernel_rfl) ⟨g28,trivial⟩ ?_
       refine TI_segK (i:=4) (j:=6) (s':={ σ := [(1,.lf (.v (.slice Au1 (u1.length) cu1))),(2,.lf (.own 2 0)),(4,.lf (.own 4 0)),(5,vi v7),(7,.lf (.own 7 0)),(8,vi x14),(9,.lf (.own 9 0)),(10,.lf (.own 10 0)),(11,vi x23),(12,.lf (.own 12 0))],H := [(2,[.one (.v (.slice Au0_0 (u0_0.length) cu0_0)),.arr .i64 4 u0_1]),(4,[.one (.vec 5005),.one (.vec 5006)]),(7,[.one (.vec 5009),.one (.vec 5010)]),(9,[.arr .i64 2 v19]),(10,[.arr .i64 4 L24]),(12,[.arr .i64 2 v27])],V := [(5005,⟨2,1,List.length ([] : List Int),ints .i64 ([] : List Int)⟩),(5006,⟨23,4,List.length ([] : List (List Int)),rowsC .i64 ([] : List (List Int))⟩),(5009,⟨2,1,List.length L15,ints .i64 L15⟩),(5010,⟨23,4,List.length R16,rowsC .i64 R16⟩)],M := M,ds := [] }) [1,2,4,5,7,8,9,10,11,12] [2,4,7,9,10,12] [5005,5006,5009,5010] (by kernel_rfl) (by kernel_rfl) ?_
       refine TI_end (by kernel_rfl) ?_
       refine thenQ_n ?_
       obtain ⟨j30,e_j30,h⟩ := jn_some h
       refine T_cut (c1:=(sub [1,1,1,0,1,0,0,1,0,0,1,1,0,1,0,0,1,0,0,1,0] Bd13)) (c2:=(sub [1,1,1,0,1,0,0,1,0,0,1,1,0,1,0,0,1,0,0,1,1] Bd13)) (fun s' => ∃ (L29 : List Int),Sub { σ := [(1,.lf (.v (.slice Au1 (u1.length) cu1))),(2,.lf (.own 2 0)),(4,.lf (.own 4 0)),(5,vi v7),(7,.lf (.own 7 0)),(8,vi x14),(9,.lf (.own 9 0)),(10,.lf (.own 10 0)),(11,vi x23),(12,.lf (.own 12 0))],H := [(2,[.one (.v (.slice Au0_0 (u0_0.length) cu0_0)),.arr .i64 4 u0_1]),(4,[.one (.vec 5005),.one (.vec 5006)]),(7,[.one (.vec 5009),.one (.vec 5010)]),(9,[.arr .i64 2 v19]),(10,[.arr .i64 4 L24]),(12,[.arr .i64 2 L29])],V := [(5005,⟨2,1,List.length ([] : List Int),ints .i64 ([] : List Int)⟩),(5006,⟨23,4,List.length ([] : List (List Int)),rowsC .i64 ([] : List (List Int))⟩),(5009,⟨2,1,List.length L15,ints .i64 L15⟩),(5010,⟨23,4,List.length R16,rowsC .i64 R16⟩)],M := M,ds := [] } s' ∧ (L29).length = 2 ∧ j30 L29 = some r) (by kernel_rfl) ?_ ?_
       ·refine T_seq (c1:=(sub [1,1,1,0,1,0,0,1,0,0,1,1,0,1,0,0,1,0,0,1,0,0] Bd13)) (c2:=(sub [1,1,1,0,1,0,0,1,0,0,1,1,0,1,0,0,1,0,0,1,0,1] Bd13)) (by kernel_rfl) ?_
        refine T_region (id:=12) (by kernel_rfl) ?_
        obtain ⟨b31,e_b31,h⟩ := lt_some h
        refine TI_segK (i:=0) (j:=2) (s':={ σ := [(1,.lf (.v (.slice Au1 (u1.length) cu1))),(2,.lf (.own 2 0)),(4,.lf (.own 4 0)),(5,vi v7),(7,.lf (.own 7 0)),(8,vi x14),(9,.lf (.own 9 0)),(10,.lf (.own 10 0)),(11,vi x23),(12,.lf (.own 12 0)),(35,vb b31)],H := [(2,[.one (.v (.slice Au0_0 (u0_0.length) cu0_0)),.arr .i64 4 u0_1]),(4,[.one (.vec 5005),.one (.vec 5006)]),(7,[.one (.vec 5009),.one (.vec 5010)]),(9,[.arr .i64 2 v19]),(10,[.arr .i64 4 L24]),(12,[.arr .i64 2 v27])],V := [(5005,⟨2,1,List.length ([] : List Int),ints .i64 ([] : List Int)⟩),(5006,⟨23,4,List.length ([] : List (List Int)),rowsC .i64 ([] : List (List Int))⟩),(5009,⟨2,1,List.length L15,ints .i64 L15⟩),(5010,⟨23,4,List.length R16,rowsC .i64 R16⟩)],M := M,ds := [] }) [1,2,4,5,7,8,9,10,11,12,35] [2,4,7,9,10,12] [5005,5006,5009,5010] (by subst e_b31;kernel_rfl) (by kernel_rfl) ?_
        refine TI_end (by kernel_rfl) ?_
        refine thenQ_n ?_
        cases b31 with
        | true =>
         replace h := sp_t h
         refine T_condT (x:=(.tmp 35)) (c1:=(sub [1,1,1,0,1,0,0,1,0,0,1,1,0,1,0,0,1,0,0,1,0,1,0] Bd13)) (c2:=(sub [1,1,1,0,1,0,0,1,0,0,1,1,0,1,0,0,1,0,0,1,0,1,1] Bd13)) (by kernel_rfl) (by kernel_rfl) ?_
         refine T_keepS [(1,.lf (.v (.slice Au1 (u1.length) cu1))),(2,.lf (.own 2 0)),(4,.lf (.own 4 0)),(5,vi v7),(7,.lf (.own 7 0)),(8,vi x14),(9,.lf (.own 9 0)),(10,.lf (.own 10 0)),(11,vi x23),(12,.lf (.own 12 0))] (by kernel_rfl) ?_
         refine T_sq (by kernel_rfl) ?_
         obtain ⟨x32,e_x32,h⟩ := lt_some h
         obtain ⟨x33,e_x33,h⟩ := lt_some h
         obtain ⟨g34,h⟩ := gd_some h
         obtain ⟨g35,h⟩ := gd_some h
         obtain ⟨x36,e_x36,h⟩ := lt_some h
         obtain ⟨g37,h⟩ := gd_some h
         obtain ⟨x38,e_x38,h⟩ := lt_some h
         obtain ⟨x39,e_x39,h⟩ := lt_some h
         obtain ⟨x40,e_x40,h⟩ := lt_some h
         obtain ⟨L41,e_L41,h⟩ := lt_some h
         have l_L41 : (L41).length = 2 := by rw [e_L41]; exact (by rw [List.length_set]; exact g28)
         refine T_draw' (id:=13) [17] [0,0,0,0,0,0,0,0,0,0,0,0,0,0,0,0,0,0] (by kernel_rfl) (by kernel_rfl) (by kernel_rfl) (by kernel_rfl) [(36,.lf (.own 12 0)),(37,vi x32),(38,.lf (.own 7 1)),(39,.lf (.vec 5010)),(40,vi x14),(41,vi x33),(42,vi x23),(43,.lf (.vel 5010 4 ((x33).toNat) 0)),(44,.lf (.vel 5010 4 ((x33).toNat) (0 + (x23).toNat * 1))),(45,vi x36),(46,vi x23),(47,.lf (.own 2 1)),(48,.lf (.oel 2 (1 + (x23).toNat * 1))),(49,vi x38),(50,vi x39),(51,vi x40),(52,.lf (.own 12 0))] (by kernel_rfl) (wfs_lf _ (by kernel_rfl)) ?_
         refine Stage_ex (stage_all' [0,1,2,3,4,5,6,10,11,14,15,16] [7,8,9,12,13] (by kernel_rfl) (by subst_vars; kernel_rfl) (by kernel_rfl) ⟨QF_at (i:=7) (d:=43) (x:=.lf (.vel 5010 4 ((x33).toNat) 0)) (show OpAt _ _ _ 7 43 _ from by exact At_idxV (d:=43) (z:=x33) (n:=5010) (sz:=4) (v:=⟨23,4,List.length R16,rowsC .i64 R16⟩) (by subst_vars; kernel_rfl) (by subst_vars; kernel_rfl) g34) (by kernel_rfl) (by subst_vars; kernel_rfl),⟨QF_at (i:=8) (d:=44) (x:=.lf (.vel 5010 4 ((x33).toNat) (0 + (x23).toNat * 1))) (show OpAt _ _ _ 8 44 _ from by exact At_idxW (d:=44) (z:=x23) (m:=5010) (sz:=4) (q:=(x33).toNat) (j:=0) (es:=1) (n:=4) (by subst_vars; kernel_rfl) g35) (by kernel_rfl) (by subst_vars; kernel_rfl),⟨QF_at (i:=9) (d:=45) (x:=vi x36) (show OpAt _ _ _ 9 45 _ from by rw [e_x36]; exact At_ldVR1 (d:=45) (n:=5010) (m:=4) (q:=(x33).toNat) (j:=0 + (x23).toNat * 1) (k:=.i64) (R:=R16) (by subst_vars; kernel_rfl) (v:=⟨23,4,List.length R16,rowsC .i64 R16⟩) (by subst_vars; kernel_rfl) rfl r_R16 (by omega) (toNat_lt g34)) (by kernel_rfl) (by subst_vars; kernel_rfl),⟨QF_at (i:=12) (d:=48) (x:=.lf (.oel 2 (1 + (x23).toNat * 1))) (show OpAt _ _ _ 12 48 _ from by exact At_idxO (d:=48) (z:=x23) (b:=2) (off:=1) (sz:=1) (n:=4) (by subst_vars; kernel_rfl) g37) (by kernel_rfl) (by subst_vars; kernel_rfl),⟨QF_at (i:=13) (d:=49) (x:=vi x38) (show OpAt _ _ _ 13 49 _ from by rw [e_x38]; exact At_ldO1 (d:=49) (b:=2) (off:=1 + (x23).toNat * 1) (base:=1) (q:=0 + (x23).toNat * 1) (n:=4) (k:=.i64) (L:=u0_1) (by subst_vars; kernel_rfl) (by subst_vars; kernel_rfl) (by omega) (by omega)) (by kernel_rfl) (by subst_vars; kernel_rfl),trivial⟩⟩⟩⟩⟩) ({ σ := [(36,.lf (.own 12 0)),(37,vi x32),(38,.lf (.own 7 1)),(39,.lf (.vec 5010)),(40,vi x14),(41,vi x33),(42,vi x23),(43,.lf (.vel 5010 4 ((x33).toNat) 0)),(44,.lf (.vel 5010 4 ((x33).toNat) (0 + (x23).toNat * 1))),(45,vi x36),(46,vi x23),(47,.lf (.own 2 1)),(48,.lf (.oel 2 (1 + (x23).toNat * 1))),(49,vi x38),(50,vi x39),(51,vi x40),(52,.lf (.own 12 0)),(1,.lf (.v (.slice Au1 (u1.length) cu1))),(2,.lf (.own 2 0)),(4,.lf (.own 4 0)),(5,vi v7),(7,.lf (.own 7 0)),(8,vi x14),(9,.lf (.own 9 0)),(10,.lf (.own 10 0)),(11,vi x23),(12,.lf (.own 12 0))],H := [(12,[.arr .i64 2 L41]),(2,[.one (.v (.slice Au0_0 (u0_0.length) cu0_0)),.arr .i64 4 u0_1]),(4,[.one (.vec 5005),.one (.vec 5006)]),(7,[.one (.vec 5009),.one (.vec 5010)]),(9,[.arr .i64 2 v19]),(10,[.arr .i64 4 L24]),(12,[.arr .i64 2 v27])],V := [(5005,⟨2,1,List.length ([] : List Int),ints .i64 ([] : List Int)⟩),(5006,⟨23,4,List.length ([] : List (List Int)),rowsC .i64 ([] : List (List Int))⟩),(5009,⟨2,1,List.length L15,ints .i64 L15⟩),(5010,⟨23,4,List.length R16,rowsC .i64 R16⟩)],M := M,ds := [] }) (by subst_vars; kernel_rfl) [] (by kernel_rfl) trivial ?_
         refine Stage_nil (stage_all' [] [] (by kernel_rfl) (by subst_vars;kernel_rfl) (by kernel_rfl) trivial) ?_
         refine thenQ_n ?_
         refine T_keep (s':={ σ := [(1,.lf (.v (.slice Au1 (u1.length) cu1))),(2,.lf (.own 2 0)),(4,.lf (.own 4 0)),(5,vi v7),(7,.lf (.own 7 0)),(8,vi x14),(9,.lf (.own 9 0)),(10,.lf (.own 10 0)),(11,vi x23),(12,.lf (.own 12 0))],H := [(2,[.one (.v (.slice Au0_0 (u0_0.length) cu0_0)),.arr .i64 4 u0_1]),(4,[.one (.vec 5005),.one (.vec 5006)]),(7,[.one (.vec 5009),.one (.vec 5010)]),(9,[.arr .i64 2 v19]),(10,[.arr .i64 4 L24]),(12,[.arr .i64 2 L41])],V := [(5005,⟨2,1,List.length ([] : List Int),ints .i64 ([] : List Int)⟩),(5006,⟨23,4,List.length ([] : List (List Int)),rowsC .i64 ([] : List (List Int))⟩),(5009,⟨2,1,List.length L15,ints .i64 L15⟩),(5010,⟨23,4,List.length R16,rowsC .i64 R16⟩)],M := M,ds := [] }) [1,2,4,5,7,8,9,10,11,12] [2,4,7,9,10,12] [5005,5006,5009,5010] (by subst_vars;kernel_rfl) ?_
         obtain ⟨x42,e_x42,h⟩ := lt_some h
         obtain ⟨x43,e_x43,h⟩ := lt_some h
         obtain ⟨g44,h⟩ := gd_some h
         obtain ⟨g45,h⟩ := gd_some h
         obtain ⟨x46,e_x46,h⟩ := lt_some h
         obtain ⟨g47,h⟩ := gd_some h
         obtain ⟨x48,e_x48,h⟩ := lt_some h
         obtain ⟨x49,e_x49,h⟩ := lt_some h
         obtain ⟨x50,e_x50,h⟩ := lt_some h
         obtain ⟨L51,e_L51,h⟩ := lt_some h
         have l_L51 : (L51).length = 2 := by rw [e_L51]; exact (by rw [List.length_set]; exact l_L41)
         refine T_draw' (id:=14) [17] [0,0,0,0,0,0,0,0,0,0,0,0,0,0,0,0,0,0] (by kernel_rfl) (by kernel_rfl) (by kernel_rfl) (by kernel_rfl) [(53,.lf (.own 12 1)),(54,vi x42),(55,.lf (.own 7 1)),(56,.lf (.vec 5010)),(57,vi x14),(58,vi x43),(59,vi x23),(60,.lf (.vel 5010 4 ((x43).toNat) 0)),(61,.lf (.vel 5010 4 ((x43).toNat) (0 + (x23).toNat * 1))),(62,vi x46),(63,vi x23),(64,.lf (.own 2 1)),(65,.lf (.oel 2 (1 + (x23).toNat * 1))),(66,vi x48),(67,vi x49),(68,vi x50),(69,.lf (.own 12 1))] (by kernel_rfl) (wfs_lf _ (by kernel_rfl)) ?_
         refine Stage_ex (stage_all' [0,1,2,3,4,5,6,10,11,14,15,16] [7,8,9,12,13] (by kernel_rfl) (by subst_vars; kernel_rfl) (by kernel_rfl) ⟨QF_at (i:=7) (d:=60) (x:=.lf (.vel 5010 4 ((x43).toNat) 0)) (show OpAt _ _ _ 7 60 _ from by exact At_idxV (d:=60) (z:=x43) (n:=5010) (sz:=4) (v:=⟨23,4,List.length R16,rowsC .i64 R16⟩) (by subst_vars; kernel_rfl) (by subst_vars; kernel_rfl) g44) (by kernel_rfl) (by subst_vars; kernel_rfl),⟨QF_at (i:=8) (d:=61) (x:=.lf (.vel 5010 4 ((x43).toNat) (0 + (x23).toNat * 1))) (show OpAt _ _ _ 8 61 _ from by exact At_idxW (d:=61) (z:=x23) (m:=5010) (sz:=4) (q:=(x43).toNat) (j:=0) (es:=1) (n:=4) (by subst_vars; kernel_rfl) g45) (by kernel_rfl) (by subst_vars; kernel_rfl),⟨QF_at (i:=9) (d:=62) (x:=vi x46) (show OpAt _ _ _ 9 62 _ from by rw [e_x46]; exact At_ldVR1 (d:=62) (n:=5010) (m:=4) (q:=(x43).toNat) (j:=0 + (x23).toNat * 1) (k:=.i64) (R:=R16) (by subst_vars; kernel_rfl) (v:=⟨23,4,List.length R16,rowsC .i64 R16⟩) (by subst_vars; kernel_rfl) rfl r_R16 (by omega) (toNat_lt g44)) (by kernel_rfl) (by subst_vars; kernel_rfl),⟨QF_at (i:=12) (d:=65) (x:=.lf (.oel 2 (1 + (x23).toNat * 1))) (show OpAt _ _ _ 12 65 _ from by exact At_idxO (d:=65) (z:=x23) (b:=2) (off:=1) (sz:=1) (n:=4) (by subst_vars; kernel_rfl) g47) (by kernel_rfl) (by subst_vars; kernel_rfl),⟨QF_at (i:=13) (d:=66) (x:=vi x48) (show OpAt _ _ _ 13 66 _ from by rw [e_x48]; exact At_ldO1 (d:=66) (b:=2) (off:=1 + (x23).toNat * 1) (base:=1) (q:=0 + (x23).toNat * 1) (n:=4) (k:=.i64) (L:=u0_1) (by subst_vars; kernel_rfl) (by subst_vars; kernel_rfl) (by omega) (by omega)) (by kernel_rfl) (by subst_vars; kernel_rfl),trivial⟩⟩⟩⟩⟩) ({ σ := [(53,.lf (.own 12 1)),(54,vi x42),(55,.lf (.own 7 1)),(56,.lf (.vec 5010)),(57,vi x14),(58,vi x43),(59,vi x23),(60,.lf (.vel 5010 4 ((x43).toNat) 0)),(61,.lf (.vel 5010 4 ((x43).toNat) (0 + (x23).toNat * 1))),(62,vi x46),(63,vi x23),(64,.lf (.own 2 1)),(65,.lf (.oel 2 (1 + (x23).toNat * 1))),(66,vi x48),(67,vi x49),(68,vi x50),(69,.lf (.own 12 1)),(1,.lf (.v (.slice Au1 (u1.length) cu1))),(2,.lf (.own 2 0)),(4,.lf (.own 4 0)),(5,vi v7),(7,.lf (.own 7 0)),(8,vi x14),(9,.lf (.own 9 0)),(10,.lf (.own 10 0)),(11,vi x23),(12,.lf (.own 12 0))],H := [(12,[.arr .i64 2 L51]),(2,[.one (.v (.slice Au0_0 (u0_0.length) cu0_0)),.arr .i64 4 u0_1]),(4,[.one (.vec 5005),.one (.vec 5006)]),(7,[.one (.vec 5009),.one (.vec 5010)]),(9,[.arr .i64 2 v19]),(10,[.arr .i64 4 L24]),(12,[.arr .i64 2 L41])],V := [(5005,⟨2,1,List.length ([] : List Int),ints .i64 ([] : List Int)⟩),(5006,⟨23,4,List.length ([] : List (List Int)),rowsC .i64 ([] : List (List Int))⟩),(5009,⟨2,1,List.length L15,ints .i64 L15⟩),(5010,⟨23,4,List.length R16,rowsC .i64 R16⟩)],M := M,ds := [] }) (by subst_vars; kernel_rfl) [] (by kernel_rfl) trivial ?_
         refine Stage_nil (stage_all' [] [] (by kernel_rfl) (by subst_vars;kernel_rfl) (by kernel_rfl) trivial) ?_
         refine thenQ_n ?_
         exact ⟨L51,keep_sub (ts:=[1,2,4,5,7,8,9,10,11,12]) (hs:=[2,4,7,9,10,12]) (vs:=[5005,5006,5009,5010]) (by subst_vars;kernel_rfl),l_L51,h⟩
        | false =>
         replace h := sp_f h
         refine T_condF (x:=(.tmp 35)) (c1:=(sub [1,1,1,0,1,0,0,1,0,0,1,1,0,1,0,0,1,0,0,1,0,1,0] Bd13)) (c2:=(sub [1,1,1,0,1,0,0,1,0,0,1,1,0,1,0,0,1,0,0,1,0,1,1] Bd13)) (by kernel_rfl) (by kernel_rfl) ?_
         refine T_keepS [(1,.lf (.v (.slice Au1 (u1.length) cu1))),(2,.lf (.own 2 0)),(4,.lf (.own 4 0)),(5,vi v7),(7,.lf (.own 7 0)),(8,vi x14),(9,.lf (.own 9 0)),(10,.lf (.own 10 0)),(11,vi x23),(12,.lf (.own 12 0))] (by kernel_rfl) ?_
         refine T_skip (by kernel_rfl) ?_
         refine thenQ_n ?_
         exact ⟨v27,keep_sub (ts:=[1,2,4,5,7,8,9,10,11,12]) (hs:=[2,4,7,9,10,12]) (vs:=[5005,5006,5009,5010]) (by kernel_rfl),g28,h⟩
       ·rintro s' ⟨L29,hsub,l_L29,h⟩
        subst e_j30
        refine T_sub hsub ?_
        obtain ⟨x52,e_x52,h⟩ := lt_some h
        obtain ⟨x53,e_x53,h⟩ := lt_some h
        obtain ⟨v54,c_v54,h⟩ := cl_some h
        obtain ⟨v55,c_v55,h⟩ := cl_some h
        obtain ⟨g56,h⟩ := gd_some h
        obtain ⟨L57,e_L57,h⟩ := lt_some h
        have l_L57 : (L57).length = 4 := by rw [e_L57]; have q0 := (show (L24).length = 4 from l_L24); simp only [List.length_append,List.length_take,List.length_drop,List.length_cons,List.length_nil]; omega
        refine T_draw' (id:=15) [10] [0,0,0,0,0,0,0,0,0,0,0] (by kernel_rfl) (by kernel_rfl) (by kernel_rfl) (by kernel_rfl) [(70,vi x23),(71,.agg [.arr .i64 2 L29]),(72,.lf (.v (.slice Au1 (u1.length) cu1))),(73,vi x14),(74,vi x52),(75,vi x23),(76,vi x53),(77,.lf (.v (.int .u8 v54))),(78,vi v55),(79,.lf (.oel 10 (0 + (x23).toNat * 1)))] (by kernel_rfl) ⟨trivial,⟨⟨l_L29,trivial⟩,⟨trivial,⟨trivial,⟨trivial,⟨trivial,⟨trivial,⟨trivial,⟨trivial,⟨trivial,trivial⟩⟩⟩⟩⟩⟩⟩⟩⟩⟩ ?_
        refine Stage_te (stage_all' [0,1,2,3,4,5,6] [7,8,9] (by kernel_rfl) (by subst_vars;kernel_rfl) (by kernel_rfl) ⟨QF_at (i:=7) (d:=77) (x:=.lf (.v (.int .u8 v54))) (show OpAt _ _ _ 7 77 _ from by exact At_call (d:=77) (f:=42) (args:=[rval (.lf (.v (.slice Au1 (u1.length) cu1))),rval (vi x53)]) (x:=.lf (.v (.int .u8 v54))) (by subst_vars;kernel_rfl) (w42 k hu1 c_v54)) (by kernel_rfl) (by subst_vars;kernel_rfl),⟨QF_at (i:=8) (d:=78) (x:=vi v55) (show OpAt _ _ _ 8 78 _ from by exact At_call (d:=78) (f:=41) (args:=[rval (.agg [.arr .i64 2 L29]),rval (.lf (.v (.int .u8 v54)))]) (x:=vi v55) (by subst_vars;kernel_rfl) (w41 k l_L29 c_v55)) (by kernel_rfl) (by subst_vars;kernel_rfl),⟨QF_at (i:=9) (d:=79) (x:=.lf (.oel 10 (0 + (x23).toNat * 1))) (show OpAt _ _ _ 9 79 _ from by exact At_idxO (d:=79) (z:=x23) (b:=10) (off:=0) (sz:=1) (n:=4) (by subst_vars;kernel_rfl) g56) (by kernel_rfl) (by subst_vars;kernel_rfl),trivial⟩⟩⟩) (TE_stOC (m:=1) (b:=10) (off:=0 + (x23).toNat * 1) (base:=0) (q:=0 + (x23).toNat * 1) (n:=4) (k:=.i64) (L:=L24) (L2:=L57) (Z:=(v55::[])) (e:=[.one (.v (.int .i64 v55))]) (c':=[.arr .i64 4 L57]) (by subst_vars;kernel_rfl) (by kernel_rfl) (by subst_vars;kernel_rfl) (by omega) (by omega) (by kernel_rfl) (by kernel_rfl) e_L57 (by kernel_rfl) ?_) 
        refine TL_nil (stageQ_of [] (by kernel_rfl) trivial ?_)
        refine Stage_nil (stage_all' [] [] (by kernel_rfl) (by subst_vars;kernel_rfl) (by kernel_rfl) trivial) ?_
        refine blockQ_n ?_
        refine thenQ_n ?_
        refine T_keep (s':={ σ := [(1,.lf (.v (.slice Au1 (u1.length) cu1))),(2,.lf (.own 2 0)),(4,.lf (.own 4 0)),(5,vi v7),(7,.lf (.own 7 0)),(8,vi x14),(9,.lf (.own 9 0)),(10,.lf (.own 10 0)),(11,vi x23)],H := [(2,[.one (.v (.slice Au0_0 (u0_0.length) cu0_0)),.arr .i64 4 u0_1]),(4,[.one (.vec 5005),.one (.vec 5006)]),(7,[.one (.vec 5009),.one (.vec 5010)]),(9,[.arr .i64 2 v19]),(10,[.arr .i64 4 L57])],V := [(5005,⟨2,1,List.length ([] : List Int),ints .i64 ([] : List Int)⟩),(5006,⟨23,4,List.length ([] : List (List Int)),rowsC .i64 ([] : List (List Int))⟩),(5009,⟨2,1,List.length L15,ints .i64 L15⟩),(5010,⟨23,4,List.length R16,rowsC .i64 R16⟩)],M := M,ds := [] }) [1,2,4,5,7,8,9,10,11] [2,4,7,9,10] [5005,5006,5009,5010] (by subst_vars;kernel_rfl) ?_
        refine T_region (id:=10) (by kernel_rfl) ?_
        obtain ⟨x58,e_x58,h⟩ := lt_some h
        refine TI_segS (i:=0) (j:=3) [(1,.lf (.v (.slice Au1 (u1.length) cu1))),(2,.lf (.own 2 0)),(4,.lf (.own 4 0)),(5,vi v7),(7,.lf (.own 7 0)),(8,vi x14),(9,.lf (.own 9 0)),(10,.lf (.own 10 0)),(11,vi x58)] (by subst e_x58;kernel_rfl) (by kernel_rfl) ?_
        refine TI_end (by kernel_rfl) ?_
        refine thenQ_n ?_
        exact ⟨n25,Nat.lt_succ_self _,x58,L57,keep_sub (ts:=[1,2,4,5,7,8,9,10,11]) (hs:=[2,4,7,9,10]) (vs:=[5005,5006,5009,5010]) (by kernel_rfl),l_L57,h⟩
      | false =>
       replace h := sp_f h
       refine T_condF (x:=(.tmp 27)) (c1:=(sub [1,1,1,0,1,0,0,1,0,0,1,1,0,1,0,0,0,1,0] Bd13)) (c2:=(sub [1,1,1,0,1,0,0,1,0,0,1,1,0,1,0,0,0,1,1] Bd13)) (by kernel_rfl) (by kernel_rfl) ?_
       refine T_keepS [(1,.lf (.v (.slice Au1 (u1.length) cu1))),(2,.lf (.own 2 0)),(4,.lf (.own 4 0)),(5,vi v7),(7,.lf (.own 7 0)),(8,vi x14),(9,.lf (.own 9 0)),(10,.lf (.own 10 0))] (by kernel_rfl) ?_
       refine T_exit (id:=2) (by kernel_rfl) ?_
       refine thenQ_x ?_
       refine thenQ_x ?_
       refine blockQ_x ?_
       refine thenQ_n ?_
       exact ⟨L24,keep_sub (ts:=[1,2,4,5,7,8,9,10]) (hs:=[2,4,7,9,10]) (vs:=[5005,5006,5009,5010]) (by kernel_rfl),l_L24,h⟩
    ·rintro s' ⟨L21,hsub,l_L21,h⟩
     subst e_j22
     refine thenQ_n ?_
     refine T_sub hsub ?_
     obtain ⟨j60,e_j60,h⟩ := jn_some h
     refine T_cut (c1:=(sub [1,1,1,0,1,0,0,1,0,0,1,1,1,0] Bd13)) (c2:=(sub [1,1,1,0,1,0,0,1,0,0,1,1,1,1] Bd13)) (fun s' => ∃ (L59 : List Int),Sub { σ := [(1,.lf (.v (.slice Au1 (u1.length) cu1))),(2,.lf (.own 2 0)),(4,.lf (.own 4 0)),(5,vi v7),(7,.lf (.own 7 0)),(8,vi x14),(9,.lf (.own 9 0)),(10,.lf (.own 10 0))],H := [(2,[.one (.v (.slice Au0_0 (u0_0.length) cu0_0)),.arr .i64 4 u0_1]),(4,[.one (.vec 5005),.one (.vec 5006)]),(7,[.one (.vec 5009),.one (.vec 5010)]),(9,[.arr .i64 2 L59]),(10,[.arr .i64 4 L21])],V := [(5005,⟨2,1,List.length ([] : List Int),ints .i64 ([] : List Int)⟩),(5006,⟨23,4,List.length ([] : List (List Int)),rowsC .i64 ([] : List (List Int))⟩),(5009,⟨2,1,List.length L15,ints .i64 L15⟩),(5010,⟨23,4,List.length R16,rowsC .i64 R16⟩)],M := M,ds := [] } s' ∧ (L59).length = 2 ∧ j60 L59 = some r) (by kernel_rfl) ?_ ?_
     ·refine T_seq (c1:=(sub [1,1,1,0,1,0,0,1,0,0,1,1,1,0,0] Bd13)) (c2:=(sub [1,1,1,0,1,0,0,1,0,0,1,1,1,0,1] Bd13)) (by kernel_rfl) ?_
      refine T_region (id:=16) (by kernel_rfl) ?_
      obtain ⟨b61,e_b61,h⟩ := lt_some h
      refine TI_segK (i:=0) (j:=2) (s':={ σ := [(1,.lf (.v (.slice Au1 (u1.length) cu1))),(2,.lf (.own 2 0)),(4,.lf (.own 4 0)),(5,vi v7),(7,.lf (.own 7 0)),(8,vi x14),(9,.lf (.own 9 0)),(10,.lf (.own 10 0)),(81,vb b61)],H := [(2,[.one (.v (.slice Au0_0 (u0_0.length) cu0_0)),.arr .i64 4 u0_1]),(4,[.one (.vec 5005),.one (.vec 5006)]),(7,[.one (.vec 5009),.one (.vec 5010)]),(9,[.arr .i64 2 v19]),(10,[.arr .i64 4 L21])],V := [(5005,⟨2,1,List.length ([] : List Int),ints .i64 ([] : List Int)⟩),(5006,⟨23,4,List.length ([] : List (List Int)),rowsC .i64 ([] : List (List Int))⟩),(5009,⟨2,1,List.length L15,ints .i64 L15⟩),(5010,⟨23,4,List.length R16,rowsC .i64 R16⟩)],M := M,ds := [] }) [1,2,4,5,7,8,9,10,81] [2,4,7,9,10] [5005,5006,5009,5010] (by subst e_b61;kernel_rfl) (by kernel_rfl) ?_
      refine TI_end (by kernel_rfl) ?_
      refine thenQ_n ?_
      cases b61 with
      | true =>
       replace h := sp_t h
       refine T_condT (x:=(.tmp 81)) (c1:=(sub [1,1,1,0,1,0,0,1,0,0,1,1,1,0,1,0] Bd13)) (c2:=(sub [1,1,1,0,1,0,0,1,0,0,1,1,1,0,1,1] Bd13)) (by kernel_rfl) (by kernel_rfl) ?_
       refine T_keepS [(1,.lf (.v (.slice Au1 (u1.length) cu1))),(2,.lf (.own 2 0)),(4,.lf (.own 4 0)),(5,vi v7),(7,.lf (.own 7 0)),(8,vi x14),(9,.lf (.own 9 0)),(10,.lf (.own 10 0))] (by kernel_rfl) ?_
       obtain ⟨x62,e_x62,h⟩ := lt_some h
       obtain ⟨x63,e_x63,h⟩ := lt_some h
       obtain ⟨g64,h⟩ := gd_some h
       obtain ⟨x65,e_x65,h⟩ := lt_some h
       obtain ⟨x66,e_x66,h⟩ := lt_some h
       obtain ⟨L67,e_L67,h⟩ := lt_some h
       have l_L67 : (L67).length = 2 := by rw [e_L67]; exact (by rw [List.length_set]; exact g20)
       refine T_draw' (id:=17) [10] [0,0,0,0,0,0,0,0,0,0,0] (by kernel_rfl) (by kernel_rfl) (by kernel_rfl) (by kernel_rfl) [(82,.lf (.own 9 0)),(83,vi x62),(84,.lf (.own 7 0)),(85,.lf (.vec 5009)),(86,vi x14),(87,vi x63),(88,.lf (.vel 5009 1 ((x63).toNat) 0)),(89,vi x65),(90,vi x66),(91,.lf (.own 9 0))] (by kernel_rfl) (wfs_lf _ (by kernel_rfl)) ?_
       refine Stage_ex (stage_all' [0,1,2,3,4,5,8,9] [6,7] (by kernel_rfl) (by subst_vars; kernel_rfl) (by kernel_rfl) ⟨QF_at (i:=6) (d:=88) (x:=.lf (.vel 5009 1 ((x63).toNat) 0)) (show OpAt _ _ _ 6 88 _ from by exact At_idxV (d:=88) (z:=x63) (n:=5009) (sz:=1) (v:=⟨2,1,List.length L15,ints .i64 L15⟩) (by subst_vars; kernel_rfl) (by subst_vars; kernel_rfl) g64) (by kernel_rfl) (by subst_vars; kernel_rfl),⟨QF_at (i:=7) (d:=89) (x:=vi x65) (show OpAt _ _ _ 7 89 _ from by rw [e_x65]; exact At_ldVI (d:=89) (n:=5009) (q:=(x63).toNat) (k:=.i64) (L:=L15) (by subst_vars; kernel_rfl) (v:=⟨2,1,List.length L15,ints .i64 L15⟩) (by subst_vars; kernel_rfl) rfl (toNat_lt g64)) (by kernel_rfl) (by subst_vars; kernel_rfl),trivial⟩⟩) ({ σ := [(82,.lf (.own 9 0)),(83,vi x62),(84,.lf (.own 7 0)),(85,.lf (.vec 5009)),(86,vi x14),(87,vi x63),(88,.lf (.vel 5009 1 ((x63).toNat) 0)),(89,vi x65),(90,vi x66),(91,.lf (.own 9 0)),(1,.lf (.v (.slice Au1 (u1.length) cu1))),(2,.lf (.own 2 0)),(4,.lf (.own 4 0)),(5,vi v7),(7,.lf (.own 7 0)),(8,vi x14),(9,.lf (.own 9 0)),(10,.lf (.own 10 0))],H := [(9,[.arr .i64 2 L67]),(2,[.one (.v (.slice Au0_0 (u0_0.length) cu0_0)),.arr .i64 4 u0_1]),(4,[.one (.vec 5005),.one (.vec 5006)]),(7,[.one (.vec 5009),.one (.vec 5010)]),(9,[.arr .i64 2 v19]),(10,[.arr .i64 4 L21])],V := [(5005,⟨2,1,List.length ([] : List Int),ints .i64 ([] : List Int)⟩),(5006,⟨23,4,List.length ([] : List (List Int)),rowsC .i64 ([] : List (List Int))⟩),(5009,⟨2,1,List.length L15,ints .i64 L15⟩),(5010,⟨23,4,List.length R16,rowsC .i64 R16⟩)],M := M,ds := [] }) (by subst_vars; kernel_rfl) [] (by kernel_rfl) trivial ?_
       refine Stage_nil (stage_all' [] [] (by kernel_rfl) (by subst_vars;kernel_rfl) (by kernel_rfl) trivial) ?_
       refine thenQ_n ?_
       exact ⟨L67,keep_sub (ts:=[1,2,4,5,7,8,9,10]) (hs:=[2,4,7,9,10]) (vs:=[5005,5006,5009,5010]) (by subst_vars;kernel_rfl),l_L67,h⟩
      | false =>
       replace h := sp_f h
       refine T_condF (x:=(.tmp 81)) (c1:=(sub [1,1,1,0,1,0,0,1,0,0,1,1,1,0,1,0] Bd13)) (c2:=(sub [1,1,1,0,1,0,0,1,0,0,1,1,1,0,1,1] Bd13)) (by kernel_rfl) (by kernel_rfl) ?_
       refine T_keepS [(1,.lf (.v (.slice Au1 (u1.length) cu1))),(2,.lf (.own 2 0)),(4,.lf (.own 4 0)),(5,vi v7),(7,.lf (.own 7 0)),(8,vi x14),(9,.lf (.own 9 0)),(10,.lf (.own 10 0))] (by kernel_rfl) ?_
       refine T_skip (by kernel_rfl) ?_
       refine thenQ_n ?_
       exact ⟨v19,keep_sub (ts:=[1,2,4,5,7,8,9,10]) (hs:=[2,4,7,9,10]) (vs:=[5005,5006,5009,5010]) (by kernel_rfl),g20,h⟩
     ·rintro s' ⟨L59,hsub,l_L59,h⟩
      subst e_j60
      refine T_sub hsub ?_
      refine T_sq (by kernel_rfl) ?_
      obtain ⟨x68,e_x68,h⟩ := lt_some h
      obtain ⟨x69,e_x69,h⟩ := lt_some h
      obtain ⟨v70,c_v70,h⟩ := cl_some h
      obtain ⟨v71,c_v71,h⟩ := cl_some h
      obtain ⟨g72,h⟩ := gd_some h
      obtain ⟨W73,e_W73,h⟩ := lt_some h
      refine T_draw' (id:=18) [9,10,12] [0,0,0,0,0,0,0,0,0,0,0,2,0] (by kernel_rfl) (by kernel_rfl) (by kernel_rfl) (by kernel_rfl) [(92,.lf (.own 7 0)),(93,.lf (.vec 5009)),(94,.agg [.arr .i64 2 L59]),(95,.lf (.v (.slice Au1 (u1.length) cu1))),(96,vi x14),(97,vi x68),(98,vi x69),(99,.lf (.v (.int .u8 v70))),(100,vi v71)] (by kernel_rfl) ⟨trivial,⟨trivial,⟨⟨l_L59,trivial⟩,⟨trivial,⟨trivial,⟨trivial,⟨trivial,⟨trivial,⟨trivial,trivial⟩⟩⟩⟩⟩⟩⟩⟩⟩ ?_
      refine Stage_te (stage_all' [0,1,2,3,4,5,6] [7,8] (by kernel_rfl) (by subst_vars;kernel_rfl) (by kernel_rfl) ⟨QF_at (i:=7) (d:=99) (x:=.lf (.v (.int .u8 v70))) (show OpAt _ _ _ 7 99 _ from by exact At_call (d:=99) (f:=42) (args:=[rval (.lf (.v (.slice Au1 (u1.length) cu1))),rval (vi x69)]) (x:=.lf (.v (.int .u8 v70))) (by subst_vars;kernel_rfl) (w42 k hu1 c_v70)) (by kernel_rfl) (by subst_vars;kernel_rfl),⟨QF_at (i:=8) (d:=100) (x:=vi v71) (show OpAt _ _ _ 8 100 _ from by exact At_call (d:=100) (f:=41) (args:=[rval (.agg [.arr .i64 2 L59]),rval (.lf (.v (.int .u8 v70)))]) (x:=vi v71) (by subst_vars;kernel_rfl) (w41 k l_L59 c_v71)) (by kernel_rfl) (by subst_vars;kernel_rfl),trivial⟩⟩) (TE_litC (d:=101) (e:=2) (sz:=1) (len:=1) (cs:=ints .i64 ([v71])) (by subst_vars;kernel_rfl) (by kernel_rfl) (by kernel_rfl) ?_) 
      refine TL_nil (stageQ_of [] (by kernel_rfl) trivial ?_)
      refine Stage_te (stage_all' [0,1] [] (by kernel_rfl) (by subst_vars;kernel_rfl) (by kernel_rfl) trivial) (TE_appC (d:=102) (e:=2) (sz:=1) (bytes:=8) (n:=5009) (x:=(.tmp 101)) (len:=List.length L15) (cs0:=ints .i64 L15) (cs2:=ints .i64 W73) (by subst_vars;kernel_rfl) (by kernel_rfl) (by subst_vars;kernel_rfl) (vecI_src (n:=101) (e:=2) (k:=.i64) (L:=[v71]) (by subst_vars;kernel_rfl) (by subst_vars;kernel_rfl)) g72 rfl (len_app_eq e_W73) (ints_app_eq e_W73) ?_) 
      refine TL_nil (stageQ_of [(103,.lf (.own 7 0))] (by kernel_rfl) ⟨trivial,trivial⟩ ?_)
      refine Stage_ex (stage_all' [11] [] (by kernel_rfl) (by subst_vars;kernel_rfl) (by kernel_rfl) trivial) ({ σ := [(103,.lf (.own 7 0)),(102,.lf (.vec 102)),(101,.lf (.vec 101)),(92,.lf (.own 7 0)),(93,.lf (.vec 5009)),(94,.agg [.arr .i64 2 L59]),(95,.lf (.v (.slice Au1 (u1.length) cu1))),(96,vi x14),(97,vi x68),(98,vi x69),(99,.lf (.v (.int .u8 v70))),(100,vi v71),(1,.lf (.v (.slice Au1 (u1.length) cu1))),(2,.lf (.own 2 0)),(4,.lf (.own 4 0)),(5,vi v7),(7,.lf (.own 7 0)),(8,vi x14),(9,.lf (.own 9 0)),(10,.lf (.own 10 0))],H := [(7,[.one (.vec 102),.one (.vec 5010)]),(2,[.one (.v (.slice Au0_0 (u0_0.length) cu0_0)),.arr .i64 4 u0_1]),(4,[.one (.vec 5005),.one (.vec 5006)]),(7,[.one (.vec 5009),.one (.vec 5010)]),(9,[.arr .i64 2 L59]),(10,[.arr .i64 4 L21])],V := [(102,⟨2,1,List.length W73,ints .i64 W73⟩),(101,⟨2,1,List.length ([v71]),ints .i64 ([v71])⟩),(5005,⟨2,1,List.length ([] : List Int),ints .i64 ([] : List Int)⟩),(5006,⟨23,4,List.length ([] : List (List Int)),rowsC .i64 ([] : List (List Int))⟩),(5010,⟨23,4,List.length R16,rowsC .i64 R16⟩)],M := M,ds := [] }) (by subst_vars;kernel_rfl) [] (by kernel_rfl) trivial ?_
      refine Stage_nil (stage_all' [] [] (by kernel_rfl) (by subst_vars;kernel_rfl) (by kernel_rfl) trivial) ?_
      refine thenQ_n ?_
      refine T_keep (s':={ σ := [(1,.lf (.v (.slice Au1 (u1.length) cu1))),(2,.lf (.own 2 0)),(4,.lf (.own 4 0)),(5,vi v7),(7,.lf (.own 7 0)),(8,vi x14),(10,.lf (.own 10 0))],H := [(2,[.one (.v (.slice Au0_0 (u0_0.length) cu0_0)),.arr .i64 4 u0_1]),(4,[.one (.vec 5005),.one (.vec 5006)]),(7,[.one (.vec 102),.one (.vec 5010)]),(10,[.arr .i64 4 L21])],V := [(102,⟨2,1,List.length W73,ints .i64 W73⟩),(5005,⟨2,1,List.length ([] : List Int),ints .i64 ([] : List Int)⟩),(5006,⟨23,4,List.length ([] : List (List Int)),rowsC .i64 ([] : List (List Int))⟩),(5010,⟨23,4,List.length R16,rowsC .i64 R16⟩)],M := M,ds := [] }) [1,2,4,5,7,8,10] [2,4,7,10] [102,5005,5006,5010] (by subst_vars;kernel_rfl) ?_
      refine T_region (id:=19) (by kernel_rfl) ?_
      refine TI_segK (i:=0) (j:=3) (s':={ σ := [(1,.lf (.v (.slice Au1 (u1.length) cu1))),(2,.lf (.own 2 0)),(4,.lf (.own 4 0)),(5,vi v7),(7,.lf (.own 7 0)),(8,vi x14),(105,.lf (.vec 5010)),(106,.agg [.arr .i64 4 L21])],H := [(2,[.one (.v (.slice Au0_0 (u0_0.length) cu0_0)),.arr .i64 4 u0_1]),(4,[.one (.vec 5005),.one (.vec 5006)]),(7,[.one (.vec 102),.one (.vec 5010)])],V := [(102,⟨2,1,List.length W73,ints .i64 W73⟩),(5005,⟨2,1,List.length ([] : List Int),ints .i64 ([] : List Int)⟩),(5006,⟨23,4,List.length ([] : List (List Int)),rowsC .i64 ([] : List (List Int))⟩),(5010,⟨23,4,List.length R16,rowsC .i64 R16⟩)],M := M,ds := [] }) [1,2,4,5,7,8,105,106] [2,4,7] [102,5005,5006,5010] (by kernel_rfl) (by kernel_rfl) ?_
      refine TI_of (i:=3) (by kernel_rfl) (TE_litC (d:=107) (e:=23) (sz:=4) (len:=1) (cs:=rowsC .i64 ([L21])) (by kernel_rfl) (by kernel_rfl) (by kernel_rfl) ?_)
      obtain ⟨g74,h⟩ := gd_some h
      obtain ⟨W75,e_W75,h⟩ := lt_some h
      have r_W75 : ∀ r ∈ W75,r.length = 4 := by rw [e_W75]; exact rows_app r_R16 (rows_cons l_L21 rows_nil)
      refine TI_of (i:=4) (by kernel_rfl) (TE_appC (d:=108) (e:=23) (sz:=4) (bytes:=32) (n:=5010) (x:=(.tmp 107)) (len:=List.length R16) (cs0:=rowsC .i64 R16) (cs2:=rowsC .i64 W75) (by subst e_W75;kernel_rfl) (by kernel_rfl) (by subst e_W75;kernel_rfl) (vecR_src (n:=107) (e:=23) (k:=.i64) (m:=4) (R:=[L21]) (by subst e_W75;kernel_rfl) (by subst e_W75;kernel_rfl) (rows_cons l_L21 rows_nil)) g74 rfl (len_app_eq e_W75) (rowsC_app_eq e_W75) ?_)
      refine TI_segK (i:=5) (j:=7) (s':={ σ := [(1,.lf (.v (.slice Au1 (u1.length) cu1))),(2,.lf (.own 2 0)),(4,.lf (.own 4 0)),(5,vi v7),(7,.lf (.own 7 0)),(8,vi x14)],H := [(2,[.one (.v (.slice Au0_0 (u0_0.length) cu0_0)),.arr .i64 4 u0_1]),(4,[.one (.vec 5005),.one (.vec 5006)]),(7,[.one (.vec 102),.one (.vec 108)])],V := [(102,⟨2,1,List.length W73,ints .i64 W73⟩),(108,⟨23,4,List.length W75,rowsC .i64 W75⟩),(5005,⟨2,1,List.length ([] : List Int),ints .i64 ([] : List Int)⟩),(5006,⟨23,4,List.length ([] : List (List Int)),rowsC .i64 ([] : List (List Int))⟩)],M := M,ds := [] }) [1,2,4,5,7,8] [2,4,7] [102,108,5005,5006] (by kernel_rfl) (by kernel_rfl) ?_
      refine TI_end (by kernel_rfl) ?_
      refine blockQ_n ?_
      refine thenQ_n ?_
      refine T_region (id:=5) (by kernel_rfl) ?_
      obtain ⟨x76,e_x76,h⟩ := lt_some h
      refine TI_segS (i:=0) (j:=3) [(1,.lf (.v (.slice Au1 (u1.length) cu1))),(2,.lf (.own 2 0)),(4,.lf (.own 4 0)),(5,vi v7),(7,.lf (.own 7 0)),(8,vi x76)] (by subst e_x76;kernel_rfl) (by kernel_rfl) ?_
      refine TI_end (by kernel_rfl) ?_
      refine thenQ_n ?_
      exact ⟨n17,Nat.lt_succ_self _,x76,W73,W75,Sub.trans (keep_sub (ts:=[1,2,4,5,7,8]) (hs:=[2,4,7]) (vs:=[5005,5006,5009,5010]) (by kernel_rfl)) (Sub.trans (ren_sub 108 5010 (s':={ σ := [(1,.lf (.v (.slice Au1 (u1.length) cu1))),(2,.lf (.own 2 0)),(4,.lf (.own 4 0)),(5,vi v7),(7,.lf (.own 7 0)),(8,vi x76)],H := [(2,[.one (.v (.slice Au0_0 (u0_0.length) cu0_0)),.arr .i64 4 u0_1]),(4,[.one (.vec 5005),.one (.vec 5006)]),(7,[.one (.vec 5009),.one (.vec 5010)])],V := [(5009,⟨2,1,List.length W73,ints .i64 W73⟩),(5010,⟨23,4,List.length W75,rowsC .i64 W75⟩),(5005,⟨2,1,List.length ([] : List Int),ints .i64 ([] : List Int)⟩),(5006,⟨23,4,List.length ([] : List (List Int)),rowsC .i64 ([] : List (List Int))⟩)],M := M,ds := [] }) (by kernel_rfl) (by kernel_rfl)) (Sub.trans (ren_sub 102 5009 (s':={ σ := [(1,.lf (.v (.slice Au1 (u1.length) cu1))),(2,.lf (.own 2 0)),(4,.lf (.own 4 0)),(5,vi v7),(7,.lf (.own 7 0)),(8,vi x76)],H := [(2,[.one (.v (.slice Au0_0 (u0_0.length) cu0_0)),.arr .i64 4 u0_1]),(4,[.one (.vec 5005),.one (.vec 5006)]),(7,[.one (.vec 5009),.one (.vec 108)])],V := [(5009,⟨2,1,List.length W73,ints .i64 W73⟩),(108,⟨23,4,List.length W75,rowsC .i64 W75⟩),(5005,⟨2,1,List.length ([] : List Int),ints .i64 ([] : List Int)⟩),(5006,⟨23,4,List.length ([] : List (List Int)),rowsC .i64 ([] : List (List Int))⟩)],M := M,ds := [] }) (by kernel_rfl) (by kernel_rfl)) (keep_sub (s':={ σ := [(1,.lf (.v (.slice Au1 (u1.length) cu1))),(2,.lf (.own 2 0)),(4,.lf (.own 4 0)),(5,vi v7),(7,.lf (.own 7 0)),(8,vi x76)],H := [(2,[.one (.v (.slice Au0_0 (u0_0.length) cu0_0)),.arr .i64 4 u0_1]),(4,[.one (.vec 5005),.one (.vec 5006)]),(7,[.one (.vec 102),.one (.vec 108)])],V := [(102,⟨2,1,List.length W73,ints .i64 W73⟩),(108,⟨23,4,List.length W75,rowsC .i64 W75⟩),(5005,⟨2,1,List.length ([] : List Int),ints .i64 ([] : List Int)⟩),(5006,⟨23,4,List.length ([] : List (List Int)),rowsC .i64 ([] : List (List Int))⟩)],M := M,ds := [] }) (ts:=[1,2,4,5,7,8]) (hs:=[2,4,7]) (vs:=[102,108,5005,5006]) (by kernel_rfl)))),r_W75,h⟩
   | false =>
    replace h := sp_f h
    refine T_condF (x:=(.tmp 20)) (c1:=(sub [1,1,1,0,1,0,0,0,1,0] Bd13)) (c2:=(sub [1,1,1,0,1,0,0,0,1,1] Bd13)) (by kernel_rfl) (by kernel_rfl) ?_
    refine T_keep (s':={ σ := [(4,.lf (.own 4 0)),(7,.lf (.own 7 0))],H := [(4,[.one (.vec 5005),.one (.vec 5006)]),(7,[.one (.vec 5009),.one (.vec 5010)])],V := [(5005,⟨2,1,List.length ([] : List Int),ints .i64 ([] : List Int)⟩),(5006,⟨23,4,List.length ([] : List (List Int)),rowsC .i64 ([] : List (List Int))⟩),(5009,⟨2,1,List.length L15,ints .i64 L15⟩),(5010,⟨23,4,List.length R16,rowsC .i64 R16⟩)],M := M,ds := [] }) [4,7] [4,7] [5005,5006,5009,5010] (by kernel_rfl) ?_
    refine T_exit (id:=0) (by kernel_rfl) ?_
    refine thenQ_x ?_
    refine thenQ_x ?_
    refine blockQ_x ?_
    refine thenQ_n ?_
    exact ⟨L15,R16,keep_sub (ts:=[4,7]) (hs:=[4,7]) (vs:=[5005,5006,5009,5010]) (by kernel_rfl),r_R16,h⟩
 ·rintro s' ⟨L11,R12,hsub,r_R12,h⟩
  subst e_j13
  refine thenQ_n ?_
  refine T_sub hsub ?_
  refine T_sq (by kernel_rfl) ?_
  refine T_region (id:=20) (by kernel_rfl) ?_
  refine TI_segK (i:=0) (j:=2) (s':={ σ := [(4,.lf (.own 4 0))],H := [(4,[.one (.vec 5009),.one (.vec 5010)])],V := [(5009,⟨2,1,List.length L11,ints .i64 L11⟩),(5010,⟨23,4,List.length R12,rowsC .i64 R12⟩)],M := M,ds := [] }) [4] [4] [5009,5010] (by kernel_rfl) (by kernel_rfl) ?_
  refine TI_end (by kernel_rfl) ?_
  refine thenQ_n ?_
  refine T_turn (turn_pubV 5009 (v:=⟨2,1,List.length L11,ints .i64 L11⟩) (by kernel_rfl)) ?_
  rintro _ ⟨A77,c78,M79,rfl,hSA77,hcA77,-,hNA77,hM79⟩
  have fA77 : SlI M79 A77 c78 .i64 L11 := ⟨hSA77,hcA77⟩
  refine T_keep (s':={ σ := [(4,.lf (.own 4 0))],H := [(4,[.one (.v (.slice A77 (L11.length) c78)),.one (.vec 5010)])],V := [(5010,⟨23,4,List.length R12,rowsC .i64 R12⟩)],M := M79,ds := [] }) [4] [4] [5010] (by kernel_rfl) ?_
  refine T_turn (turn_pubV 5010 (v:=⟨23,4,List.length R12,rowsC .i64 R12⟩) (by kernel_rfl)) ?_
  rintro _ ⟨A80,c81,M82,rfl,hSA80,hcA80,-,hNA80,hM82⟩
  have fA80 : SlR M82 A80 c81 .i64 4 R12 := ⟨r_R12,hSA80,hcA80⟩
  refine T_keep (s':={ σ := [(4,.lf (.own 4 0))],H := [(4,[.one (.v (.slice A77 (L11.length) c78)),.one (.v (.slice A80 (R12.length) c81))])],V := [],M := M82,ds := [] }) [4] [4] [] (by kernel_rfl) ?_
  refine T_ret (by kernel_rfl) ?_
  have h := Option.some.inj h
  subst h
  refine fin_ret (.agg [.one (.v (.slice A77 (L11.length) c78)),.one (.v (.slice A80 (R12.length) c81))]) (by kernel_rfl) (by kernel_rfl) rfl ?_
  exact ⟨A77,c78,A80,c81,rfl,(fA77.le hM82),fA80⟩
end Go.Proofs.Ythjkejbgknemgaa
namespace Go.Proofs.Ythjkejbgknemgaa
open Go.RowKit
end Go.Proofs.Ythjkejbgknemgaa
namespace Go.Proofs.Ythjkejbgknemgaa
open Go.RowKit
abbrev CT := List (List Int) × List Int × Int × List (List Int) × List (List (List Int))
structure Crs (M : Mem) (b : Nat) (A : Option Addr) (c : Nat) (AP : Option Addr) (cP : Nat) (AV : Nat → Option Addr) (cV : Nat → Nat) (R : List (List Int)) (D : List Int) (st : Int) (P : List (List Int)) (V : List (List (List Int))) : Prop where
  log : memCell M b 0 = some (.slice A (List.length R) c)
  lR : SlR M A c .i64 11 R
  lD : D.length = 4
  dr : ∀ j, j < 4 → memCell M b (1 + j) = some (.int .i64 (D.getD j 0))
  start : memCell M b 5 = some (.int .i64 st)
  plc : memCell M b 6 = some (.slice AP (List.length P) cP)
  lP : SlR M AP cP .i64 2 P
  lV : V.length = 4
  val : ∀ k, k < 4 → memCell M b (7 + k) = some (.slice (AV k) (List.length (V.getD k [])) (cV k)) ∧ SlR M (AV k) (cV k) .i64 2 (V.getD k [])
theorem Crs.le {M M' : Mem} {b A c AP cP AV cV R D st P V} (h : Crs M b A c AP cP AV cV R D st P V) (hM : Mem.le M M') : Crs M' b A c AP cP AV cV R D st P V :=
  ⟨memCell_le hM h.log, h.lR.le hM, h.lD, fun j hj => memCell_le hM (h.dr j hj), memCell_le hM h.start, memCell_le hM h.plc, h.lP.le hM, h.lV, fun k hk => ⟨memCell_le hM (h.val k hk).1, (h.val k hk).2.le hM⟩⟩
def PtrR (M : Mem) (pv : Value) : Option CT → Prop
  | none => pv = .pointer none
  | some t => ∃ b A c AP cP AV cV, pv = .pointer (some ⟨b, 0, none⟩) ∧ Crs M b A c AP cP AV cV t.1 t.2.1 t.2.2.1 t.2.2.2.1 t.2.2.2.2
theorem PtrR.le {M M' : Mem} {pv : Value} : ∀ {o : Option CT}, PtrR M pv o → Mem.le M M' → PtrR M' pv o
  | none, h, _ => h
  | some _, ⟨b, A, c, AP, cP, AV, cV, h1, h2⟩, hM => ⟨b, A, c, AP, cP, AV, cV, h1, h2.le hM⟩
def AVof (A0 A1 A2 A3 : Option Addr) : Nat → Option Addr := fun k => [A0, A1, A2, A3].getD k none
def cVof (c0 c1 c2 c3 : Nat) : Nat → Nat := fun k => [c0, c1, c2, c3].getD k 0
theorem Crs_mk {M : Mem} {b c cP c0 c1 c2 c3 : Nat} {A AP A0 A1 A2 A3 : Option Addr} {R P V0 V1 V2 V3 : List (List Int)} {D : List Int} {st : Int}
    (hM : M b = some (sgCells (fun _ => 0) (fun _ => .slice none 0 0) [.one (.v (.slice A (List.length R) c)), .arr .i64 4 D, .one (.v (.int .i64 st)), .one (.v (.slice AP (List.length P) cP)), .one (.v (.slice A0 (List.length V0) c0)), .one (.v (.slice A1 (List.length V1) c1)), .one (.v (.slice A2 (List.length V2) c2)), .one (.v (.slice A3 (List.length V3) c3))]).toArray)
    (hD : D.length = 4) (hR : SlR M A c .i64 11 R) (hP : SlR M AP cP .i64 2 P) (h0 : SlR M A0 c0 .i64 2 V0) (h1 : SlR M A1 c1 .i64 2 V1) (h2 : SlR M A2 c2 .i64 2 V2) (h3 : SlR M A3 c3 .i64 2 V3) :
    Crs M b A c AP cP (AVof A0 A1 A2 A3) (cVof c0 c1 c2 c3) R D st P [V0, V1, V2, V3] := by
  obtain ⟨d0, d1, d2, d3, rfl⟩ : ∃ d0 d1 d2 d3, D = [d0, d1, d2, d3] := by
    match D, hD with
    | [d0, d1, d2, d3], _ => exact ⟨d0, d1, d2, d3, rfl⟩
  have g : ∀ {off v}, (sgCells (fun _ => 0) (fun _ => Value.slice none 0 0) [.one (.v (.slice A (List.length R) c)), .arr .i64 4 [d0, d1, d2, d3], .one (.v (.int .i64 st)), .one (.v (.slice AP (List.length P) cP)), .one (.v (.slice A0 (List.length V0) c0)), .one (.v (.slice A1 (List.length V1) c1)), .one (.v (.slice A2 (List.length V2) c2)), .one (.v (.slice A3 (List.length V3) c3))])[off]? = some v → memCell M b off = some v := fun h => cell_block hM h
  refine ⟨g rfl, hR, rfl, ?_, g rfl, g rfl, hP, rfl, ?_⟩
  · intro j hj
    match j, hj with
    | 0, _ => exact g rfl
    | 1, _ => exact g rfl
    | 2, _ => exact g rfl
    | 3, _ => exact g rfl
  · intro k hk
    match k, hk with
    | 0, _ => exact ⟨g rfl, h0⟩
    | 1, _ => exact ⟨g rfl, h1⟩
    | 2, _ => exact ⟨g rfl, h2⟩
    | 3, _ => exact ⟨g rfl, h3⟩
def bands4 (L : List Int) : List (List Int) := [List.take 2 (List.drop 3 L), List.take 2 (List.drop 5 L), List.take 2 (List.drop 7 L), List.take 2 (List.drop 9 L)]
theorem bands4_rows {L : List Int} (h : L.length = 11) : ∀ r ∈ bands4 L, r.length = 2 := by
  intro r hr
  simp only [bands4, List.mem_cons, List.mem_nil_iff, or_false] at hr
  rcases hr with rfl | rfl | rfl | rfl <;> (rw [List.length_take, List.length_drop, h]; rfl)
theorem bands4_cells {k : IntKind} {L : List Int} (h : L.length = 11) : ((sgCells (fun _ => 0) (fun _ => Value.slice none 0 0) [.arr k 11 L]).drop 3).take 8 = rowsC k (bands4 L) := by
  match L, h with
  | [a0, a1, a2, a3, a4, a5, a6, a7, a8, a9, a10], _ => rfl
end Go.Proofs.Ythjkejbgknemgaa
namespace Go.Proofs.Ythjkejbgknemgaa
open Go.RowKit
def p86 (k : Nat) (u0R : List (List Int)) (u0D : List Int) (u0st : Int) (u0P : List (List Int)) (u0V : List (List (List Int))) : Option Int :=
 lt' (wr .i64 ((u0P.length : Int) - (1 : Int))) fun x1 => some x1
theorem hf86 : Try.prog.funcs[86]? = some Try.f86 := by kernel_rfl
theorem w86 (k : Nat) {M : Mem} {u0b : Nat} {u0A : Option Addr} {u0c : Nat} {u0AP : Option Addr} {u0cP : Nat} {u0AV : Nat → Option Addr} {u0cV : Nat → Nat} {u0R : List (List Int)} {u0D : List Int} {u0st : Int} {u0P : List (List Int)} {u0V : List (List (List Int))} (hu0 : Crs M u0b u0A u0c u0AP u0cP u0AV u0cV u0R u0D u0st u0P u0V) {r} (h : p86 k u0R u0D u0st u0P u0V = some r) :
  Fn Try.prog 86 [rval (.lf (.v (.pointer (some ⟨u0b,0,none⟩))))] M (fun x _ => x = vi r) := by
 unfold p86 at h
 refine Fn_of (P:=Try.prog) (fn:=Try.f86) (c:=bodyOf Try.f86) [.lf (.v (.pointer (some ⟨u0b,0,none⟩)))] hf86 (by kernel_rfl) (Nat.le_of_ble_eq_true (by kernel_rfl)) (args_ok (by kernel_rfl) ⟨trivial,trivial⟩) fun w => ?_
 change T _ _ _ (endQ _ _ _)
 refine T_seq (c1:=(sub [0] Bd86)) (c2:=(sub [1] Bd86)) (by kernel_rfl) ?_
 refine T_region (id:=0) (by kernel_rfl) ?_
 refine TI_segK (i:=0) (j:=1) (s':={ σ := [(0,.lf (.v (.pointer (some ⟨u0b,0,none⟩))))],H := [],V := [],M := M,ds := [] }) [0] [] [] (by kernel_rfl) (by kernel_rfl) ?_
 refine TI_end (by kernel_rfl) ?_
 refine thenQ_n ?_
 refine T_sq (by kernel_rfl) ?_
 refine T_region (id:=1) (by kernel_rfl) ?_
 refine TI_segS (i:=0) (j:=3) [(5,.lf (.v (.pointer (some ⟨u0b,6,none⟩))))] (by kernel_rfl) (by kernel_rfl) ?_
 refine TI_at (i:=3) (d:=6) (x:=.lf (.v (.slice u0AP (u0P.length) u0cP))) (by exact At_ldP (d:=6) (b:=u0b) (off:=6) (m:=1) (v:=(.slice u0AP (u0P.length) u0cP)) (by kernel_rfl) (hu0).plc) (by kernel_rfl) trivial ?_
 obtain ⟨x1,e_x1,h⟩ := lt_some h
 refine TI_segK (i:=4) (j:=7) (s':={ σ := [(2,vi x1)],H := [],V := [],M := M,ds := [] }) [2] [] [] (by subst e_x1;kernel_rfl) (by kernel_rfl) ?_
 refine TI_end (by kernel_rfl) ?_
 refine thenQ_n ?_
 refine T_ret (by kernel_rfl) ?_
 have h := Option.some.inj h
 subst h
 refine fin_ret (vi x1) (by kernel_rfl) (by kernel_rfl) rfl ?_
 rfl
def p54 (k : Nat) (u0R : List (List Int)) (u0D : List Int) (u0st : Int) (u0P : List (List Int)) (u0V : List (List (List Int))) (u1_0 : List Int) (u1_1 : List (List Int)) : Option Bool :=
 jn (fun (b1 : Bool) => some b1) fun j2 => lt' ((u1_0.length : Int) == (u0P.length : Int)) fun b3 => sp b3 (lt' ((u1_1.length : Int) == (u0P.length : Int)) fun b4 => j2 b4) (j2 false)
theorem hf54 : Try.prog.funcs[54]? = some Try.f54 := by kernel_rfl
theorem w54 (k : Nat) {M : Mem} {u0b : Nat} {u0A : Option Addr} {u0c : Nat} {u0AP : Option Addr} {u0cP : Nat} {u0AV : Nat → Option Addr} {u0cV : Nat → Nat} {Au1_0 : Option Addr} {cu1_0 : Nat} {Au1_1 : Option Addr} {cu1_1 : Nat} {u0R : List (List Int)} {u0D : List Int} {u0st : Int} {u0P : List (List Int)} {u0V : List (List (List Int))} {u1_0 : List Int} {u1_1 : List (List Int)} (hu0 : Crs M u0b u0A u0c u0AP u0cP u0AV u0cV u0R u0D u0st u0P u0V) (hu1_0 : SlI M Au1_0 cu1_0 .i64 u1_0) (hu1_1 : SlR M Au1_1 cu1_1 .i64 4 u1_1) {r} (h : p54 k u0R u0D u0st u0P u0V u1_0 u1_1 = some r) :
  Fn Try.prog 54 [rval (.lf (.v (.pointer (some ⟨u0b,0,none⟩)))),rval (.agg [.one (.v (.slice Au1_0 (u1_0.length) cu1_0)),.one (.v (.slice Au1_1 (u1_1.length) cu1_1))])] M (fun x _ => x = vb r) := by
 unfold p54 at h
 refine Fn_of (P:=Try.prog) (fn:=Try.f54) (c:=bodyOf Try.f54) [.lf (.v (.pointer (some ⟨u0b,0,none⟩))),.agg [.one (.v (.slice Au1_0 (u1_0.length) cu1_0)),.one (.v (.slice Au1_1 (u1_1.length) cu1_1))]] hf54 (by kernel_rfl) (Nat.le_of_ble_eq_true (by kernel_rfl)) (args_ok (by kernel_rfl) ⟨trivial,⟨⟨rfl,⟨rfl,trivial⟩⟩,trivial⟩⟩) fun w => ?_
 change T _ _ _ (endQ _ _ _)
 refine T_seq (c1:=(sub [0] Bd54)) (c2:=(sub [1] Bd54)) (by kernel_rfl) ?_
 refine T_region (id:=0) (by kernel_rfl) ?_
 refine TI_segK (i:=0) (j:=2) (s':={ σ := [(0,.lf (.v (.pointer (some ⟨u0b,0,none⟩)))),(3,.lf (.own 3 0))],H := [(3,[.one (.v (.slice Au1_0 (u1_0.length) cu1_0)),.one (.v (.slice Au1_1 (u1_1.length) cu1_1))])],V := [],M := M,ds := [] }) [0,3] [3] [] (by kernel_rfl) (by kernel_rfl) ?_
 refine TI_end (by kernel_rfl) ?_
 refine thenQ_n ?_
 obtain ⟨j2,e_j2,h⟩ := jn_some h
 refine T_cut (c1:=(sub [1,0] Bd54)) (c2:=(sub [1,1] Bd54)) (fun s' => ∃ (b1 : Bool),Sub { σ := [(4,vb b1)],H := [],V := [],M := M,ds := [] } s' ∧ j2 b1 = some r) (by kernel_rfl) ?_ ?_
 ·obtain ⟨b3,e_b3,h⟩ := lt_some h
  cases b3 with
  | true =>
   replace h := sp_t h
   obtain ⟨b4,e_b4,h⟩ := lt_some h
   refine T_draw' (id:=1) [] [0,0,0,0,0,0,0,0,0,0,0,0,0,0,0,0,0,0,0,0,0] (by kernel_rfl) (by kernel_rfl) (by kernel_rfl) (by kernel_rfl) [(5,.lf (.own 3 0)),(6,.lf (.v (.slice Au1_0 (u1_0.length) cu1_0))),(7,vi (u1_0.length : Int)),(8,.lf (.v (.pointer (some ⟨u0b,0,none⟩)))),(9,.lf (.v (.pointer (some ⟨u0b,0,none⟩)))),(10,.lf (.v (.pointer (some ⟨u0b,6,none⟩)))),(11,.lf (.v (.slice u0AP (u0P.length) u0cP))),(12,vi (u0P.length : Int)),(13,vb true),(14,vb true),(15,.lf (.own 3 1)),(16,.lf (.v (.slice Au1_1 (u1_1.length) cu1_1))),(17,vi (u1_1.length : Int)),(18,.lf (.v (.pointer (some ⟨u0b,0,none⟩)))),(19,.lf (.v (.pointer (some ⟨u0b,0,none⟩)))),(20,.lf (.v (.pointer (some ⟨u0b,6,none⟩)))),(21,.lf (.v (.slice u0AP (u0P.length) u0cP))),(22,vi (u0P.length : Int)),(23,vb b4),(24,vb b4),(4,vb b4)] (by kernel_rfl) (wfs_lf _ (by kernel_rfl)) ?_
   refine Stage_nil (stage_all' [0,1,2,3,4,5,7,9,10,11,12,13,14,15,17,18,19,20] [6,8,16] (by kernel_rfl) (by subst e_b4;kernel_rfl) (by kernel_rfl) ⟨QF_at (i:=6) (d:=11) (x:=.lf (.v (.slice u0AP (u0P.length) u0cP))) (show OpAt _ _ _ 6 11 _ from by exact At_ldP (d:=11) (b:=u0b) (off:=6) (m:=1) (v:=(.slice u0AP (u0P.length) u0cP)) (by subst e_b4;kernel_rfl) (hu0).plc) (by kernel_rfl) (by subst e_b4;kernel_rfl),⟨QF_at (i:=8) (d:=13) (x:=vb true) (show OpAt _ _ _ 8 13 _ from by exact At_bin (d:=13) (b:=.eql) (u:=.int .i64 (u1_0.length : Int)) (v:=.int .i64 (u0P.length : Int)) (w':=.bool true) (by subst e_b4;kernel_rfl) (by rw [show exBin .eql (.int .i64 (u1_0.length : Int)) (.int .i64 (u0P.length : Int)) = some (.bool ((u1_0.length : Int) == (u0P.length : Int))) from by kernel_rfl,← e_b3])) (by kernel_rfl) (by subst e_b4;kernel_rfl),⟨QF_at (i:=16) (d:=21) (x:=.lf (.v (.slice u0AP (u0P.length) u0cP))) (show OpAt _ _ _ 16 21 _ from by exact At_ldP (d:=21) (b:=u0b) (off:=6) (m:=1) (v:=(.slice u0AP (u0P.length) u0cP)) (by subst e_b4;kernel_rfl) (hu0).plc) (by kernel_rfl) (by subst e_b4;kernel_rfl),trivial⟩⟩⟩) ?_
   refine thenQ_n ?_
   exact ⟨b4,keep_sub (ts:=[4]) (hs:=[]) (vs:=[]) (by subst e_b4;kernel_rfl),h⟩
  | false =>
   replace h := sp_f h
   refine T_draw' (id:=1) [] [0,0,0,0,0,0,0,0,0,0,0,0,0,0,0,0,0,0,0,0,0] (by kernel_rfl) (by kernel_rfl) (by kernel_rfl) (by kernel_rfl) [(5,.lf (.own 3 0)),(6,.lf (.v (.slice Au1_0 (u1_0.length) cu1_0))),(7,vi (u1_0.length : Int)),(8,.lf (.v (.pointer (some ⟨u0b,0,none⟩)))),(9,.lf (.v (.pointer (some ⟨u0b,0,none⟩)))),(10,.lf (.v (.pointer (some ⟨u0b,6,none⟩)))),(11,.lf (.v (.slice u0AP (u0P.length) u0cP))),(12,vi (u0P.length : Int)),(13,vb false),(14,vb false),(15,.tup []),(16,.tup []),(17,.tup []),(18,.tup []),(19,.tup []),(20,.tup []),(21,.tup []),(22,.tup []),(23,.tup []),(24,vb false),(4,vb false)] (by kernel_rfl) ⟨trivial,⟨trivial,⟨trivial,⟨trivial,⟨trivial,⟨trivial,⟨trivial,⟨trivial,⟨trivial,⟨trivial,⟨(by intro y hy;cases hy),⟨(by intro y hy;cases hy),⟨(by intro y hy;cases hy),⟨(by intro y hy;cases hy),⟨(by intro y hy;cases hy),⟨(by intro y hy;cases hy),⟨(by intro y hy;cases hy),⟨(by intro y hy;cases hy),⟨(by intro y hy;cases hy),⟨trivial,⟨trivial,trivial⟩⟩⟩⟩⟩⟩⟩⟩⟩⟩⟩⟩⟩⟩⟩⟩⟩⟩⟩⟩⟩ ?_
   refine Stage_nil (stage_all' [0,1,2,3,4,5,7,9,10,11,12,13,14,15,16,17,18,19,20] [6,8] (by kernel_rfl) (by kernel_rfl) (by kernel_rfl) ⟨QF_at (i:=6) (d:=11) (x:=.lf (.v (.slice u0AP (u0P.length) u0cP))) (show OpAt _ _ _ 6 11 _ from by exact At_ldP (d:=11) (b:=u0b) (off:=6) (m:=1) (v:=(.slice u0AP (u0P.length) u0cP)) (by kernel_rfl) (hu0).plc) (by kernel_rfl) (by kernel_rfl),⟨QF_at (i:=8) (d:=13) (x:=vb false) (show OpAt _ _ _ 8 13 _ from by exact At_bin (d:=13) (b:=.eql) (u:=.int .i64 (u1_0.length : Int)) (v:=.int .i64 (u0P.length : Int)) (w':=.bool false) (by kernel_rfl) (by rw [show exBin .eql (.int .i64 (u1_0.length : Int)) (.int .i64 (u0P.length : Int)) = some (.bool ((u1_0.length : Int) == (u0P.length : Int))) from by kernel_rfl,← e_b3])) (by kernel_rfl) (by kernel_rfl),trivial⟩⟩) ?_
   refine thenQ_n ?_
   exact ⟨false,keep_sub (ts:=[4]) (hs:=[]) (vs:=[]) (by kernel_rfl),h⟩
 ·rintro s' ⟨b1,hsub,h⟩
  subst e_j2
  refine T_sub hsub ?_
  refine T_ret (by kernel_rfl) ?_
  have h := Option.some.inj h
  subst h
  refine fin_ret (vb b1) (by kernel_rfl) (by kernel_rfl) rfl ?_
  rfl
def p67 (k : Nat) (u0_0R : List (List Int)) (u0_0D : List Int) (u0_0st : Int) (u0_0P : List (List Int)) (u0_0V : List (List (List Int))) (u0_1 : Int) (u0_2 : Int) (u1 : Int) : Option Int :=
 lt' (decide (u1 < u0_1)) fun b1 => sp b1 (gd ((0 : Int) ≤ u1 ∧ u1 < (u0_0P.length : Int)) <| lt' (List.getD (List.getD u0_0P ((u1).toNat) []) 0 0) fun x3 => some x3) (gd ((0 : Int) ≤ u1 ∧ u1 < (u0_0P.length : Int)) <| lt' (List.getD (List.getD u0_0P ((u1).toNat) []) 0 0) fun x5 => lt' (mx x5 u0_2) fun x6 => some x6)
theorem hf67 : Try.prog.funcs[67]? = some Try.f67 := by kernel_rfl
theorem w67 (k : Nat) {M : Mem} {u0_0b : Nat} {u0_0A : Option Addr} {u0_0c : Nat} {u0_0AP : Option Addr} {u0_0cP : Nat} {u0_0AV : Nat → Option Addr} {u0_0cV : Nat → Nat} {u0_0R : List (List Int)} {u0_0D : List Int} {u0_0st : Int} {u0_0P : List (List Int)} {u0_0V : List (List (List Int))} {u0_1 : Int} {u0_2 : Int} {u1 : Int} (hu0_0 : Crs M u0_0b u0_0A u0_0c u0_0AP u0_0cP u0_0AV u0_0cV u0_0R u0_0D u0_0st u0_0P u0_0V) {r} (h : p67 k u0_0R u0_0D u0_0st u0_0P u0_0V u0_1 u0_2 u1 = some r) :
  Fn Try.prog 67 [rval (.agg [.one (.v (.pointer (some ⟨u0_0b,0,none⟩))),.one (.v (.int .i64 u0_1)),.one (.v (.int .i64 u0_2))]),rval (vi u1)] M (fun x _ => x = vi r) := by
 unfold p67 at h
 refine Fn_of (P:=Try.prog) (fn:=Try.f67) (c:=bodyOf Try.f67) [.agg [.one (.v (.pointer (some ⟨u0_0b,0,none⟩))),.one (.v (.int .i64 u0_1)),.one (.v (.int .i64 u0_2))],vi u1] hf67 (by kernel_rfl) (Nat.le_of_ble_eq_true (by kernel_rfl)) (args_ok (by kernel_rfl) ⟨⟨rfl,⟨rfl,⟨rfl,trivial⟩⟩⟩,⟨trivial,trivial⟩⟩) fun w => ?_
 change T _ _ _ (endQ _ _ _)
 refine T_seq (c1:=(sub [0] Bd67)) (c2:=(sub [1] Bd67)) (by kernel_rfl) ?_
 refine T_region (id:=0) (by kernel_rfl) ?_
 refine TI_segK (i:=0) (j:=2) (s':={ σ := [(1,vi u1),(2,.lf (.own 2 0))],H := [(2,[.one (.v (.pointer (some ⟨u0_0b,0,none⟩))),.one (.v (.int .i64 u0_1)),.one (.v (.int .i64 u0_2))])],V := [],M := M,ds := [] }) [1,2] [2] [] (by kernel_rfl) (by kernel_rfl) ?_
 refine TI_end (by kernel_rfl) ?_
 refine thenQ_n ?_
 refine T_sq (by kernel_rfl) ?_
 refine T_sq (by kernel_rfl) ?_
 refine T_region (id:=1) (by kernel_rfl) ?_
 obtain ⟨b1,e_b1,h⟩ := lt_some h
 refine TI_segS (i:=0) (j:=4) [(1,vi u1),(2,.lf (.own 2 0)),(8,vb b1)] (by subst e_b1;kernel_rfl) (by kernel_rfl) ?_
 refine TI_end (by kernel_rfl) ?_
 refine thenQ_n ?_
 cases b1 with
 | true =>
  replace h := sp_t h
  refine T_condT (x:=(.tmp 8)) (c1:=(sub [1,0,1,0] Bd67)) (c2:=(sub [1,0,1,1] Bd67)) (by kernel_rfl) (by kernel_rfl) ?_
  refine T_keepS [(1,vi u1),(2,.lf (.own 2 0))] (by kernel_rfl) ?_
  refine T_sq (by kernel_rfl) ?_
  refine T_region (id:=2) (by kernel_rfl) ?_
  refine TI_segK (i:=0) (j:=4) (s':={ σ := [(1,vi u1),(12,.lf (.v (.pointer (some ⟨u0_0b,6,none⟩))))],H := [],V := [],M := M,ds := [] }) [1,12] [] [] (by kernel_rfl) (by kernel_rfl) ?_
  refine TI_at (i:=4) (d:=13) (x:=.lf (.v (.slice u0_0AP (u0_0P.length) u0_0cP))) (by exact At_ldP (d:=13) (b:=u0_0b) (off:=6) (m:=1) (v:=(.slice u0_0AP (u0_0P.length) u0_0cP)) (by kernel_rfl) (hu0_0).plc) (by kernel_rfl) trivial ?_
  refine TI_segK (i:=5) (j:=6) (s':={ σ := [(13,.lf (.v (.slice u0_0AP (u0_0P.length) u0_0cP))),(14,vi u1)],H := [],V := [],M := M,ds := [] }) [13,14] [] [] (by kernel_rfl) (by kernel_rfl) ?_
  obtain ⟨g2,h⟩ := gd_some h
  refine TI_at (i:=6) (d:=15) (x:=.lf (.ep (.slice u0_0AP (u0_0P.length) u0_0cP) 2 ((u1).toNat) 0)) (by exact At_idxR (d:=15) (z:=u1) (by kernel_rfl) g2 (hu0_0).lP) (by kernel_rfl) trivial ?_
  refine TI_segK (i:=7) (j:=8) (s':={ σ := [(16,.lf (.ep (.slice u0_0AP (u0_0P.length) u0_0cP) 2 ((u1).toNat) 0))],H := [],V := [],M := M,ds := [] }) [16] [] [] (by kernel_rfl) (by kernel_rfl) ?_
  obtain ⟨x3,e_x3,h⟩ := lt_some h
  refine TI_at (i:=8) (d:=17) (x:=vi x3) (by rw [e_x3]; exact At_ldR1 (d:=17) (q:=(u1).toNat) (j:=0) (by subst e_x3; kernel_rfl) rfl (toNat_lt g2) (hu0_0).lP) (by kernel_rfl) trivial ?_
  refine TI_segK (i:=9) (j:=10) (s':={ σ := [(4,vi x3)],H := [],V := [],M := M,ds := [] }) [4] [] [] (by kernel_rfl) (by kernel_rfl) ?_
  refine TI_end (by kernel_rfl) ?_
  refine thenQ_n ?_
  refine T_ret (by kernel_rfl) ?_
  refine thenQ_r ?_
  have h := Option.some.inj h
  subst h
  refine fin_ret (vi x3) (by kernel_rfl) (by kernel_rfl) rfl ?_
  rfl
 | false =>
  replace h := sp_f h
  refine T_condF (x:=(.tmp 8)) (c1:=(sub [1,0,1,0] Bd67)) (c2:=(sub [1,0,1,1] Bd67)) (by kernel_rfl) (by kernel_rfl) ?_
  refine T_keepS [(1,vi u1),(2,.lf (.own 2 0))] (by kernel_rfl) ?_
  refine T_skip (by kernel_rfl) ?_
  refine thenQ_n ?_
  refine T_sq (by kernel_rfl) ?_
  obtain ⟨g4,h⟩ := gd_some h
  obtain ⟨x5,e_x5,h⟩ := lt_some h
  obtain ⟨x6,e_x6,h⟩ := lt_some h
  refine T_draw' (id:=3) [] [0,0,0,0,0,0,0,0,0,0,0,0,0] (by kernel_rfl) (by kernel_rfl) (by kernel_rfl) (by kernel_rfl) [(18,.lf (.own 2 0)),(19,.lf (.v (.pointer (some ⟨u0_0b,0,none⟩)))),(20,.lf (.v (.pointer (some ⟨u0_0b,0,none⟩)))),(21,.lf (.v (.pointer (some ⟨u0_0b,6,none⟩)))),(22,.lf (.v (.slice u0_0AP (u0_0P.length) u0_0cP))),(23,vi u1),(24,.lf (.ep (.slice u0_0AP (u0_0P.length) u0_0cP) 2 ((u1).toNat) 0)),(25,.lf (.ep (.slice u0_0AP (u0_0P.length) u0_0cP) 2 ((u1).toNat) 0)),(26,vi x5),(27,.lf (.own 2 2)),(28,vi u0_2),(29,vi x6),(4,vi x6)] (by kernel_rfl) (wfs_lf _ (by kernel_rfl)) ?_
  refine Stage_nil (stage_all' [0,1,2,3,5,7,9,10,11,12] [4,6,8] (by kernel_rfl) (by subst e_x6 e_x5; kernel_rfl) (by kernel_rfl) ⟨QF_at (i:=4) (d:=22) (x:=.lf (.v (.slice u0_0AP (u0_0P.length) u0_0cP))) (show OpAt _ _ _ 4 22 _ from by exact At_ldP (d:=22) (b:=u0_0b) (off:=6) (m:=1) (v:=(.slice u0_0AP (u0_0P.length) u0_0cP)) (by subst e_x6 e_x5; kernel_rfl) (hu0_0).plc) (by kernel_rfl) (by subst e_x6 e_x5; kernel_rfl),⟨QF_at (i:=6) (d:=24) (x:=.lf (.ep (.slice u0_0AP (u0_0P.length) u0_0cP) 2 ((u1).toNat) 0)) (show OpAt _ _ _ 6 24 _ from by exact At_idxR (d:=24) (z:=u1) (by subst e_x6 e_x5; kernel_rfl) g4 (hu0_0).lP) (by kernel_rfl) (by subst e_x6 e_x5; kernel_rfl),⟨QF_at (i:=8) (d:=26) (x:=vi x5) (show OpAt _ _ _ 8 26 _ from by rw [e_x5]; exact At_ldR1 (d:=26) (q:=(u1).toNat) (j:=0) (by subst e_x6 e_x5; kernel_rfl) rfl (toNat_lt g4) (hu0_0).lP) (by kernel_rfl) (by subst e_x6 e_x5; kernel_rfl),trivial⟩⟩⟩) ?_
  refine thenQ_n ?_
  refine T_keep (s':={ σ := [(4,vi x6)],H := [],V := [],M := M,ds := [] }) [4] [] [] (by subst e_x6 e_x5;kernel_rfl) ?_
  refine T_ret (by kernel_rfl) ?_
  have h := Option.some.inj h
  subst h
  refine fin_ret (vi x6) (by kernel_rfl) (by kernel_rfl) rfl ?_
  rfl
def p73_l1 (k : Nat) (u0R : List (List Int)) (u1 : Int) (j3 : List Int → Option (List Int)) : Nat → Int → List Int → Option (List Int)
 | 0,_,_ => none
 | n7 + 1,x4,L5 => lt' (decide (x4 < (u0R.length : Int))) fun b8 => sp b8 (jn (fun (L9 : List Int) => lt' (wr .i64 (x4 + (1 : Int))) fun x33 => p73_l1 k u0R u1 j3 n7 x33 L9) fun j11 => gd ((0 : Int) ≤ x4 ∧ x4 < (u0R.length : Int)) <| lt' (List.getD u0R ((x4).toNat) []) fun L13 => jn (fun (L14 : List Int) => lt' (List.getD L13 0 0) fun x25 => lt' (decide (x25 ≥ u1)) fun b26 => sp b26 (lt' (List.getD L13 2 0) fun x27 => cl (p83 k ([L14,[(-1073741824 : Int),x27]])) fun v31 => gd ((v31).length = 2) <| j11 v31) (j11 L14)) fun j16 => lt' (List.getD L13 0 0) fun x17 => lt' (decide (x17 ≤ u1)) fun b18 => sp b18 (lt' (List.getD L13 1 0) fun x19 => cl (p83 k ([L5,[x19,(1073741824 : Int)]])) fun v23 => gd ((v23).length = 2) <| j16 v23) (j16 L5)) (j3 L5)
def p73 (k : Nat) (u0R : List (List Int)) (u0D : List Int) (u0st : Int) (u0P : List (List Int)) (u0V : List (List (List Int))) (u1 : Int) : Option (List Int) :=
 jn (fun (L1 : List Int) => some L1) fun j3 => p73_l1 k u0R u1 j3 k (0 : Int) ([(-1073741824 : Int),(1073741824 : Int)])
theorem hf73 : Try.prog.funcs[73]? = some Try.f73 := by kernel_rfl
theorem w73 (k : Nat) {M : Mem} {u0b : Nat} {u0A : Option Addr} {u0c : Nat} {u0AP : Option Addr} {u0cP : Nat} {u0AV : Nat → Option Addr} {u0cV : Nat → Nat} {u0R : List (List Int)} {u0D : List Int} {u0st : Int} {u0P : List (List Int)} {u0V : List (List (List Int))} {u1 : Int} (hu0 : Crs M u0b u0A u0c u0AP u0cP u0AV u0cV u0R u0D u0st u0P u0V) {r} (h : p73 k u0R u0D u0st u0P u0V u1 = some r) :
  Fn Try.prog 73 [rval (.lf (.v (.pointer (some ⟨u0b,0,none⟩)))),rval (vi u1)] M (fun x _ => x = .agg [.arr .i64 2 r]) := by
 unfold p73 at h
 refine Fn_of (P:=Try.prog) (fn:=Try.f73) (c:=bodyOf Try.f73) [.lf (.v (.pointer (some ⟨u0b,0,none⟩))),vi u1] hf73 (by kernel_rfl) (Nat.le_of_ble_eq_true (by kernel_rfl)) (args_ok (by kernel_rfl) ⟨trivial,⟨trivial,trivial⟩⟩) fun w => ?_
 change T _ _ _ (endQ _ _ _)
 refine T_seq (c1:=(sub [0] Bd73)) (c2:=(sub [1] Bd73)) (by kernel_rfl) ?_
 refine T_region (id:=0) (by kernel_rfl) ?_
 refine TI_segK (i:=0) (j:=1) (s':={ σ := [(0,.lf (.v (.pointer (some ⟨u0b,0,none⟩)))),(1,vi u1),(4,.lf (.own 4 0))],H := [(4,[.arr .i64 2 [(0 : Int),(0 : Int)]])],V := [],M := M,ds := [] }) [0,1,4] [4] [] (by kernel_rfl) (by kernel_rfl) ?_
 refine TI_end (by kernel_rfl) ?_
 refine thenQ_n ?_
 refine T_sq (by kernel_rfl) ?_
 refine T_region (id:=1) (by kernel_rfl) ?_
 refine TI_segK (i:=0) (j:=3) (s':={ σ := [(0,.lf (.v (.pointer (some ⟨u0b,0,none⟩)))),(1,vi u1),(4,.lf (.own 4 0)),(5,.lf (.own 5 0))],H := [(4,[.arr .i64 2 [(0 : Int),(0 : Int)]]),(5,[.arr .i64 2 [(-1073741824 : Int),(1073741824 : Int)]])],V := [],M := M,ds := [] }) [0,1,4,5] [4,5] [] (by kernel_rfl) (by kernel_rfl) ?_
 refine TI_end (by kernel_rfl) ?_
 refine thenQ_n ?_
 refine T_sq (by kernel_rfl) ?_
 refine T_sq (by kernel_rfl) ?_
 refine T_region (id:=2) (by kernel_rfl) ?_
 refine TI_segS (i:=0) (j:=4) [(1,vi u1),(4,.lf (.own 4 0)),(5,.lf (.own 5 0)),(12,.lf (.v (.pointer (some ⟨u0b,0,none⟩))))] (by kernel_rfl) (by kernel_rfl) ?_
 refine TI_at (i:=4) (d:=13) (x:=.lf (.v (.slice u0A (u0R.length) u0c))) (by exact At_ldP (d:=13) (b:=u0b) (off:=0) (m:=1) (v:=(.slice u0A (u0R.length) u0c)) (by kernel_rfl) (hu0).log) (by kernel_rfl) trivial ?_
 refine TI_segK (i:=5) (j:=7) (s':={ σ := [(1,vi u1),(4,.lf (.own 4 0)),(5,.lf (.own 5 0)),(13,.lf (.v (.slice u0A (u0R.length) u0c))),(14,vi (u0R.length : Int)),(15,vi (0 : Int))],H := [(4,[.arr .i64 2 [(0 : Int),(0 : Int)]]),(5,[.arr .i64 2 [(-1073741824 : Int),(1073741824 : Int)]])],V := [],M := M,ds := [] }) [1,4,5,13,14,15] [4,5] [] (by kernel_rfl) (by kernel_rfl) ?_
 refine TI_end (by kernel_rfl) ?_
 refine thenQ_n ?_
 obtain ⟨j3,e_j3,h⟩ := jn_some h
 refine T_bcut (id:=0) (c1:=(sub [1,1,0,1,0] Bd73)) (fun s' => ∃ (L1 : List Int) (M2 : Mem),Sub { σ := [(4,.lf (.own 4 0)),(5,.lf (.own 5 0))],H := [(4,[.arr .i64 2 [(0 : Int),(0 : Int)]]),(5,[.arr .i64 2 L1])],V := [],M := M2,ds := [] } s' ∧ Mem.le M M2 ∧ (L1).length = 2 ∧ j3 L1 = some r) (by kernel_rfl) ?_ ?_
 ·refine T_loop (c1:=(sub [1,1,0,1,0,0] Bd73)) (by kernel_rfl) (fun n7 s' => ∃ (x4 : Int) (L5 : List Int) (M6 : Mem),Sub { σ := [(1,vi u1),(4,.lf (.own 4 0)),(5,.lf (.own 5 0)),(13,.lf (.v (.slice u0A (u0R.length) u0c))),(14,vi (u0R.length : Int)),(15,vi x4)],H := [(4,[.arr .i64 2 [(0 : Int),(0 : Int)]]),(5,[.arr .i64 2 L5])],V := [],M := M6,ds := [] } s' ∧ Mem.le M M6 ∧ (L5).length = 2 ∧ p73_l1 k u0R u1 j3 n7 x4 L5 = some r) (k:=k) ⟨(0 : Int),([(-1073741824 : Int),(1073741824 : Int)]),M,keep_sub (ts:=[1,4,5,13,14,15]) (hs:=[4,5]) (vs:=[]) (by kernel_rfl),(Mem.le_refl _),rfl,h⟩ ?_
  rintro n7 s' ⟨x4,L5,M6,hsub,hM6,l_L5,h⟩
  cases n7 with
  | zero => rw [p73_l1] at h;cases h
  | succ n7 =>
   rw [p73_l1] at h
   refine T_sub hsub ?_
   refine T_sq (by kernel_rfl) ?_
   refine T_region (id:=3) (by kernel_rfl) ?_
   obtain ⟨b8,e_b8,h⟩ := lt_some h
   refine TI_segK (i:=0) (j:=1) (s':={ σ := [(1,vi u1),(4,.lf (.own 4 0)),(5,.lf (.own 5 0)),(13,.lf (.v (.slice u0A (u0R.length) u0c))),(14,vi (u0R.length : Int)),(15,vi x4),(16,vb b8)],H := [(4,[.arr .i64 2 [(0 : Int),(0 : Int)]]),(5,[.arr .i64 2 L5])],V := [],M := M6,ds := [] }) [1,4,5,13,14,15,16] [4,5] [] (by subst e_b8;kernel_rfl) (by kernel_rfl) ?_
   refine TI_end (by kernel_rfl) ?_
   refine thenQ_n ?_
   refine T_sq (by kernel_rfl) ?_
   cases b8 with
   | true =>
    replace h := sp_t h
    refine T_condT (x:=(.tmp 16)) (c1:=(sub [1,1,0,1,0,0,1,0,0] Bd73)) (c2:=(sub [1,1,0,1,0,0,1,0,1] Bd73)) (by kernel_rfl) (by kernel_rfl) ?_
    refine T_keepS [(1,vi u1),(4,.lf (.own 4 0)),(5,.lf (.own 5 0)),(13,.lf (.v (.slice u0A (u0R.length) u0c))),(14,vi (u0R.length : Int)),(15,vi x4)] (by kernel_rfl) ?_
    refine T_skip (by kernel_rfl) ?_
    refine thenQ_n ?_
    obtain ⟨j11,e_j11,h⟩ := jn_some h
    refine T_cut (c1:=(sub [1,1,0,1,0,0,1,1,0] Bd73)) (c2:=(sub [1,1,0,1,0,0,1,1,1] Bd73)) (fun s' => ∃ (L9 : List Int) (M10 : Mem),Sub { σ := [(1,vi u1),(4,.lf (.own 4 0)),(5,.lf (.own 5 0)),(13,.lf (.v (.slice u0A (u0R.length) u0c))),(14,vi (u0R.length : Int)),(15,vi x4)],H := [(4,[.arr .i64 2 [(0 : Int),(0 : Int)]]),(5,[.arr .i64 2 L9])],V := [],M := M10,ds := [] } s' ∧ Mem.le M6 M10 ∧ (L9).length = 2 ∧ j11 L9 = some r) (by kernel_rfl) ?_ ?_
    ·refine T_block (id:=1) (c1:=(sub [1,1,0,1,0,0,1,1,0,0] Bd73)) (by kernel_rfl) ?_
     refine T_sq (by kernel_rfl) ?_
     refine T_region (id:=4) (by kernel_rfl) ?_
     obtain ⟨g12,h⟩ := gd_some h
     refine TI_at (i:=0) (d:=17) (x:=.lf (.ep (.slice u0A (u0R.length) u0c) 11 ((x4).toNat) 0)) (by exact At_idxR (d:=17) (z:=x4) (by kernel_rfl) g12 ((hu0).lR.le hM6)) (by kernel_rfl) trivial ?_
     obtain ⟨L13,e_L13,h⟩ := lt_some h
     have l_L13 : (L13).length = 11 := by rw [e_L13]; exact SlR_row ((hu0).lR.le hM6) (toNat_lt g12)
     refine TI_at (i:=1) (d:=18) (x:=.agg [.arr .i64 11 L13]) (by rw [e_L13]; exact At_ldRow (d:=18) (q:=(x4).toNat) (by subst e_L13; kernel_rfl) (toNat_lt g12) ((hu0).lR.le hM6)) (by kernel_rfl) ⟨l_L13,trivial⟩ ?_
     refine TI_segK (i:=2) (j:=4) (s':={ σ := [(1,vi u1),(4,.lf (.own 4 0)),(5,.lf (.own 5 0)),(7,.lf (.own 7 0)),(13,.lf (.v (.slice u0A (u0R.length) u0c))),(14,vi (u0R.length : Int)),(15,vi x4)],H := [(4,[.arr .i64 2 [(0 : Int),(0 : Int)]]),(5,[.arr .i64 2 L5]),(7,[.arr .i64 11 L13])],V := [],M := M6,ds := [] }) [1,4,5,7,13,14,15] [4,5,7] [] (by kernel_rfl) (by kernel_rfl) ?_
     refine TI_end (by kernel_rfl) ?_
     refine thenQ_n ?_
     obtain ⟨j16,e_j16,h⟩ := jn_some h
     refine T_cut (c1:=(sub [1,1,0,1,0,0,1,1,0,0,1,0] Bd73)) (c2:=(sub [1,1,0,1,0,0,1,1,0,0,1,1] Bd73)) (fun s' => ∃ (L14 : List Int) (M15 : Mem),Sub { σ := [(1,vi u1),(4,.lf (.own 4 0)),(5,.lf (.own 5 0)),(7,.lf (.own 7 0)),(13,.lf (.v (.slice u0A (u0R.length) u0c))),(14,vi (u0R.length : Int)),(15,vi x4)],H := [(4,[.arr .i64 2 [(0 : Int),(0 : Int)]]),(5,[.arr .i64 2 L14]),(7,[.arr .i64 11 L13])],V := [],M := M15,ds := [] } s' ∧ Mem.le M6 M15 ∧ (L14).length = 2 ∧ j16 L14 = some r) (by kernel_rfl) ?_ ?_
     ·refine T_seq (c1:=(sub [1,1,0,1,0,0,1,1,0,0,1,0,0] Bd73)) (c2:=(sub [1,1,0,1,0,0,1,1,0,0,1,0,1] Bd73)) (by kernel_rfl) ?_
      refine T_region (id:=5) (by kernel_rfl) ?_
      obtain ⟨x17,e_x17,h⟩ := lt_some h
      obtain ⟨b18,e_b18,h⟩ := lt_some h
      refine TI_segK (i:=0) (j:=4) (s':={ σ := [(1,vi u1),(4,.lf (.own 4 0)),(5,.lf (.own 5 0)),(7,.lf (.own 7 0)),(13,.lf (.v (.slice u0A (u0R.length) u0c))),(14,vi (u0R.length : Int)),(15,vi x4),(22,vb b18)],H := [(4,[.arr .i64 2 [(0 : Int),(0 : Int)]]),(5,[.arr .i64 2 L5]),(7,[.arr .i64 11 L13])],V := [],M := M6,ds := [] }) [1,4,5,7,13,14,15,22] [4,5,7] [] (by subst e_b18 e_x17;kernel_rfl) (by kernel_rfl) ?_
      refine TI_end (by kernel_rfl) ?_
      refine thenQ_n ?_
      cases b18 with
      | true =>
       replace h := sp_t h
       refine T_condT (x:=(.tmp 22)) (c1:=(sub [1,1,0,1,0,0,1,1,0,0,1,0,1,0] Bd73)) (c2:=(sub [1,1,0,1,0,0,1,1,0,0,1,0,1,1] Bd73)) (by kernel_rfl) (by kernel_rfl) ?_
       refine T_keepS [(1,vi u1),(4,.lf (.own 4 0)),(5,.lf (.own 5 0)),(7,.lf (.own 7 0)),(13,.lf (.v (.slice u0A (u0R.length) u0c))),(14,vi (u0R.length : Int)),(15,vi x4)] (by kernel_rfl) ?_
       refine T_region (id:=6) (by kernel_rfl) ?_
       obtain ⟨x19,e_x19,h⟩ := lt_some h
       refine TI_segS (i:=0) (j:=5) [(1,vi u1),(4,.lf (.own 4 0)),(5,.lf (.own 5 0)),(7,.lf (.own 7 0)),(13,.lf (.v (.slice u0A (u0R.length) u0c))),(14,vi (u0R.length : Int)),(15,vi x4),(23,.agg [.arr .i64 2 L5]),(27,.agg [.arr .i64 2 [x19,(1073741824 : Int)]])] (by subst e_x19;kernel_rfl) (by kernel_rfl) ?_
       refine TI_of (i:=5) (by kernel_rfl) (TE_litC (d:=28) (e:=40) (sz:=2) (len:=2) (cs:=rowsC .i64 ([L5,[x19,(1073741824 : Int)]])) (by kernel_rfl) (by kernel_rfl) (by kernel_rfl) ?_)
       refine TI_segK (i:=6) (j:=6) (s':={ σ := [(1,vi u1),(4,.lf (.own 4 0)),(5,.lf (.own 5 0)),(7,.lf (.own 7 0)),(13,.lf (.v (.slice u0A (u0R.length) u0c))),(14,vi (u0R.length : Int)),(15,vi x4),(28,.lf (.vec 28))],H := [(4,[.arr .i64 2 [(0 : Int),(0 : Int)]]),(5,[.arr .i64 2 L5]),(7,[.arr .i64 11 L13])],V := [(28,⟨40,2,List.length ([L5,[x19,(1073741824 : Int)]]),rowsC .i64 ([L5,[x19,(1073741824 : Int)]])⟩)],M := M6,ds := [] }) [1,4,5,7,13,14,15,28] [4,5,7] [28] (by kernel_rfl) (by kernel_rfl) ?_
       refine TI_turn (turn_pubV 28 (v:=⟨40,2,List.length ([L5,[x19,(1073741824 : Int)]]),rowsC .i64 ([L5,[x19,(1073741824 : Int)]])⟩) (by kernel_rfl)) ?_
       rintro _ ⟨A20,c21,M22,rfl,hSA20,hcA20,-,hNA20,hM22⟩
       have fA20 : SlR M22 A20 c21 .i64 2 ([L5,[x19,(1073741824 : Int)]]) := ⟨(rows_cons l_L5 (rows_cons rfl rows_nil)),hSA20,hcA20⟩
       obtain ⟨v23,c_v23,h⟩ := cl_some h
       obtain ⟨g24,h⟩ := gd_some h
       refine TI_at (i:=6) (d:=29) (x:=.agg [.arr .i64 2 v23]) (At_call (d:=29) (f:=83) (args:=[rval (.lf (.v (.slice A20 (List.length ([L5,[x19,(1073741824 : Int)]])) c21)))]) (x:=.agg [.arr .i64 2 v23]) (by kernel_rfl) (w83 k fA20 c_v23)) (by kernel_rfl) ⟨g24,trivial⟩ ?_
       refine TI_segK (i:=7) (j:=8) (s':={ σ := [(1,vi u1),(4,.lf (.own 4 0)),(5,.lf (.own 5 0)),(7,.lf (.own 7 0)),(13,.lf (.v (.slice u0A (u0R.length) u0c))),(14,vi (u0R.length : Int)),(15,vi x4)],H := [(4,[.arr .i64 2 [(0 : Int),(0 : Int)]]),(5,[.arr .i64 2 v23]),(7,[.arr .i64 11 L13])],V := [],M := M22,ds := [] }) [1,4,5,7,13,14,15] [4,5,7] [] (by kernel_rfl) (by kernel_rfl) ?_
       refine TI_end (by kernel_rfl) ?_
       refine thenQ_n ?_
       exact ⟨v23,M22,keep_sub (ts:=[1,4,5,7,13,14,15]) (hs:=[4,5,7]) (vs:=[]) (by kernel_rfl),(Mem.le_trans (Mem.le_refl _) hM22),g24,h⟩
      | false =>
       replace h := sp_f h
       refine T_condF (x:=(.tmp 22)) (c1:=(sub [1,1,0,1,0,0,1,1,0,0,1,0,1,0] Bd73)) (c2:=(sub [1,1,0,1,0,0,1,1,0,0,1,0,1,1] Bd73)) (by kernel_rfl) (by kernel_rfl) ?_
       refine T_keepS [(1,vi u1),(4,.lf (.own 4 0)),(5,.lf (.own 5 0)),(7,.lf (.own 7 0)),(13,.lf (.v (.slice u0A (u0R.length) u0c))),(14,vi (u0R.length : Int)),(15,vi x4)] (by kernel_rfl) ?_
       refine T_skip (by kernel_rfl) ?_
       refine thenQ_n ?_
       exact ⟨L5,M6,keep_sub (ts:=[1,4,5,7,13,14,15]) (hs:=[4,5,7]) (vs:=[]) (by kernel_rfl),(Mem.le_refl _),l_L5,h⟩
     ·rintro s' ⟨L14,M15,hsub,hM15,l_L14,h⟩
      subst e_j16
      refine T_sub hsub ?_
      refine T_sq (by kernel_rfl) ?_
      refine T_region (id:=7) (by kernel_rfl) ?_
      obtain ⟨x25,e_x25,h⟩ := lt_some h
      obtain ⟨b26,e_b26,h⟩ := lt_some h
      refine TI_segK (i:=0) (j:=4) (s':={ σ := [(1,vi u1),(4,.lf (.own 4 0)),(5,.lf (.own 5 0)),(7,.lf (.own 7 0)),(13,.lf (.v (.slice u0A (u0R.length) u0c))),(14,vi (u0R.length : Int)),(15,vi x4),(33,vb b26)],H := [(4,[.arr .i64 2 [(0 : Int),(0 : Int)]]),(5,[.arr .i64 2 L14]),(7,[.arr .i64 11 L13])],V := [],M := M15,ds := [] }) [1,4,5,7,13,14,15,33] [4,5,7] [] (by subst e_b26 e_x25;kernel_rfl) (by kernel_rfl) ?_
      refine TI_end (by kernel_rfl) ?_
      refine thenQ_n ?_
      cases b26 with
      | true =>
       replace h := sp_t h
       refine T_condT (x:=(.tmp 33)) (c1:=(sub [1,1,0,1,0,0,1,1,0,0,1,1,1,0] Bd73)) (c2:=(sub [1,1,0,1,0,0,1,1,0,0,1,1,1,1] Bd73)) (by kernel_rfl) (by kernel_rfl) ?_
       refine T_keepS [(1,vi u1),(4,.lf (.own 4 0)),(5,.lf (.own 5 0)),(7,.lf (.own 7 0)),(13,.lf (.v (.slice u0A (u0R.length) u0c))),(14,vi (u0R.length : Int)),(15,vi x4)] (by kernel_rfl) ?_
       refine T_region (id:=8) (by kernel_rfl) ?_
       obtain ⟨x27,e_x27,h⟩ := lt_some h
       refine TI_segK (i:=0) (j:=5) (s':={ σ := [(1,vi u1),(4,.lf (.own 4 0)),(5,.lf (.own 5 0)),(13,.lf (.v (.slice u0A (u0R.length) u0c))),(14,vi (u0R.length : Int)),(15,vi x4),(34,.agg [.arr .i64 2 L14]),(38,.agg [.arr .i64 2 [(-1073741824 : Int),x27]])],H := [(4,[.arr .i64 2 [(0 : Int),(0 : Int)]]),(5,[.arr .i64 2 L14])],V := [],M := M15,ds := [] }) [1,4,5,13,14,15,34,38] [4,5] [] (by subst e_x27;kernel_rfl) (by kernel_rfl) ?_
       refine TI_of (i:=5) (by kernel_rfl) (TE_litC (d:=39) (e:=40) (sz:=2) (len:=2) (cs:=rowsC .i64 ([L14,[(-1073741824 : Int),x27]])) (by kernel_rfl) (by kernel_rfl) (by kernel_rfl) ?_)
       refine TI_segK (i:=6) (j:=6) (s':={ σ := [(1,vi u1),(4,.lf (.own 4 0)),(5,.lf (.own 5 0)),(13,.lf (.v (.slice u0A (u0R.length) u0c))),(14,vi (u0R.length : Int)),(15,vi x4),(39,.lf (.vec 39))],H := [(4,[.arr .i64 2 [(0 : Int),(0 : Int)]]),(5,[.arr .i64 2 L14])],V := [(39,⟨40,2,List.length ([L14,[(-1073741824 : Int),x27]]),rowsC .i64 ([L14,[(-1073741824 : Int),x27]])⟩)],M := M15,ds := [] }) [1,4,5,13,14,15,39] [4,5] [39] (by kernel_rfl) (by kernel_rfl) ?_
       refine TI_turn (turn_pubV 39 (v:=⟨40,2,List.length ([L14,[(-1073741824 : Int),x27]]),rowsC .i64 ([L14,[(-1073741824 : Int),x27]])⟩) (by kernel_rfl)) ?_
       rintro _ ⟨A28,c29,M30,rfl,hSA28,hcA28,-,hNA28,hM30⟩
       have fA28 : SlR M30 A28 c29 .i64 2 ([L14,[(-1073741824 : Int),x27]]) := ⟨(rows_cons l_L14 (rows_cons rfl rows_nil)),hSA28,hcA28⟩
       obtain ⟨v31,c_v31,h⟩ := cl_some h
       obtain ⟨g32,h⟩ := gd_some h
       refine TI_at (i:=6) (d:=40) (x:=.agg [.arr .i64 2 v31]) (At_call (d:=40) (f:=83) (args:=[rval (.lf (.v (.slice A28 (List.length ([L14,[(-1073741824 : Int),x27]])) c29)))]) (x:=.agg [.arr .i64 2 v31]) (by kernel_rfl) (w83 k fA28 c_v31)) (by kernel_rfl) ⟨g32,trivial⟩ ?_
       refine TI_segK (i:=7) (j:=8) (s':={ σ := [(1,vi u1),(4,.lf (.own 4 0)),(5,.lf (.own 5 0)),(13,.lf (.v (.slice u0A (u0R.length) u0c))),(14,vi (u0R.length : Int)),(15,vi x4)],H := [(4,[.arr .i64 2 [(0 : Int),(0 : Int)]]),(5,[.arr .i64 2 v31])],V := [],M := M30,ds := [] }) [1,4,5,13,14,15] [4,5] [] (by kernel_rfl) (by kernel_rfl) ?_
       refine TI_end (by kernel_rfl) ?_
       refine blockQ_n ?_
       refine thenQ_n ?_
       exact ⟨v31,M30,keep_sub (ts:=[1,4,5,13,14,15]) (hs:=[4,5]) (vs:=[]) (by kernel_rfl),(Mem.le_trans (Mem.le_trans (Mem.le_refl _) hM15) hM30),g32,h⟩
      | false =>
       replace h := sp_f h
       refine T_condF (x:=(.tmp 33)) (c1:=(sub [1,1,0,1,0,0,1,1,0,0,1,1,1,0] Bd73)) (c2:=(sub [1,1,0,1,0,0,1,1,0,0,1,1,1,1] Bd73)) (by kernel_rfl) (by kernel_rfl) ?_
       refine T_keep (s':={ σ := [(1,vi u1),(4,.lf (.own 4 0)),(5,.lf (.own 5 0)),(13,.lf (.v (.slice u0A (u0R.length) u0c))),(14,vi (u0R.length : Int)),(15,vi x4)],H := [(4,[.arr .i64 2 [(0 : Int),(0 : Int)]]),(5,[.arr .i64 2 L14])],V := [],M := M15,ds := [] }) [1,4,5,13,14,15] [4,5] [] (by kernel_rfl) ?_
       refine T_skip (by kernel_rfl) ?_
       refine blockQ_n ?_
       refine thenQ_n ?_
       exact ⟨L14,M15,keep_sub (ts:=[1,4,5,13,14,15]) (hs:=[4,5]) (vs:=[]) (by kernel_rfl),(Mem.le_trans (Mem.le_refl _) hM15),l_L14,h⟩
    ·rintro s' ⟨L9,M10,hsub,hM10,l_L9,h⟩
     subst e_j11
     refine T_sub hsub ?_
     refine T_region (id:=9) (by kernel_rfl) ?_
     obtain ⟨x33,e_x33,h⟩ := lt_some h
     refine TI_segK (i:=0) (j:=2) (s':={ σ := [(1,vi u1),(4,.lf (.own 4 0)),(5,.lf (.own 5 0)),(13,.lf (.v (.slice u0A (u0R.length) u0c))),(14,vi (u0R.length : Int)),(15,vi x33)],H := [(4,[.arr .i64 2 [(0 : Int),(0 : Int)]]),(5,[.arr .i64 2 L9])],V := [],M := M10,ds := [] }) [1,4,5,13,14,15] [4,5] [] (by subst e_x33;kernel_rfl) (by kernel_rfl) ?_
     refine TI_end (by kernel_rfl) ?_
     refine thenQ_n ?_
     exact ⟨n7,Nat.lt_succ_self _,x33,L9,M10,keep_sub (ts:=[1,4,5,13,14,15]) (hs:=[4,5]) (vs:=[]) (by kernel_rfl),(Mem.le_trans (Mem.le_trans (Mem.le_refl _) hM6) hM10),l_L9,h⟩
   | false =>
    replace h := sp_f h
    refine T_condF (x:=(.tmp 16)) (c1:=(sub [1,1,0,1,0,0,1,0,0] Bd73)) (c2:=(sub [1,1,0,1,0,0,1,0,1] Bd73)) (by kernel_rfl) (by kernel_rfl) ?_
    refine T_keepS [(4,.lf (.own 4 0)),(5,.lf (.own 5 0))] (by kernel_rfl) ?_
    refine T_exit (id:=0) (by kernel_rfl) ?_
    refine thenQ_x ?_
    refine thenQ_x ?_
    refine blockQ_x ?_
    refine thenQ_n ?_
    exact ⟨L5,M6,keep_sub (ts:=[4,5]) (hs:=[4,5]) (vs:=[]) (by kernel_rfl),(Mem.le_trans (Mem.le_refl _) hM6),l_L5,h⟩
 ·rintro s' ⟨L1,M2,hsub,hM2,l_L1,h⟩
  subst e_j3
  refine thenQ_n ?_
  refine T_sub hsub ?_
  refine T_sq (by kernel_rfl) ?_
  refine T_region (id:=10) (by kernel_rfl) ?_
  refine TI_segK (i:=0) (j:=2) (s':={ σ := [(4,.lf (.own 4 0))],H := [(4,[.arr .i64 2 L1])],V := [],M := M2,ds := [] }) [4] [4] [] (by kernel_rfl) (by kernel_rfl) ?_
  refine TI_end (by kernel_rfl) ?_
  refine thenQ_n ?_
  refine T_ret (by kernel_rfl) ?_
  have h := Option.some.inj h
  subst h
  refine fin_ret (.agg [.arr .i64 2 L1]) (by kernel_rfl) (by kernel_rfl) rfl ?_
  rfl
def p81_l1 (k : Nat) (u0 : List Int) (j1 : Option Int) : Nat → Int → Option Int
 | 0,_ => none
 | n3 + 1,x2 => lt' (decide (x2 < (u0.length : Int))) fun b4 => sp b4 (gd ((0 : Int) ≤ x2 ∧ x2 < (u0.length : Int)) <| lt' (List.getD u0 ((x2).toNat) 0) fun x6 => cl (p69 k x6) fun v7 => sp v7 (some x2) (lt' (wr .i64 (x2 + (1 : Int))) fun x8 => p81_l1 k u0 j1 n3 x8)) (j1)
def p81 (k : Nat) (u0 : List Int) : Option Int :=
 jn (some (-1 : Int)) fun j1 => p81_l1 k u0 j1 k (0 : Int)
theorem hf81 : Try.prog.funcs[81]? = some Try.f81 := by kernel_rfl
theorem w81 (k : Nat) {M : Mem} {Au0 : Option Addr} {cu0 : Nat} {u0 : List Int} (hu0 : SlI M Au0 cu0 .i64 u0) {r} (h : p81 k u0 = some r) :
  Fn Try.prog 81 [rval (.lf (.v (.slice Au0 (u0.length) cu0))),rval (.lf (.v (.func (.func 69) #[] #[])))] M (fun x _ => x = vi r) := by
 unfold p81 at h
 refine Fn_of (P:=Try.prog) (fn:=Try.f81) (c:=bodyOf Try.f81) [.lf (.v (.slice Au0 (u0.length) cu0)),.lf (.v (.func (.func 69) #[] #[]))] hf81 (by kernel_rfl) (Nat.le_of_ble_eq_true (by kernel_rfl)) (args_ok (by kernel_rfl) ⟨trivial,⟨trivial,trivial⟩⟩) fun w => ?_
 change T _ _ _ (endQ _ _ _)
 refine T_seq (c1:=(sub [0] Bd81)) (c2:=(sub [1] Bd81)) (by kernel_rfl) ?_
 refine T_region (id:=0) (by kernel_rfl) ?_
 refine TI_segK (i:=0) (j:=1) (s':={ σ := [(0,.lf (.v (.slice Au0 (u0.length) cu0))),(1,.lf (.v (.func (.func 69) #[] #[])))],H := [],V := [],M := M,ds := [] }) [0,1] [] [] (by kernel_rfl) (by kernel_rfl) ?_
 refine TI_end (by kernel_rfl) ?_
 refine thenQ_n ?_
 refine T_sq (by kernel_rfl) ?_
 refine T_sq (by kernel_rfl) ?_
 refine T_region (id:=1) (by kernel_rfl) ?_
 refine TI_segS (i:=0) (j:=3) [(0,.lf (.v (.slice Au0 (u0.length) cu0))),(1,.lf (.v (.func (.func 69) #[] #[]))),(7,vi (u0.length : Int)),(8,vi (0 : Int))] (by kernel_rfl) (by kernel_rfl) ?_
 refine TI_end (by kernel_rfl) ?_
 refine thenQ_n ?_
 obtain ⟨j1,e_j1,h⟩ := jn_some h
 refine T_bcut (id:=0) (c1:=(sub [1,0,1,0] Bd81)) (fun s' => Sub { σ := [],H := [],V := [],M := M,ds := [] } s' ∧ j1 = some r) (by kernel_rfl) ?_ ?_
 ·refine T_loop (c1:=(sub [1,0,1,0,0] Bd81)) (by kernel_rfl) (fun n3 s' => ∃ (x2 : Int),Sub { σ := [(0,.lf (.v (.slice Au0 (u0.length) cu0))),(1,.lf (.v (.func (.func 69) #[] #[]))),(7,vi (u0.length : Int)),(8,vi x2)],H := [],V := [],M := M,ds := [] } s' ∧ p81_l1 k u0 j1 n3 x2 = some r) (k:=k) ⟨(0 : Int),keep_sub (ts:=[0,1,7,8]) (hs:=[]) (vs:=[]) (by kernel_rfl),h⟩ ?_
  rintro n3 s' ⟨x2,hsub,h⟩
  cases n3 with
  | zero => rw [p81_l1] at h;cases h
  | succ n3 =>
   rw [p81_l1] at h
   refine T_sub hsub ?_
   refine T_sq (by kernel_rfl) ?_
   refine T_region (id:=2) (by kernel_rfl) ?_
   obtain ⟨b4,e_b4,h⟩ := lt_some h
   refine TI_segK (i:=0) (j:=1) (s':={ σ := [(0,.lf (.v (.slice Au0 (u0.length) cu0))),(1,.lf (.v (.func (.func 69) #[] #[]))),(7,vi (u0.length : Int)),(8,vi x2),(9,vb b4)],H := [],V := [],M := M,ds := [] }) [0,1,7,8,9] [] [] (by subst e_b4;kernel_rfl) (by kernel_rfl) ?_
   refine TI_end (by kernel_rfl) ?_
   refine thenQ_n ?_
   refine T_sq (by kernel_rfl) ?_
   cases b4 with
   | true =>
    replace h := sp_t h
    refine T_condT (x:=(.tmp 9)) (c1:=(sub [1,0,1,0,0,1,0,0] Bd81)) (c2:=(sub [1,0,1,0,0,1,0,1] Bd81)) (by kernel_rfl) (by kernel_rfl) ?_
    refine T_keepS [(0,.lf (.v (.slice Au0 (u0.length) cu0))),(1,.lf (.v (.func (.func 69) #[] #[]))),(7,vi (u0.length : Int)),(8,vi x2)] (by kernel_rfl) ?_
    refine T_skip (by kernel_rfl) ?_
    refine thenQ_n ?_
    refine T_sq (by kernel_rfl) ?_
    refine T_block (id:=1) (c1:=(sub [1,0,1,0,0,1,1,0,0] Bd81)) (by kernel_rfl) ?_
    refine T_sq (by kernel_rfl) ?_
    refine T_region (id:=3) (by kernel_rfl) ?_
    refine TI_segS (i:=0) (j:=2) [(0,.lf (.v (.slice Au0 (u0.length) cu0))),(1,.lf (.v (.func (.func 69) #[] #[]))),(5,vi x2),(7,vi (u0.length : Int)),(8,vi x2)] (by kernel_rfl) (by kernel_rfl) ?_
    refine TI_end (by kernel_rfl) ?_
    refine thenQ_n ?_
    refine T_sq (by kernel_rfl) ?_
    refine T_region (id:=4) (by kernel_rfl) ?_
    refine TI_segS (i:=0) (j:=3) [(0,.lf (.v (.slice Au0 (u0.length) cu0))),(1,.lf (.v (.func (.func 69) #[] #[]))),(5,vi x2),(7,vi (u0.length : Int)),(8,vi x2),(11,.lf (.v (.func (.func 69) #[] #[]))),(12,.lf (.v (.slice Au0 (u0.length) cu0))),(13,vi x2)] (by kernel_rfl) (by kernel_rfl) ?_
    obtain ⟨g5,h⟩ := gd_some h
    refine TI_at (i:=3) (d:=14) (x:=.lf (.ep (.slice Au0 (u0.length) cu0) 1 ((x2).toNat) 0)) (by exact At_idxI (d:=14) (z:=x2) (by kernel_rfl) g5 hu0) (by kernel_rfl) trivial ?_
    obtain ⟨x6,e_x6,h⟩ := lt_some h
    refine TI_at (i:=4) (d:=15) (x:=vi x6) (by rw [e_x6]; exact At_ldI (d:=15) (q:=(x2).toNat) (by subst e_x6; kernel_rfl) (toNat_lt g5) hu0) (by kernel_rfl) trivial ?_
    obtain ⟨v7,c_v7,h⟩ := cl_some h
    refine TI_at (i:=5) (d:=16) (x:=vb v7) (At_call (d:=16) (f:=69) (args:=[rval (vi x6)]) (x:=vb v7) (by kernel_rfl) (w69 k  c_v7)) (by kernel_rfl) trivial ?_
    refine TI_segK (i:=6) (j:=6) (s':={ σ := [(0,.lf (.v (.slice Au0 (u0.length) cu0))),(1,.lf (.v (.func (.func 69) #[] #[]))),(5,vi x2),(7,vi (u0.length : Int)),(8,vi x2),(16,vb v7)],H := [],V := [],M := M,ds := [] }) [0,1,5,7,8,16] [] [] (by kernel_rfl) (by kernel_rfl) ?_
    refine TI_end (by kernel_rfl) ?_
    refine thenQ_n ?_
    cases v7 with
    | true =>
     replace h := sp_t h
     refine T_condT (x:=(.tmp 16)) (c1:=(sub [1,0,1,0,0,1,1,0,0,1,1,0] Bd81)) (c2:=(sub [1,0,1,0,0,1,1,0,0,1,1,1] Bd81)) (by kernel_rfl) (by kernel_rfl) ?_
     refine T_keepS [(5,vi x2)] (by kernel_rfl) ?_
     refine T_sq (by kernel_rfl) ?_
     refine T_region (id:=5) (by kernel_rfl) ?_
     refine TI_segS (i:=0) (j:=2) [(4,vi x2)] (by kernel_rfl) (by kernel_rfl) ?_
     refine TI_end (by kernel_rfl) ?_
     refine thenQ_n ?_
     refine T_ret (by kernel_rfl) ?_
     refine blockQ_r ?_
     refine thenQ_r ?_
     refine thenQ_r ?_
     refine blockQ_r ?_
     refine thenQ_r ?_
     refine thenQ_r ?_
     have h := Option.some.inj h
     subst h
     refine fin_ret (vi x2) (by kernel_rfl) (by kernel_rfl) rfl ?_
     rfl
    | false =>
     replace h := sp_f h
     refine T_condF (x:=(.tmp 16)) (c1:=(sub [1,0,1,0,0,1,1,0,0,1,1,0] Bd81)) (c2:=(sub [1,0,1,0,0,1,1,0,0,1,1,1] Bd81)) (by kernel_rfl) (by kernel_rfl) ?_
     refine T_keepS [(0,.lf (.v (.slice Au0 (u0.length) cu0))),(1,.lf (.v (.func (.func 69) #[] #[]))),(7,vi (u0.length : Int)),(8,vi x2)] (by kernel_rfl) ?_
     refine T_skip (by kernel_rfl) ?_
     refine blockQ_n ?_
     refine thenQ_n ?_
     refine T_region (id:=6) (by kernel_rfl) ?_
     obtain ⟨x8,e_x8,h⟩ := lt_some h
     refine TI_segS (i:=0) (j:=2) [(0,.lf (.v (.slice Au0 (u0.length) cu0))),(1,.lf (.v (.func (.func 69) #[] #[]))),(7,vi (u0.length : Int)),(8,vi x8)] (by subst e_x8;kernel_rfl) (by kernel_rfl) ?_
     refine TI_end (by kernel_rfl) ?_
     refine thenQ_n ?_
     exact ⟨n3,Nat.lt_succ_self _,x8,keep_sub (ts:=[0,1,7,8]) (hs:=[]) (vs:=[]) (by kernel_rfl),h⟩
   | false =>
    replace h := sp_f h
    refine T_condF (x:=(.tmp 9)) (c1:=(sub [1,0,1,0,0,1,0,0] Bd81)) (c2:=(sub [1,0,1,0,0,1,0,1] Bd81)) (by kernel_rfl) (by kernel_rfl) ?_
    refine T_keepS [] (by kernel_rfl) ?_
    refine T_exit (id:=0) (by kernel_rfl) ?_
    refine thenQ_x ?_
    refine thenQ_x ?_
    refine blockQ_x ?_
    refine thenQ_n ?_
    exact ⟨keep_sub (ts:=[]) (hs:=[]) (vs:=[]) (by kernel_rfl),h⟩
 ·rintro s' ⟨hsub,h⟩
  subst e_j1
  refine thenQ_n ?_
  refine T_sub hsub ?_
  refine T_sq (by kernel_rfl) ?_
  refine T_region (id:=7) (by kernel_rfl) ?_
  refine TI_segK (i:=0) (j:=1) (s':={ σ := [(4,vi (-1 : Int))],H := [],V := [],M := M,ds := [] }) [4] [] [] (by kernel_rfl) (by kernel_rfl) ?_
  refine TI_end (by kernel_rfl) ?_
  refine thenQ_n ?_
  refine T_ret (by kernel_rfl) ?_
  have h := Option.some.inj h
  subst h
  refine fin_ret (vi (-1 : Int)) (by kernel_rfl) (by kernel_rfl) rfl ?_
  rfl
def p82_l1 (k : Nat) (u0 : List (List Int)) (j1 : Option Int) : Nat → Int → Option Int
 | 0,_ => none
 | n3 + 1,x2 => lt' (decide (x2 < (u0.length : Int))) fun b4 => sp b4 (gd ((0 : Int) ≤ x2 ∧ x2 < (u0.length : Int)) <| lt' (List.getD u0 ((x2).toNat) []) fun L6 => cl (p71 k L6) fun v7 => sp v7 (some x2) (lt' (wr .i64 (x2 + (1 : Int))) fun x8 => p82_l1 k u0 j1 n3 x8)) (j1)
def p82 (k : Nat) (u0 : List (List Int)) : Option Int :=
 jn (some (-1 : Int)) fun j1 => p82_l1 k u0 j1 k (0 : Int)
theorem hf82 : Try.prog.funcs[82]? = some Try.f82 := by kernel_rfl
theorem w82 (k : Nat) {M : Mem} {Au0 : Option Addr} {cu0 : Nat} {u0 : List (List Int)} (hu0 : SlR M Au0 cu0 .i64 2 u0) {r} (h : p82 k u0 = some r) :
  Fn Try.prog 82 [rval (.lf (.v (.slice Au0 (u0.length) cu0))),rval (.lf (.v (.func (.func 71) #[] #[])))] M (fun x _ => x = vi r) := by
 unfold p82 at h
 refine Fn_of (P:=Try.prog) (fn:=Try.f82) (c:=bodyOf Try.f82) [.lf (.v (.slice Au0 (u0.length) cu0)),.lf (.v (.func (.func 71) #[] #[]))] hf82 (by kernel_rfl) (Nat.le_of_ble_eq_true (by kernel_rfl)) (args_ok (by kernel_rfl) ⟨trivial,⟨trivial,trivial⟩⟩) fun w => ?_
 change T _ _ _ (endQ _ _ _)
 refine T_seq (c1:=(sub [0] Bd82)) (c2:=(sub [1] Bd82)) (by kernel_rfl) ?_
 refine T_region (id:=0) (by kernel_rfl) ?_
 refine TI_segK (i:=0) (j:=1) (s':={ σ := [(0,.lf (.v (.slice Au0 (u0.length) cu0))),(1,.lf (.v (.func (.func 71) #[] #[])))],H := [],V := [],M := M,ds := [] }) [0,1] [] [] (by kernel_rfl) (by kernel_rfl) ?_
 refine TI_end (by kernel_rfl) ?_
 refine thenQ_n ?_
 refine T_sq (by kernel_rfl) ?_
 refine T_sq (by kernel_rfl) ?_
 refine T_region (id:=1) (by kernel_rfl) ?_
 refine TI_segS (i:=0) (j:=3) [(0,.lf (.v (.slice Au0 (u0.length) cu0))),(1,.lf (.v (.func (.func 71) #[] #[]))),(7,vi (u0.length : Int)),(8,vi (0 : Int))] (by kernel_rfl) (by kernel_rfl) ?_
 refine TI_end (by kernel_rfl) ?_
 refine thenQ_n ?_
 obtain ⟨j1,e_j1,h⟩ := jn_some h
 refine T_bcut (id:=0) (c1:=(sub [1,0,1,0] Bd82)) (fun s' => Sub { σ := [],H := [],V := [],M := M,ds := [] } s' ∧ j1 = some r) (by kernel_rfl) ?_ ?_
 ·refine T_loop (c1:=(sub [1,0,1,0,0] Bd82)) (by kernel_rfl) (fun n3 s' => ∃ (x2 : Int),Sub { σ := [(0,.lf (.v (.slice Au0 (u0.length) cu0))),(1,.lf (.v (.func (.func 71) #[] #[]))),(7,vi (u0.length : Int)),(8,vi x2)],H := [],V := [],M := M,ds := [] } s' ∧ p82_l1 k u0 j1 n3 x2 = some r) (k:=k) ⟨(0 : Int),keep_sub (ts:=[0,1,7,8]) (hs:=[]) (vs:=[]) (by kernel_rfl),h⟩ ?_
  rintro n3 s' ⟨x2,hsub,h⟩
  cases n3 with
  | zero => rw [p82_l1] at h;cases h
  | succ n3 =>
   rw [p82_l1] at h
   refine T_sub hsub ?_
   refine T_sq (by kernel_rfl) ?_
   refine T_region (id:=2) (by kernel_rfl) ?_
   obtain ⟨b4,e_b4,h⟩ := lt_some h
   refine TI_segK (i:=0) (j:=1) (s':={ σ := [(0,.lf (.v (.slice Au0 (u0.length) cu0))),(1,.lf (.v (.func (.func 71) #[] #[]))),(7,vi (u0.length : Int)),(8,vi x2),(9,vb b4)],H := [],V := [],M := M,ds := [] }) [0,1,7,8,9] [] [] (by subst e_b4;kernel_rfl) (by kernel_rfl) ?_
   refine TI_end (by kernel_rfl) ?_
   refine thenQ_n ?_
   refine T_sq (by kernel_rfl) ?_
   cases b4 with
   | true =>
    replace h := sp_t h
    refine T_condT (x:=(.tmp 9)) (c1:=(sub [1,0,1,0,0,1,0,0] Bd82)) (c2:=(sub [1,0,1,0,0,1,0,1] Bd82)) (by kernel_rfl) (by kernel_rfl) ?_
    refine T_keepS [(0,.lf (.v (.slice Au0 (u0.length) cu0))),(1,.lf (.v (.func (.func 71) #[] #[]))),(7,vi (u0.length : Int)),(8,vi x2)] (by kernel_rfl) ?_
    refine T_skip (by kernel_rfl) ?_
    refine thenQ_n ?_
    refine T_sq (by kernel_rfl) ?_
    refine T_block (id:=1) (c1:=(sub [1,0,1,0,0,1,1,0,0] Bd82)) (by kernel_rfl) ?_
    refine T_sq (by kernel_rfl) ?_
    refine T_region (id:=3) (by kernel_rfl) ?_
    refine TI_segS (i:=0) (j:=2) [(0,.lf (.v (.slice Au0 (u0.length) cu0))),(1,.lf (.v (.func (.func 71) #[] #[]))),(5,vi x2),(7,vi (u0.length : Int)),(8,vi x2)] (by kernel_rfl) (by kernel_rfl) ?_
    refine TI_end (by kernel_rfl) ?_
    refine thenQ_n ?_
    refine T_sq (by kernel_rfl) ?_
    refine T_region (id:=4) (by kernel_rfl) ?_
    refine TI_segS (i:=0) (j:=3) [(0,.lf (.v (.slice Au0 (u0.length) cu0))),(1,.lf (.v (.func (.func 71) #[] #[]))),(5,vi x2),(7,vi (u0.length : Int)),(8,vi x2),(11,.lf (.v (.func (.func 71) #[] #[]))),(12,.lf (.v (.slice Au0 (u0.length) cu0))),(13,vi x2)] (by kernel_rfl) (by kernel_rfl) ?_
    obtain ⟨g5,h⟩ := gd_some h
    refine TI_at (i:=3) (d:=14) (x:=.lf (.ep (.slice Au0 (u0.length) cu0) 2 ((x2).toNat) 0)) (by exact At_idxR (d:=14) (z:=x2) (by kernel_rfl) g5 hu0) (by kernel_rfl) trivial ?_
    obtain ⟨L6,e_L6,h⟩ := lt_some h
    have l_L6 : (L6).length = 2 := by rw [e_L6]; exact SlR_row hu0 (toNat_lt g5)
    refine TI_at (i:=4) (d:=15) (x:=.agg [.arr .i64 2 L6]) (by rw [e_L6]; exact At_ldRow (d:=15) (q:=(x2).toNat) (by subst e_L6; kernel_rfl) (toNat_lt g5) hu0) (by kernel_rfl) ⟨l_L6,trivial⟩ ?_
    obtain ⟨v7,c_v7,h⟩ := cl_some h
    refine TI_at (i:=5) (d:=16) (x:=vb v7) (At_call (d:=16) (f:=71) (args:=[rval (.agg [.arr .i64 2 L6])]) (x:=vb v7) (by kernel_rfl) (w71 k l_L6 c_v7)) (by kernel_rfl) trivial ?_
    refine TI_segK (i:=6) (j:=6) (s':={ σ := [(0,.lf (.v (.slice Au0 (u0.length) cu0))),(1,.lf (.v (.func (.func 71) #[] #[]))),(5,vi x2),(7,vi (u0.length : Int)),(8,vi x2),(16,vb v7)],H := [],V := [],M := M,ds := [] }) [0,1,5,7,8,16] [] [] (by kernel_rfl) (by kernel_rfl) ?_
    refine TI_end (by kernel_rfl) ?_
    refine thenQ_n ?_
    cases v7 with
    | true =>
     replace h := sp_t h
     refine T_condT (x:=(.tmp 16)) (c1:=(sub [1,0,1,0,0,1,1,0,0,1,1,0] Bd82)) (c2:=(sub [1,0,1,0,0,1,1,0,0,1,1,1] Bd82)) (by kernel_rfl) (by kernel_rfl) ?_
     refine T_keepS [(5,vi x2)] (by kernel_rfl) ?_
     refine T_sq (by kernel_rfl) ?_
     refine T_region (id:=5) (by kernel_rfl) ?_
     refine TI_segS (i:=0) (j:=2) [(4,vi x2)] (by kernel_rfl) (by kernel_rfl) ?_
     refine TI_end (by kernel_rfl) ?_
     refine thenQ_n ?_
     refine T_ret (by kernel_rfl) ?_
     refine blockQ_r ?_
     refine thenQ_r ?_
     refine thenQ_r ?_
     refine blockQ_r ?_
     refine thenQ_r ?_
     refine thenQ_r ?_
     have h := Option.some.inj h
     subst h
     refine fin_ret (vi x2) (by kernel_rfl) (by kernel_rfl) rfl ?_
     rfl
    | false =>
     replace h := sp_f h
     refine T_condF (x:=(.tmp 16)) (c1:=(sub [1,0,1,0,0,1,1,0,0,1,1,0] Bd82)) (c2:=(sub [1,0,1,0,0,1,1,0,0,1,1,1] Bd82)) (by kernel_rfl) (by kernel_rfl) ?_
     refine T_keepS [(0,.lf (.v (.slice Au0 (u0.length) cu0))),(1,.lf (.v (.func (.func 71) #[] #[]))),(7,vi (u0.length : Int)),(8,vi x2)] (by kernel_rfl) ?_
     refine T_skip (by kernel_rfl) ?_
     refine blockQ_n ?_
     refine thenQ_n ?_
     refine T_region (id:=6) (by kernel_rfl) ?_
     obtain ⟨x8,e_x8,h⟩ := lt_some h
     refine TI_segS (i:=0) (j:=2) [(0,.lf (.v (.slice Au0 (u0.length) cu0))),(1,.lf (.v (.func (.func 71) #[] #[]))),(7,vi (u0.length : Int)),(8,vi x8)] (by subst e_x8;kernel_rfl) (by kernel_rfl) ?_
     refine TI_end (by kernel_rfl) ?_
     refine thenQ_n ?_
     exact ⟨n3,Nat.lt_succ_self _,x8,keep_sub (ts:=[0,1,7,8]) (hs:=[]) (vs:=[]) (by kernel_rfl),h⟩
   | false =>
    replace h := sp_f h
    refine T_condF (x:=(.tmp 9)) (c1:=(sub [1,0,1,0,0,1,0,0] Bd82)) (c2:=(sub [1,0,1,0,0,1,0,1] Bd82)) (by kernel_rfl) (by kernel_rfl) ?_
    refine T_keepS [] (by kernel_rfl) ?_
    refine T_exit (id:=0) (by kernel_rfl) ?_
    refine thenQ_x ?_
    refine thenQ_x ?_
    refine blockQ_x ?_
    refine thenQ_n ?_
    exact ⟨keep_sub (ts:=[]) (hs:=[]) (vs:=[]) (by kernel_rfl),h⟩
 ·rintro s' ⟨hsub,h⟩
  subst e_j1
  refine thenQ_n ?_
  refine T_sub hsub ?_
  refine T_sq (by kernel_rfl) ?_
  refine T_region (id:=7) (by kernel_rfl) ?_
  refine TI_segK (i:=0) (j:=1) (s':={ σ := [(4,vi (-1 : Int))],H := [],V := [],M := M,ds := [] }) [4] [] [] (by kernel_rfl) (by kernel_rfl) ?_
  refine TI_end (by kernel_rfl) ?_
  refine thenQ_n ?_
  refine T_ret (by kernel_rfl) ?_
  have h := Option.some.inj h
  subst h
  refine fin_ret (vi (-1 : Int)) (by kernel_rfl) (by kernel_rfl) rfl ?_
  rfl
def p68 (k : Nat) (u0 : List Int) : Option Bool :=
 cl (p81 k u0) fun v1 => lt' (decide (v1 ≥ (0 : Int))) fun b2 => some b2
theorem hf68 : Try.prog.funcs[68]? = some Try.f68 := by kernel_rfl
theorem w68 (k : Nat) {M : Mem} {Au0 : Option Addr} {cu0 : Nat} {u0 : List Int} (hu0 : SlI M Au0 cu0 .i64 u0) {r} (h : p68 k u0 = some r) :
  Fn Try.prog 68 [rval (.lf (.v (.slice Au0 (u0.length) cu0))),rval (.lf (.v (.func (.func 69) #[] #[])))] M (fun x _ => x = vb r) := by
 unfold p68 at h
 refine Fn_of (P:=Try.prog) (fn:=Try.f68) (c:=bodyOf Try.f68) [.lf (.v (.slice Au0 (u0.length) cu0)),.lf (.v (.func (.func 69) #[] #[]))] hf68 (by kernel_rfl) (Nat.le_of_ble_eq_true (by kernel_rfl)) (args_ok (by kernel_rfl) ⟨trivial,⟨trivial,trivial⟩⟩) fun w => ?_
 change T _ _ _ (endQ _ _ _)
 refine T_seq (c1:=(sub [0] Bd68)) (c2:=(sub [1] Bd68)) (by kernel_rfl) ?_
 refine T_region (id:=0) (by kernel_rfl) ?_
 refine TI_segK (i:=0) (j:=1) (s':={ σ := [(0,.lf (.v (.slice Au0 (u0.length) cu0))),(1,.lf (.v (.func (.func 69) #[] #[])))],H := [],V := [],M := M,ds := [] }) [0,1] [] [] (by kernel_rfl) (by kernel_rfl) ?_
 refine TI_end (by kernel_rfl) ?_
 refine thenQ_n ?_
 refine T_sq (by kernel_rfl) ?_
 refine T_region (id:=1) (by kernel_rfl) ?_
 refine TI_segS (i:=0) (j:=2) [(5,.lf (.v (.slice Au0 (u0.length) cu0))),(6,.lf (.v (.func (.func 69) #[] #[])))] (by kernel_rfl) (by kernel_rfl) ?_
 obtain ⟨v1,c_v1,h⟩ := cl_some h
 refine TI_at (i:=2) (d:=7) (x:=vi v1) (At_call (d:=7) (f:=81) (args:=[rval (.lf (.v (.slice Au0 (u0.length) cu0))),rval (.lf (.v (.func (.func 69) #[] #[])))]) (x:=vi v1) (by kernel_rfl) (w81 k hu0 c_v1)) (by kernel_rfl) trivial ?_
 obtain ⟨b2,e_b2,h⟩ := lt_some h
 refine TI_segK (i:=3) (j:=5) (s':={ σ := [(4,vb b2)],H := [],V := [],M := M,ds := [] }) [4] [] [] (by subst e_b2;kernel_rfl) (by kernel_rfl) ?_
 refine TI_end (by kernel_rfl) ?_
 refine thenQ_n ?_
 refine T_ret (by kernel_rfl) ?_
 have h := Option.some.inj h
 subst h
 refine fin_ret (vb b2) (by kernel_rfl) (by kernel_rfl) rfl ?_
 rfl
def p70 (k : Nat) (u0 : List (List Int)) : Option Bool :=
 cl (p82 k u0) fun v1 => lt' (decide (v1 ≥ (0 : Int))) fun b2 => some b2
theorem hf70 : Try.prog.funcs[70]? = some Try.f70 := by kernel_rfl
theorem w70 (k : Nat) {M : Mem} {Au0 : Option Addr} {cu0 : Nat} {u0 : List (List Int)} (hu0 : SlR M Au0 cu0 .i64 2 u0) {r} (h : p70 k u0 = some r) :
  Fn Try.prog 70 [rval (.lf (.v (.slice Au0 (u0.length) cu0))),rval (.lf (.v (.func (.func 71) #[] #[])))] M (fun x _ => x = vb r) := by
 unfold p70 at h
 refine Fn_of (P:=Try.prog) (fn:=Try.f70) (c:=bodyOf Try.f70) [.lf (.v (.slice Au0 (u0.length) cu0)),.lf (.v (.func (.func 71) #[] #[]))] hf70 (by kernel_rfl) (Nat.le_of_ble_eq_true (by kernel_rfl)) (args_ok (by kernel_rfl) ⟨trivial,⟨trivial,trivial⟩⟩) fun w => ?_
 change T _ _ _ (endQ _ _ _)
 refine T_seq (c1:=(sub [0] Bd70)) (c2:=(sub [1] Bd70)) (by kernel_rfl) ?_
 refine T_region (id:=0) (by kernel_rfl) ?_
 refine TI_segK (i:=0) (j:=1) (s':={ σ := [(0,.lf (.v (.slice Au0 (u0.length) cu0))),(1,.lf (.v (.func (.func 71) #[] #[])))],H := [],V := [],M := M,ds := [] }) [0,1] [] [] (by kernel_rfl) (by kernel_rfl) ?_
 refine TI_end (by kernel_rfl) ?_
 refine thenQ_n ?_
 refine T_sq (by kernel_rfl) ?_
 refine T_region (id:=1) (by kernel_rfl) ?_
 refine TI_segS (i:=0) (j:=2) [(5,.lf (.v (.slice Au0 (u0.length) cu0))),(6,.lf (.v (.func (.func 71) #[] #[])))] (by kernel_rfl) (by kernel_rfl) ?_
 obtain ⟨v1,c_v1,h⟩ := cl_some h
 refine TI_at (i:=2) (d:=7) (x:=vi v1) (At_call (d:=7) (f:=82) (args:=[rval (.lf (.v (.slice Au0 (u0.length) cu0))),rval (.lf (.v (.func (.func 71) #[] #[])))]) (x:=vi v1) (by kernel_rfl) (w82 k hu0 c_v1)) (by kernel_rfl) trivial ?_
 obtain ⟨b2,e_b2,h⟩ := lt_some h
 refine TI_segK (i:=3) (j:=5) (s':={ σ := [(4,vb b2)],H := [],V := [],M := M,ds := [] }) [4] [] [] (by subst e_b2;kernel_rfl) (by kernel_rfl) ?_
 refine TI_end (by kernel_rfl) ?_
 refine thenQ_n ?_
 refine T_ret (by kernel_rfl) ?_
 have h := Option.some.inj h
 subst h
 refine fin_ret (vb b2) (by kernel_rfl) (by kernel_rfl) rfl ?_
 rfl
def p58_l1 (k : Nat) (u0P : List (List Int)) (u1 : List Int) (u2 : List Int) (j2 : Option Int) (x1 : Int) : Nat → Int → Option Int
 | 0,_ => none
 | n4 + 1,x3 => lt' (decide (x3 < x1)) fun b5 => sp b5 (jn (fun (b6 : Bool) => jn (fun (b17 : Bool) => jn (fun (b26 : Bool) => jn (fun (b37 : Bool) => sp b37 (some x3) (lt' (wr .i64 (x3 + (1 : Int))) fun x39 => p58_l1 k u0P u1 u2 j2 x1 n4 x39)) fun j38 => sp b6 (sp b17 (j38 b26) (j38 false)) (j38 false)) fun j27 => lt' (x3 == (0 : Int)) fun b28 => sp b28 (j27 true) (lt' (x3 == (u2.length : Int)) fun b29 => sp b29 (j27 true) (gd ((0 : Int) ≤ x3 ∧ x3 < (u2.length : Int)) <| lt' (List.getD u2 ((x3).toNat) 0) fun x31 => lt' (wr .i64 (x3 - (1 : Int))) fun x32 => gd ((0 : Int) ≤ x32 ∧ x32 < (u2.length : Int)) <| lt' (List.getD u2 ((x32).toNat) 0) fun x34 => lt' (wr .i64 (x34 + (1 : Int))) fun x35 => lt' (decide (x31 > x35)) fun b36 => j27 b36))) fun j18 => lt' (x3 == (u2.length : Int)) fun b19 => sp b19 (j18 true) (gd ((0 : Int) ≤ x3 ∧ x3 < (u2.length : Int)) <| lt' (List.getD u2 ((x3).toNat) 0) fun x21 => gd ((0 : Int) ≤ x21 ∧ x21 < (u0P.length : Int)) <| lt' (List.getD (List.getD u0P ((x21).toNat) []) 1 0) fun x23 => lt' (List.getD u1 1 0) fun x24 => lt' (decide (x23 > x24)) fun b25 => j18 b25)) fun j7 => lt' (x3 == (0 : Int)) fun b8 => sp b8 (j7 true) (lt' (wr .i64 (x3 - (1 : Int))) fun x9 => gd ((0 : Int) ≤ x9 ∧ x9 < (u2.length : Int)) <| lt' (List.getD u2 ((x9).toNat) 0) fun x11 => lt' (wr .i64 (x11 + (1 : Int))) fun x12 => gd ((0 : Int) ≤ x12 ∧ x12 < (u0P.length : Int)) <| lt' (List.getD (List.getD u0P ((x12).toNat) []) 0 0) fun x14 => lt' (List.getD u1 0 0) fun x15 => lt' (decide (x14 < x15)) fun b16 => j7 b16)) (j2)
def p58 (k : Nat) (u0R : List (List Int)) (u0D : List Int) (u0st : Int) (u0P : List (List Int)) (u0V : List (List (List Int))) (u1 : List Int) (u2 : List Int) : Option Int :=
 lt' (wr .i64 ((u2.length : Int) + (1 : Int))) fun x1 => jn (some (-1 : Int)) fun j2 => p58_l1 k u0P u1 u2 j2 x1 k (0 : Int)
theorem hf58 : Try.prog.funcs[58]? = some Try.f58 := by kernel_rfl
theorem w58 (k : Nat) {M : Mem} {u0b : Nat} {u0A : Option Addr} {u0c : Nat} {u0AP : Option Addr} {u0cP : Nat} {u0AV : Nat → Option Addr} {u0cV : Nat → Nat} {Au2 : Option Addr} {cu2 : Nat} {u0R : List (List Int)} {u0D : List Int} {u0st : Int} {u0P : List (List Int)} {u0V : List (List (List Int))} {u1 : List Int} {u2 : List Int} (hu0 : Crs M u0b u0A u0c u0AP u0cP u0AV u0cV u0R u0D u0st u0P u0V) (hu1 : u1.length = 7) (hu2 : SlI M Au2 cu2 .i64 u2) {r} (h : p58 k u0R u0D u0st u0P u0V u1 u2 = some r) :
  Fn Try.prog 58 [rval (.lf (.v (.pointer (some ⟨u0b,0,none⟩)))),rval (.agg [.arr .i64 7 u1]),rval (.lf (.v (.slice Au2 (u2.length) cu2)))] M (fun x _ => x = vi r) := by
 unfold p58 at h
 refine Fn_of (P:=Try.prog) (fn:=Try.f58) (c:=bodyOf Try.f58) [.lf (.v (.pointer (some ⟨u0b,0,none⟩))),.agg [.arr .i64 7 u1],.lf (.v (.slice Au2 (u2.length) cu2))] hf58 (by kernel_rfl) (Nat.le_of_ble_eq_true (by kernel_rfl)) (args_ok (by kernel_rfl) ⟨trivial,⟨⟨hu1,trivial⟩,⟨trivial,trivial⟩⟩⟩) fun w => ?_
 change T _ _ _ (endQ _ _ _)
 refine T_seq (c1:=(sub [0] Bd58)) (c2:=(sub [1] Bd58)) (by kernel_rfl) ?_
 refine T_region (id:=0) (by kernel_rfl) ?_
 refine TI_segK (i:=0) (j:=2) (s':={ σ := [(0,.lf (.v (.pointer (some ⟨u0b,0,none⟩)))),(2,.lf (.v (.slice Au2 (u2.length) cu2))),(4,.lf (.own 4 0))],H := [(4,[.arr .i64 7 u1])],V := [],M := M,ds := [] }) [0,2,4] [4] [] (by kernel_rfl) (by kernel_rfl) ?_
 refine TI_end (by kernel_rfl) ?_
 refine thenQ_n ?_
 refine T_sq (by kernel_rfl) ?_
 refine T_sq (by kernel_rfl) ?_
 refine T_region (id:=1) (by kernel_rfl) ?_
 obtain ⟨x1,e_x1,h⟩ := lt_some h
 refine TI_segS (i:=0) (j:=4) [(0,.lf (.v (.pointer (some ⟨u0b,0,none⟩)))),(2,.lf (.v (.slice Au2 (u2.length) cu2))),(4,.lf (.own 4 0)),(13,vi x1),(14,vi (0 : Int))] (by subst e_x1;kernel_rfl) (by kernel_rfl) ?_
 refine TI_end (by kernel_rfl) ?_
 refine thenQ_n ?_
 obtain ⟨j2,e_j2,h⟩ := jn_some h
 refine T_bcut (id:=0) (c1:=(sub [1,0,1,0] Bd58)) (fun s' => Sub { σ := [],H := [],V := [],M := M,ds := [] } s' ∧ j2 = some r) (by kernel_rfl) ?_ ?_
 ·refine T_loop (c1:=(sub [1,0,1,0,0] Bd58)) (by kernel_rfl) (fun n4 s' => ∃ (x3 : Int),Sub { σ := [(0,.lf (.v (.pointer (some ⟨u0b,0,none⟩)))),(2,.lf (.v (.slice Au2 (u2.length) cu2))),(4,.lf (.own 4 0)),(13,vi x1),(14,vi x3)],H := [(4,[.arr .i64 7 u1])],V := [],M := M,ds := [] } s' ∧ p58_l1 k u0P u1 u2 j2 x1 n4 x3 = some r) (k:=k) ⟨(0 : Int),keep_sub (ts:=[0,2,4,13,14]) (hs:=[4]) (vs:=[]) (by kernel_rfl),h⟩ ?_
  rintro n4 s' ⟨x3,hsub,h⟩
  cases n4 with
  | zero => rw [p58_l1] at h;cases h
  | succ n4 =>
   rw [p58_l1] at h
   refine T_sub hsub ?_
   refine T_sq (by kernel_rfl) ?_
   refine T_region (id:=2) (by kernel_rfl) ?_
   obtain ⟨b5,e_b5,h⟩ := lt_some h
   refine TI_segK (i:=0) (j:=1) (s':={ σ := [(0,.lf (.v (.pointer (some ⟨u0b,0,none⟩)))),(2,.lf (.v (.slice Au2 (u2.length) cu2))),(4,.lf (.own 4 0)),(13,vi x1),(14,vi x3),(15,vb b5)],H := [(4,[.arr .i64 7 u1])],V := [],M := M,ds := [] }) [0,2,4,13,14,15] [4] [] (by subst e_b5;kernel_rfl) (by kernel_rfl) ?_
   refine TI_end (by kernel_rfl) ?_
   refine thenQ_n ?_
   refine T_sq (by kernel_rfl) ?_
   cases b5 with
   | true =>
    replace h := sp_t h
    refine T_condT (x:=(.tmp 15)) (c1:=(sub [1,0,1,0,0,1,0,0] Bd58)) (c2:=(sub [1,0,1,0,0,1,0,1] Bd58)) (by kernel_rfl) (by kernel_rfl) ?_
    refine T_keepS [(0,.lf (.v (.pointer (some ⟨u0b,0,none⟩)))),(2,.lf (.v (.slice Au2 (u2.length) cu2))),(4,.lf (.own 4 0)),(13,vi x1),(14,vi x3)] (by kernel_rfl) ?_
    refine T_skip (by kernel_rfl) ?_
    refine thenQ_n ?_
    refine T_sq (by kernel_rfl) ?_
    refine T_block (id:=1) (c1:=(sub [1,0,1,0,0,1,1,0,0] Bd58)) (by kernel_rfl) ?_
    refine T_sq (by kernel_rfl) ?_
    refine T_region (id:=3) (by kernel_rfl) ?_
    refine TI_segS (i:=0) (j:=2) [(0,.lf (.v (.pointer (some ⟨u0b,0,none⟩)))),(2,.lf (.v (.slice Au2 (u2.length) cu2))),(4,.lf (.own 4 0)),(7,vi x3),(13,vi x1),(14,vi x3)] (by kernel_rfl) (by kernel_rfl) ?_
    refine TI_end (by kernel_rfl) ?_
    refine thenQ_n ?_
    obtain ⟨j7,e_j7,h⟩ := jn_some h
    refine T_cut (c1:=(sub [1,0,1,0,0,1,1,0,0,1,0] Bd58)) (c2:=(sub [1,0,1,0,0,1,1,0,0,1,1] Bd58)) (fun s' => ∃ (b6 : Bool),Sub { σ := [(0,.lf (.v (.pointer (some ⟨u0b,0,none⟩)))),(2,.lf (.v (.slice Au2 (u2.length) cu2))),(4,.lf (.own 4 0)),(7,vi x3),(8,vb b6),(13,vi x1),(14,vi x3)],H := [(4,[.arr .i64 7 u1])],V := [],M := M,ds := [] } s' ∧ j7 b6 = some r) (by kernel_rfl) ?_ ?_
    ·obtain ⟨b8,e_b8,h⟩ := lt_some h
     cases b8 with
     | true =>
      replace h := sp_t h
      refine T_draw' (id:=4) [] [0,0,0,0,0,0,0,0,0,0,0,0,0,0,0,0,0,0,0,0,0] (by kernel_rfl) (by kernel_rfl) (by kernel_rfl) (by kernel_rfl) [(17,vi x3),(18,vb true),(19,vb true),(20,.tup []),(21,.tup []),(22,.tup []),(23,.tup []),(24,.tup []),(25,.tup []),(26,.tup []),(27,.tup []),(28,.tup []),(29,.tup []),(30,.tup []),(31,.tup []),(32,.tup []),(33,.tup []),(34,.tup []),(35,.tup []),(36,vb true),(8,vb true)] (by kernel_rfl) ⟨trivial,⟨trivial,⟨trivial,⟨(by intro y hy;cases hy),⟨(by intro y hy;cases hy),⟨(by intro y hy;cases hy),⟨(by intro y hy;cases hy),⟨(by intro y hy;cases hy),⟨(by intro y hy;cases hy),⟨(by intro y hy;cases hy),⟨(by intro y hy;cases hy),⟨(by intro y hy;cases hy),⟨(by intro y hy;cases hy),⟨(by intro y hy;cases hy),⟨(by intro y hy;cases hy),⟨(by intro y hy;cases hy),⟨(by intro y hy;cases hy),⟨(by intro y hy;cases hy),⟨(by intro y hy;cases hy),⟨trivial,⟨trivial,trivial⟩⟩⟩⟩⟩⟩⟩⟩⟩⟩⟩⟩⟩⟩⟩⟩⟩⟩⟩⟩⟩ ?_
      refine Stage_nil (stage_all' [0,2,3,4,5,6,7,8,9,10,11,12,13,14,15,16,17,18,19,20] [1] (by kernel_rfl) (by kernel_rfl) (by kernel_rfl) ⟨QF_at (i:=1) (d:=18) (x:=vb true) (show OpAt _ _ _ 1 18 _ from by exact At_bin (d:=18) (b:=.eql) (u:=.int .i64 x3) (v:=.int .i64 (0 : Int)) (w':=.bool true) (by kernel_rfl) (by rw [show exBin .eql (.int .i64 x3) (.int .i64 (0 : Int)) = some (.bool (x3 == (0 : Int))) from by kernel_rfl,← e_b8])) (by kernel_rfl) (by kernel_rfl),trivial⟩) ?_
      refine thenQ_n ?_
      exact ⟨true,keep_sub (ts:=[0,2,4,7,8,13,14]) (hs:=[4]) (vs:=[]) (by kernel_rfl),h⟩
     | false =>
      replace h := sp_f h
      obtain ⟨x9,e_x9,h⟩ := lt_some h
      obtain ⟨g10,h⟩ := gd_some h
      obtain ⟨x11,e_x11,h⟩ := lt_some h
      obtain ⟨x12,e_x12,h⟩ := lt_some h
      obtain ⟨g13,h⟩ := gd_some h
      obtain ⟨x14,e_x14,h⟩ := lt_some h
      obtain ⟨x15,e_x15,h⟩ := lt_some h
      obtain ⟨b16,e_b16,h⟩ := lt_some h
      refine T_draw' (id:=4) [] [0,0,0,0,0,0,0,0,0,0,0,0,0,0,0,0,0,0,0,0,0] (by kernel_rfl) (by kernel_rfl) (by kernel_rfl) (by kernel_rfl) [(17,vi x3),(18,vb false),(19,vb false),(20,.lf (.v (.pointer (some ⟨u0b,0,none⟩)))),(21,.lf (.v (.pointer (some ⟨u0b,0,none⟩)))),(22,.lf (.v (.pointer (some ⟨u0b,6,none⟩)))),(23,.lf (.v (.slice u0AP (u0P.length) u0cP))),(24,.lf (.v (.slice Au2 (u2.length) cu2))),(25,vi x3),(26,vi x9),(27,.lf (.ep (.slice Au2 (u2.length) cu2) 1 ((x9).toNat) 0)),(28,vi x11),(29,vi x12),(30,.lf (.ep (.slice u0AP (u0P.length) u0cP) 2 ((x12).toNat) 0)),(31,.lf (.ep (.slice u0AP (u0P.length) u0cP) 2 ((x12).toNat) 0)),(32,vi x14),(33,.lf (.own 4 0)),(34,vi x15),(35,vb b16),(36,vb b16),(8,vb b16)] (by kernel_rfl) (wfs_lf _ (by kernel_rfl)) ?_
      refine Stage_nil (stage_all' [0,2,3,4,5,7,8,9,12,14,16,17,18,19,20] [1,6,10,11,13,15] (by kernel_rfl) (by subst_vars; kernel_rfl) (by kernel_rfl) ⟨QF_at (i:=1) (d:=18) (x:=vb false) (show OpAt _ _ _ 1 18 _ from by exact At_bin (d:=18) (b:=.eql) (u:=.int .i64 x3) (v:=.int .i64 (0 : Int)) (w':=.bool false) (by subst_vars; kernel_rfl) (by rw [show exBin .eql (.int .i64 x3) (.int .i64 (0 : Int)) = some (.bool (x3 == (0 : Int))) from by kernel_rfl,← e_b8])) (by kernel_rfl) (by subst_vars; kernel_rfl),⟨QF_at (i:=6) (d:=23) (x:=.lf (.v (.slice u0AP (u0P.length) u0cP))) (show OpAt _ _ _ 6 23 _ from by exact At_ldP (d:=23) (b:=u0b) (off:=6) (m:=1) (v:=(.slice u0AP (u0P.length) u0cP)) (by subst_vars; kernel_rfl) (hu0).plc) (by kernel_rfl) (by subst_vars; kernel_rfl),⟨QF_at (i:=10) (d:=27) (x:=.lf (.ep (.slice Au2 (u2.length) cu2) 1 ((x9).toNat) 0)) (show OpAt _ _ _ 10 27 _ from by exact At_idxI (d:=27) (z:=x9) (by subst_vars; kernel_rfl) g10 hu2) (by kernel_rfl) (by subst_vars; kernel_rfl),⟨QF_at (i:=11) (d:=28) (x:=vi x11) (show OpAt _ _ _ 11 28 _ from by rw [e_x11]; exact At_ldI (d:=28) (q:=(x9).toNat) (by subst_vars; kernel_rfl) (toNat_lt g10) hu2) (by kernel_rfl) (by subst_vars; kernel_rfl),⟨QF_at (i:=13) (d:=30) (x:=.lf (.ep (.slice u0AP (u0P.length) u0cP) 2 ((x12).toNat) 0)) (show OpAt _ _ _ 13 30 _ from by exact At_idxR (d:=30) (z:=x12) (by subst_vars; kernel_rfl) g13 (hu0).lP) (by kernel_rfl) (by subst_vars; kernel_rfl),⟨QF_at (i:=15) (d:=32) (x:=vi x14) (show OpAt _ _ _ 15 32 _ from by rw [e_x14]; exact At_ldR1 (d:=32) (q:=(x12).toNat) (j:=0) (by subst_vars; kernel_rfl) rfl (toNat_lt g13) (hu0).lP) (by kernel_rfl) (by subst_vars; kernel_rfl),trivial⟩⟩⟩⟩⟩⟩) ?_
      refine thenQ_n ?_
      exact ⟨b16,keep_sub (ts:=[0,2,4,7,8,13,14]) (hs:=[4]) (vs:=[]) (by subst_vars;kernel_rfl),h⟩
    ·rintro s' ⟨b6,hsub,h⟩
     subst e_j7
     refine T_sub hsub ?_
     obtain ⟨j18,e_j18,h⟩ := jn_some h
     refine T_cut (c1:=(sub [1,0,1,0,0,1,1,0,0,1,1,0] Bd58)) (c2:=(sub [1,0,1,0,0,1,1,0,0,1,1,1] Bd58)) (fun s' => ∃ (b17 : Bool),Sub { σ := [(0,.lf (.v (.pointer (some ⟨u0b,0,none⟩)))),(2,.lf (.v (.slice Au2 (u2.length) cu2))),(4,.lf (.own 4 0)),(7,vi x3),(8,vb b6),(9,vb b17),(13,vi x1),(14,vi x3)],H := [(4,[.arr .i64 7 u1])],V := [],M := M,ds := [] } s' ∧ j18 b17 = some r) (by kernel_rfl) ?_ ?_
     ·obtain ⟨b19,e_b19,h⟩ := lt_some h
      cases b19 with
      | true =>
       replace h := sp_t h
       refine T_draw' (id:=5) [] [0,0,0,0,0,0,0,0,0,0,0,0,0,0,0,0,0,0,0,0,0] (by kernel_rfl) (by kernel_rfl) (by kernel_rfl) (by kernel_rfl) [(37,vi x3),(38,.lf (.v (.slice Au2 (u2.length) cu2))),(39,vi (u2.length : Int)),(40,vb true),(41,vb true),(42,.tup []),(43,.tup []),(44,.tup []),(45,.tup []),(46,.tup []),(47,.tup []),(48,.tup []),(49,.tup []),(50,.tup []),(51,.tup []),(52,.tup []),(53,.tup []),(54,.tup []),(55,.tup []),(56,vb true),(9,vb true)] (by kernel_rfl) ⟨trivial,⟨trivial,⟨trivial,⟨trivial,⟨trivial,⟨(by intro y hy;cases hy),⟨(by intro y hy;cases hy),⟨(by intro y hy;cases hy),⟨(by intro y hy;cases hy),⟨(by intro y hy;cases hy),⟨(by intro y hy;cases hy),⟨(by intro y hy;cases hy),⟨(by intro y hy;cases hy),⟨(by intro y hy;cases hy),⟨(by intro y hy;cases hy),⟨(by intro y hy;cases hy),⟨(by intro y hy;cases hy),⟨(by intro y hy;cases hy),⟨(by intro y hy;cases hy),⟨trivial,⟨trivial,trivial⟩⟩⟩⟩⟩⟩⟩⟩⟩⟩⟩⟩⟩⟩⟩⟩⟩⟩⟩⟩⟩ ?_
       refine Stage_nil (stage_all' [0,1,2,4,5,6,7,8,9,10,11,12,13,14,15,16,17,18,19,20] [3] (by kernel_rfl) (by kernel_rfl) (by kernel_rfl) ⟨QF_at (i:=3) (d:=40) (x:=vb true) (show OpAt _ _ _ 3 40 _ from by exact At_bin (d:=40) (b:=.eql) (u:=.int .i64 x3) (v:=.int .i64 (u2.length : Int)) (w':=.bool true) (by kernel_rfl) (by rw [show exBin .eql (.int .i64 x3) (.int .i64 (u2.length : Int)) = some (.bool (x3 == (u2.length : Int))) from by kernel_rfl,← e_b19])) (by kernel_rfl) (by kernel_rfl),trivial⟩) ?_
       refine thenQ_n ?_
       exact ⟨true,keep_sub (ts:=[0,2,4,7,8,9,13,14]) (hs:=[4]) (vs:=[]) (by kernel_rfl),h⟩
      | false =>
       replace h := sp_f h
       obtain ⟨g20,h⟩ := gd_some h
       obtain ⟨x21,e_x21,h⟩ := lt_some h
       obtain ⟨g22,h⟩ := gd_some h
       obtain ⟨x23,e_x23,h⟩ := lt_some h
       obtain ⟨x24,e_x24,h⟩ := lt_some h
       obtain ⟨b25,e_b25,h⟩ := lt_some h
       refine T_draw' (id:=5) [] [0,0,0,0,0,0,0,0,0,0,0,0,0,0,0,0,0,0,0,0,0] (by kernel_rfl) (by kernel_rfl) (by kernel_rfl) (by kernel_rfl) [(37,vi x3),(38,.lf (.v (.slice Au2 (u2.length) cu2))),(39,vi (u2.length : Int)),(40,vb false),(41,vb false),(42,.lf (.v (.pointer (some ⟨u0b,0,none⟩)))),(43,.lf (.v (.pointer (some ⟨u0b,0,none⟩)))),(44,.lf (.v (.pointer (some ⟨u0b,6,none⟩)))),(45,.lf (.v (.slice u0AP (u0P.length) u0cP))),(46,.lf (.v (.slice Au2 (u2.length) cu2))),(47,vi x3),(48,.lf (.ep (.slice Au2 (u2.length) cu2) 1 ((x3).toNat) 0)),(49,vi x21),(50,.lf (.ep (.slice u0AP (u0P.length) u0cP) 2 ((x21).toNat) 0)),(51,.lf (.ep (.slice u0AP (u0P.length) u0cP) 2 ((x21).toNat) 1)),(52,vi x23),(53,.lf (.own 4 1)),(54,vi x24),(55,vb b25),(56,vb b25),(9,vb b25)] (by kernel_rfl) (wfs_lf _ (by kernel_rfl)) ?_
       refine Stage_nil (stage_all' [0,1,2,4,5,6,7,9,10,14,16,17,18,19,20] [3,8,11,12,13,15] (by kernel_rfl) (by subst_vars; kernel_rfl) (by kernel_rfl) ⟨QF_at (i:=3) (d:=40) (x:=vb false) (show OpAt _ _ _ 3 40 _ from by exact At_bin (d:=40) (b:=.eql) (u:=.int .i64 x3) (v:=.int .i64 (u2.length : Int)) (w':=.bool false) (by subst_vars; kernel_rfl) (by rw [show exBin .eql (.int .i64 x3) (.int .i64 (u2.length : Int)) = some (.bool (x3 == (u2.length : Int))) from by kernel_rfl,← e_b19])) (by kernel_rfl) (by subst_vars; kernel_rfl),⟨QF_at (i:=8) (d:=45) (x:=.lf (.v (.slice u0AP (u0P.length) u0cP))) (show OpAt _ _ _ 8 45 _ from by exact At_ldP (d:=45) (b:=u0b) (off:=6) (m:=1) (v:=(.slice u0AP (u0P.length) u0cP)) (by subst_vars; kernel_rfl) (hu0).plc) (by kernel_rfl) (by subst_vars; kernel_rfl),⟨QF_at (i:=11) (d:=48) (x:=.lf (.ep (.slice Au2 (u2.length) cu2) 1 ((x3).toNat) 0)) (show OpAt _ _ _ 11 48 _ from by exact At_idxI (d:=48) (z:=x3) (by subst_vars; kernel_rfl) g20 hu2) (by kernel_rfl) (by subst_vars; kernel_rfl),⟨QF_at (i:=12) (d:=49) (x:=vi x21) (show OpAt _ _ _ 12 49 _ from by rw [e_x21]; exact At_ldI (d:=49) (q:=(x3).toNat) (by subst_vars; kernel_rfl) (toNat_lt g20) hu2) (by kernel_rfl) (by subst_vars; kernel_rfl),⟨QF_at (i:=13) (d:=50) (x:=.lf (.ep (.slice u0AP (u0P.length) u0cP) 2 ((x21).toNat) 0)) (show OpAt _ _ _ 13 50 _ from by exact At_idxR (d:=50) (z:=x21) (by subst_vars; kernel_rfl) g22 (hu0).lP) (by kernel_rfl) (by subst_vars; kernel_rfl),⟨QF_at (i:=15) (d:=52) (x:=vi x23) (show OpAt _ _ _ 15 52 _ from by rw [e_x23]; exact At_ldR1 (d:=52) (q:=(x21).toNat) (j:=1) (by subst_vars; kernel_rfl) rfl (toNat_lt g22) (hu0).lP) (by kernel_rfl) (by subst_vars; kernel_rfl),trivial⟩⟩⟩⟩⟩⟩) ?_
       refine thenQ_n ?_
       exact ⟨b25,keep_sub (ts:=[0,2,4,7,8,9,13,14]) (hs:=[4]) (vs:=[]) (by subst_vars;kernel_rfl),h⟩
     ·rintro s' ⟨b17,hsub,h⟩
      subst e_j18
      refine T_sub hsub ?_
      obtain ⟨j27,e_j27,h⟩ := jn_some h
      refine T_cut (c1:=(sub [1,0,1,0,0,1,1,0,0,1,1,1,0] Bd58)) (c2:=(sub [1,0,1,0,0,1,1,0,0,1,1,1,1] Bd58)) (fun s' => ∃ (b26 : Bool),Sub { σ := [(0,.lf (.v (.pointer (some ⟨u0b,0,none⟩)))),(2,.lf (.v (.slice Au2 (u2.length) cu2))),(4,.lf (.own 4 0)),(7,vi x3),(8,vb b6),(9,vb b17),(10,vb b26),(13,vi x1),(14,vi x3)],H := [(4,[.arr .i64 7 u1])],V := [],M := M,ds := [] } s' ∧ j27 b26 = some r) (by kernel_rfl) ?_ ?_
      ·obtain ⟨b28,e_b28,h⟩ := lt_some h
       cases b28 with
       | true =>
        replace h := sp_t h
        refine T_draw' (id:=6) [] [0,0,0,0,0,0,0,0,0,0,0,0,0,0,0,0,0,0,0,0,0,0] (by kernel_rfl) (by kernel_rfl) (by kernel_rfl) (by kernel_rfl) [(57,vi x3),(58,vb true),(59,vb true),(60,.tup []),(61,.tup []),(62,.tup []),(63,.tup []),(64,vb true),(65,vb true),(66,.tup []),(67,.tup []),(68,.tup []),(69,.tup []),(70,.tup []),(71,.tup []),(72,.tup []),(73,.tup []),(74,.tup []),(75,.tup []),(76,.tup []),(77,vb true),(10,vb true)] (by kernel_rfl) ⟨trivial,⟨trivial,⟨trivial,⟨(by intro y hy;cases hy),⟨(by intro y hy;cases hy),⟨(by intro y hy;cases hy),⟨(by intro y hy;cases hy),⟨trivial,⟨trivial,⟨(by intro y hy;cases hy),⟨(by intro y hy;cases hy),⟨(by intro y hy;cases hy),⟨(by intro y hy;cases hy),⟨(by intro y hy;cases hy),⟨(by intro y hy;cases hy),⟨(by intro y hy;cases hy),⟨(by intro y hy;cases hy),⟨(by intro y hy;cases hy),⟨(by intro y hy;cases hy),⟨(by intro y hy;cases hy),⟨trivial,⟨trivial,trivial⟩⟩⟩⟩⟩⟩⟩⟩⟩⟩⟩⟩⟩⟩⟩⟩⟩⟩⟩⟩⟩⟩ ?_
        refine Stage_nil (stage_all' [0,2,3,4,5,6,7,8,9,10,11,12,13,14,15,16,17,18,19,20,21] [1] (by kernel_rfl) (by kernel_rfl) (by kernel_rfl) ⟨QF_at (i:=1) (d:=58) (x:=vb true) (show OpAt _ _ _ 1 58 _ from by exact At_bin (d:=58) (b:=.eql) (u:=.int .i64 x3) (v:=.int .i64 (0 : Int)) (w':=.bool true) (by kernel_rfl) (by rw [show exBin .eql (.int .i64 x3) (.int .i64 (0 : Int)) = some (.bool (x3 == (0 : Int))) from by kernel_rfl,← e_b28])) (by kernel_rfl) (by kernel_rfl),trivial⟩) ?_
        refine thenQ_n ?_
        exact ⟨true,keep_sub (ts:=[0,2,4,7,8,9,10,13,14]) (hs:=[4]) (vs:=[]) (by kernel_rfl),h⟩
       | false =>
        replace h := sp_f h
        obtain ⟨b29,e_b29,h⟩ := lt_some h
        cases b29 with
        | true =>
         replace h := sp_t h
         refine T_draw' (id:=6) [] [0,0,0,0,0,0,0,0,0,0,0,0,0,0,0,0,0,0,0,0,0,0] (by kernel_rfl) (by kernel_rfl) (by kernel_rfl) (by kernel_rfl) [(57,vi x3),(58,vb false),(59,vb false),(60,vi x3),(61,.lf (.v (.slice Au2 (u2.length) cu2))),(62,vi (u2.length : Int)),(63,vb true),(64,vb true),(65,vb true),(66,.tup []),(67,.tup []),(68,.tup []),(69,.tup []),(70,.tup []),(71,.tup []),(72,.tup []),(73,.tup []),(74,.tup []),(75,.tup []),(76,.tup []),(77,vb true),(10,vb true)] (by kernel_rfl) ⟨trivial,⟨trivial,⟨trivial,⟨trivial,⟨trivial,⟨trivial,⟨trivial,⟨trivial,⟨trivial,⟨(by intro y hy;cases hy),⟨(by intro y hy;cases hy),⟨(by intro y hy;cases hy),⟨(by intro y hy;cases hy),⟨(by intro y hy;cases hy),⟨(by intro y hy;cases hy),⟨(by intro y hy;cases hy),⟨(by intro y hy;cases hy),⟨(by intro y hy;cases hy),⟨(by intro y hy;cases hy),⟨(by intro y hy;cases hy),⟨trivial,⟨trivial,trivial⟩⟩⟩⟩⟩⟩⟩⟩⟩⟩⟩⟩⟩⟩⟩⟩⟩⟩⟩⟩⟩⟩ ?_
         refine Stage_nil (stage_all' [0,2,3,4,5,7,8,9,10,11,12,13,14,15,16,17,18,19,20,21] [1,6] (by kernel_rfl) (by kernel_rfl) (by kernel_rfl) ⟨QF_at (i:=1) (d:=58) (x:=vb false) (show OpAt _ _ _ 1 58 _ from by exact At_bin (d:=58) (b:=.eql) (u:=.int .i64 x3) (v:=.int .i64 (0 : Int)) (w':=.bool false) (by kernel_rfl) (by rw [show exBin .eql (.int .i64 x3) (.int .i64 (0 : Int)) = some (.bool (x3 == (0 : Int))) from by kernel_rfl,← e_b28])) (by kernel_rfl) (by kernel_rfl),⟨QF_at (i:=6) (d:=63) (x:=vb true) (show OpAt _ _ _ 6 63 _ from by exact At_bin (d:=63) (b:=.eql) (u:=.int .i64 x3) (v:=.int .i64 (u2.length : Int)) (w':=.bool true) (by kernel_rfl) (by rw [show exBin .eql (.int .i64 x3) (.int .i64 (u2.length : Int)) = some (.bool (x3 == (u2.length : Int))) from by kernel_rfl,← e_b29])) (by kernel_rfl) (by kernel_rfl),trivial⟩⟩) ?_
         refine thenQ_n ?_
         exact ⟨true,keep_sub (ts:=[0,2,4,7,8,9,10,13,14]) (hs:=[4]) (vs:=[]) (by kernel_rfl),h⟩
        | false =>
         replace h := sp_f h
         obtain ⟨g30,h⟩ := gd_some h
         obtain ⟨x31,e_x31,h⟩ := lt_some h
         obtain ⟨x32,e_x32,h⟩ := lt_some h
         obtain ⟨g33,h⟩ := gd_some h
         obtain ⟨x34,e_x34,h⟩ := lt_some h
         obtain ⟨x35,e_x35,h⟩ := lt_some h
         obtain ⟨b36,e_b36,h⟩ := lt_some h
         refine T_draw' (id:=6) [] [0,0,0,0,0,0,0,0,0,0,0,0,0,0,0,0,0,0,0,0,0,0] (by kernel_rfl) (by kernel_rfl) (by kernel_rfl) (by kernel_rfl) [(57,vi x3),(58,vb false),(59,vb false),(60,vi x3),(61,.lf (.v (.slice Au2 (u2.length) cu2))),(62,vi (u2.length : Int)),(63,vb false),(64,vb false),(65,vb false),(66,.lf (.v (.slice Au2 (u2.length) cu2))),(67,vi x3),(68,.lf (.ep (.slice Au2 (u2.length) cu2) 1 ((x3).toNat) 0)),(69,vi x31),(70,.lf (.v (.slice Au2 (u2.length) cu2))),(71,vi x3),(72,vi x32),(73,.lf (.ep (.slice Au2 (u2.length) cu2) 1 ((x32).toNat) 0)),(74,vi x34),(75,vi x35),(76,vb b36),(77,vb b36),(10,vb b36)] (by kernel_rfl) (wfs_lf _ (by kernel_rfl)) ?_
         refine Stage_nil (stage_all' [0,2,3,4,5,7,8,9,10,13,14,15,18,19,20,21] [1,6,11,12,16,17] (by kernel_rfl) (by subst_vars; kernel_rfl) (by kernel_rfl) ⟨QF_at (i:=1) (d:=58) (x:=vb false) (show OpAt _ _ _ 1 58 _ from by exact At_bin (d:=58) (b:=.eql) (u:=.int .i64 x3) (v:=.int .i64 (0 : Int)) (w':=.bool false) (by subst_vars; kernel_rfl) (by rw [show exBin .eql (.int .i64 x3) (.int .i64 (0 : Int)) = some (.bool (x3 == (0 : Int))) from by kernel_rfl,← e_b28])) (by kernel_rfl) (by subst_vars; kernel_rfl),⟨QF_at (i:=6) (d:=63) (x:=vb false) (show OpAt _ _ _ 6 63 _ from by exact At_bin (d:=63) (b:=.eql) (u:=.int .i64 x3) (v:=.int .i64 (u2.length : Int)) (w':=.bool false) (by subst_vars; kernel_rfl) (by rw [show exBin .eql (.int .i64 x3) (.int .i64 (u2.length : Int)) = some (.bool (x3 == (u2.length : Int))) from by kernel_rfl,← e_b29])) (by kernel_rfl) (by subst_vars; kernel_rfl),⟨QF_at (i:=11) (d:=68) (x:=.lf (.ep (.slice Au2 (u2.length) cu2) 1 ((x3).toNat) 0)) (show OpAt _ _ _ 11 68 _ from by exact At_idxI (d:=68) (z:=x3) (by subst_vars; kernel_rfl) g30 hu2) (by kernel_rfl) (by subst_vars; kernel_rfl),⟨QF_at (i:=12) (d:=69) (x:=vi x31) (show OpAt _ _ _ 12 69 _ from by rw [e_x31]; exact At_ldI (d:=69) (q:=(x3).toNat) (by subst_vars; kernel_rfl) (toNat_lt g30) hu2) (by kernel_rfl) (by subst_vars; kernel_rfl),⟨QF_at (i:=16) (d:=73) (x:=.lf (.ep (.slice Au2 (u2.length) cu2) 1 ((x32).toNat) 0)) (show OpAt _ _ _ 16 73 _ from by exact At_idxI (d:=73) (z:=x32) (by subst_vars; kernel_rfl) g33 hu2) (by kernel_rfl) (by subst_vars; kernel_rfl),⟨QF_at (i:=17) (d:=74) (x:=vi x34) (show OpAt _ _ _ 17 74 _ from by rw [e_x34]; exact At_ldI (d:=74) (q:=(x32).toNat) (by subst_vars; kernel_rfl) (toNat_lt g33) hu2) (by kernel_rfl) (by subst_vars; kernel_rfl),trivial⟩⟩⟩⟩⟩⟩) ?_
         refine thenQ_n ?_
         exact ⟨b36,keep_sub (ts:=[0,2,4,7,8,9,10,13,14]) (hs:=[4]) (vs:=[]) (by subst_vars;kernel_rfl),h⟩
      ·rintro s' ⟨b26,hsub,h⟩
       subst e_j27
       refine T_sub hsub ?_
       obtain ⟨j38,e_j38,h⟩ := jn_some h
       refine T_cut (c1:=(sub [1,0,1,0,0,1,1,0,0,1,1,1,1,0] Bd58)) (c2:=(sub [1,0,1,0,0,1,1,0,0,1,1,1,1,1] Bd58)) (fun s' => ∃ (b37 : Bool),Sub { σ := [(0,.lf (.v (.pointer (some ⟨u0b,0,none⟩)))),(2,.lf (.v (.slice Au2 (u2.length) cu2))),(4,.lf (.own 4 0)),(7,vi x3),(13,vi x1),(14,vi x3),(84,vb b37)],H := [(4,[.arr .i64 7 u1])],V := [],M := M,ds := [] } s' ∧ j38 b37 = some r) (by kernel_rfl) ?_ ?_
       ·refine T_region (id:=7) (by kernel_rfl) ?_
        refine TI_segK (i:=0) (j:=2) (s':={ σ := [(0,.lf (.v (.pointer (some ⟨u0b,0,none⟩)))),(2,.lf (.v (.slice Au2 (u2.length) cu2))),(4,.lf (.own 4 0)),(7,vi x3),(9,vb b17),(10,vb b26),(13,vi x1),(14,vi x3),(79,vb b6)],H := [(4,[.arr .i64 7 u1])],V := [],M := M,ds := [] }) [0,2,4,7,9,10,13,14,79] [4] [] (by kernel_rfl) (by kernel_rfl) ?_
        cases b6 with
        | true =>
         replace h := sp_t h
         refine TI_segS (i:=2) (j:=5) [(0,.lf (.v (.pointer (some ⟨u0b,0,none⟩)))),(2,.lf (.v (.slice Au2 (u2.length) cu2))),(4,.lf (.own 4 0)),(7,vi x3),(10,vb b26),(13,vi x1),(14,vi x3),(82,vb b17)] (by kernel_rfl) (by kernel_rfl) ?_
         cases b17 with
         | true =>
          replace h := sp_t h
          refine TI_segS (i:=5) (j:=7) [(0,.lf (.v (.pointer (some ⟨u0b,0,none⟩)))),(2,.lf (.v (.slice Au2 (u2.length) cu2))),(4,.lf (.own 4 0)),(7,vi x3),(13,vi x1),(14,vi x3),(84,vb b26)] (by kernel_rfl) (by kernel_rfl) ?_
          refine TI_end (by kernel_rfl) ?_
          refine thenQ_n ?_
          exact ⟨b26,keep_sub (ts:=[0,2,4,7,13,14,84]) (hs:=[4]) (vs:=[]) (by kernel_rfl),h⟩
         | false =>
          replace h := sp_f h
          refine TI_segS (i:=5) (j:=7) [(0,.lf (.v (.pointer (some ⟨u0b,0,none⟩)))),(2,.lf (.v (.slice Au2 (u2.length) cu2))),(4,.lf (.own 4 0)),(7,vi x3),(13,vi x1),(14,vi x3),(84,vb false)] (by kernel_rfl) (by kernel_rfl) ?_
          refine TI_end (by kernel_rfl) ?_
          refine thenQ_n ?_
          exact ⟨false,keep_sub (ts:=[0,2,4,7,13,14,84]) (hs:=[4]) (vs:=[]) (by kernel_rfl),h⟩
        | false =>
         replace h := sp_f h
         refine TI_segS (i:=2) (j:=7) [(0,.lf (.v (.pointer (some ⟨u0b,0,none⟩)))),(2,.lf (.v (.slice Au2 (u2.length) cu2))),(4,.lf (.own 4 0)),(7,vi x3),(13,vi x1),(14,vi x3),(84,vb false)] (by kernel_rfl) (by kernel_rfl) ?_
         refine TI_end (by kernel_rfl) ?_
         refine thenQ_n ?_
         exact ⟨false,keep_sub (ts:=[0,2,4,7,13,14,84]) (hs:=[4]) (vs:=[]) (by kernel_rfl),h⟩
       ·rintro s' ⟨b37,hsub,h⟩
        subst e_j38
        refine T_sub hsub ?_
        cases b37 with
        | true =>
         replace h := sp_t h
         refine T_condT (x:=(.tmp 84)) (c1:=(sub [1,0,1,0,0,1,1,0,0,1,1,1,1,1,0] Bd58)) (c2:=(sub [1,0,1,0,0,1,1,0,0,1,1,1,1,1,1] Bd58)) (by kernel_rfl) (by kernel_rfl) ?_
         refine T_keep (s':={ σ := [(7,vi x3)],H := [],V := [],M := M,ds := [] }) [7] [] [] (by kernel_rfl) ?_
         refine T_sq (by kernel_rfl) ?_
         refine T_region (id:=8) (by kernel_rfl) ?_
         refine TI_segS (i:=0) (j:=2) [(6,vi x3)] (by kernel_rfl) (by kernel_rfl) ?_
         refine TI_end (by kernel_rfl) ?_
         refine thenQ_n ?_
         refine T_ret (by kernel_rfl) ?_
         refine blockQ_r ?_
         refine thenQ_r ?_
         refine thenQ_r ?_
         refine blockQ_r ?_
         refine thenQ_r ?_
         refine thenQ_r ?_
         have h := Option.some.inj h
         subst h
         refine fin_ret (vi x3) (by kernel_rfl) (by kernel_rfl) rfl ?_
         rfl
        | false =>
         replace h := sp_f h
         refine T_condF (x:=(.tmp 84)) (c1:=(sub [1,0,1,0,0,1,1,0,0,1,1,1,1,1,0] Bd58)) (c2:=(sub [1,0,1,0,0,1,1,0,0,1,1,1,1,1,1] Bd58)) (by kernel_rfl) (by kernel_rfl) ?_
         refine T_keep (s':={ σ := [(0,.lf (.v (.pointer (some ⟨u0b,0,none⟩)))),(2,.lf (.v (.slice Au2 (u2.length) cu2))),(4,.lf (.own 4 0)),(13,vi x1),(14,vi x3)],H := [(4,[.arr .i64 7 u1])],V := [],M := M,ds := [] }) [0,2,4,13,14] [4] [] (by kernel_rfl) ?_
         refine T_skip (by kernel_rfl) ?_
         refine blockQ_n ?_
         refine thenQ_n ?_
         refine T_region (id:=9) (by kernel_rfl) ?_
         obtain ⟨x39,e_x39,h⟩ := lt_some h
         refine TI_segS (i:=0) (j:=2) [(0,.lf (.v (.pointer (some ⟨u0b,0,none⟩)))),(2,.lf (.v (.slice Au2 (u2.length) cu2))),(4,.lf (.own 4 0)),(13,vi x1),(14,vi x39)] (by subst e_x39;kernel_rfl) (by kernel_rfl) ?_
         refine TI_end (by kernel_rfl) ?_
         refine thenQ_n ?_
         exact ⟨n4,Nat.lt_succ_self _,x39,keep_sub (ts:=[0,2,4,13,14]) (hs:=[4]) (vs:=[]) (by kernel_rfl),h⟩
   | false =>
    replace h := sp_f h
    refine T_condF (x:=(.tmp 15)) (c1:=(sub [1,0,1,0,0,1,0,0] Bd58)) (c2:=(sub [1,0,1,0,0,1,0,1] Bd58)) (by kernel_rfl) (by kernel_rfl) ?_
    refine T_keep (s':={ σ := [],H := [],V := [],M := M,ds := [] }) [] [] [] (by kernel_rfl) ?_
    refine T_exit (id:=0) (by kernel_rfl) ?_
    refine thenQ_x ?_
    refine thenQ_x ?_
    refine blockQ_x ?_
    refine thenQ_n ?_
    exact ⟨keep_sub (ts:=[]) (hs:=[]) (vs:=[]) (by kernel_rfl),h⟩
 ·rintro s' ⟨hsub,h⟩
  subst e_j2
  refine thenQ_n ?_
  refine T_sub hsub ?_
  refine T_sq (by kernel_rfl) ?_
  refine T_region (id:=10) (by kernel_rfl) ?_
  refine TI_segK (i:=0) (j:=1) (s':={ σ := [(6,vi (-1 : Int))],H := [],V := [],M := M,ds := [] }) [6] [] [] (by kernel_rfl) (by kernel_rfl) ?_
  refine TI_end (by kernel_rfl) ?_
  refine thenQ_n ?_
  refine T_ret (by kernel_rfl) ?_
  have h := Option.some.inj h
  subst h
  refine fin_ret (vi (-1 : Int)) (by kernel_rfl) (by kernel_rfl) rfl ?_
  rfl
end Go.Proofs.Ythjkejbgknemgaa
