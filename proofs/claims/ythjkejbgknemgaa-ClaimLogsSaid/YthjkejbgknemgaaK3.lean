/- Lemmas and walks for the law ClaimLogs (part 3). No condition: every theorem names its own hypotheses. -/
import Derived.Test.YthjkejbgknemgaaK2
import Derived.Test.YthjkejbgknemgaaProg
set_option linter.unusedVariables false
set_option linter.unusedSimpArgs false
set_option maxHeartbeats 4000000
namespace Go.Proofs.Ythjkejbgknemgaa
open Go.RowKit
def p62 (k : Nat) (u0_0 : List (List Int)) (u0_1 : List Int) (u1_0 : List Int) (u1_1 : List (List Int)) : Option Bool :=
 jn (fun (b1 : Bool) => some b1) fun j2 => cl (p53 k u0_0 u0_1) fun v3 => lt' (wr .i64 (v3 + (1 : Int))) fun x4 => lt' ((u1_0.length : Int) == x4) fun b5 => sp b5 (cl (p53 k u0_0 u0_1) fun v6 => lt' (wr .i64 (v6 + (1 : Int))) fun x7 => lt' ((u1_1.length : Int) == x7) fun b8 => j2 b8) (j2 false)
theorem hf62 : Try.prog.funcs[62]? = some Try.f62 := by kernel_rfl
theorem w62 (k : Nat) {M : Mem} {Au0_0 : Option Addr} {cu0_0 : Nat} {Au1_0 : Option Addr} {cu1_0 : Nat} {Au1_1 : Option Addr} {cu1_1 : Nat} {u0_0 : List (List Int)} {u0_1 : List Int} {u1_0 : List Int} {u1_1 : List (List Int)} (hu0_0 : SlR M Au0_0 cu0_0 .i64 11 u0_0) (hu0_1 : u0_1.length = 4) (hu1_0 : SlI M Au1_0 cu1_0 .i64 u1_0) (hu1_1 : SlR M Au1_1 cu1_1 .i64 4 u1_1) {r} (h : p62 k u0_0 u0_1 u1_0 u1_1 = some r) :
  Fn Try.prog 62 [rval (.agg [.one (.v (.slice Au0_0 (u0_0.length) cu0_0)),.arr .i64 4 u0_1]),rval (.agg [.one (.v (.slice Au1_0 (u1_0.length) cu1_0)),.one (.v (.slice Au1_1 (u1_1.length) cu1_1))])] M (fun x _ => x = vb r) := by
 unfold p62 at h
 refine Fn_of (P:=Try.prog) (fn:=Try.f62) (c:=bodyOf Try.f62) [.agg [.one (.v (.slice Au0_0 (u0_0.length) cu0_0)),.arr .i64 4 u0_1],.agg [.one (.v (.slice Au1_0 (u1_0.length) cu1_0)),.one (.v (.slice Au1_1 (u1_1.length) cu1_1))]] hf62 (by kernel_rfl) (Nat.le_of_ble_eq_true (by kernel_rfl)) (args_ok (by kernel_rfl) ⟨⟨rfl,⟨hu0_1,trivial⟩⟩,⟨⟨rfl,⟨rfl,trivial⟩⟩,trivial⟩⟩) fun w => ?_
 change T _ _ _ (endQ _ _ _)
 refine T_seq (c1:=(sub [0] Bd62)) (c2:=(sub [1] Bd62)) (by kernel_rfl) ?_
 refine T_region (id:=0) (by kernel_rfl) ?_
 refine TI_segK (i:=0) (j:=3) (s':={ σ := [(2,.lf (.own 2 0)),(3,.lf (.own 3 0))],H := [(2,[.one (.v (.slice Au0_0 (u0_0.length) cu0_0)),.arr .i64 4 u0_1]),(3,[.one (.v (.slice Au1_0 (u1_0.length) cu1_0)),.one (.v (.slice Au1_1 (u1_1.length) cu1_1))])],V := [],M := M,ds := [] }) [2,3] [2,3] [] (by kernel_rfl) (by kernel_rfl) ?_
 refine TI_end (by kernel_rfl) ?_
 refine thenQ_n ?_
 obtain ⟨j2,e_j2,h⟩ := jn_some h
 refine T_cut (c1:=(sub [1,0] Bd62)) (c2:=(sub [1,1] Bd62)) (fun s' => ∃ (b1 : Bool),Sub { σ := [(4,vb b1)],H := [],V := [],M := M,ds := [] } s' ∧ j2 b1 = some r) (by kernel_rfl) ?_ ?_
 ·obtain ⟨v3,c_v3,h⟩ := cl_some h
  obtain ⟨x4,e_x4,h⟩ := lt_some h
  obtain ⟨b5,e_b5,h⟩ := lt_some h
  cases b5 with
  | true =>
   replace h := sp_t h
   obtain ⟨v6,c_v6,h⟩ := cl_some h
   obtain ⟨x7,e_x7,h⟩ := lt_some h
   obtain ⟨b8,e_b8,h⟩ := lt_some h
   refine T_draw' (id:=1) [] [0,0,0,0,0,0,0,0,0,0,0,0,0,0,0,0,0] (by kernel_rfl) (by kernel_rfl) (by kernel_rfl) (by kernel_rfl) [(5,.lf (.own 3 0)),(6,.lf (.v (.slice Au1_0 (u1_0.length) cu1_0))),(7,vi (u1_0.length : Int)),(8,.agg [.one (.v (.slice Au0_0 (u0_0.length) cu0_0)),.arr .i64 4 u0_1]),(9,vi v3),(10,vi x4),(11,vb true),(12,vb true),(13,.lf (.own 3 1)),(14,.lf (.v (.slice Au1_1 (u1_1.length) cu1_1))),(15,vi (u1_1.length : Int)),(16,.agg [.one (.v (.slice Au0_0 (u0_0.length) cu0_0)),.arr .i64 4 u0_1]),(17,vi v6),(18,vi x7),(19,vb b8),(20,vb b8),(4,vb b8)] (by kernel_rfl) ⟨trivial,⟨trivial,⟨trivial,⟨⟨rfl,⟨hu0_1,trivial⟩⟩,⟨trivial,⟨trivial,⟨trivial,⟨trivial,⟨trivial,⟨trivial,⟨trivial,⟨⟨rfl,⟨hu0_1,trivial⟩⟩,⟨trivial,⟨trivial,⟨trivial,⟨trivial,⟨trivial,trivial⟩⟩⟩⟩⟩⟩⟩⟩⟩⟩⟩⟩⟩⟩⟩⟩⟩ ?_
   refine Stage_nil (stage_all' [0,1,2,3,5,7,8,9,10,11,13,14,15,16] [4,6,12] (by kernel_rfl) (by subst_vars;kernel_rfl) (by kernel_rfl) ⟨QF_at (i:=4) (d:=9) (x:=vi v3) (show OpAt _ _ _ 4 9 _ from by exact At_call (d:=9) (f:=53) (args:=[rval (.agg [.one (.v (.slice Au0_0 (u0_0.length) cu0_0)),.arr .i64 4 u0_1])]) (x:=vi v3) (by subst_vars;kernel_rfl) (w53 k hu0_0 hu0_1 c_v3)) (by kernel_rfl) (by subst_vars;kernel_rfl),⟨QF_at (i:=6) (d:=11) (x:=vb true) (show OpAt _ _ _ 6 11 _ from by exact At_bin (d:=11) (b:=.eql) (u:=.int .i64 (u1_0.length : Int)) (v:=.int .i64 x4) (w':=.bool true) (by subst_vars;kernel_rfl) (by rw [show exBin .eql (.int .i64 (u1_0.length : Int)) (.int .i64 x4) = some (.bool ((u1_0.length : Int) == x4)) from by kernel_rfl,← e_b5])) (by kernel_rfl) (by subst_vars;kernel_rfl),⟨QF_at (i:=12) (d:=17) (x:=vi v6) (show OpAt _ _ _ 12 17 _ from by exact At_call (d:=17) (f:=53) (args:=[rval (.agg [.one (.v (.slice Au0_0 (u0_0.length) cu0_0)),.arr .i64 4 u0_1])]) (x:=vi v6) (by subst_vars;kernel_rfl) (w53 k hu0_0 hu0_1 c_v6)) (by kernel_rfl) (by subst_vars;kernel_rfl),trivial⟩⟩⟩) ?_
   refine thenQ_n ?_
   exact ⟨b8,keep_sub (ts:=[4]) (hs:=[]) (vs:=[]) (by subst_vars;kernel_rfl),h⟩
  | false =>
   replace h := sp_f h
   refine T_draw' (id:=1) [] [0,0,0,0,0,0,0,0,0,0,0,0,0,0,0,0,0] (by kernel_rfl) (by kernel_rfl) (by kernel_rfl) (by kernel_rfl) [(5,.lf (.own 3 0)),(6,.lf (.v (.slice Au1_0 (u1_0.length) cu1_0))),(7,vi (u1_0.length : Int)),(8,.agg [.one (.v (.slice Au0_0 (u0_0.length) cu0_0)),.arr .i64 4 u0_1]),(9,vi v3),(10,vi x4),(11,vb false),(12,vb false),(13,.tup []),(14,.tup []),(15,.tup []),(16,.tup []),(17,.tup []),(18,.tup []),(19,.tup []),(20,vb false),(4,vb false)] (by kernel_rfl) ⟨trivial,⟨trivial,⟨trivial,⟨⟨rfl,⟨hu0_1,trivial⟩⟩,⟨trivial,⟨trivial,⟨trivial,⟨trivial,⟨(by intro y hy;cases hy),⟨(by intro y hy;cases hy),⟨(by intro y hy;cases hy),⟨(by intro y hy;cases hy),⟨(by intro y hy;cases hy),⟨(by intro y hy;cases hy),⟨(by intro y hy;cases hy),⟨trivial,⟨trivial,trivial⟩⟩⟩⟩⟩⟩⟩⟩⟩⟩⟩⟩⟩⟩⟩⟩⟩ ?_
   refine Stage_nil (stage_all' [0,1,2,3,5,7,8,9,10,11,12,13,14,15,16] [4,6] (by kernel_rfl) (by subst e_x4;kernel_rfl) (by kernel_rfl) ⟨QF_at (i:=4) (d:=9) (x:=vi v3) (show OpAt _ _ _ 4 9 _ from by exact At_call (d:=9) (f:=53) (args:=[rval (.agg [.one (.v (.slice Au0_0 (u0_0.length) cu0_0)),.arr .i64 4 u0_1])]) (x:=vi v3) (by subst e_x4;kernel_rfl) (w53 k hu0_0 hu0_1 c_v3)) (by kernel_rfl) (by subst e_x4;kernel_rfl),⟨QF_at (i:=6) (d:=11) (x:=vb false) (show OpAt _ _ _ 6 11 _ from by exact At_bin (d:=11) (b:=.eql) (u:=.int .i64 (u1_0.length : Int)) (v:=.int .i64 x4) (w':=.bool false) (by subst e_x4;kernel_rfl) (by rw [show exBin .eql (.int .i64 (u1_0.length : Int)) (.int .i64 x4) = some (.bool ((u1_0.length : Int) == x4)) from by kernel_rfl,← e_b5])) (by kernel_rfl) (by subst e_x4;kernel_rfl),trivial⟩⟩) ?_
   refine thenQ_n ?_
   exact ⟨false,keep_sub (ts:=[4]) (hs:=[]) (vs:=[]) (by subst e_x4;kernel_rfl),h⟩
 ·rintro s' ⟨b1,hsub,h⟩
  subst e_j2
  refine T_sub hsub ?_
  refine T_ret (by kernel_rfl) ?_
  have h := Option.some.inj h
  subst h
  refine fin_ret (vb b1) (by kernel_rfl) (by kernel_rfl) rfl ?_
  rfl
def p21_l2 (k : Nat) (j21 : Option Int) (L8 : List Int) : Nat → Int → Option Int
 | 0,_ => none
 | n23 + 1,x22 => lt' (decide (x22 < (4 : Int))) fun b24 => sp b24 (gd ((0 : Int) ≤ x22 ∧ x22 < ((4 : Nat) : Int)) <| lt' (List.take 2 (List.drop (3 + (x22).toNat * 2) L8)) fun L26 => cl (p52 k L26) fun v27 => sp v27 (lt' (wr .i64 (x22 + (1 : Int))) fun x28 => p21_l2 k j21 L8 n23 x28) (some (2 : Int))) (j21)
def p21_l1 (k : Nat) (u0_0 : List (List Int)) (j3 : Option Int) : Nat → Int → Option Int
 | 0,_ => none
 | n5 + 1,x4 => lt' (decide (x4 < (u0_0.length : Int))) fun b6 => sp b6 (gd ((0 : Int) ≤ x4 ∧ x4 < (u0_0.length : Int)) <| lt' (List.getD u0_0 ((x4).toNat) []) fun L8 => jn (fun (b9 : Bool) => sp b9 (some (2 : Int)) (jn (lt' (wr .i64 (x4 + (1 : Int))) fun x29 => p21_l1 k u0_0 j3 n5 x29) fun j21 => p21_l2 k j21 L8 k (0 : Int))) fun j10 => lt' (List.getD L8 0 0) fun x11 => cl (p50 k x11 (0 : Int) (1099511627776 : Int)) fun v12 => sp v12 (lt' (decide (x4 > (0 : Int))) fun b13 => sp b13 (lt' (List.getD L8 0 0) fun x14 => lt' (wr .i64 (x4 - (1 : Int))) fun x15 => gd ((0 : Int) ≤ x15 ∧ x15 < (u0_0.length : Int)) <| lt' (List.getD (List.getD u0_0 ((x15).toNat) []) 0 0) fun x17 => lt' (decide (x14 ≤ x17)) fun b18 => sp b18 (j10 true) (cl (p52 k (List.take 2 (List.drop 1 L8))) fun v19 => j10 (!v19))) (cl (p52 k (List.take 2 (List.drop 1 L8))) fun v20 => j10 (!v20))) (j10 true)) (j3)
def p21_l3 (k : Nat) (u0_1 : List Int) (j37 : Option Int) : Nat → Int → Option Int
 | 0,_ => none
 | n39 + 1,x38 => lt' (decide (x38 < (4 : Int))) fun b40 => sp b40 (gd ((0 : Int) ≤ x38 ∧ x38 < ((4 : Nat) : Int)) <| lt' (List.getD u0_1 (0 + (x38).toNat * 1) 0) fun x42 => cl (p50 k x42 (0 : Int) (1048576 : Int)) fun v43 => sp v43 (lt' (wr .i64 (x38 + (1 : Int))) fun x44 => p21_l3 k u0_1 j37 n39 x44) (some (2 : Int))) (j37)
def p21_l5 (k : Nat) (u0_0 : List (List Int)) (u0_1 : List Int) (x46 : Int) (j55 : Option Int) : Nat → Int → Option Int
 | 0,_ => none
 | n57 + 1,x56 => lt' (decide (x56 < (4 : Int))) fun b58 => sp b58 (cl (p17 k u0_0 u0_1 x46 x56) fun v59 => gd ((v59).length = 2) <| lt' (List.getD v59 0 0) fun x61 => lt' (List.getD v59 1 0) fun x62 => lt' (decide (x61 > x62)) fun b63 => sp b63 (some (16 : Int)) (lt' (wr .i64 (x56 + (1 : Int))) fun x64 => p21_l5 k u0_0 u0_1 x46 j55 n57 x64)) (j55)
def p21_l4 (k : Nat) (u0_0 : List (List Int)) (u0_1 : List Int) (j45 : Option Int) : Nat → Int → Option Int
 | 0,_ => none
 | n47 + 1,x46 => cl (p53 k u0_0 u0_1) fun v48 => lt' (decide (x46 ≤ v48)) fun b49 => sp b49 (cl (p16 k u0_0 u0_1 x46) fun v50 => gd ((v50).length = 2) <| lt' (List.getD v50 0 0) fun x52 => lt' (List.getD v50 1 0) fun x53 => lt' (decide (x52 > x53)) fun b54 => sp b54 (some (16 : Int)) (jn (lt' (wr .i64 (x46 + (1 : Int))) fun x65 => p21_l4 k u0_0 u0_1 j45 n47 x65) fun j55 => p21_l5 k u0_0 u0_1 x46 j55 k (0 : Int))) (j45)
def p21 (k : Nat) (u0_0 : List (List Int)) (u0_1 : List Int) : Option Int :=
 lt' (decide ((u0_0.length : Int) > (64 : Int))) fun b1 => sp b1 (some (6 : Int)) (lt' (decide ((u0_0.length : Int) < (2 : Int))) fun b2 => sp b2 (some (2 : Int)) (jn (lt' (wr .i64 ((u0_0.length : Int) - (1 : Int))) fun x30 => gd ((0 : Int) ≤ x30 ∧ x30 < (u0_0.length : Int)) <| lt' (List.getD (List.getD u0_0 ((x30).toNat) []) 0 0) fun x32 => gd ((0 : Int) ≤ (0 : Int) ∧ (0 : Int) < (u0_0.length : Int)) <| lt' (List.getD (List.getD u0_0 0 []) 0 0) fun x34 => lt' (wr .i64 (x32 - x34)) fun x35 => lt' (decide (x35 > (2000 : Int))) fun b36 => sp b36 (some (2 : Int)) (jn (jn (some (0 : Int)) fun j45 => p21_l4 k u0_0 u0_1 j45 k (0 : Int)) fun j37 => p21_l3 k u0_1 j37 k (0 : Int))) fun j3 => p21_l1 k u0_0 j3 k (0 : Int)))
theorem hf21 : Try.prog.funcs[21]? = some Try.f21 := by kernel_rfl
theorem w21 (k : Nat) {M : Mem} {Au0_0 : Option Addr} {cu0_0 : Nat} {u0_0 : List (List Int)} {u0_1 : List Int} (hu0_0 : SlR M Au0_0 cu0_0 .i64 11 u0_0) (hu0_1 : u0_1.length = 4) {r} (h : p21 k u0_0 u0_1 = some r) :
  Fn Try.prog 21 [rval (.agg [.one (.v (.slice Au0_0 (u0_0.length) cu0_0)),.arr .i64 4 u0_1])] M (fun x _ => x = vi r) := by
 unfold p21 at h
 refine Fn_of (P:=Try.prog) (fn:=Try.f21) (c:=bodyOf Try.f21) [.agg [.one (.v (.slice Au0_0 (u0_0.length) cu0_0)),.arr .i64 4 u0_1]] hf21 (by kernel_rfl) (Nat.le_of_ble_eq_true (by kernel_rfl)) (args_ok (by kernel_rfl) ⟨⟨rfl,⟨hu0_1,trivial⟩⟩,trivial⟩) fun w => ?_
 change T _ _ _ (endQ _ _ _)
 refine T_seq (c1:=(sub [0] Bd21)) (c2:=(sub [1] Bd21)) (by kernel_rfl) ?_
 refine T_region (id:=0) (by kernel_rfl) ?_
 refine TI_segK (i:=0) (j:=2) (s':={ σ := [(1,.lf (.own 1 0))],H := [(1,[.one (.v (.slice Au0_0 (u0_0.length) cu0_0)),.arr .i64 4 u0_1])],V := [],M := M,ds := [] }) [1] [1] [] (by kernel_rfl) (by kernel_rfl) ?_
 refine TI_end (by kernel_rfl) ?_
 refine thenQ_n ?_
 refine T_seq (c1:=(sub [1,0] Bd21)) (c2:=(sub [1,1] Bd21)) (by kernel_rfl) ?_
 refine T_region (id:=1) (by kernel_rfl) ?_
 refine TI_segS (i:=0) (j:=4) [(1,.lf (.own 1 0)),(3,vi (u0_0.length : Int))] (by kernel_rfl) (by kernel_rfl) ?_
 refine TI_end (by kernel_rfl) ?_
 refine thenQ_n ?_
 refine T_seq (c1:=(sub [1,1,0] Bd21)) (c2:=(sub [1,1,1] Bd21)) (by kernel_rfl) ?_
 refine T_seq (c1:=(sub [1,1,0,0] Bd21)) (c2:=(sub [1,1,0,1] Bd21)) (by kernel_rfl) ?_
 refine T_region (id:=2) (by kernel_rfl) ?_
 obtain ⟨b1,e_b1,h⟩ := lt_some h
 refine TI_segS (i:=0) (j:=2) [(1,.lf (.own 1 0)),(3,vi (u0_0.length : Int)),(16,vb b1)] (by subst e_b1;kernel_rfl) (by kernel_rfl) ?_
 refine TI_end (by kernel_rfl) ?_
 refine thenQ_n ?_
 cases b1 with
 | true =>
  replace h := sp_t h
  refine T_condT (x:=(.tmp 16)) (c1:=(sub [1,1,0,1,0] Bd21)) (c2:=(sub [1,1,0,1,1] Bd21)) (by kernel_rfl) (by kernel_rfl) ?_
  refine T_keep (s':={ σ := [],H := [],V := [],M := M,ds := [] }) [] [] [] (by kernel_rfl) ?_
  refine T_seq (c1:=(sub [1,1,0,1,0,0] Bd21)) (c2:=(sub [1,1,0,1,0,1] Bd21)) (by kernel_rfl) ?_
  refine T_region (id:=3) (by kernel_rfl) ?_
  refine TI_segS (i:=0) (j:=1) [(2,vi (6 : Int))] (by kernel_rfl) (by kernel_rfl) ?_
  refine TI_end (by kernel_rfl) ?_
  refine thenQ_n ?_
  refine T_ret (by kernel_rfl) ?_
  refine thenQ_r ?_
  have h := Option.some.inj h
  subst h
  refine fin_ret (vi (6 : Int)) (by kernel_rfl) (by kernel_rfl) rfl ?_
  rfl
 | false =>
  replace h := sp_f h
  refine T_condF (x:=(.tmp 16)) (c1:=(sub [1,1,0,1,0] Bd21)) (c2:=(sub [1,1,0,1,1] Bd21)) (by kernel_rfl) (by kernel_rfl) ?_
  refine T_keepS [(1,.lf (.own 1 0)),(3,vi (u0_0.length : Int))] (by kernel_rfl) ?_
  refine T_skip (by kernel_rfl) ?_
  refine thenQ_n ?_
  refine T_seq (c1:=(sub [1,1,1,0] Bd21)) (c2:=(sub [1,1,1,1] Bd21)) (by kernel_rfl) ?_
  refine T_seq (c1:=(sub [1,1,1,0,0] Bd21)) (c2:=(sub [1,1,1,0,1] Bd21)) (by kernel_rfl) ?_
  refine T_region (id:=4) (by kernel_rfl) ?_
  obtain ⟨b2,e_b2,h⟩ := lt_some h
  refine TI_segS (i:=0) (j:=2) [(1,.lf (.own 1 0)),(3,vi (u0_0.length : Int)),(18,vb b2)] (by subst e_b2;kernel_rfl) (by kernel_rfl) ?_
  refine TI_end (by kernel_rfl) ?_
  refine thenQ_n ?_
  cases b2 with
  | true =>
   replace h := sp_t h
   refine T_condT (x:=(.tmp 18)) (c1:=(sub [1,1,1,0,1,0] Bd21)) (c2:=(sub [1,1,1,0,1,1] Bd21)) (by kernel_rfl) (by kernel_rfl) ?_
   refine T_keep (s':={ σ := [],H := [],V := [],M := M,ds := [] }) [] [] [] (by kernel_rfl) ?_
   refine T_seq (c1:=(sub [1,1,1,0,1,0,0] Bd21)) (c2:=(sub [1,1,1,0,1,0,1] Bd21)) (by kernel_rfl) ?_
   refine T_region (id:=5) (by kernel_rfl) ?_
   refine TI_segS (i:=0) (j:=1) [(2,vi (2 : Int))] (by kernel_rfl) (by kernel_rfl) ?_
   refine TI_end (by kernel_rfl) ?_
   refine thenQ_n ?_
   refine T_ret (by kernel_rfl) ?_
   refine thenQ_r ?_
   have h := Option.some.inj h
   subst h
   refine fin_ret (vi (2 : Int)) (by kernel_rfl) (by kernel_rfl) rfl ?_
   rfl
  | false =>
   replace h := sp_f h
   refine T_condF (x:=(.tmp 18)) (c1:=(sub [1,1,1,0,1,0] Bd21)) (c2:=(sub [1,1,1,0,1,1] Bd21)) (by kernel_rfl) (by kernel_rfl) ?_
   refine T_keepS [(1,.lf (.own 1 0)),(3,vi (u0_0.length : Int))] (by kernel_rfl) ?_
   refine T_skip (by kernel_rfl) ?_
   refine thenQ_n ?_
   refine T_seq (c1:=(sub [1,1,1,1,0] Bd21)) (c2:=(sub [1,1,1,1,1] Bd21)) (by kernel_rfl) ?_
   refine T_seq (c1:=(sub [1,1,1,1,0,0] Bd21)) (c2:=(sub [1,1,1,1,0,1] Bd21)) (by kernel_rfl) ?_
   refine T_region (id:=6) (by kernel_rfl) ?_
   refine TI_segS (i:=0) (j:=1) [(1,.lf (.own 1 0)),(3,vi (u0_0.length : Int)),(4,vi (0 : Int))] (by kernel_rfl) (by kernel_rfl) ?_
   refine TI_end (by kernel_rfl) ?_
   refine thenQ_n ?_
   obtain ⟨j3,e_j3,h⟩ := jn_some h
   refine T_bcut (id:=0) (c1:=(sub [1,1,1,1,0,1,0] Bd21)) (fun s' => Sub { σ := [(1,.lf (.own 1 0)),(3,vi (u0_0.length : Int))],H := [(1,[.one (.v (.slice Au0_0 (u0_0.length) cu0_0)),.arr .i64 4 u0_1])],V := [],M := M,ds := [] } s' ∧ j3 = some r) (by kernel_rfl) ?_ ?_
   ·refine T_loop (c1:=(sub [1,1,1,1,0,1,0,0] Bd21)) (by kernel_rfl) (fun n5 s' => ∃ (x4 : Int),Sub { σ := [(1,.lf (.own 1 0)),(3,vi (u0_0.length : Int)),(4,vi x4)],H := [(1,[.one (.v (.slice Au0_0 (u0_0.length) cu0_0)),.arr .i64 4 u0_1])],V := [],M := M,ds := [] } s' ∧ p21_l1 k u0_0 j3 n5 x4 = some r) (k:=k) ⟨(0 : Int),keep_sub (ts:=[1,3,4]) (hs:=[1]) (vs:=[]) (by kernel_rfl),h⟩ ?_
    rintro n5 s' ⟨x4,hsub,h⟩
    cases n5 with
    | zero => rw [p21_l1] at h;cases h
    | succ n5 =>
     rw [p21_l1] at h
     refine T_sub hsub ?_
     refine T_seq (c1:=(sub [1,1,1,1,0,1,0,0,0] Bd21)) (c2:=(sub [1,1,1,1,0,1,0,0,1] Bd21)) (by kernel_rfl) ?_
     refine T_seq (c1:=(sub [1,1,1,1,0,1,0,0,0,0] Bd21)) (c2:=(sub [1,1,1,1,0,1,0,0,0,1] Bd21)) (by kernel_rfl) ?_
     refine T_region (id:=7) (by kernel_rfl) ?_
     obtain ⟨b6,e_b6,h⟩ := lt_some h
     refine TI_segK (i:=0) (j:=3) (s':={ σ := [(1,.lf (.own 1 0)),(3,vi (u0_0.length : Int)),(4,vi x4),(21,vb b6)],H := [(1,[.one (.v (.slice Au0_0 (u0_0.length) cu0_0)),.arr .i64 4 u0_1])],V := [],M := M,ds := [] }) [1,3,4,21] [1] [] (by subst e_b6;kernel_rfl) (by kernel_rfl) ?_
     refine TI_end (by kernel_rfl) ?_
     refine thenQ_n ?_
     cases b6 with
     | true =>
      replace h := sp_t h
      refine T_condT (x:=(.tmp 21)) (c1:=(sub [1,1,1,1,0,1,0,0,0,1,0] Bd21)) (c2:=(sub [1,1,1,1,0,1,0,0,0,1,1] Bd21)) (by kernel_rfl) (by kernel_rfl) ?_
      refine T_keepS [(1,.lf (.own 1 0)),(3,vi (u0_0.length : Int)),(4,vi x4)] (by kernel_rfl) ?_
      refine T_skip (by kernel_rfl) ?_
      refine thenQ_n ?_
      refine T_seq (c1:=(sub [1,1,1,1,0,1,0,0,1,0] Bd21)) (c2:=(sub [1,1,1,1,0,1,0,0,1,1] Bd21)) (by kernel_rfl) ?_
      refine T_block (id:=1) (c1:=(sub [1,1,1,1,0,1,0,0,1,0,0] Bd21)) (by kernel_rfl) ?_
      refine T_seq (c1:=(sub [1,1,1,1,0,1,0,0,1,0,0,0] Bd21)) (c2:=(sub [1,1,1,1,0,1,0,0,1,0,0,1] Bd21)) (by kernel_rfl) ?_
      refine T_region (id:=9) (by kernel_rfl) ?_
      refine TI_segS (i:=0) (j:=3) [(1,.lf (.own 1 0)),(3,vi (u0_0.length : Int)),(4,vi x4),(25,.lf (.v (.slice Au0_0 (u0_0.length) cu0_0))),(26,vi x4)] (by kernel_rfl) (by kernel_rfl) ?_
      obtain ⟨g7,h⟩ := gd_some h
      refine TI_at (i:=3) (d:=27) (x:=.lf (.ep (.slice Au0_0 (u0_0.length) cu0_0) 11 ((x4).toNat) 0)) (by exact At_idxR (d:=27) (z:=x4) (by kernel_rfl) g7 hu0_0) (by kernel_rfl) trivial ?_
      obtain ⟨L8,e_L8,h⟩ := lt_some h
      have l_L8 : (L8).length = 11 := by rw [e_L8]; exact SlR_row hu0_0 (toNat_lt g7)
      refine TI_at (i:=4) (d:=28) (x:=.agg [.arr .i64 11 L8]) (by rw [e_L8]; exact At_ldRow (d:=28) (q:=(x4).toNat) (by subst e_L8; kernel_rfl) (toNat_lt g7) hu0_0) (by kernel_rfl) ⟨l_L8,trivial⟩ ?_
      refine TI_segK (i:=5) (j:=7) (s':={ σ := [(1,.lf (.own 1 0)),(3,vi (u0_0.length : Int)),(4,vi x4),(5,.lf (.own 5 0))],H := [(1,[.one (.v (.slice Au0_0 (u0_0.length) cu0_0)),.arr .i64 4 u0_1]),(5,[.arr .i64 11 L8])],V := [],M := M,ds := [] }) [1,3,4,5] [1,5] [] (by kernel_rfl) (by kernel_rfl) ?_
      refine TI_end (by kernel_rfl) ?_
      refine thenQ_n ?_
      refine T_seq (c1:=(sub [1,1,1,1,0,1,0,0,1,0,0,1,0] Bd21)) (c2:=(sub [1,1,1,1,0,1,0,0,1,0,0,1,1] Bd21)) (by kernel_rfl) ?_
      obtain ⟨j10,e_j10,h⟩ := jn_some h
      refine T_cut (c1:=(sub [1,1,1,1,0,1,0,0,1,0,0,1,0,0] Bd21)) (c2:=(sub [1,1,1,1,0,1,0,0,1,0,0,1,0,1] Bd21)) (fun s' => ∃ (b9 : Bool),Sub { σ := [(1,.lf (.own 1 0)),(3,vi (u0_0.length : Int)),(4,vi x4),(5,.lf (.own 5 0)),(54,vb b9)],H := [(1,[.one (.v (.slice Au0_0 (u0_0.length) cu0_0)),.arr .i64 4 u0_1]),(5,[.arr .i64 11 L8])],V := [],M := M,ds := [] } s' ∧ j10 b9 = some r) (by kernel_rfl) ?_ ?_
      ·obtain ⟨x11,e_x11,h⟩ := lt_some h
       obtain ⟨v12,c_v12,h⟩ := cl_some h
       cases v12 with
       | true =>
        replace h := sp_t h
        obtain ⟨b13,e_b13,h⟩ := lt_some h
        cases b13 with
        | true =>
         replace h := sp_t h
         obtain ⟨x14,e_x14,h⟩ := lt_some h
         obtain ⟨x15,e_x15,h⟩ := lt_some h
         obtain ⟨g16,h⟩ := gd_some h
         obtain ⟨x17,e_x17,h⟩ := lt_some h
         obtain ⟨b18,e_b18,h⟩ := lt_some h
         cases b18 with
         | true =>
          replace h := sp_t h
          refine T_draw' (id:=10) [] [0,0,0,0,0,0,0,0,0,0,0,0,0,0,0,0,0,0,0,0,0,0,0,0,0,0] (by kernel_rfl) (by kernel_rfl) (by kernel_rfl) (by kernel_rfl) [(29,.lf (.own 5 0)),(30,vi x11),(31,vb true),(32,vb false),(33,vb false),(34,vi x4),(35,vb true),(36,vb true),(37,.lf (.own 5 0)),(38,vi x14),(39,.lf (.own 1 0)),(40,.lf (.v (.slice Au0_0 (u0_0.length) cu0_0))),(41,vi x4),(42,vi x15),(43,.lf (.ep (.slice Au0_0 (u0_0.length) cu0_0) 11 ((x15).toNat) 0)),(44,.lf (.ep (.slice Au0_0 (u0_0.length) cu0_0) 11 ((x15).toNat) 0)),(45,vi x17),(46,vb true),(47,vb true),(48,vb true),(49,vb true),(50,.tup []),(51,.tup []),(52,.tup []),(53,.tup []),(54,vb true)] (by kernel_rfl) ⟨trivial,⟨trivial,⟨trivial,⟨trivial,⟨trivial,⟨trivial,⟨trivial,⟨trivial,⟨trivial,⟨trivial,⟨trivial,⟨trivial,⟨trivial,⟨trivial,⟨trivial,⟨trivial,⟨trivial,⟨trivial,⟨trivial,⟨trivial,⟨trivial,⟨(by intro y hy;cases hy),⟨(by intro y hy;cases hy),⟨(by intro y hy;cases hy),⟨(by intro y hy;cases hy),⟨trivial,trivial⟩⟩⟩⟩⟩⟩⟩⟩⟩⟩⟩⟩⟩⟩⟩⟩⟩⟩⟩⟩⟩⟩⟩⟩⟩⟩ ?_
          refine Stage_nil (stage_all' [0,1,3,4,5,7,8,9,10,11,12,13,15,18,19,20,21,22,23,24,25] [2,6,14,16,17] (by kernel_rfl) (by subst_vars; kernel_rfl) (by kernel_rfl) ⟨QF_at (i:=2) (d:=31) (x:=vb true) (show OpAt _ _ _ 2 31 _ from by exact At_call (d:=31) (f:=50) (args:=[rval (vi x11),rval (vi (0 : Int)),rval (vi (1099511627776 : Int))]) (x:=vb true) (by subst_vars; kernel_rfl) (w50 k  c_v12)) (by kernel_rfl) (by subst_vars; kernel_rfl),⟨QF_at (i:=6) (d:=35) (x:=vb true) (show OpAt _ _ _ 6 35 _ from by exact At_bin (d:=35) (b:=.gtr) (u:=.int .i64 x4) (v:=.int .i64 (0 : Int)) (w':=.bool true) (by subst_vars; kernel_rfl) (by rw [show exBin .gtr (.int .i64 x4) (.int .i64 (0 : Int)) = some (.bool (decide (x4 > (0 : Int)))) from by kernel_rfl,← e_b13])) (by kernel_rfl) (by subst_vars; kernel_rfl),⟨QF_at (i:=14) (d:=43) (x:=.lf (.ep (.slice Au0_0 (u0_0.length) cu0_0) 11 ((x15).toNat) 0)) (show OpAt _ _ _ 14 43 _ from by exact At_idxR (d:=43) (z:=x15) (by subst_vars; kernel_rfl) g16 hu0_0) (by kernel_rfl) (by subst_vars; kernel_rfl),⟨QF_at (i:=16) (d:=45) (x:=vi x17) (show OpAt _ _ _ 16 45 _ from by rw [e_x17]; exact At_ldR1 (d:=45) (q:=(x15).toNat) (j:=0) (by subst_vars; kernel_rfl) rfl (toNat_lt g16) hu0_0) (by kernel_rfl) (by subst_vars; kernel_rfl),⟨QF_at (i:=17) (d:=46) (x:=vb true) (show OpAt _ _ _ 17 46 _ from by exact At_bin (d:=46) (b:=.leq) (u:=.int .i64 x14) (v:=.int .i64 x17) (w':=.bool true) (by subst_vars; kernel_rfl) (by rw [show exBin .leq (.int .i64 x14) (.int .i64 x17) = some (.bool (decide (x14 ≤ x17))) from by kernel_rfl,← e_b18])) (by kernel_rfl) (by subst_vars; kernel_rfl),trivial⟩⟩⟩⟩⟩) ?_
          refine thenQ_n ?_
          exact ⟨true,keep_sub (ts:=[1,3,4,5,54]) (hs:=[1,5]) (vs:=[]) (by subst_vars;kernel_rfl),h⟩
         | false =>
          replace h := sp_f h
          obtain ⟨v19,c_v19,h⟩ := cl_some h
          refine T_draw' (id:=10) [] [0,0,0,0,0,0,0,0,0,0,0,0,0,0,0,0,0,0,0,0,0,0,0,0,0,0] (by kernel_rfl) (by kernel_rfl) (by kernel_rfl) (by kernel_rfl) [(29,.lf (.own 5 0)),(30,vi x11),(31,vb true),(32,vb false),(33,vb false),(34,vi x4),(35,vb true),(36,vb true),(37,.lf (.own 5 0)),(38,vi x14),(39,.lf (.own 1 0)),(40,.lf (.v (.slice Au0_0 (u0_0.length) cu0_0))),(41,vi x4),(42,vi x15),(43,.lf (.ep (.slice Au0_0 (u0_0.length) cu0_0) 11 ((x15).toNat) 0)),(44,.lf (.ep (.slice Au0_0 (u0_0.length) cu0_0) 11 ((x15).toNat) 0)),(45,vi x17),(46,vb false),(47,vb false),(48,vb false),(49,vb false),(50,.lf (.own 5 1)),(51,.agg [.arr .i64 2 (List.take 2 (List.drop 1 L8))]),(52,vb v19),(53,vb (!v19)),(54,vb (!v19))] (by kernel_rfl) ⟨trivial,⟨trivial,⟨trivial,⟨trivial,⟨trivial,⟨trivial,⟨trivial,⟨trivial,⟨trivial,⟨trivial,⟨trivial,⟨trivial,⟨trivial,⟨trivial,⟨trivial,⟨trivial,⟨trivial,⟨trivial,⟨trivial,⟨trivial,⟨trivial,⟨trivial,⟨⟨(len_dt l_L8 (Nat.le_of_ble_eq_true rfl)),trivial⟩,⟨trivial,⟨trivial,⟨trivial,trivial⟩⟩⟩⟩⟩⟩⟩⟩⟩⟩⟩⟩⟩⟩⟩⟩⟩⟩⟩⟩⟩⟩⟩⟩⟩⟩ ?_
          refine Stage_nil (stage_all' [0,1,3,4,5,7,8,9,10,11,12,13,15,18,19,20,21,22,24,25] [2,6,14,16,17,23] (by kernel_rfl) (by subst_vars; kernel_rfl) (by kernel_rfl) ⟨QF_at (i:=2) (d:=31) (x:=vb true) (show OpAt _ _ _ 2 31 _ from by exact At_call (d:=31) (f:=50) (args:=[rval (vi x11),rval (vi (0 : Int)),rval (vi (1099511627776 : Int))]) (x:=vb true) (by subst_vars; kernel_rfl) (w50 k  c_v12)) (by kernel_rfl) (by subst_vars; kernel_rfl),⟨QF_at (i:=6) (d:=35) (x:=vb true) (show OpAt _ _ _ 6 35 _ from by exact At_bin (d:=35) (b:=.gtr) (u:=.int .i64 x4) (v:=.int .i64 (0 : Int)) (w':=.bool true) (by subst_vars; kernel_rfl) (by rw [show exBin .gtr (.int .i64 x4) (.int .i64 (0 : Int)) = some (.bool (decide (x4 > (0 : Int)))) from by kernel_rfl,← e_b13])) (by kernel_rfl) (by subst_vars; kernel_rfl),⟨QF_at (i:=14) (d:=43) (x:=.lf (.ep (.slice Au0_0 (u0_0.length) cu0_0) 11 ((x15).toNat) 0)) (show OpAt _ _ _ 14 43 _ from by exact At_idxR (d:=43) (z:=x15) (by subst_vars; kernel_rfl) g16 hu0_0) (by kernel_rfl) (by subst_vars; kernel_rfl),⟨QF_at (i:=16) (d:=45) (x:=vi x17) (show OpAt _ _ _ 16 45 _ from by rw [e_x17]; exact At_ldR1 (d:=45) (q:=(x15).toNat) (j:=0) (by subst_vars; kernel_rfl) rfl (toNat_lt g16) hu0_0) (by kernel_rfl) (by subst_vars; kernel_rfl),⟨QF_at (i:=17) (d:=46) (x:=vb false) (show OpAt _ _ _ 17 46 _ from by exact At_bin (d:=46) (b:=.leq) (u:=.int .i64 x14) (v:=.int .i64 x17) (w':=.bool false) (by subst_vars; kernel_rfl) (by rw [show exBin .leq (.int .i64 x14) (.int .i64 x17) = some (.bool (decide (x14 ≤ x17))) from by kernel_rfl,← e_b18])) (by kernel_rfl) (by subst_vars; kernel_rfl),⟨QF_at (i:=23) (d:=52) (x:=vb v19) (show OpAt _ _ _ 23 52 _ from by exact At_call (d:=52) (f:=52) (args:=[rval (.agg [.arr .i64 2 (List.take 2 (List.drop 1 L8))])]) (x:=vb v19) (by subst_vars; kernel_rfl) (w52 k (len_dt l_L8 (Nat.le_of_ble_eq_true rfl)) c_v19)) (by kernel_rfl) (by subst_vars; kernel_rfl),trivial⟩⟩⟩⟩⟩⟩) ?_
          refine thenQ_n ?_
          exact ⟨(!v19),keep_sub (ts:=[1,3,4,5,54]) (hs:=[1,5]) (vs:=[]) (by subst_vars;kernel_rfl),h⟩
        | false =>
         replace h := sp_f h
         obtain ⟨v20,c_v20,h⟩ := cl_some h
         refine T_draw' (id:=10) [] [0,0,0,0,0,0,0,0,0,0,0,0,0,0,0,0,0,0,0,0,0,0,0,0,0,0] (by kernel_rfl) (by kernel_rfl) (by kernel_rfl) (by kernel_rfl) [(29,.lf (.own 5 0)),(30,vi x11),(31,vb true),(32,vb false),(33,vb false),(34,vi x4),(35,vb false),(36,vb false),(37,.tup []),(38,.tup []),(39,.tup []),(40,.tup []),(41,.tup []),(42,.tup []),(43,.tup []),(44,.tup []),(45,.tup []),(46,.tup []),(47,vb false),(48,vb false),(49,vb false),(50,.lf (.own 5 1)),(51,.agg [.arr .i64 2 (List.take 2 (List.drop 1 L8))]),(52,vb v20),(53,vb (!v20)),(54,vb (!v20))] (by kernel_rfl) ⟨trivial,⟨trivial,⟨trivial,⟨trivial,⟨trivial,⟨trivial,⟨trivial,⟨trivial,⟨(by intro y hy;cases hy),⟨(by intro y hy;cases hy),⟨(by intro y hy;cases hy),⟨(by intro y hy;cases hy),⟨(by intro y hy;cases hy),⟨(by intro y hy;cases hy),⟨(by intro y hy;cases hy),⟨(by intro y hy;cases hy),⟨(by intro y hy;cases hy),⟨(by intro y hy;cases hy),⟨trivial,⟨trivial,⟨trivial,⟨trivial,⟨⟨(len_dt l_L8 (Nat.le_of_ble_eq_true rfl)),trivial⟩,⟨trivial,⟨trivial,⟨trivial,trivial⟩⟩⟩⟩⟩⟩⟩⟩⟩⟩⟩⟩⟩⟩⟩⟩⟩⟩⟩⟩⟩⟩⟩⟩⟩⟩ ?_
         refine Stage_nil (stage_all' [0,1,3,4,5,7,8,9,10,11,12,13,14,15,16,17,18,19,20,21,22,24,25] [2,6,23] (by kernel_rfl) (by subst e_x11;kernel_rfl) (by kernel_rfl) ⟨QF_at (i:=2) (d:=31) (x:=vb true) (show OpAt _ _ _ 2 31 _ from by exact At_call (d:=31) (f:=50) (args:=[rval (vi x11),rval (vi (0 : Int)),rval (vi (1099511627776 : Int))]) (x:=vb true) (by subst e_x11;kernel_rfl) (w50 k  c_v12)) (by kernel_rfl) (by subst e_x11;kernel_rfl),⟨QF_at (i:=6) (d:=35) (x:=vb false) (show OpAt _ _ _ 6 35 _ from by exact At_bin (d:=35) (b:=.gtr) (u:=.int .i64 x4) (v:=.int .i64 (0 : Int)) (w':=.bool false) (by subst e_x11;kernel_rfl) (by rw [show exBin .gtr (.int .i64 x4) (.int .i64 (0 : Int)) = some (.bool (decide (x4 > (0 : Int)))) from by kernel_rfl,← e_b13])) (by kernel_rfl) (by subst e_x11;kernel_rfl),⟨QF_at (i:=23) (d:=52) (x:=vb v20) (show OpAt _ _ _ 23 52 _ from by exact At_call (d:=52) (f:=52) (args:=[rval (.agg [.arr .i64 2 (List.take 2 (List.drop 1 L8))])]) (x:=vb v20) (by subst e_x11;kernel_rfl) (w52 k (len_dt l_L8 (Nat.le_of_ble_eq_true rfl)) c_v20)) (by kernel_rfl) (by subst e_x11;kernel_rfl),trivial⟩⟩⟩) ?_
         refine thenQ_n ?_
         exact ⟨(!v20),keep_sub (ts:=[1,3,4,5,54]) (hs:=[1,5]) (vs:=[]) (by subst e_x11;kernel_rfl),h⟩
       | false =>
        replace h := sp_f h
        refine T_draw' (id:=10) [] [0,0,0,0,0,0,0,0,0,0,0,0,0,0,0,0,0,0,0,0,0,0,0,0,0,0] (by kernel_rfl) (by kernel_rfl) (by kernel_rfl) (by kernel_rfl) [(29,.lf (.own 5 0)),(30,vi x11),(31,vb false),(32,vb true),(33,vb true),(34,.tup []),(35,.tup []),(36,.tup []),(37,.tup []),(38,.tup []),(39,.tup []),(40,.tup []),(41,.tup []),(42,.tup []),(43,.tup []),(44,.tup []),(45,.tup []),(46,.tup []),(47,.tup []),(48,vb true),(49,vb true),(50,.tup []),(51,.tup []),(52,.tup []),(53,.tup []),(54,vb true)] (by kernel_rfl) ⟨trivial,⟨trivial,⟨trivial,⟨trivial,⟨trivial,⟨(by intro y hy;cases hy),⟨(by intro y hy;cases hy),⟨(by intro y hy;cases hy),⟨(by intro y hy;cases hy),⟨(by intro y hy;cases hy),⟨(by intro y hy;cases hy),⟨(by intro y hy;cases hy),⟨(by intro y hy;cases hy),⟨(by intro y hy;cases hy),⟨(by intro y hy;cases hy),⟨(by intro y hy;cases hy),⟨(by intro y hy;cases hy),⟨(by intro y hy;cases hy),⟨(by intro y hy;cases hy),⟨trivial,⟨trivial,⟨(by intro y hy;cases hy),⟨(by intro y hy;cases hy),⟨(by intro y hy;cases hy),⟨(by intro y hy;cases hy),⟨trivial,trivial⟩⟩⟩⟩⟩⟩⟩⟩⟩⟩⟩⟩⟩⟩⟩⟩⟩⟩⟩⟩⟩⟩⟩⟩⟩⟩ ?_
        refine Stage_nil (stage_all' [0,1,3,4,5,6,7,8,9,10,11,12,13,14,15,16,17,18,19,20,21,22,23,24,25] [2] (by kernel_rfl) (by subst e_x11;kernel_rfl) (by kernel_rfl) ⟨QF_at (i:=2) (d:=31) (x:=vb false) (show OpAt _ _ _ 2 31 _ from by exact At_call (d:=31) (f:=50) (args:=[rval (vi x11),rval (vi (0 : Int)),rval (vi (1099511627776 : Int))]) (x:=vb false) (by subst e_x11;kernel_rfl) (w50 k  c_v12)) (by kernel_rfl) (by subst e_x11;kernel_rfl),trivial⟩) ?_
        refine thenQ_n ?_
        exact ⟨true,keep_sub (ts:=[1,3,4,5,54]) (hs:=[1,5]) (vs:=[]) (by subst e_x11;kernel_rfl),h⟩
      ·rintro s' ⟨b9,hsub,h⟩
       subst e_j10
       refine T_sub hsub ?_
       cases b9 with
       | true =>
        replace h := sp_t h
        refine T_condT (x:=(.tmp 54)) (c1:=(sub [1,1,1,1,0,1,0,0,1,0,0,1,0,1,0] Bd21)) (c2:=(sub [1,1,1,1,0,1,0,0,1,0,0,1,0,1,1] Bd21)) (by kernel_rfl) (by kernel_rfl) ?_
        refine T_keep (s':={ σ := [],H := [],V := [],M := M,ds := [] }) [] [] [] (by kernel_rfl) ?_
        refine T_seq (c1:=(sub [1,1,1,1,0,1,0,0,1,0,0,1,0,1,0,0] Bd21)) (c2:=(sub [1,1,1,1,0,1,0,0,1,0,0,1,0,1,0,1] Bd21)) (by kernel_rfl) ?_
        refine T_region (id:=11) (by kernel_rfl) ?_
        refine TI_segS (i:=0) (j:=1) [(2,vi (2 : Int))] (by kernel_rfl) (by kernel_rfl) ?_
        refine TI_end (by kernel_rfl) ?_
        refine thenQ_n ?_
        refine T_ret (by kernel_rfl) ?_
        refine thenQ_r ?_
        refine blockQ_r ?_
        refine thenQ_r ?_
        refine thenQ_r ?_
        refine blockQ_r ?_
        refine thenQ_r ?_
        refine thenQ_r ?_
        have h := Option.some.inj h
        subst h
        refine fin_ret (vi (2 : Int)) (by kernel_rfl) (by kernel_rfl) rfl ?_
        rfl
       | false =>
        replace h := sp_f h
        refine T_condF (x:=(.tmp 54)) (c1:=(sub [1,1,1,1,0,1,0,0,1,0,0,1,0,1,0] Bd21)) (c2:=(sub [1,1,1,1,0,1,0,0,1,0,0,1,0,1,1] Bd21)) (by kernel_rfl) (by kernel_rfl) ?_
        refine T_keep (s':={ σ := [(1,.lf (.own 1 0)),(3,vi (u0_0.length : Int)),(4,vi x4),(5,.lf (.own 5 0))],H := [(1,[.one (.v (.slice Au0_0 (u0_0.length) cu0_0)),.arr .i64 4 u0_1]),(5,[.arr .i64 11 L8])],V := [],M := M,ds := [] }) [1,3,4,5] [1,5] [] (by kernel_rfl) ?_
        refine T_skip (by kernel_rfl) ?_
        refine thenQ_n ?_
        refine T_seq (c1:=(sub [1,1,1,1,0,1,0,0,1,0,0,1,1,0] Bd21)) (c2:=(sub [1,1,1,1,0,1,0,0,1,0,0,1,1,1] Bd21)) (by kernel_rfl) ?_
        refine T_region (id:=12) (by kernel_rfl) ?_
        refine TI_segS (i:=0) (j:=1) [(1,.lf (.own 1 0)),(3,vi (u0_0.length : Int)),(4,vi x4),(5,.lf (.own 5 0)),(6,vi (0 : Int))] (by kernel_rfl) (by kernel_rfl) ?_
        refine TI_end (by kernel_rfl) ?_
        refine thenQ_n ?_
        obtain ⟨j21,e_j21,h⟩ := jn_some h
        refine T_bcut (id:=2) (c1:=(sub [1,1,1,1,0,1,0,0,1,0,0,1,1,1,0] Bd21)) (fun s' => Sub { σ := [(1,.lf (.own 1 0)),(3,vi (u0_0.length : Int)),(4,vi x4)],H := [(1,[.one (.v (.slice Au0_0 (u0_0.length) cu0_0)),.arr .i64 4 u0_1])],V := [],M := M,ds := [] } s' ∧ j21 = some r) (by kernel_rfl) ?_ ?_
        ·refine T_loop (c1:=(sub [1,1,1,1,0,1,0,0,1,0,0,1,1,1,0,0] Bd21)) (by kernel_rfl) (fun n23 s' => ∃ (x22 : Int),Sub { σ := [(1,.lf (.own 1 0)),(3,vi (u0_0.length : Int)),(4,vi x4),(5,.lf (.own 5 0)),(6,vi x22)],H := [(1,[.one (.v (.slice Au0_0 (u0_0.length) cu0_0)),.arr .i64 4 u0_1]),(5,[.arr .i64 11 L8])],V := [],M := M,ds := [] } s' ∧ p21_l2 k j21 L8 n23 x22 = some r) (k:=k) ⟨(0 : Int),keep_sub (ts:=[1,3,4,5,6]) (hs:=[1,5]) (vs:=[]) (by kernel_rfl),h⟩ ?_
         rintro n23 s' ⟨x22,hsub,h⟩
         cases n23 with
         | zero => rw [p21_l2] at h;cases h
         | succ n23 =>
          rw [p21_l2] at h
          refine T_sub hsub ?_
          refine T_seq (c1:=(sub [1,1,1,1,0,1,0,0,1,0,0,1,1,1,0,0,0] Bd21)) (c2:=(sub [1,1,1,1,0,1,0,0,1,0,0,1,1,1,0,0,1] Bd21)) (by kernel_rfl) ?_
          refine T_seq (c1:=(sub [1,1,1,1,0,1,0,0,1,0,0,1,1,1,0,0,0,0] Bd21)) (c2:=(sub [1,1,1,1,0,1,0,0,1,0,0,1,1,1,0,0,0,1] Bd21)) (by kernel_rfl) ?_
          refine T_region (id:=13) (by kernel_rfl) ?_
          obtain ⟨b24,e_b24,h⟩ := lt_some h
          refine TI_segK (i:=0) (j:=2) (s':={ σ := [(1,.lf (.own 1 0)),(3,vi (u0_0.length : Int)),(4,vi x4),(5,.lf (.own 5 0)),(6,vi x22),(56,vb b24)],H := [(1,[.one (.v (.slice Au0_0 (u0_0.length) cu0_0)),.arr .i64 4 u0_1]),(5,[.arr .i64 11 L8])],V := [],M := M,ds := [] }) [1,3,4,5,6,56] [1,5] [] (by subst e_b24;kernel_rfl) (by kernel_rfl) ?_
          refine TI_end (by kernel_rfl) ?_
          refine thenQ_n ?_
          cases b24 with
          | true =>
           replace h := sp_t h
           refine T_condT (x:=(.tmp 56)) (c1:=(sub [1,1,1,1,0,1,0,0,1,0,0,1,1,1,0,0,0,1,0] Bd21)) (c2:=(sub [1,1,1,1,0,1,0,0,1,0,0,1,1,1,0,0,0,1,1] Bd21)) (by kernel_rfl) (by kernel_rfl) ?_
           refine T_keepS [(1,.lf (.own 1 0)),(3,vi (u0_0.length : Int)),(4,vi x4),(5,.lf (.own 5 0)),(6,vi x22)] (by kernel_rfl) ?_
           refine T_skip (by kernel_rfl) ?_
           refine thenQ_n ?_
           refine T_seq (c1:=(sub [1,1,1,1,0,1,0,0,1,0,0,1,1,1,0,0,1,0] Bd21)) (c2:=(sub [1,1,1,1,0,1,0,0,1,0,0,1,1,1,0,0,1,1] Bd21)) (by kernel_rfl) ?_
           refine T_block (id:=3) (c1:=(sub [1,1,1,1,0,1,0,0,1,0,0,1,1,1,0,0,1,0,0] Bd21)) (by kernel_rfl) ?_
           refine T_seq (c1:=(sub [1,1,1,1,0,1,0,0,1,0,0,1,1,1,0,0,1,0,0,0] Bd21)) (c2:=(sub [1,1,1,1,0,1,0,0,1,0,0,1,1,1,0,0,1,0,0,1] Bd21)) (by kernel_rfl) ?_
           refine T_region (id:=15) (by kernel_rfl) ?_
           refine TI_segS (i:=0) (j:=2) [(1,.lf (.own 1 0)),(3,vi (u0_0.length : Int)),(4,vi x4),(5,.lf (.own 5 0)),(6,vi x22),(59,vi x22),(60,.lf (.own 5 3))] (by kernel_rfl) (by kernel_rfl) ?_
           obtain ⟨g25,h⟩ := gd_some h
           refine TI_at (i:=2) (d:=61) (x:=.lf (.oel 5 (3 + (x22).toNat * 2))) (by exact At_idxO (d:=61) (z:=x22) (b:=5) (off:=3) (sz:=2) (n:=4) (by kernel_rfl) g25) (by kernel_rfl) trivial ?_
           obtain ⟨L26,e_L26,h⟩ := lt_some h
           have l_L26 : (L26).length = 2 := by rw [e_L26]; exact len_dt l_L8 (by omega)
           refine TI_at (i:=3) (d:=62) (x:=.agg [.arr .i64 2 L26]) (by rw [e_L26]; exact At_ldO (d:=62) (b:=5) (off:=3 + (x22).toNat * 2) (base:=0) (q:=3 + (x22).toNat * 2) (n:=11) (k:=.i64) (L:=L8) (by subst e_L26; kernel_rfl) (by subst e_L26; kernel_rfl) (by omega) (by omega)) (by kernel_rfl) ⟨l_L26,trivial⟩ ?_
           obtain ⟨v27,c_v27,h⟩ := cl_some h
           refine TI_at (i:=4) (d:=63) (x:=vb v27) (At_call (d:=63) (f:=52) (args:=[rval (.agg [.arr .i64 2 L26])]) (x:=vb v27) (by kernel_rfl) (w52 k l_L26 c_v27)) (by kernel_rfl) trivial ?_
           refine TI_segK (i:=5) (j:=6) (s':={ σ := [(1,.lf (.own 1 0)),(3,vi (u0_0.length : Int)),(4,vi x4),(5,.lf (.own 5 0)),(6,vi x22),(64,vb (!v27))],H := [(1,[.one (.v (.slice Au0_0 (u0_0.length) cu0_0)),.arr .i64 4 u0_1]),(5,[.arr .i64 11 L8])],V := [],M := M,ds := [] }) [1,3,4,5,6,64] [1,5] [] (by kernel_rfl) (by kernel_rfl) ?_
           refine TI_end (by kernel_rfl) ?_
           refine thenQ_n ?_
           cases v27 with
           | true =>
            replace h := sp_t h
            refine T_condF (x:=(.tmp 64)) (c1:=(sub [1,1,1,1,0,1,0,0,1,0,0,1,1,1,0,0,1,0,0,1,0] Bd21)) (c2:=(sub [1,1,1,1,0,1,0,0,1,0,0,1,1,1,0,0,1,0,0,1,1] Bd21)) (by kernel_rfl) (by kernel_rfl) ?_
            refine T_keepS [(1,.lf (.own 1 0)),(3,vi (u0_0.length : Int)),(4,vi x4),(5,.lf (.own 5 0)),(6,vi x22)] (by kernel_rfl) ?_
            refine T_skip (by kernel_rfl) ?_
            refine blockQ_n ?_
            refine thenQ_n ?_
            refine T_region (id:=14) (by kernel_rfl) ?_
            obtain ⟨x28,e_x28,h⟩ := lt_some h
            refine TI_segS (i:=0) (j:=3) [(1,.lf (.own 1 0)),(3,vi (u0_0.length : Int)),(4,vi x4),(5,.lf (.own 5 0)),(6,vi x28)] (by subst e_x28;kernel_rfl) (by kernel_rfl) ?_
            refine TI_end (by kernel_rfl) ?_
            refine thenQ_n ?_
            exact ⟨n23,Nat.lt_succ_self _,x28,keep_sub (ts:=[1,3,4,5,6]) (hs:=[1,5]) (vs:=[]) (by kernel_rfl),h⟩
           | false =>
            replace h := sp_f h
            refine T_condT (x:=(.tmp 64)) (c1:=(sub [1,1,1,1,0,1,0,0,1,0,0,1,1,1,0,0,1,0,0,1,0] Bd21)) (c2:=(sub [1,1,1,1,0,1,0,0,1,0,0,1,1,1,0,0,1,0,0,1,1] Bd21)) (by kernel_rfl) (by kernel_rfl) ?_
            refine T_keep (s':={ σ := [],H := [],V := [],M := M,ds := [] }) [] [] [] (by kernel_rfl) ?_
            refine T_seq (c1:=(sub [1,1,1,1,0,1,0,0,1,0,0,1,1,1,0,0,1,0,0,1,0,0] Bd21)) (c2:=(sub [1,1,1,1,0,1,0,0,1,0,0,1,1,1,0,0,1,0,0,1,0,1] Bd21)) (by kernel_rfl) ?_
            refine T_region (id:=16) (by kernel_rfl) ?_
            refine TI_segS (i:=0) (j:=1) [(2,vi (2 : Int))] (by kernel_rfl) (by kernel_rfl) ?_
            refine TI_end (by kernel_rfl) ?_
            refine thenQ_n ?_
            refine T_ret (by kernel_rfl) ?_
            refine blockQ_r ?_
            refine thenQ_r ?_
            refine thenQ_r ?_
            refine blockQ_r ?_
            refine thenQ_r ?_
            refine blockQ_r ?_
            refine thenQ_r ?_
            refine thenQ_r ?_
            refine blockQ_r ?_
            refine thenQ_r ?_
            refine thenQ_r ?_
            have h := Option.some.inj h
            subst h
            refine fin_ret (vi (2 : Int)) (by kernel_rfl) (by kernel_rfl) rfl ?_
            rfl
          | false =>
           replace h := sp_f h
           refine T_condF (x:=(.tmp 56)) (c1:=(sub [1,1,1,1,0,1,0,0,1,0,0,1,1,1,0,0,0,1,0] Bd21)) (c2:=(sub [1,1,1,1,0,1,0,0,1,0,0,1,1,1,0,0,0,1,1] Bd21)) (by kernel_rfl) (by kernel_rfl) ?_
           refine T_keep (s':={ σ := [(1,.lf (.own 1 0)),(3,vi (u0_0.length : Int)),(4,vi x4)],H := [(1,[.one (.v (.slice Au0_0 (u0_0.length) cu0_0)),.arr .i64 4 u0_1])],V := [],M := M,ds := [] }) [1,3,4] [1] [] (by kernel_rfl) ?_
           refine T_exit (id:=2) (by kernel_rfl) ?_
           refine thenQ_x ?_
           refine thenQ_x ?_
           refine blockQ_x ?_
           refine thenQ_n ?_
           exact ⟨keep_sub (ts:=[1,3,4]) (hs:=[1]) (vs:=[]) (by kernel_rfl),h⟩
        ·rintro s' ⟨hsub,h⟩
         subst e_j21
         refine blockQ_n ?_
         refine thenQ_n ?_
         refine T_sub hsub ?_
         refine T_region (id:=8) (by kernel_rfl) ?_
         obtain ⟨x29,e_x29,h⟩ := lt_some h
         refine TI_segK (i:=0) (j:=3) (s':={ σ := [(1,.lf (.own 1 0)),(3,vi (u0_0.length : Int)),(4,vi x29)],H := [(1,[.one (.v (.slice Au0_0 (u0_0.length) cu0_0)),.arr .i64 4 u0_1])],V := [],M := M,ds := [] }) [1,3,4] [1] [] (by subst e_x29;kernel_rfl) (by kernel_rfl) ?_
         refine TI_end (by kernel_rfl) ?_
         refine thenQ_n ?_
         exact ⟨n5,Nat.lt_succ_self _,x29,keep_sub (ts:=[1,3,4]) (hs:=[1]) (vs:=[]) (by kernel_rfl),h⟩
     | false =>
      replace h := sp_f h
      refine T_condF (x:=(.tmp 21)) (c1:=(sub [1,1,1,1,0,1,0,0,0,1,0] Bd21)) (c2:=(sub [1,1,1,1,0,1,0,0,0,1,1] Bd21)) (by kernel_rfl) (by kernel_rfl) ?_
      refine T_keepS [(1,.lf (.own 1 0)),(3,vi (u0_0.length : Int))] (by kernel_rfl) ?_
      refine T_exit (id:=0) (by kernel_rfl) ?_
      refine thenQ_x ?_
      refine thenQ_x ?_
      refine blockQ_x ?_
      refine thenQ_n ?_
      exact ⟨keep_sub (ts:=[1,3]) (hs:=[1]) (vs:=[]) (by kernel_rfl),h⟩
   ·rintro s' ⟨hsub,h⟩
    subst e_j3
    refine thenQ_n ?_
    refine T_sub hsub ?_
    refine T_seq (c1:=(sub [1,1,1,1,1,0] Bd21)) (c2:=(sub [1,1,1,1,1,1] Bd21)) (by kernel_rfl) ?_
    refine T_seq (c1:=(sub [1,1,1,1,1,0,0] Bd21)) (c2:=(sub [1,1,1,1,1,0,1] Bd21)) (by kernel_rfl) ?_
    obtain ⟨x30,e_x30,h⟩ := lt_some h
    obtain ⟨g31,h⟩ := gd_some h
    obtain ⟨x32,e_x32,h⟩ := lt_some h
    obtain ⟨g33,h⟩ := gd_some h
    obtain ⟨x34,e_x34,h⟩ := lt_some h
    obtain ⟨x35,e_x35,h⟩ := lt_some h
    obtain ⟨b36,e_b36,h⟩ := lt_some h
    refine T_draw' (id:=17) [] [0,0,0,0,0,0,0,0,0,0,0,0,0,0] (by kernel_rfl) (by kernel_rfl) (by kernel_rfl) (by kernel_rfl) [(65,.lf (.own 1 0)),(66,.lf (.v (.slice Au0_0 (u0_0.length) cu0_0))),(67,vi (u0_0.length : Int)),(68,vi x30),(69,.lf (.ep (.slice Au0_0 (u0_0.length) cu0_0) 11 ((x30).toNat) 0)),(70,.lf (.ep (.slice Au0_0 (u0_0.length) cu0_0) 11 ((x30).toNat) 0)),(71,vi x32),(72,.lf (.own 1 0)),(73,.lf (.v (.slice Au0_0 (u0_0.length) cu0_0))),(74,.lf (.ep (.slice Au0_0 (u0_0.length) cu0_0) 11 0 0)),(75,.lf (.ep (.slice Au0_0 (u0_0.length) cu0_0) 11 0 0)),(76,vi x34),(77,vi x35),(78,vb b36)] (by kernel_rfl) (wfs_lf _ (by kernel_rfl)) ?_
    refine Stage_nil (stage_all' [0,1,2,3,5,7,8,10,12,13] [4,6,9,11] (by kernel_rfl) (by subst_vars; kernel_rfl) (by kernel_rfl) ⟨QF_at (i:=4) (d:=69) (x:=.lf (.ep (.slice Au0_0 (u0_0.length) cu0_0) 11 ((x30).toNat) 0)) (show OpAt _ _ _ 4 69 _ from by exact At_idxR (d:=69) (z:=x30) (by subst_vars; kernel_rfl) g31 hu0_0) (by kernel_rfl) (by subst_vars; kernel_rfl),⟨QF_at (i:=6) (d:=71) (x:=vi x32) (show OpAt _ _ _ 6 71 _ from by rw [e_x32]; exact At_ldR1 (d:=71) (q:=(x30).toNat) (j:=0) (by subst_vars; kernel_rfl) rfl (toNat_lt g31) hu0_0) (by kernel_rfl) (by subst_vars; kernel_rfl),⟨QF_at (i:=9) (d:=74) (x:=.lf (.ep (.slice Au0_0 (u0_0.length) cu0_0) 11 0 0)) (show OpAt _ _ _ 9 74 _ from by exact At_idxR (d:=74) (z:=(0 : Int)) (by subst_vars; kernel_rfl) g33 hu0_0) (by kernel_rfl) (by subst_vars; kernel_rfl),⟨QF_at (i:=11) (d:=76) (x:=vi x34) (show OpAt _ _ _ 11 76 _ from by rw [e_x34]; exact At_ldR1 (d:=76) (q:=0) (j:=0) (by subst_vars; kernel_rfl) rfl (toNat_lt g33) hu0_0) (by kernel_rfl) (by subst_vars; kernel_rfl),trivial⟩⟩⟩⟩) ?_
    refine thenQ_n ?_
    refine T_keep (s':={ σ := [(1,.lf (.own 1 0)),(78,vb b36)],H := [(1,[.one (.v (.slice Au0_0 (u0_0.length) cu0_0)),.arr .i64 4 u0_1])],V := [],M := M,ds := [] }) [1,78] [1] [] (by subst_vars;kernel_rfl) ?_
    cases b36 with
    | true =>
     replace h := sp_t h
     refine T_condT (x:=(.tmp 78)) (c1:=(sub [1,1,1,1,1,0,1,0] Bd21)) (c2:=(sub [1,1,1,1,1,0,1,1] Bd21)) (by kernel_rfl) (by kernel_rfl) ?_
     refine T_keep (s':={ σ := [],H := [],V := [],M := M,ds := [] }) [] [] [] (by kernel_rfl) ?_
     refine T_seq (c1:=(sub [1,1,1,1,1,0,1,0,0] Bd21)) (c2:=(sub [1,1,1,1,1,0,1,0,1] Bd21)) (by kernel_rfl) ?_
     refine T_region (id:=18) (by kernel_rfl) ?_
     refine TI_segS (i:=0) (j:=1) [(2,vi (2 : Int))] (by kernel_rfl) (by kernel_rfl) ?_
     refine TI_end (by kernel_rfl) ?_
     refine thenQ_n ?_
     refine T_ret (by kernel_rfl) ?_
     refine thenQ_r ?_
     have h := Option.some.inj h
     subst h
     refine fin_ret (vi (2 : Int)) (by kernel_rfl) (by kernel_rfl) rfl ?_
     rfl
    | false =>
     replace h := sp_f h
     refine T_condF (x:=(.tmp 78)) (c1:=(sub [1,1,1,1,1,0,1,0] Bd21)) (c2:=(sub [1,1,1,1,1,0,1,1] Bd21)) (by kernel_rfl) (by kernel_rfl) ?_
     refine T_keepS [(1,.lf (.own 1 0))] (by kernel_rfl) ?_
     refine T_skip (by kernel_rfl) ?_
     refine thenQ_n ?_
     refine T_seq (c1:=(sub [1,1,1,1,1,1,0] Bd21)) (c2:=(sub [1,1,1,1,1,1,1] Bd21)) (by kernel_rfl) ?_
     refine T_seq (c1:=(sub [1,1,1,1,1,1,0,0] Bd21)) (c2:=(sub [1,1,1,1,1,1,0,1] Bd21)) (by kernel_rfl) ?_
     refine T_region (id:=19) (by kernel_rfl) ?_
     refine TI_segS (i:=0) (j:=1) [(1,.lf (.own 1 0)),(7,vi (0 : Int))] (by kernel_rfl) (by kernel_rfl) ?_
     refine TI_end (by kernel_rfl) ?_
     refine thenQ_n ?_
     obtain ⟨j37,e_j37,h⟩ := jn_some h
     refine T_bcut (id:=4) (c1:=(sub [1,1,1,1,1,1,0,1,0] Bd21)) (fun s' => Sub { σ := [(1,.lf (.own 1 0))],H := [(1,[.one (.v (.slice Au0_0 (u0_0.length) cu0_0)),.arr .i64 4 u0_1])],V := [],M := M,ds := [] } s' ∧ j37 = some r) (by kernel_rfl) ?_ ?_
     ·refine T_loop (c1:=(sub [1,1,1,1,1,1,0,1,0,0] Bd21)) (by kernel_rfl) (fun n39 s' => ∃ (x38 : Int),Sub { σ := [(1,.lf (.own 1 0)),(7,vi x38)],H := [(1,[.one (.v (.slice Au0_0 (u0_0.length) cu0_0)),.arr .i64 4 u0_1])],V := [],M := M,ds := [] } s' ∧ p21_l3 k u0_1 j37 n39 x38 = some r) (k:=k) ⟨(0 : Int),keep_sub (ts:=[1,7]) (hs:=[1]) (vs:=[]) (by kernel_rfl),h⟩ ?_
      rintro n39 s' ⟨x38,hsub,h⟩
      cases n39 with
      | zero => rw [p21_l3] at h;cases h
      | succ n39 =>
       rw [p21_l3] at h
       refine T_sub hsub ?_
       refine T_seq (c1:=(sub [1,1,1,1,1,1,0,1,0,0,0] Bd21)) (c2:=(sub [1,1,1,1,1,1,0,1,0,0,1] Bd21)) (by kernel_rfl) ?_
       refine T_seq (c1:=(sub [1,1,1,1,1,1,0,1,0,0,0,0] Bd21)) (c2:=(sub [1,1,1,1,1,1,0,1,0,0,0,1] Bd21)) (by kernel_rfl) ?_
       refine T_region (id:=20) (by kernel_rfl) ?_
       obtain ⟨b40,e_b40,h⟩ := lt_some h
       refine TI_segK (i:=0) (j:=2) (s':={ σ := [(1,.lf (.own 1 0)),(7,vi x38),(80,vb b40)],H := [(1,[.one (.v (.slice Au0_0 (u0_0.length) cu0_0)),.arr .i64 4 u0_1])],V := [],M := M,ds := [] }) [1,7,80] [1] [] (by subst e_b40;kernel_rfl) (by kernel_rfl) ?_
       refine TI_end (by kernel_rfl) ?_
       refine thenQ_n ?_
       cases b40 with
       | true =>
        replace h := sp_t h
        refine T_condT (x:=(.tmp 80)) (c1:=(sub [1,1,1,1,1,1,0,1,0,0,0,1,0] Bd21)) (c2:=(sub [1,1,1,1,1,1,0,1,0,0,0,1,1] Bd21)) (by kernel_rfl) (by kernel_rfl) ?_
        refine T_keepS [(1,.lf (.own 1 0)),(7,vi x38)] (by kernel_rfl) ?_
        refine T_skip (by kernel_rfl) ?_
        refine thenQ_n ?_
        refine T_seq (c1:=(sub [1,1,1,1,1,1,0,1,0,0,1,0] Bd21)) (c2:=(sub [1,1,1,1,1,1,0,1,0,0,1,1] Bd21)) (by kernel_rfl) ?_
        refine T_block (id:=5) (c1:=(sub [1,1,1,1,1,1,0,1,0,0,1,0,0] Bd21)) (by kernel_rfl) ?_
        refine T_seq (c1:=(sub [1,1,1,1,1,1,0,1,0,0,1,0,0,0] Bd21)) (c2:=(sub [1,1,1,1,1,1,0,1,0,0,1,0,0,1] Bd21)) (by kernel_rfl) ?_
        refine T_region (id:=22) (by kernel_rfl) ?_
        refine TI_segS (i:=0) (j:=2) [(1,.lf (.own 1 0)),(7,vi x38),(83,vi x38),(84,.lf (.own 1 1))] (by kernel_rfl) (by kernel_rfl) ?_
        obtain ⟨g41,h⟩ := gd_some h
        refine TI_at (i:=2) (d:=85) (x:=.lf (.oel 1 (1 + (x38).toNat * 1))) (by exact At_idxO (d:=85) (z:=x38) (b:=1) (off:=1) (sz:=1) (n:=4) (by kernel_rfl) g41) (by kernel_rfl) trivial ?_
        obtain ⟨x42,e_x42,h⟩ := lt_some h
        refine TI_at (i:=3) (d:=86) (x:=vi x42) (by rw [e_x42]; exact At_ldO1 (d:=86) (b:=1) (off:=1 + (x38).toNat * 1) (base:=1) (q:=0 + (x38).toNat * 1) (n:=4) (k:=.i64) (L:=u0_1) (by subst e_x42; kernel_rfl) (by subst e_x42; kernel_rfl) (by omega) (by omega)) (by kernel_rfl) trivial ?_
        obtain ⟨v43,c_v43,h⟩ := cl_some h
        refine TI_at (i:=4) (d:=87) (x:=vb v43) (At_call (d:=87) (f:=50) (args:=[rval (vi x42),rval (vi (0 : Int)),rval (vi (1048576 : Int))]) (x:=vb v43) (by kernel_rfl) (w50 k  c_v43)) (by kernel_rfl) trivial ?_
        refine TI_segK (i:=5) (j:=6) (s':={ σ := [(1,.lf (.own 1 0)),(7,vi x38),(88,vb (!v43))],H := [(1,[.one (.v (.slice Au0_0 (u0_0.length) cu0_0)),.arr .i64 4 u0_1])],V := [],M := M,ds := [] }) [1,7,88] [1] [] (by kernel_rfl) (by kernel_rfl) ?_
        refine TI_end (by kernel_rfl) ?_
        refine thenQ_n ?_
        cases v43 with
        | true =>
         replace h := sp_t h
         refine T_condF (x:=(.tmp 88)) (c1:=(sub [1,1,1,1,1,1,0,1,0,0,1,0,0,1,0] Bd21)) (c2:=(sub [1,1,1,1,1,1,0,1,0,0,1,0,0,1,1] Bd21)) (by kernel_rfl) (by kernel_rfl) ?_
         refine T_keepS [(1,.lf (.own 1 0)),(7,vi x38)] (by kernel_rfl) ?_
         refine T_skip (by kernel_rfl) ?_
         refine blockQ_n ?_
         refine thenQ_n ?_
         refine T_region (id:=21) (by kernel_rfl) ?_
         obtain ⟨x44,e_x44,h⟩ := lt_some h
         refine TI_segS (i:=0) (j:=3) [(1,.lf (.own 1 0)),(7,vi x44)] (by subst e_x44;kernel_rfl) (by kernel_rfl) ?_
         refine TI_end (by kernel_rfl) ?_
         refine thenQ_n ?_
         exact ⟨n39,Nat.lt_succ_self _,x44,keep_sub (ts:=[1,7]) (hs:=[1]) (vs:=[]) (by kernel_rfl),h⟩
        | false =>
         replace h := sp_f h
         refine T_condT (x:=(.tmp 88)) (c1:=(sub [1,1,1,1,1,1,0,1,0,0,1,0,0,1,0] Bd21)) (c2:=(sub [1,1,1,1,1,1,0,1,0,0,1,0,0,1,1] Bd21)) (by kernel_rfl) (by kernel_rfl) ?_
         refine T_keep (s':={ σ := [],H := [],V := [],M := M,ds := [] }) [] [] [] (by kernel_rfl) ?_
         refine T_seq (c1:=(sub [1,1,1,1,1,1,0,1,0,0,1,0,0,1,0,0] Bd21)) (c2:=(sub [1,1,1,1,1,1,0,1,0,0,1,0,0,1,0,1] Bd21)) (by kernel_rfl) ?_
         refine T_region (id:=23) (by kernel_rfl) ?_
         refine TI_segS (i:=0) (j:=1) [(2,vi (2 : Int))] (by kernel_rfl) (by kernel_rfl) ?_
         refine TI_end (by kernel_rfl) ?_
         refine thenQ_n ?_
         refine T_ret (by kernel_rfl) ?_
         refine blockQ_r ?_
         refine thenQ_r ?_
         refine thenQ_r ?_
         refine blockQ_r ?_
         refine thenQ_r ?_
         refine thenQ_r ?_
         have h := Option.some.inj h
         subst h
         refine fin_ret (vi (2 : Int)) (by kernel_rfl) (by kernel_rfl) rfl ?_
         rfl
       | false =>
        replace h := sp_f h
        refine T_condF (x:=(.tmp 80)) (c1:=(sub [1,1,1,1,1,1,0,1,0,0,0,1,0] Bd21)) (c2:=(sub [1,1,1,1,1,1,0,1,0,0,0,1,1] Bd21)) (by kernel_rfl) (by kernel_rfl) ?_
        refine T_keepS [(1,.lf (.own 1 0))] (by kernel_rfl) ?_
        refine T_exit (id:=4) (by kernel_rfl) ?_
        refine thenQ_x ?_
        refine thenQ_x ?_
        refine blockQ_x ?_
        refine thenQ_n ?_
        exact ⟨keep_sub (ts:=[1]) (hs:=[1]) (vs:=[]) (by kernel_rfl),h⟩
     ·rintro s' ⟨hsub,h⟩
      subst e_j37
      refine thenQ_n ?_
      refine T_sub hsub ?_
      refine T_seq (c1:=(sub [1,1,1,1,1,1,1,0] Bd21)) (c2:=(sub [1,1,1,1,1,1,1,1] Bd21)) (by kernel_rfl) ?_
      refine T_seq (c1:=(sub [1,1,1,1,1,1,1,0,0] Bd21)) (c2:=(sub [1,1,1,1,1,1,1,0,1] Bd21)) (by kernel_rfl) ?_
      refine T_region (id:=24) (by kernel_rfl) ?_
      refine TI_segK (i:=0) (j:=1) (s':={ σ := [(1,.lf (.own 1 0)),(8,vi (0 : Int))],H := [(1,[.one (.v (.slice Au0_0 (u0_0.length) cu0_0)),.arr .i64 4 u0_1])],V := [],M := M,ds := [] }) [1,8] [1] [] (by kernel_rfl) (by kernel_rfl) ?_
      refine TI_end (by kernel_rfl) ?_
      refine thenQ_n ?_
      obtain ⟨j45,e_j45,h⟩ := jn_some h
      refine T_bcut (id:=6) (c1:=(sub [1,1,1,1,1,1,1,0,1,0] Bd21)) (fun s' => Sub { σ := [],H := [],V := [],M := M,ds := [] } s' ∧ j45 = some r) (by kernel_rfl) ?_ ?_
      ·refine T_loop (c1:=(sub [1,1,1,1,1,1,1,0,1,0,0] Bd21)) (by kernel_rfl) (fun n47 s' => ∃ (x46 : Int),Sub { σ := [(1,.lf (.own 1 0)),(8,vi x46)],H := [(1,[.one (.v (.slice Au0_0 (u0_0.length) cu0_0)),.arr .i64 4 u0_1])],V := [],M := M,ds := [] } s' ∧ p21_l4 k u0_0 u0_1 j45 n47 x46 = some r) (k:=k) ⟨(0 : Int),keep_sub (ts:=[1,8]) (hs:=[1]) (vs:=[]) (by kernel_rfl),h⟩ ?_
       rintro n47 s' ⟨x46,hsub,h⟩
       cases n47 with
       | zero => rw [p21_l4] at h;cases h
       | succ n47 =>
        rw [p21_l4] at h
        refine T_sub hsub ?_
        refine T_seq (c1:=(sub [1,1,1,1,1,1,1,0,1,0,0,0] Bd21)) (c2:=(sub [1,1,1,1,1,1,1,0,1,0,0,1] Bd21)) (by kernel_rfl) ?_
        refine T_seq (c1:=(sub [1,1,1,1,1,1,1,0,1,0,0,0,0] Bd21)) (c2:=(sub [1,1,1,1,1,1,1,0,1,0,0,0,1] Bd21)) (by kernel_rfl) ?_
        refine T_region (id:=25) (by kernel_rfl) ?_
        refine TI_segK (i:=0) (j:=2) (s':={ σ := [(1,.lf (.own 1 0)),(8,vi x46),(89,vi x46),(90,.agg [.one (.v (.slice Au0_0 (u0_0.length) cu0_0)),.arr .i64 4 u0_1])],H := [(1,[.one (.v (.slice Au0_0 (u0_0.length) cu0_0)),.arr .i64 4 u0_1])],V := [],M := M,ds := [] }) [1,8,89,90] [1] [] (by kernel_rfl) (by kernel_rfl) ?_
        obtain ⟨v48,c_v48,h⟩ := cl_some h
        refine TI_at (i:=2) (d:=91) (x:=vi v48) (At_call (d:=91) (f:=53) (args:=[rval (.agg [.one (.v (.slice Au0_0 (u0_0.length) cu0_0)),.arr .i64 4 u0_1])]) (x:=vi v48) (by kernel_rfl) (w53 k hu0_0 hu0_1 c_v48)) (by kernel_rfl) trivial ?_
        obtain ⟨b49,e_b49,h⟩ := lt_some h
        refine TI_segK (i:=3) (j:=4) (s':={ σ := [(1,.lf (.own 1 0)),(8,vi x46),(92,vb b49)],H := [(1,[.one (.v (.slice Au0_0 (u0_0.length) cu0_0)),.arr .i64 4 u0_1])],V := [],M := M,ds := [] }) [1,8,92] [1] [] (by subst e_b49;kernel_rfl) (by kernel_rfl) ?_
        refine TI_end (by kernel_rfl) ?_
        refine thenQ_n ?_
        cases b49 with
        | true =>
         replace h := sp_t h
         refine T_condT (x:=(.tmp 92)) (c1:=(sub [1,1,1,1,1,1,1,0,1,0,0,0,1,0] Bd21)) (c2:=(sub [1,1,1,1,1,1,1,0,1,0,0,0,1,1] Bd21)) (by kernel_rfl) (by kernel_rfl) ?_
         refine T_keepS [(1,.lf (.own 1 0)),(8,vi x46)] (by kernel_rfl) ?_
         refine T_skip (by kernel_rfl) ?_
         refine thenQ_n ?_
         refine T_seq (c1:=(sub [1,1,1,1,1,1,1,0,1,0,0,1,0] Bd21)) (c2:=(sub [1,1,1,1,1,1,1,0,1,0,0,1,1] Bd21)) (by kernel_rfl) ?_
         refine T_block (id:=7) (c1:=(sub [1,1,1,1,1,1,1,0,1,0,0,1,0,0] Bd21)) (by kernel_rfl) ?_
         refine T_seq (c1:=(sub [1,1,1,1,1,1,1,0,1,0,0,1,0,0,0] Bd21)) (c2:=(sub [1,1,1,1,1,1,1,0,1,0,0,1,0,0,1] Bd21)) (by kernel_rfl) ?_
         refine T_region (id:=27) (by kernel_rfl) ?_
         refine TI_segS (i:=0) (j:=2) [(1,.lf (.own 1 0)),(8,vi x46),(95,.agg [.one (.v (.slice Au0_0 (u0_0.length) cu0_0)),.arr .i64 4 u0_1]),(96,vi x46)] (by kernel_rfl) (by kernel_rfl) ?_
         obtain ⟨v50,c_v50,h⟩ := cl_some h
         obtain ⟨g51,h⟩ := gd_some h
         refine TI_at (i:=2) (d:=97) (x:=.agg [.arr .i64 2 v50]) (At_call (d:=97) (f:=16) (args:=[rval (.agg [.one (.v (.slice Au0_0 (u0_0.length) cu0_0)),.arr .i64 4 u0_1]),rval (vi x46)]) (x:=.agg [.arr .i64 2 v50]) (by kernel_rfl) (w16 k hu0_0 hu0_1 c_v50)) (by kernel_rfl) ⟨g51,trivial⟩ ?_
         refine TI_segK (i:=3) (j:=5) (s':={ σ := [(1,.lf (.own 1 0)),(8,vi x46),(9,.lf (.own 9 0))],H := [(1,[.one (.v (.slice Au0_0 (u0_0.length) cu0_0)),.arr .i64 4 u0_1]),(9,[.arr .i64 2 v50])],V := [],M := M,ds := [] }) [1,8,9] [1,9] [] (by kernel_rfl) (by kernel_rfl) ?_
         refine TI_end (by kernel_rfl) ?_
         refine thenQ_n ?_
         refine T_seq (c1:=(sub [1,1,1,1,1,1,1,0,1,0,0,1,0,0,1,0] Bd21)) (c2:=(sub [1,1,1,1,1,1,1,0,1,0,0,1,0,0,1,1] Bd21)) (by kernel_rfl) ?_
         refine T_seq (c1:=(sub [1,1,1,1,1,1,1,0,1,0,0,1,0,0,1,0,0] Bd21)) (c2:=(sub [1,1,1,1,1,1,1,0,1,0,0,1,0,0,1,0,1] Bd21)) (by kernel_rfl) ?_
         refine T_region (id:=28) (by kernel_rfl) ?_
         obtain ⟨x52,e_x52,h⟩ := lt_some h
         obtain ⟨x53,e_x53,h⟩ := lt_some h
         obtain ⟨b54,e_b54,h⟩ := lt_some h
         refine TI_segK (i:=0) (j:=5) (s':={ σ := [(1,.lf (.own 1 0)),(8,vi x46),(102,vb b54)],H := [(1,[.one (.v (.slice Au0_0 (u0_0.length) cu0_0)),.arr .i64 4 u0_1])],V := [],M := M,ds := [] }) [1,8,102] [1] [] (by subst_vars;kernel_rfl) (by kernel_rfl) ?_
         refine TI_end (by kernel_rfl) ?_
         refine thenQ_n ?_
         cases b54 with
         | true =>
          replace h := sp_t h
          refine T_condT (x:=(.tmp 102)) (c1:=(sub [1,1,1,1,1,1,1,0,1,0,0,1,0,0,1,0,1,0] Bd21)) (c2:=(sub [1,1,1,1,1,1,1,0,1,0,0,1,0,0,1,0,1,1] Bd21)) (by kernel_rfl) (by kernel_rfl) ?_
          refine T_keep (s':={ σ := [],H := [],V := [],M := M,ds := [] }) [] [] [] (by kernel_rfl) ?_
          refine T_seq (c1:=(sub [1,1,1,1,1,1,1,0,1,0,0,1,0,0,1,0,1,0,0] Bd21)) (c2:=(sub [1,1,1,1,1,1,1,0,1,0,0,1,0,0,1,0,1,0,1] Bd21)) (by kernel_rfl) ?_
          refine T_region (id:=29) (by kernel_rfl) ?_
          refine TI_segS (i:=0) (j:=1) [(2,vi (16 : Int))] (by kernel_rfl) (by kernel_rfl) ?_
          refine TI_end (by kernel_rfl) ?_
          refine thenQ_n ?_
          refine T_ret (by kernel_rfl) ?_
          refine thenQ_r ?_
          refine blockQ_r ?_
          refine thenQ_r ?_
          refine thenQ_r ?_
          refine blockQ_r ?_
          refine thenQ_r ?_
          refine thenQ_r ?_
          have h := Option.some.inj h
          subst h
          refine fin_ret (vi (16 : Int)) (by kernel_rfl) (by kernel_rfl) rfl ?_
          rfl
         | false =>
          replace h := sp_f h
          refine T_condF (x:=(.tmp 102)) (c1:=(sub [1,1,1,1,1,1,1,0,1,0,0,1,0,0,1,0,1,0] Bd21)) (c2:=(sub [1,1,1,1,1,1,1,0,1,0,0,1,0,0,1,0,1,1] Bd21)) (by kernel_rfl) (by kernel_rfl) ?_
          refine T_keepS [(1,.lf (.own 1 0)),(8,vi x46)] (by kernel_rfl) ?_
          refine T_skip (by kernel_rfl) ?_
          refine thenQ_n ?_
          refine T_seq (c1:=(sub [1,1,1,1,1,1,1,0,1,0,0,1,0,0,1,1,0] Bd21)) (c2:=(sub [1,1,1,1,1,1,1,0,1,0,0,1,0,0,1,1,1] Bd21)) (by kernel_rfl) ?_
          refine T_region (id:=30) (by kernel_rfl) ?_
          refine TI_segS (i:=0) (j:=1) [(1,.lf (.own 1 0)),(8,vi x46),(10,vi (0 : Int))] (by kernel_rfl) (by kernel_rfl) ?_
          refine TI_end (by kernel_rfl) ?_
          refine thenQ_n ?_
          obtain ⟨j55,e_j55,h⟩ := jn_some h
          refine T_bcut (id:=8) (c1:=(sub [1,1,1,1,1,1,1,0,1,0,0,1,0,0,1,1,1,0] Bd21)) (fun s' => Sub { σ := [(1,.lf (.own 1 0)),(8,vi x46)],H := [(1,[.one (.v (.slice Au0_0 (u0_0.length) cu0_0)),.arr .i64 4 u0_1])],V := [],M := M,ds := [] } s' ∧ j55 = some r) (by kernel_rfl) ?_ ?_
          ·refine T_loop (c1:=(sub [1,1,1,1,1,1,1,0,1,0,0,1,0,0,1,1,1,0,0] Bd21)) (by kernel_rfl) (fun n57 s' => ∃ (x56 : Int),Sub { σ := [(1,.lf (.own 1 0)),(8,vi x46),(10,vi x56)],H := [(1,[.one (.v (.slice Au0_0 (u0_0.length) cu0_0)),.arr .i64 4 u0_1])],V := [],M := M,ds := [] } s' ∧ p21_l5 k u0_0 u0_1 x46 j55 n57 x56 = some r) (k:=k) ⟨(0 : Int),keep_sub (ts:=[1,8,10]) (hs:=[1]) (vs:=[]) (by kernel_rfl),h⟩ ?_
           rintro n57 s' ⟨x56,hsub,h⟩
           cases n57 with
           | zero => rw [p21_l5] at h;cases h
           | succ n57 =>
            rw [p21_l5] at h
            refine T_sub hsub ?_
            refine T_seq (c1:=(sub [1,1,1,1,1,1,1,0,1,0,0,1,0,0,1,1,1,0,0,0] Bd21)) (c2:=(sub [1,1,1,1,1,1,1,0,1,0,0,1,0,0,1,1,1,0,0,1] Bd21)) (by kernel_rfl) ?_
            refine T_seq (c1:=(sub [1,1,1,1,1,1,1,0,1,0,0,1,0,0,1,1,1,0,0,0,0] Bd21)) (c2:=(sub [1,1,1,1,1,1,1,0,1,0,0,1,0,0,1,1,1,0,0,0,1] Bd21)) (by kernel_rfl) ?_
            refine T_region (id:=31) (by kernel_rfl) ?_
            obtain ⟨b58,e_b58,h⟩ := lt_some h
            refine TI_segK (i:=0) (j:=2) (s':={ σ := [(1,.lf (.own 1 0)),(8,vi x46),(10,vi x56),(104,vb b58)],H := [(1,[.one (.v (.slice Au0_0 (u0_0.length) cu0_0)),.arr .i64 4 u0_1])],V := [],M := M,ds := [] }) [1,8,10,104] [1] [] (by subst e_b58;kernel_rfl) (by kernel_rfl) ?_
            refine TI_end (by kernel_rfl) ?_
            refine thenQ_n ?_
            cases b58 with
            | true =>
             replace h := sp_t h
             refine T_condT (x:=(.tmp 104)) (c1:=(sub [1,1,1,1,1,1,1,0,1,0,0,1,0,0,1,1,1,0,0,0,1,0] Bd21)) (c2:=(sub [1,1,1,1,1,1,1,0,1,0,0,1,0,0,1,1,1,0,0,0,1,1] Bd21)) (by kernel_rfl) (by kernel_rfl) ?_
             refine T_keepS [(1,.lf (.own 1 0)),(8,vi x46),(10,vi x56)] (by kernel_rfl) ?_
             refine T_skip (by kernel_rfl) ?_
             refine thenQ_n ?_
             refine T_seq (c1:=(sub [1,1,1,1,1,1,1,0,1,0,0,1,0,0,1,1,1,0,0,1,0] Bd21)) (c2:=(sub [1,1,1,1,1,1,1,0,1,0,0,1,0,0,1,1,1,0,0,1,1] Bd21)) (by kernel_rfl) ?_
             refine T_block (id:=9) (c1:=(sub [1,1,1,1,1,1,1,0,1,0,0,1,0,0,1,1,1,0,0,1,0,0] Bd21)) (by kernel_rfl) ?_
             refine T_seq (c1:=(sub [1,1,1,1,1,1,1,0,1,0,0,1,0,0,1,1,1,0,0,1,0,0,0] Bd21)) (c2:=(sub [1,1,1,1,1,1,1,0,1,0,0,1,0,0,1,1,1,0,0,1,0,0,1] Bd21)) (by kernel_rfl) ?_
             refine T_region (id:=33) (by kernel_rfl) ?_
             refine TI_segS (i:=0) (j:=3) [(1,.lf (.own 1 0)),(8,vi x46),(10,vi x56),(107,.agg [.one (.v (.slice Au0_0 (u0_0.length) cu0_0)),.arr .i64 4 u0_1]),(108,vi x46),(109,vi x56)] (by kernel_rfl) (by kernel_rfl) ?_
             obtain ⟨v59,c_v59,h⟩ := cl_some h
             obtain ⟨g60,h⟩ := gd_some h
             refine TI_at (i:=3) (d:=110) (x:=.agg [.arr .i64 2 v59]) (At_call (d:=110) (f:=17) (args:=[rval (.agg [.one (.v (.slice Au0_0 (u0_0.length) cu0_0)),.arr .i64 4 u0_1]),rval (vi x46),rval (vi x56)]) (x:=.agg [.arr .i64 2 v59]) (by kernel_rfl) (w17 k hu0_0 hu0_1 c_v59)) (by kernel_rfl) ⟨g60,trivial⟩ ?_
             refine TI_segK (i:=4) (j:=6) (s':={ σ := [(1,.lf (.own 1 0)),(8,vi x46),(10,vi x56),(11,.lf (.own 11 0))],H := [(1,[.one (.v (.slice Au0_0 (u0_0.length) cu0_0)),.arr .i64 4 u0_1]),(11,[.arr .i64 2 v59])],V := [],M := M,ds := [] }) [1,8,10,11] [1,11] [] (by kernel_rfl) (by kernel_rfl) ?_
             refine TI_end (by kernel_rfl) ?_
             refine thenQ_n ?_
             refine T_seq (c1:=(sub [1,1,1,1,1,1,1,0,1,0,0,1,0,0,1,1,1,0,0,1,0,0,1,0] Bd21)) (c2:=(sub [1,1,1,1,1,1,1,0,1,0,0,1,0,0,1,1,1,0,0,1,0,0,1,1] Bd21)) (by kernel_rfl) ?_
             refine T_region (id:=34) (by kernel_rfl) ?_
             obtain ⟨x61,e_x61,h⟩ := lt_some h
             obtain ⟨x62,e_x62,h⟩ := lt_some h
             obtain ⟨b63,e_b63,h⟩ := lt_some h
             refine TI_segK (i:=0) (j:=5) (s':={ σ := [(1,.lf (.own 1 0)),(8,vi x46),(10,vi x56),(115,vb b63)],H := [(1,[.one (.v (.slice Au0_0 (u0_0.length) cu0_0)),.arr .i64 4 u0_1])],V := [],M := M,ds := [] }) [1,8,10,115] [1] [] (by subst_vars;kernel_rfl) (by kernel_rfl) ?_
             refine TI_end (by kernel_rfl) ?_
             refine thenQ_n ?_
             cases b63 with
             | true =>
              replace h := sp_t h
              refine T_condT (x:=(.tmp 115)) (c1:=(sub [1,1,1,1,1,1,1,0,1,0,0,1,0,0,1,1,1,0,0,1,0,0,1,1,0] Bd21)) (c2:=(sub [1,1,1,1,1,1,1,0,1,0,0,1,0,0,1,1,1,0,0,1,0,0,1,1,1] Bd21)) (by kernel_rfl) (by kernel_rfl) ?_
              refine T_keep (s':={ σ := [],H := [],V := [],M := M,ds := [] }) [] [] [] (by kernel_rfl) ?_
              refine T_seq (c1:=(sub [1,1,1,1,1,1,1,0,1,0,0,1,0,0,1,1,1,0,0,1,0,0,1,1,0,0] Bd21)) (c2:=(sub [1,1,1,1,1,1,1,0,1,0,0,1,0,0,1,1,1,0,0,1,0,0,1,1,0,1] Bd21)) (by kernel_rfl) ?_
              refine T_region (id:=35) (by kernel_rfl) ?_
              refine TI_segS (i:=0) (j:=1) [(2,vi (16 : Int))] (by kernel_rfl) (by kernel_rfl) ?_
              refine TI_end (by kernel_rfl) ?_
              refine thenQ_n ?_
              refine T_ret (by kernel_rfl) ?_
              refine blockQ_r ?_
              refine thenQ_r ?_
              refine thenQ_r ?_
              refine blockQ_r ?_
              refine thenQ_r ?_
              refine blockQ_r ?_
              refine thenQ_r ?_
              refine thenQ_r ?_
              refine blockQ_r ?_
              refine thenQ_r ?_
              refine thenQ_r ?_
              have h := Option.some.inj h
              subst h
              refine fin_ret (vi (16 : Int)) (by kernel_rfl) (by kernel_rfl) rfl ?_
              rfl
             | false =>
              replace h := sp_f h
              refine T_condF (x:=(.tmp 115)) (c1:=(sub [1,1,1,1,1,1,1,0,1,0,0,1,0,0,1,1,1,0,0,1,0,0,1,1,0] Bd21)) (c2:=(sub [1,1,1,1,1,1,1,0,1,0,0,1,0,0,1,1,1,0,0,1,0,0,1,1,1] Bd21)) (by kernel_rfl) (by kernel_rfl) ?_
              refine T_keepS [(1,.lf (.own 1 0)),(8,vi x46),(10,vi x56)] (by kernel_rfl) ?_
              refine T_skip (by kernel_rfl) ?_
              refine blockQ_n ?_
              refine thenQ_n ?_
              refine T_region (id:=32) (by kernel_rfl) ?_
              obtain ⟨x64,e_x64,h⟩ := lt_some h
              refine TI_segS (i:=0) (j:=3) [(1,.lf (.own 1 0)),(8,vi x46),(10,vi x64)] (by subst e_x64;kernel_rfl) (by kernel_rfl) ?_
              refine TI_end (by kernel_rfl) ?_
              refine thenQ_n ?_
              exact ⟨n57,Nat.lt_succ_self _,x64,keep_sub (ts:=[1,8,10]) (hs:=[1]) (vs:=[]) (by kernel_rfl),h⟩
            | false =>
             replace h := sp_f h
             refine T_condF (x:=(.tmp 104)) (c1:=(sub [1,1,1,1,1,1,1,0,1,0,0,1,0,0,1,1,1,0,0,0,1,0] Bd21)) (c2:=(sub [1,1,1,1,1,1,1,0,1,0,0,1,0,0,1,1,1,0,0,0,1,1] Bd21)) (by kernel_rfl) (by kernel_rfl) ?_
             refine T_keepS [(1,.lf (.own 1 0)),(8,vi x46)] (by kernel_rfl) ?_
             refine T_exit (id:=8) (by kernel_rfl) ?_
             refine thenQ_x ?_
             refine thenQ_x ?_
             refine blockQ_x ?_
             refine thenQ_n ?_
             exact ⟨keep_sub (ts:=[1,8]) (hs:=[1]) (vs:=[]) (by kernel_rfl),h⟩
          ·rintro s' ⟨hsub,h⟩
           subst e_j55
           refine blockQ_n ?_
           refine thenQ_n ?_
           refine T_sub hsub ?_
           refine T_region (id:=26) (by kernel_rfl) ?_
           obtain ⟨x65,e_x65,h⟩ := lt_some h
           refine TI_segK (i:=0) (j:=3) (s':={ σ := [(1,.lf (.own 1 0)),(8,vi x65)],H := [(1,[.one (.v (.slice Au0_0 (u0_0.length) cu0_0)),.arr .i64 4 u0_1])],V := [],M := M,ds := [] }) [1,8] [1] [] (by subst e_x65;kernel_rfl) (by kernel_rfl) ?_
           refine TI_end (by kernel_rfl) ?_
           refine thenQ_n ?_
           exact ⟨n47,Nat.lt_succ_self _,x65,keep_sub (ts:=[1,8]) (hs:=[1]) (vs:=[]) (by kernel_rfl),h⟩
        | false =>
         replace h := sp_f h
         refine T_condF (x:=(.tmp 92)) (c1:=(sub [1,1,1,1,1,1,1,0,1,0,0,0,1,0] Bd21)) (c2:=(sub [1,1,1,1,1,1,1,0,1,0,0,0,1,1] Bd21)) (by kernel_rfl) (by kernel_rfl) ?_
         refine T_keep (s':={ σ := [],H := [],V := [],M := M,ds := [] }) [] [] [] (by kernel_rfl) ?_
         refine T_exit (id:=6) (by kernel_rfl) ?_
         refine thenQ_x ?_
         refine thenQ_x ?_
         refine blockQ_x ?_
         refine thenQ_n ?_
         exact ⟨keep_sub (ts:=[]) (hs:=[]) (vs:=[]) (by kernel_rfl),h⟩
      ·rintro s' ⟨hsub,h⟩
       subst e_j45
       refine thenQ_n ?_
       refine T_sub hsub ?_
       refine T_seq (c1:=(sub [1,1,1,1,1,1,1,1,0] Bd21)) (c2:=(sub [1,1,1,1,1,1,1,1,1] Bd21)) (by kernel_rfl) ?_
       refine T_region (id:=36) (by kernel_rfl) ?_
       refine TI_segK (i:=0) (j:=1) (s':={ σ := [(2,vi (0 : Int))],H := [],V := [],M := M,ds := [] }) [2] [] [] (by kernel_rfl) (by kernel_rfl) ?_
       refine TI_end (by kernel_rfl) ?_
       refine thenQ_n ?_
       refine T_ret (by kernel_rfl) ?_
       have h := Option.some.inj h
       subst h
       refine fin_ret (vi (0 : Int)) (by kernel_rfl) (by kernel_rfl) rfl ?_
       rfl
def p30 (k : Nat) (u0_0 : List (List Int)) (u0_1 : List Int) : Option (Int × Int) :=
 cl (p21 k u0_0 u0_1) fun v1 => lt' (v1 != (0 : Int)) fun b2 => sp b2 (some ((0 : Int),v1)) (cl (p53 k u0_0 u0_1) fun v3 => lt' (wr .i64 (v3 + (1 : Int))) fun x4 => some (x4,(0 : Int)))
theorem hf30 : Try.prog.funcs[30]? = some Try.f30 := by kernel_rfl
theorem w30 (k : Nat) {M : Mem} {Au0_0 : Option Addr} {cu0_0 : Nat} {u0_0 : List (List Int)} {u0_1 : List Int} (hu0_0 : SlR M Au0_0 cu0_0 .i64 11 u0_0) (hu0_1 : u0_1.length = 4) {r} (h : p30 k u0_0 u0_1 = some r) :
  Fn Try.prog 30 [rval (.agg [.one (.v (.slice Au0_0 (u0_0.length) cu0_0)),.arr .i64 4 u0_1])] M (fun x _ => x = .tup [(some (.v (.int .i64 r.1)),[]),(some (.v (.int .i64 r.2)),[])]) := by
 unfold p30 at h
 refine Fn_of (P:=Try.prog) (fn:=Try.f30) (c:=bodyOf Try.f30) [.agg [.one (.v (.slice Au0_0 (u0_0.length) cu0_0)),.arr .i64 4 u0_1]] hf30 (by kernel_rfl) (Nat.le_of_ble_eq_true (by kernel_rfl)) (args_ok (by kernel_rfl) ⟨⟨rfl,⟨hu0_1,trivial⟩⟩,trivial⟩) fun w => ?_
 change T _ _ _ (endQ _ _ _)
 refine T_seq (c1:=(sub [0] Bd30)) (c2:=(sub [1] Bd30)) (by kernel_rfl) ?_
 refine T_region (id:=0) (by kernel_rfl) ?_
 refine TI_segK (i:=0) (j:=3) (s':={ σ := [(1,.lf (.own 1 0))],H := [(1,[.one (.v (.slice Au0_0 (u0_0.length) cu0_0)),.arr .i64 4 u0_1])],V := [],M := M,ds := [] }) [1] [1] [] (by kernel_rfl) (by kernel_rfl) ?_
 refine TI_end (by kernel_rfl) ?_
 refine thenQ_n ?_
 refine T_seq (c1:=(sub [1,0] Bd30)) (c2:=(sub [1,1] Bd30)) (by kernel_rfl) ?_
 refine T_region (id:=1) (by kernel_rfl) ?_
 refine TI_segS (i:=0) (j:=1) [(1,.lf (.own 1 0)),(5,.agg [.one (.v (.slice Au0_0 (u0_0.length) cu0_0)),.arr .i64 4 u0_1])] (by kernel_rfl) (by kernel_rfl) ?_
 obtain ⟨v1,c_v1,h⟩ := cl_some h
 refine TI_at (i:=1) (d:=6) (x:=vi v1) (At_call (d:=6) (f:=21) (args:=[rval (.agg [.one (.v (.slice Au0_0 (u0_0.length) cu0_0)),.arr .i64 4 u0_1])]) (x:=vi v1) (by kernel_rfl) (w21 k hu0_0 hu0_1 c_v1)) (by kernel_rfl) trivial ?_
 refine TI_segK (i:=2) (j:=3) (s':={ σ := [(1,.lf (.own 1 0)),(4,vi v1)],H := [(1,[.one (.v (.slice Au0_0 (u0_0.length) cu0_0)),.arr .i64 4 u0_1])],V := [],M := M,ds := [] }) [1,4] [1] [] (by kernel_rfl) (by kernel_rfl) ?_
 refine TI_end (by kernel_rfl) ?_
 refine thenQ_n ?_
 refine T_seq (c1:=(sub [1,1,0] Bd30)) (c2:=(sub [1,1,1] Bd30)) (by kernel_rfl) ?_
 refine T_seq (c1:=(sub [1,1,0,0] Bd30)) (c2:=(sub [1,1,0,1] Bd30)) (by kernel_rfl) ?_
 refine T_region (id:=2) (by kernel_rfl) ?_
 obtain ⟨b2,e_b2,h⟩ := lt_some h
 refine TI_segS (i:=0) (j:=2) [(1,.lf (.own 1 0)),(4,vi v1),(8,vb b2)] (by subst e_b2;kernel_rfl) (by kernel_rfl) ?_
 refine TI_end (by kernel_rfl) ?_
 refine thenQ_n ?_
 cases b2 with
 | true =>
  replace h := sp_t h
  refine T_condT (x:=(.tmp 8)) (c1:=(sub [1,1,0,1,0] Bd30)) (c2:=(sub [1,1,0,1,1] Bd30)) (by kernel_rfl) (by kernel_rfl) ?_
  refine T_keep (s':={ σ := [(4,vi v1)],H := [],V := [],M := M,ds := [] }) [4] [] [] (by kernel_rfl) ?_
  refine T_seq (c1:=(sub [1,1,0,1,0,0] Bd30)) (c2:=(sub [1,1,0,1,0,1] Bd30)) (by kernel_rfl) ?_
  refine T_region (id:=3) (by kernel_rfl) ?_
  refine TI_segS (i:=0) (j:=3) [(2,vi (0 : Int)),(3,vi v1)] (by kernel_rfl) (by kernel_rfl) ?_
  refine TI_end (by kernel_rfl) ?_
  refine thenQ_n ?_
  refine T_ret (by kernel_rfl) ?_
  refine thenQ_r ?_
  have h := Option.some.inj h
  subst h
  refine fin_ret (.tup [(some (.v (.int .i64 (0 : Int))),[]),(some (.v (.int .i64 v1)),[])]) (by kernel_rfl) (by kernel_rfl) rfl ?_
  rfl
 | false =>
  replace h := sp_f h
  refine T_condF (x:=(.tmp 8)) (c1:=(sub [1,1,0,1,0] Bd30)) (c2:=(sub [1,1,0,1,1] Bd30)) (by kernel_rfl) (by kernel_rfl) ?_
  refine T_keepS [(1,.lf (.own 1 0))] (by kernel_rfl) ?_
  refine T_skip (by kernel_rfl) ?_
  refine thenQ_n ?_
  refine T_seq (c1:=(sub [1,1,1,0] Bd30)) (c2:=(sub [1,1,1,1] Bd30)) (by kernel_rfl) ?_
  refine T_region (id:=4) (by kernel_rfl) ?_
  refine TI_segK (i:=0) (j:=1) (s':={ σ := [(10,.agg [.one (.v (.slice Au0_0 (u0_0.length) cu0_0)),.arr .i64 4 u0_1])],H := [],V := [],M := M,ds := [] }) [10] [] [] (by kernel_rfl) (by kernel_rfl) ?_
  obtain ⟨v3,c_v3,h⟩ := cl_some h
  refine TI_at (i:=1) (d:=11) (x:=vi v3) (At_call (d:=11) (f:=53) (args:=[rval (.agg [.one (.v (.slice Au0_0 (u0_0.length) cu0_0)),.arr .i64 4 u0_1])]) (x:=vi v3) (by kernel_rfl) (w53 k hu0_0 hu0_1 c_v3)) (by kernel_rfl) trivial ?_
  obtain ⟨x4,e_x4,h⟩ := lt_some h
  refine TI_segK (i:=2) (j:=5) (s':={ σ := [(2,vi x4),(3,vi (0 : Int))],H := [],V := [],M := M,ds := [] }) [2,3] [] [] (by subst e_x4;kernel_rfl) (by kernel_rfl) ?_
  refine TI_end (by kernel_rfl) ?_
  refine thenQ_n ?_
  refine T_ret (by kernel_rfl) ?_
  have h := Option.some.inj h
  subst h
  refine fin_ret (.tup [(some (.v (.int .i64 x4)),[]),(some (.v (.int .i64 (0 : Int))),[])]) (by kernel_rfl) (by kernel_rfl) rfl ?_
  rfl
def p34_l1 (k : Nat) (u0_0 : List (List Int)) (u0_1 : List Int) (u1 : Int) (j9 : List Int → Option (List Int × List Int × Int)) : Nat → Int → List Int → Option (List Int × List Int × Int)
 | 0,_,_ => none
 | n12 + 1,x10,L11 => lt' (decide (x10 < (4 : Int))) fun b13 => sp b13 (cl (p17 k u0_0 u0_1 u1 x10) fun v14 => gd ((v14).length = 2) <| gd ((0 : Int) ≤ x10 ∧ x10 < ((4 : Nat) : Int)) <| lt' (List.take (0 + (x10).toNat * 2) L11 ++ (v14 ++ []) ++ List.drop (0 + (x10).toNat * 2 + 2) L11) fun L17 => lt' (wr .i64 (x10 + (1 : Int))) fun x18 => p34_l1 k u0_0 u0_1 u1 j9 n12 x18 L17) (j9 L11)
def p34 (k : Nat) (u0_0 : List (List Int)) (u0_1 : List Int) (u1 : Int) : Option (List Int × List Int × Int) :=
 cl (p21 k u0_0 u0_1) fun v1 => lt' (v1 != (0 : Int)) fun b2 => sp b2 (some ([(0 : Int),(0 : Int)],[(0 : Int),(0 : Int),(0 : Int),(0 : Int),(0 : Int),(0 : Int),(0 : Int),(0 : Int)],v1)) (jn (fun (b3 : Bool) => sp b3 (some ([(0 : Int),(0 : Int)],[(0 : Int),(0 : Int),(0 : Int),(0 : Int),(0 : Int),(0 : Int),(0 : Int),(0 : Int)],(3 : Int))) (jn (fun (L8 : List Int) => cl (p16 k u0_0 u0_1 u1) fun v19 => gd ((v19).length = 2) <| some (v19,L8,(0 : Int))) fun j9 => p34_l1 k u0_0 u0_1 u1 j9 k (0 : Int) ([(0 : Int),(0 : Int),(0 : Int),(0 : Int),(0 : Int),(0 : Int),(0 : Int),(0 : Int)]))) fun j4 => lt' (decide (u1 < (0 : Int))) fun b5 => sp b5 (j4 true) (cl (p53 k u0_0 u0_1) fun v6 => lt' (decide (u1 > v6)) fun b7 => j4 b7))
theorem hf34 : Try.prog.funcs[34]? = some Try.f34 := by kernel_rfl
theorem w34 (k : Nat) {M : Mem} {Au0_0 : Option Addr} {cu0_0 : Nat} {u0_0 : List (List Int)} {u0_1 : List Int} {u1 : Int} (hu0_0 : SlR M Au0_0 cu0_0 .i64 11 u0_0) (hu0_1 : u0_1.length = 4) {r} (h : p34 k u0_0 u0_1 u1 = some r) :
  Fn Try.prog 34 [rval (.agg [.one (.v (.slice Au0_0 (u0_0.length) cu0_0)),.arr .i64 4 u0_1]),rval (vi u1)] M (fun x _ => x = .tup [(none,[.arr .i64 2 r.1]),(none,[.arr .i64 8 r.2.1]),(some (.v (.int .i64 r.2.2)),[])]) := by
 unfold p34 at h
 refine Fn_of (P:=Try.prog) (fn:=Try.f34) (c:=bodyOf Try.f34) [.agg [.one (.v (.slice Au0_0 (u0_0.length) cu0_0)),.arr .i64 4 u0_1],vi u1] hf34 (by kernel_rfl) (Nat.le_of_ble_eq_true (by kernel_rfl)) (args_ok (by kernel_rfl) ⟨⟨rfl,⟨hu0_1,trivial⟩⟩,⟨trivial,trivial⟩⟩) fun w => ?_
 change T _ _ _ (endQ _ _ _)
 refine T_seq (c1:=(sub [0] Bd34)) (c2:=(sub [1] Bd34)) (by kernel_rfl) ?_
 refine T_region (id:=0) (by kernel_rfl) ?_
 refine TI_segK (i:=0) (j:=4) (s':={ σ := [(1,vi u1),(2,.lf (.own 2 0)),(4,.lf (.own 4 0)),(5,.lf (.own 5 0))],H := [(2,[.one (.v (.slice Au0_0 (u0_0.length) cu0_0)),.arr .i64 4 u0_1]),(4,[.arr .i64 2 [(0 : Int),(0 : Int)]]),(5,[.arr .i64 8 [(0 : Int),(0 : Int),(0 : Int),(0 : Int),(0 : Int),(0 : Int),(0 : Int),(0 : Int)]])],V := [],M := M,ds := [] }) [1,2,4,5] [2,4,5] [] (by kernel_rfl) (by kernel_rfl) ?_
 refine TI_end (by kernel_rfl) ?_
 refine thenQ_n ?_
 refine T_seq (c1:=(sub [1,0] Bd34)) (c2:=(sub [1,1] Bd34)) (by kernel_rfl) ?_
 refine T_region (id:=1) (by kernel_rfl) ?_
 refine TI_segS (i:=0) (j:=1) [(1,vi u1),(2,.lf (.own 2 0)),(4,.lf (.own 4 0)),(5,.lf (.own 5 0)),(10,.agg [.one (.v (.slice Au0_0 (u0_0.length) cu0_0)),.arr .i64 4 u0_1])] (by kernel_rfl) (by kernel_rfl) ?_
 obtain ⟨v1,c_v1,h⟩ := cl_some h
 refine TI_at (i:=1) (d:=11) (x:=vi v1) (At_call (d:=11) (f:=21) (args:=[rval (.agg [.one (.v (.slice Au0_0 (u0_0.length) cu0_0)),.arr .i64 4 u0_1])]) (x:=vi v1) (by kernel_rfl) (w21 k hu0_0 hu0_1 c_v1)) (by kernel_rfl) trivial ?_
 refine TI_segK (i:=2) (j:=3) (s':={ σ := [(1,vi u1),(2,.lf (.own 2 0)),(4,.lf (.own 4 0)),(5,.lf (.own 5 0)),(7,vi v1)],H := [(2,[.one (.v (.slice Au0_0 (u0_0.length) cu0_0)),.arr .i64 4 u0_1]),(4,[.arr .i64 2 [(0 : Int),(0 : Int)]]),(5,[.arr .i64 8 [(0 : Int),(0 : Int),(0 : Int),(0 : Int),(0 : Int),(0 : Int),(0 : Int),(0 : Int)]])],V := [],M := M,ds := [] }) [1,2,4,5,7] [2,4,5] [] (by kernel_rfl) (by kernel_rfl) ?_
 refine TI_end (by kernel_rfl) ?_
 refine thenQ_n ?_
 refine T_seq (c1:=(sub [1,1,0] Bd34)) (c2:=(sub [1,1,1] Bd34)) (by kernel_rfl) ?_
 refine T_seq (c1:=(sub [1,1,0,0] Bd34)) (c2:=(sub [1,1,0,1] Bd34)) (by kernel_rfl) ?_
 refine T_region (id:=2) (by kernel_rfl) ?_
 obtain ⟨b2,e_b2,h⟩ := lt_some h
 refine TI_segS (i:=0) (j:=2) [(1,vi u1),(2,.lf (.own 2 0)),(4,.lf (.own 4 0)),(5,.lf (.own 5 0)),(7,vi v1),(13,vb b2)] (by subst e_b2;kernel_rfl) (by kernel_rfl) ?_
 refine TI_end (by kernel_rfl) ?_
 refine thenQ_n ?_
 cases b2 with
 | true =>
  replace h := sp_t h
  refine T_condT (x:=(.tmp 13)) (c1:=(sub [1,1,0,1,0] Bd34)) (c2:=(sub [1,1,0,1,1] Bd34)) (by kernel_rfl) (by kernel_rfl) ?_
  refine T_keep (s':={ σ := [(4,.lf (.own 4 0)),(5,.lf (.own 5 0)),(7,vi v1)],H := [(4,[.arr .i64 2 [(0 : Int),(0 : Int)]]),(5,[.arr .i64 8 [(0 : Int),(0 : Int),(0 : Int),(0 : Int),(0 : Int),(0 : Int),(0 : Int),(0 : Int)]])],V := [],M := M,ds := [] }) [4,5,7] [4,5] [] (by kernel_rfl) ?_
  refine T_seq (c1:=(sub [1,1,0,1,0,0] Bd34)) (c2:=(sub [1,1,0,1,0,1] Bd34)) (by kernel_rfl) ?_
  refine T_region (id:=3) (by kernel_rfl) ?_
  refine TI_segS (i:=0) (j:=6) [(4,.lf (.own 4 0)),(5,.lf (.own 5 0)),(6,vi v1)] (by kernel_rfl) (by kernel_rfl) ?_
  refine TI_end (by kernel_rfl) ?_
  refine thenQ_n ?_
  refine T_ret (by kernel_rfl) ?_
  refine thenQ_r ?_
  have h := Option.some.inj h
  subst h
  refine fin_ret (.tup [(none,[.arr .i64 2 [(0 : Int),(0 : Int)]]),(none,[.arr .i64 8 [(0 : Int),(0 : Int),(0 : Int),(0 : Int),(0 : Int),(0 : Int),(0 : Int),(0 : Int)]]),(some (.v (.int .i64 v1)),[])]) (by kernel_rfl) (by kernel_rfl) rfl ?_
  rfl
 | false =>
  replace h := sp_f h
  refine T_condF (x:=(.tmp 13)) (c1:=(sub [1,1,0,1,0] Bd34)) (c2:=(sub [1,1,0,1,1] Bd34)) (by kernel_rfl) (by kernel_rfl) ?_
  refine T_keepS [(1,vi u1),(2,.lf (.own 2 0)),(4,.lf (.own 4 0)),(5,.lf (.own 5 0))] (by kernel_rfl) ?_
  refine T_skip (by kernel_rfl) ?_
  refine thenQ_n ?_
  refine T_seq (c1:=(sub [1,1,1,0] Bd34)) (c2:=(sub [1,1,1,1] Bd34)) (by kernel_rfl) ?_
  obtain ⟨j4,e_j4,h⟩ := jn_some h
  refine T_cut (c1:=(sub [1,1,1,0,0] Bd34)) (c2:=(sub [1,1,1,0,1] Bd34)) (fun s' => ∃ (b3 : Bool),Sub { σ := [(1,vi u1),(2,.lf (.own 2 0)),(4,.lf (.own 4 0)),(5,.lf (.own 5 0)),(24,vb b3)],H := [(2,[.one (.v (.slice Au0_0 (u0_0.length) cu0_0)),.arr .i64 4 u0_1]),(4,[.arr .i64 2 [(0 : Int),(0 : Int)]]),(5,[.arr .i64 8 [(0 : Int),(0 : Int),(0 : Int),(0 : Int),(0 : Int),(0 : Int),(0 : Int),(0 : Int)]])],V := [],M := M,ds := [] } s' ∧ j4 b3 = some r) (by kernel_rfl) ?_ ?_
  ·refine T_region (id:=4) (by kernel_rfl) ?_
   obtain ⟨b5,e_b5,h⟩ := lt_some h
   refine TI_segK (i:=0) (j:=3) (s':={ σ := [(1,vi u1),(2,.lf (.own 2 0)),(4,.lf (.own 4 0)),(5,.lf (.own 5 0)),(19,vb b5)],H := [(2,[.one (.v (.slice Au0_0 (u0_0.length) cu0_0)),.arr .i64 4 u0_1]),(4,[.arr .i64 2 [(0 : Int),(0 : Int)]]),(5,[.arr .i64 8 [(0 : Int),(0 : Int),(0 : Int),(0 : Int),(0 : Int),(0 : Int),(0 : Int),(0 : Int)]])],V := [],M := M,ds := [] }) [1,2,4,5,19] [2,4,5] [] (by subst e_b5;kernel_rfl) (by kernel_rfl) ?_
   cases b5 with
   | true =>
    replace h := sp_t h
    refine TI_segS (i:=3) (j:=8) [(1,vi u1),(2,.lf (.own 2 0)),(4,.lf (.own 4 0)),(5,.lf (.own 5 0)),(24,vb true)] (by kernel_rfl) (by kernel_rfl) ?_
    refine TI_end (by kernel_rfl) ?_
    refine thenQ_n ?_
    exact ⟨true,keep_sub (ts:=[1,2,4,5,24]) (hs:=[2,4,5]) (vs:=[]) (by kernel_rfl),h⟩
   | false =>
    replace h := sp_f h
    refine TI_segS (i:=3) (j:=5) [(1,vi u1),(2,.lf (.own 2 0)),(4,.lf (.own 4 0)),(5,.lf (.own 5 0)),(19,vb false),(20,vi u1),(21,.agg [.one (.v (.slice Au0_0 (u0_0.length) cu0_0)),.arr .i64 4 u0_1])] (by kernel_rfl) (by kernel_rfl) ?_
    obtain ⟨v6,c_v6,h⟩ := cl_some h
    refine TI_at (i:=5) (d:=22) (x:=vi v6) (At_call (d:=22) (f:=53) (args:=[rval (.agg [.one (.v (.slice Au0_0 (u0_0.length) cu0_0)),.arr .i64 4 u0_1])]) (x:=vi v6) (by kernel_rfl) (w53 k hu0_0 hu0_1 c_v6)) (by kernel_rfl) trivial ?_
    obtain ⟨b7,e_b7,h⟩ := lt_some h
    refine TI_segK (i:=6) (j:=8) (s':={ σ := [(1,vi u1),(2,.lf (.own 2 0)),(4,.lf (.own 4 0)),(5,.lf (.own 5 0)),(24,vb b7)],H := [(2,[.one (.v (.slice Au0_0 (u0_0.length) cu0_0)),.arr .i64 4 u0_1]),(4,[.arr .i64 2 [(0 : Int),(0 : Int)]]),(5,[.arr .i64 8 [(0 : Int),(0 : Int),(0 : Int),(0 : Int),(0 : Int),(0 : Int),(0 : Int),(0 : Int)]])],V := [],M := M,ds := [] }) [1,2,4,5,24] [2,4,5] [] (by subst e_b7;kernel_rfl) (by kernel_rfl) ?_
    refine TI_end (by kernel_rfl) ?_
    refine thenQ_n ?_
    exact ⟨b7,keep_sub (ts:=[1,2,4,5,24]) (hs:=[2,4,5]) (vs:=[]) (by kernel_rfl),h⟩
  ·rintro s' ⟨b3,hsub,h⟩
   subst e_j4
   refine T_sub hsub ?_
   cases b3 with
   | true =>
    replace h := sp_t h
    refine T_condT (x:=(.tmp 24)) (c1:=(sub [1,1,1,0,1,0] Bd34)) (c2:=(sub [1,1,1,0,1,1] Bd34)) (by kernel_rfl) (by kernel_rfl) ?_
    refine T_keep (s':={ σ := [(4,.lf (.own 4 0)),(5,.lf (.own 5 0))],H := [(4,[.arr .i64 2 [(0 : Int),(0 : Int)]]),(5,[.arr .i64 8 [(0 : Int),(0 : Int),(0 : Int),(0 : Int),(0 : Int),(0 : Int),(0 : Int),(0 : Int)]])],V := [],M := M,ds := [] }) [4,5] [4,5] [] (by kernel_rfl) ?_
    refine T_seq (c1:=(sub [1,1,1,0,1,0,0] Bd34)) (c2:=(sub [1,1,1,0,1,0,1] Bd34)) (by kernel_rfl) ?_
    refine T_region (id:=5) (by kernel_rfl) ?_
    refine TI_segS (i:=0) (j:=5) [(4,.lf (.own 4 0)),(5,.lf (.own 5 0)),(6,vi (3 : Int))] (by kernel_rfl) (by kernel_rfl) ?_
    refine TI_end (by kernel_rfl) ?_
    refine thenQ_n ?_
    refine T_ret (by kernel_rfl) ?_
    refine thenQ_r ?_
    have h := Option.some.inj h
    subst h
    refine fin_ret (.tup [(none,[.arr .i64 2 [(0 : Int),(0 : Int)]]),(none,[.arr .i64 8 [(0 : Int),(0 : Int),(0 : Int),(0 : Int),(0 : Int),(0 : Int),(0 : Int),(0 : Int)]]),(some (.v (.int .i64 (3 : Int))),[])]) (by kernel_rfl) (by kernel_rfl) rfl ?_
    rfl
   | false =>
    replace h := sp_f h
    refine T_condF (x:=(.tmp 24)) (c1:=(sub [1,1,1,0,1,0] Bd34)) (c2:=(sub [1,1,1,0,1,1] Bd34)) (by kernel_rfl) (by kernel_rfl) ?_
    refine T_keep (s':={ σ := [(1,vi u1),(2,.lf (.own 2 0)),(4,.lf (.own 4 0)),(5,.lf (.own 5 0))],H := [(2,[.one (.v (.slice Au0_0 (u0_0.length) cu0_0)),.arr .i64 4 u0_1]),(4,[.arr .i64 2 [(0 : Int),(0 : Int)]]),(5,[.arr .i64 8 [(0 : Int),(0 : Int),(0 : Int),(0 : Int),(0 : Int),(0 : Int),(0 : Int),(0 : Int)]])],V := [],M := M,ds := [] }) [1,2,4,5] [2,4,5] [] (by kernel_rfl) ?_
    refine T_skip (by kernel_rfl) ?_
    refine thenQ_n ?_
    refine T_seq (c1:=(sub [1,1,1,1,0] Bd34)) (c2:=(sub [1,1,1,1,1] Bd34)) (by kernel_rfl) ?_
    refine T_region (id:=6) (by kernel_rfl) ?_
    refine TI_segK (i:=0) (j:=1) (s':={ σ := [(1,vi u1),(2,.lf (.own 2 0)),(4,.lf (.own 4 0)),(5,.lf (.own 5 0)),(8,.lf (.own 8 0))],H := [(2,[.one (.v (.slice Au0_0 (u0_0.length) cu0_0)),.arr .i64 4 u0_1]),(4,[.arr .i64 2 [(0 : Int),(0 : Int)]]),(5,[.arr .i64 8 [(0 : Int),(0 : Int),(0 : Int),(0 : Int),(0 : Int),(0 : Int),(0 : Int),(0 : Int)]]),(8,[.arr .i64 8 [(0 : Int),(0 : Int),(0 : Int),(0 : Int),(0 : Int),(0 : Int),(0 : Int),(0 : Int)]])],V := [],M := M,ds := [] }) [1,2,4,5,8] [2,4,5,8] [] (by kernel_rfl) (by kernel_rfl) ?_
    refine TI_end (by kernel_rfl) ?_
    refine thenQ_n ?_
    refine T_seq (c1:=(sub [1,1,1,1,1,0] Bd34)) (c2:=(sub [1,1,1,1,1,1] Bd34)) (by kernel_rfl) ?_
    refine T_seq (c1:=(sub [1,1,1,1,1,0,0] Bd34)) (c2:=(sub [1,1,1,1,1,0,1] Bd34)) (by kernel_rfl) ?_
    refine T_region (id:=7) (by kernel_rfl) ?_
    refine TI_segS (i:=0) (j:=1) [(1,vi u1),(2,.lf (.own 2 0)),(4,.lf (.own 4 0)),(5,.lf (.own 5 0)),(8,.lf (.own 8 0)),(9,vi (0 : Int))] (by kernel_rfl) (by kernel_rfl) ?_
    refine TI_end (by kernel_rfl) ?_
    refine thenQ_n ?_
    obtain ⟨j9,e_j9,h⟩ := jn_some h
    refine T_bcut (id:=0) (c1:=(sub [1,1,1,1,1,0,1,0] Bd34)) (fun s' => ∃ (L8 : List Int),Sub { σ := [(1,vi u1),(2,.lf (.own 2 0)),(4,.lf (.own 4 0)),(5,.lf (.own 5 0)),(8,.lf (.own 8 0))],H := [(2,[.one (.v (.slice Au0_0 (u0_0.length) cu0_0)),.arr .i64 4 u0_1]),(4,[.arr .i64 2 [(0 : Int),(0 : Int)]]),(5,[.arr .i64 8 [(0 : Int),(0 : Int),(0 : Int),(0 : Int),(0 : Int),(0 : Int),(0 : Int),(0 : Int)]]),(8,[.arr .i64 8 L8])],V := [],M := M,ds := [] } s' ∧ (L8).length = 8 ∧ j9 L8 = some r) (by kernel_rfl) ?_ ?_
    ·refine T_loop (c1:=(sub [1,1,1,1,1,0,1,0,0] Bd34)) (by kernel_rfl) (fun n12 s' => ∃ (x10 : Int) (L11 : List Int),Sub { σ := [(1,vi u1),(2,.lf (.own 2 0)),(4,.lf (.own 4 0)),(5,.lf (.own 5 0)),(8,.lf (.own 8 0)),(9,vi x10)],H := [(2,[.one (.v (.slice Au0_0 (u0_0.length) cu0_0)),.arr .i64 4 u0_1]),(4,[.arr .i64 2 [(0 : Int),(0 : Int)]]),(5,[.arr .i64 8 [(0 : Int),(0 : Int),(0 : Int),(0 : Int),(0 : Int),(0 : Int),(0 : Int),(0 : Int)]]),(8,[.arr .i64 8 L11])],V := [],M := M,ds := [] } s' ∧ (L11).length = 8 ∧ p34_l1 k u0_0 u0_1 u1 j9 n12 x10 L11 = some r) (k:=k) ⟨(0 : Int),([(0 : Int),(0 : Int),(0 : Int),(0 : Int),(0 : Int),(0 : Int),(0 : Int),(0 : Int)]),keep_sub (ts:=[1,2,4,5,8,9]) (hs:=[2,4,5,8]) (vs:=[]) (by kernel_rfl),rfl,h⟩ ?_
     rintro n12 s' ⟨x10,L11,hsub,l_L11,h⟩
     cases n12 with
     | zero => rw [p34_l1] at h;cases h
     | succ n12 =>
      rw [p34_l1] at h
      refine T_sub hsub ?_
      refine T_seq (c1:=(sub [1,1,1,1,1,0,1,0,0,0] Bd34)) (c2:=(sub [1,1,1,1,1,0,1,0,0,1] Bd34)) (by kernel_rfl) ?_
      refine T_seq (c1:=(sub [1,1,1,1,1,0,1,0,0,0,0] Bd34)) (c2:=(sub [1,1,1,1,1,0,1,0,0,0,1] Bd34)) (by kernel_rfl) ?_
      refine T_region (id:=8) (by kernel_rfl) ?_
      obtain ⟨b13,e_b13,h⟩ := lt_some h
      refine TI_segK (i:=0) (j:=2) (s':={ σ := [(1,vi u1),(2,.lf (.own 2 0)),(4,.lf (.own 4 0)),(5,.lf (.own 5 0)),(8,.lf (.own 8 0)),(9,vi x10),(28,vb b13)],H := [(2,[.one (.v (.slice Au0_0 (u0_0.length) cu0_0)),.arr .i64 4 u0_1]),(4,[.arr .i64 2 [(0 : Int),(0 : Int)]]),(5,[.arr .i64 8 [(0 : Int),(0 : Int),(0 : Int),(0 : Int),(0 : Int),(0 : Int),(0 : Int),(0 : Int)]]),(8,[.arr .i64 8 L11])],V := [],M := M,ds := [] }) [1,2,4,5,8,9,28] [2,4,5,8] [] (by subst e_b13;kernel_rfl) (by kernel_rfl) ?_
      refine TI_end (by kernel_rfl) ?_
      refine thenQ_n ?_
      cases b13 with
      | true =>
       replace h := sp_t h
       refine T_condT (x:=(.tmp 28)) (c1:=(sub [1,1,1,1,1,0,1,0,0,0,1,0] Bd34)) (c2:=(sub [1,1,1,1,1,0,1,0,0,0,1,1] Bd34)) (by kernel_rfl) (by kernel_rfl) ?_
       refine T_keepS [(1,vi u1),(2,.lf (.own 2 0)),(4,.lf (.own 4 0)),(5,.lf (.own 5 0)),(8,.lf (.own 8 0)),(9,vi x10)] (by kernel_rfl) ?_
       refine T_skip (by kernel_rfl) ?_
       refine thenQ_n ?_
       refine T_seq (c1:=(sub [1,1,1,1,1,0,1,0,0,1,0] Bd34)) (c2:=(sub [1,1,1,1,1,0,1,0,0,1,1] Bd34)) (by kernel_rfl) ?_
       refine T_block (id:=1) (c1:=(sub [1,1,1,1,1,0,1,0,0,1,0,0] Bd34)) (by kernel_rfl) ?_
       refine T_region (id:=10) (by kernel_rfl) ?_
       refine TI_segS (i:=0) (j:=4) [(1,vi u1),(2,.lf (.own 2 0)),(4,.lf (.own 4 0)),(5,.lf (.own 5 0)),(8,.lf (.own 8 0)),(9,vi x10),(31,vi x10),(32,.agg [.one (.v (.slice Au0_0 (u0_0.length) cu0_0)),.arr .i64 4 u0_1]),(33,vi u1),(34,vi x10)] (by kernel_rfl) (by kernel_rfl) ?_
       obtain ⟨v14,c_v14,h⟩ := cl_some h
       obtain ⟨g15,h⟩ := gd_some h
       refine TI_at (i:=4) (d:=35) (x:=.agg [.arr .i64 2 v14]) (At_call (d:=35) (f:=17) (args:=[rval (.agg [.one (.v (.slice Au0_0 (u0_0.length) cu0_0)),.arr .i64 4 u0_1]),rval (vi u1),rval (vi x10)]) (x:=.agg [.arr .i64 2 v14]) (by kernel_rfl) (w17 k hu0_0 hu0_1 c_v14)) (by kernel_rfl) ⟨g15,trivial⟩ ?_
       obtain ⟨g16,h⟩ := gd_some h
       refine TI_at (i:=5) (d:=36) (x:=.lf (.oel 8 (0 + (x10).toNat * 2))) (by exact At_idxO (d:=36) (z:=x10) (b:=8) (off:=0) (sz:=2) (n:=4) (by kernel_rfl) g16) (by kernel_rfl) trivial ?_
       obtain ⟨L17,e_L17,h⟩ := lt_some h
       have l_L17 : (L17).length = 8 := by rw [e_L17]; have q0 := (show (L11).length = 8 from l_L11); have q1 := (show (v14).length = 2 from g15); simp only [List.length_append,List.length_take,List.length_drop,List.length_cons,List.length_nil]; omega
       refine TI_of (i:=6) (by kernel_rfl) (TE_stOC (m:=2) (b:=8) (off:=0 + (x10).toNat * 2) (base:=0) (q:=0 + (x10).toNat * 2) (n:=8) (k:=.i64) (L:=L11) (L2:=L17) (Z:=(v14 ++ [])) (e:=[.arr .i64 2 v14]) (c':=[.arr .i64 8 L17]) (by subst e_L17;kernel_rfl) (by kernel_rfl) (by subst e_L17;kernel_rfl) (by omega) (by omega) (by kernel_rfl) (by kernel_rfl) e_L17 (by kernel_rfl) ?_)
       refine TI_segK (i:=7) (j:=7) (s':={ σ := [(1,vi u1),(2,.lf (.own 2 0)),(4,.lf (.own 4 0)),(5,.lf (.own 5 0)),(8,.lf (.own 8 0)),(9,vi x10)],H := [(2,[.one (.v (.slice Au0_0 (u0_0.length) cu0_0)),.arr .i64 4 u0_1]),(4,[.arr .i64 2 [(0 : Int),(0 : Int)]]),(5,[.arr .i64 8 [(0 : Int),(0 : Int),(0 : Int),(0 : Int),(0 : Int),(0 : Int),(0 : Int),(0 : Int)]]),(8,[.arr .i64 8 L17])],V := [],M := M,ds := [] }) [1,2,4,5,8,9] [2,4,5,8] [] (by kernel_rfl) (by kernel_rfl) ?_
       refine TI_end (by kernel_rfl) ?_
       refine blockQ_n ?_
       refine thenQ_n ?_
       refine T_region (id:=9) (by kernel_rfl) ?_
       obtain ⟨x18,e_x18,h⟩ := lt_some h
       refine TI_segS (i:=0) (j:=3) [(1,vi u1),(2,.lf (.own 2 0)),(4,.lf (.own 4 0)),(5,.lf (.own 5 0)),(8,.lf (.own 8 0)),(9,vi x18)] (by subst e_x18;kernel_rfl) (by kernel_rfl) ?_
       refine TI_end (by kernel_rfl) ?_
       refine thenQ_n ?_
       exact ⟨n12,Nat.lt_succ_self _,x18,L17,keep_sub (ts:=[1,2,4,5,8,9]) (hs:=[2,4,5,8]) (vs:=[]) (by kernel_rfl),l_L17,h⟩
      | false =>
       replace h := sp_f h
       refine T_condF (x:=(.tmp 28)) (c1:=(sub [1,1,1,1,1,0,1,0,0,0,1,0] Bd34)) (c2:=(sub [1,1,1,1,1,0,1,0,0,0,1,1] Bd34)) (by kernel_rfl) (by kernel_rfl) ?_
       refine T_keepS [(1,vi u1),(2,.lf (.own 2 0)),(4,.lf (.own 4 0)),(5,.lf (.own 5 0)),(8,.lf (.own 8 0))] (by kernel_rfl) ?_
       refine T_exit (id:=0) (by kernel_rfl) ?_
       refine thenQ_x ?_
       refine thenQ_x ?_
       refine blockQ_x ?_
       refine thenQ_n ?_
       exact ⟨L11,keep_sub (ts:=[1,2,4,5,8]) (hs:=[2,4,5,8]) (vs:=[]) (by kernel_rfl),l_L11,h⟩
    ·rintro s' ⟨L8,hsub,l_L8,h⟩
     subst e_j9
     refine thenQ_n ?_
     refine T_sub hsub ?_
     refine T_seq (c1:=(sub [1,1,1,1,1,1,0] Bd34)) (c2:=(sub [1,1,1,1,1,1,1] Bd34)) (by kernel_rfl) ?_
     obtain ⟨v19,c_v19,h⟩ := cl_some h
     obtain ⟨g20,h⟩ := gd_some h
     refine T_draw' (id:=11) [4,5] [0,0,0,0,0,0,2] (by kernel_rfl) (by kernel_rfl) (by kernel_rfl) (by kernel_rfl) [(37,.agg [.one (.v (.slice Au0_0 (u0_0.length) cu0_0)),.arr .i64 4 u0_1]),(38,vi u1),(39,.agg [.arr .i64 2 v19]),(40,.agg [.arr .i64 8 L8])] (by kernel_rfl) ⟨⟨rfl,⟨hu0_1,trivial⟩⟩,⟨trivial,⟨⟨g20,trivial⟩,⟨⟨l_L8,trivial⟩,trivial⟩⟩⟩⟩ ?_
     refine Stage_ex (stage_all' [0,1,3] [2] (by kernel_rfl) (by kernel_rfl) (by kernel_rfl) ⟨QF_at (i:=2) (d:=39) (x:=.agg [.arr .i64 2 v19]) (show OpAt _ _ _ 2 39 _ from by exact At_call (d:=39) (f:=16) (args:=[rval (.agg [.one (.v (.slice Au0_0 (u0_0.length) cu0_0)),.arr .i64 4 u0_1]),rval (vi u1)]) (x:=.agg [.arr .i64 2 v19]) (by kernel_rfl) (w16 k hu0_0 hu0_1 c_v19)) (by kernel_rfl) (by kernel_rfl),trivial⟩) ({ σ := [(37,.agg [.one (.v (.slice Au0_0 (u0_0.length) cu0_0)),.arr .i64 4 u0_1]),(38,vi u1),(39,.agg [.arr .i64 2 v19]),(40,.agg [.arr .i64 8 L8]),(1,vi u1),(2,.lf (.own 2 0)),(4,.lf (.own 4 0)),(5,.lf (.own 5 0)),(8,.lf (.own 8 0))],H := [(4,[.arr .i64 2 v19]),(2,[.one (.v (.slice Au0_0 (u0_0.length) cu0_0)),.arr .i64 4 u0_1]),(4,[.arr .i64 2 [(0 : Int),(0 : Int)]]),(5,[.arr .i64 8 [(0 : Int),(0 : Int),(0 : Int),(0 : Int),(0 : Int),(0 : Int),(0 : Int),(0 : Int)]]),(8,[.arr .i64 8 L8])],V := [],M := M,ds := [] }) (by kernel_rfl) [] (by kernel_rfl) trivial ?_
     refine Stage_ex (stage_all' [3] [] (by kernel_rfl) (by kernel_rfl) (by kernel_rfl) trivial) ({ σ := [(37,.agg [.one (.v (.slice Au0_0 (u0_0.length) cu0_0)),.arr .i64 4 u0_1]),(38,vi u1),(39,.agg [.arr .i64 2 v19]),(40,.agg [.arr .i64 8 L8]),(1,vi u1),(2,.lf (.own 2 0)),(4,.lf (.own 4 0)),(5,.lf (.own 5 0)),(8,.lf (.own 8 0))],H := [(5,[.arr .i64 8 L8]),(4,[.arr .i64 2 v19]),(2,[.one (.v (.slice Au0_0 (u0_0.length) cu0_0)),.arr .i64 4 u0_1]),(4,[.arr .i64 2 [(0 : Int),(0 : Int)]]),(5,[.arr .i64 8 [(0 : Int),(0 : Int),(0 : Int),(0 : Int),(0 : Int),(0 : Int),(0 : Int),(0 : Int)]]),(8,[.arr .i64 8 L8])],V := [],M := M,ds := [] }) (by kernel_rfl) [(6,vi (0 : Int))] (by kernel_rfl) ⟨trivial,trivial⟩ ?_
     refine Stage_nil (stage_all' [6] [] (by kernel_rfl) (by kernel_rfl) (by kernel_rfl) trivial) ?_
     refine thenQ_n ?_
     refine T_keep (s':={ σ := [(4,.lf (.own 4 0)),(5,.lf (.own 5 0)),(6,vi (0 : Int))],H := [(4,[.arr .i64 2 v19]),(5,[.arr .i64 8 L8])],V := [],M := M,ds := [] }) [4,5,6] [4,5] [] (by kernel_rfl) ?_
     refine T_ret (by kernel_rfl) ?_
     have h := Option.some.inj h
     subst h
     refine fin_ret (.tup [(none,[.arr .i64 2 v19]),(none,[.arr .i64 8 L8]),(some (.v (.int .i64 (0 : Int))),[])]) (by kernel_rfl) (by kernel_rfl) rfl ?_
     rfl
def p29 (k : Nat) (u0_0 : List Int) (u0_1 : List (List Int)) : Option Bool :=
 jn (fun (b1 : Bool) => some b1) fun j2 => lt' (decide ((u0_0.length : Int) > (300 : Int))) fun b3 => sp b3 (j2 true) (lt' (decide ((u0_1.length : Int) > (300 : Int))) fun b4 => j2 b4)
theorem hf29 : Try.prog.funcs[29]? = some Try.f29 := by kernel_rfl
theorem w29 (k : Nat) {M : Mem} {Au0_0 : Option Addr} {cu0_0 : Nat} {Au0_1 : Option Addr} {cu0_1 : Nat} {u0_0 : List Int} {u0_1 : List (List Int)} (hu0_0 : SlI M Au0_0 cu0_0 .i64 u0_0) (hu0_1 : SlR M Au0_1 cu0_1 .i64 4 u0_1) {r} (h : p29 k u0_0 u0_1 = some r) :
  Fn Try.prog 29 [rval (.agg [.one (.v (.slice Au0_0 (u0_0.length) cu0_0)),.one (.v (.slice Au0_1 (u0_1.length) cu0_1))])] M (fun x _ => x = vb r) := by
 unfold p29 at h
 refine Fn_of (P:=Try.prog) (fn:=Try.f29) (c:=bodyOf Try.f29) [.agg [.one (.v (.slice Au0_0 (u0_0.length) cu0_0)),.one (.v (.slice Au0_1 (u0_1.length) cu0_1))]] hf29 (by kernel_rfl) (Nat.le_of_ble_eq_true (by kernel_rfl)) (args_ok (by kernel_rfl) ⟨⟨rfl,⟨rfl,trivial⟩⟩,trivial⟩) fun w => ?_
 change T _ _ _ (endQ _ _ _)
 refine T_seq (c1:=(sub [0] Bd29)) (c2:=(sub [1] Bd29)) (by kernel_rfl) ?_
 refine T_region (id:=0) (by kernel_rfl) ?_
 refine TI_segK (i:=0) (j:=2) (s':={ σ := [(1,.lf (.own 1 0))],H := [(1,[.one (.v (.slice Au0_0 (u0_0.length) cu0_0)),.one (.v (.slice Au0_1 (u0_1.length) cu0_1))])],V := [],M := M,ds := [] }) [1] [1] [] (by kernel_rfl) (by kernel_rfl) ?_
 refine TI_end (by kernel_rfl) ?_
 refine thenQ_n ?_
 obtain ⟨j2,e_j2,h⟩ := jn_some h
 refine T_cut (c1:=(sub [1,0] Bd29)) (c2:=(sub [1,1] Bd29)) (fun s' => ∃ (b1 : Bool),Sub { σ := [(2,vb b1)],H := [],V := [],M := M,ds := [] } s' ∧ j2 b1 = some r) (by kernel_rfl) ?_ ?_
 ·refine T_region (id:=1) (by kernel_rfl) ?_
  obtain ⟨b3,e_b3,h⟩ := lt_some h
  refine TI_segK (i:=0) (j:=5) (s':={ σ := [(1,.lf (.own 1 0)),(7,vb b3)],H := [(1,[.one (.v (.slice Au0_0 (u0_0.length) cu0_0)),.one (.v (.slice Au0_1 (u0_1.length) cu0_1))])],V := [],M := M,ds := [] }) [1,7] [1] [] (by subst e_b3;kernel_rfl) (by kernel_rfl) ?_
  cases b3 with
  | true =>
   replace h := sp_t h
   refine TI_segK (i:=5) (j:=11) (s':={ σ := [(2,vb true)],H := [],V := [],M := M,ds := [] }) [2] [] [] (by kernel_rfl) (by kernel_rfl) ?_
   refine TI_end (by kernel_rfl) ?_
   refine thenQ_n ?_
   exact ⟨true,keep_sub (ts:=[2]) (hs:=[]) (vs:=[]) (by kernel_rfl),h⟩
  | false =>
   replace h := sp_f h
   obtain ⟨b4,e_b4,h⟩ := lt_some h
   refine TI_segK (i:=5) (j:=11) (s':={ σ := [(2,vb b4)],H := [],V := [],M := M,ds := [] }) [2] [] [] (by subst e_b4;kernel_rfl) (by kernel_rfl) ?_
   refine TI_end (by kernel_rfl) ?_
   refine thenQ_n ?_
   exact ⟨b4,keep_sub (ts:=[2]) (hs:=[]) (vs:=[]) (by kernel_rfl),h⟩
 ·rintro s' ⟨b1,hsub,h⟩
  subst e_j2
  refine T_sub hsub ?_
  refine T_ret (by kernel_rfl) ?_
  have h := Option.some.inj h
  subst h
  refine fin_ret (vb b1) (by kernel_rfl) (by kernel_rfl) rfl ?_
  rfl
def p55 (k : Nat) (u0_0 : List (List Int)) (u0_1 : List Int) (u1 : List Int) : Option Int :=
 cl (p21 k u0_0 u0_1) fun v1 => lt' (v1 != (0 : Int)) fun b2 => sp b2 (some v1) (cl (p33 k u1) fun v3 => some v3)
theorem hf55 : Try.prog.funcs[55]? = some Try.f55 := by kernel_rfl
theorem w55 (k : Nat) {M : Mem} {Au0_0 : Option Addr} {cu0_0 : Nat} {u0_0 : List (List Int)} {u0_1 : List Int} {u1 : List Int} (hu0_0 : SlR M Au0_0 cu0_0 .i64 11 u0_0) (hu0_1 : u0_1.length = 4) (hu1 : u1.length = 7) {r} (h : p55 k u0_0 u0_1 u1 = some r) :
  Fn Try.prog 55 [rval (.agg [.one (.v (.slice Au0_0 (u0_0.length) cu0_0)),.arr .i64 4 u0_1]),rval (.agg [.arr .i64 7 u1])] M (fun x _ => x = vi r) := by
 unfold p55 at h
 refine Fn_of (P:=Try.prog) (fn:=Try.f55) (c:=bodyOf Try.f55) [.agg [.one (.v (.slice Au0_0 (u0_0.length) cu0_0)),.arr .i64 4 u0_1],.agg [.arr .i64 7 u1]] hf55 (by kernel_rfl) (Nat.le_of_ble_eq_true (by kernel_rfl)) (args_ok (by kernel_rfl) ⟨⟨rfl,⟨hu0_1,trivial⟩⟩,⟨⟨hu1,trivial⟩,trivial⟩⟩) fun w => ?_
 change T _ _ _ (endQ _ _ _)
 refine T_seq (c1:=(sub [0] Bd55)) (c2:=(sub [1] Bd55)) (by kernel_rfl) ?_
 refine T_region (id:=0) (by kernel_rfl) ?_
 refine TI_segK (i:=0) (j:=3) (s':={ σ := [(2,.lf (.own 2 0)),(3,.lf (.own 3 0))],H := [(2,[.one (.v (.slice Au0_0 (u0_0.length) cu0_0)),.arr .i64 4 u0_1]),(3,[.arr .i64 7 u1])],V := [],M := M,ds := [] }) [2,3] [2,3] [] (by kernel_rfl) (by kernel_rfl) ?_
 refine TI_end (by kernel_rfl) ?_
 refine thenQ_n ?_
 refine T_seq (c1:=(sub [1,0] Bd55)) (c2:=(sub [1,1] Bd55)) (by kernel_rfl) ?_
 refine T_region (id:=1) (by kernel_rfl) ?_
 refine TI_segK (i:=0) (j:=1) (s':={ σ := [(3,.lf (.own 3 0)),(6,.agg [.one (.v (.slice Au0_0 (u0_0.length) cu0_0)),.arr .i64 4 u0_1])],H := [(3,[.arr .i64 7 u1])],V := [],M := M,ds := [] }) [3,6] [3] [] (by kernel_rfl) (by kernel_rfl) ?_
 obtain ⟨v1,c_v1,h⟩ := cl_some h
 refine TI_at (i:=1) (d:=7) (x:=vi v1) (At_call (d:=7) (f:=21) (args:=[rval (.agg [.one (.v (.slice Au0_0 (u0_0.length) cu0_0)),.arr .i64 4 u0_1])]) (x:=vi v1) (by kernel_rfl) (w21 k hu0_0 hu0_1 c_v1)) (by kernel_rfl) trivial ?_
 refine TI_segK (i:=2) (j:=3) (s':={ σ := [(3,.lf (.own 3 0)),(5,vi v1)],H := [(3,[.arr .i64 7 u1])],V := [],M := M,ds := [] }) [3,5] [3] [] (by kernel_rfl) (by kernel_rfl) ?_
 refine TI_end (by kernel_rfl) ?_
 refine thenQ_n ?_
 refine T_seq (c1:=(sub [1,1,0] Bd55)) (c2:=(sub [1,1,1] Bd55)) (by kernel_rfl) ?_
 refine T_seq (c1:=(sub [1,1,0,0] Bd55)) (c2:=(sub [1,1,0,1] Bd55)) (by kernel_rfl) ?_
 refine T_region (id:=2) (by kernel_rfl) ?_
 obtain ⟨b2,e_b2,h⟩ := lt_some h
 refine TI_segS (i:=0) (j:=2) [(3,.lf (.own 3 0)),(5,vi v1),(9,vb b2)] (by subst e_b2;kernel_rfl) (by kernel_rfl) ?_
 refine TI_end (by kernel_rfl) ?_
 refine thenQ_n ?_
 cases b2 with
 | true =>
  replace h := sp_t h
  refine T_condT (x:=(.tmp 9)) (c1:=(sub [1,1,0,1,0] Bd55)) (c2:=(sub [1,1,0,1,1] Bd55)) (by kernel_rfl) (by kernel_rfl) ?_
  refine T_keep (s':={ σ := [(5,vi v1)],H := [],V := [],M := M,ds := [] }) [5] [] [] (by kernel_rfl) ?_
  refine T_seq (c1:=(sub [1,1,0,1,0,0] Bd55)) (c2:=(sub [1,1,0,1,0,1] Bd55)) (by kernel_rfl) ?_
  refine T_region (id:=3) (by kernel_rfl) ?_
  refine TI_segS (i:=0) (j:=2) [(4,vi v1)] (by kernel_rfl) (by kernel_rfl) ?_
  refine TI_end (by kernel_rfl) ?_
  refine thenQ_n ?_
  refine T_ret (by kernel_rfl) ?_
  refine thenQ_r ?_
  have h := Option.some.inj h
  subst h
  refine fin_ret (vi v1) (by kernel_rfl) (by kernel_rfl) rfl ?_
  rfl
 | false =>
  replace h := sp_f h
  refine T_condF (x:=(.tmp 9)) (c1:=(sub [1,1,0,1,0] Bd55)) (c2:=(sub [1,1,0,1,1] Bd55)) (by kernel_rfl) (by kernel_rfl) ?_
  refine T_keepS [(3,.lf (.own 3 0))] (by kernel_rfl) ?_
  refine T_skip (by kernel_rfl) ?_
  refine thenQ_n ?_
  refine T_seq (c1:=(sub [1,1,1,0] Bd55)) (c2:=(sub [1,1,1,1] Bd55)) (by kernel_rfl) ?_
  refine T_region (id:=4) (by kernel_rfl) ?_
  refine TI_segK (i:=0) (j:=1) (s':={ σ := [(11,.agg [.arr .i64 7 u1])],H := [],V := [],M := M,ds := [] }) [11] [] [] (by kernel_rfl) (by kernel_rfl) ?_
  obtain ⟨v3,c_v3,h⟩ := cl_some h
  refine TI_at (i:=1) (d:=12) (x:=vi v3) (At_call (d:=12) (f:=33) (args:=[rval (.agg [.arr .i64 7 u1])]) (x:=vi v3) (by kernel_rfl) (w33 k hu1 c_v3)) (by kernel_rfl) trivial ?_
  refine TI_segK (i:=2) (j:=3) (s':={ σ := [(4,vi v3)],H := [],V := [],M := M,ds := [] }) [4] [] [] (by kernel_rfl) (by kernel_rfl) ?_
  refine TI_end (by kernel_rfl) ?_
  refine thenQ_n ?_
  refine T_ret (by kernel_rfl) ?_
  have h := Option.some.inj h
  subst h
  refine fin_ret (vi v3) (by kernel_rfl) (by kernel_rfl) rfl ?_
  rfl
def p80 (k : Nat) (u0_0 : List (List Int)) (u0_1 : List Int) (u1 : List Int) (u2 : Int) : Option Bool :=
 jn (fun (b1 : Bool) => some b1) fun j2 => cl (p45 k u0_0 u0_1 u2) fun v3 => lt' (List.getD u1 4 0) fun x4 => lt' (decide (v3 ≥ x4)) fun b5 => sp b5 (lt' (wr .i64 (u2 + (1 : Int))) fun x6 => cl (p45 k u0_0 u0_1 x6) fun v7 => lt' (List.getD u1 5 0) fun x8 => lt' (decide (v7 ≤ x8)) fun b9 => j2 b9) (j2 false)
theorem hf80 : Try.prog.funcs[80]? = some Try.f80 := by kernel_rfl
theorem w80 (k : Nat) {M : Mem} {Au0_0 : Option Addr} {cu0_0 : Nat} {u0_0 : List (List Int)} {u0_1 : List Int} {u1 : List Int} {u2 : Int} (hu0_0 : SlR M Au0_0 cu0_0 .i64 11 u0_0) (hu0_1 : u0_1.length = 4) (hu1 : u1.length = 7) {r} (h : p80 k u0_0 u0_1 u1 u2 = some r) :
  Fn Try.prog 80 [rval (.agg [.one (.v (.slice Au0_0 (u0_0.length) cu0_0)),.arr .i64 4 u0_1]),rval (.agg [.arr .i64 7 u1]),rval (vi u2)] M (fun x _ => x = vb r) := by
 unfold p80 at h
 refine Fn_of (P:=Try.prog) (fn:=Try.f80) (c:=bodyOf Try.f80) [.agg [.one (.v (.slice Au0_0 (u0_0.length) cu0_0)),.arr .i64 4 u0_1],.agg [.arr .i64 7 u1],vi u2] hf80 (by kernel_rfl) (Nat.le_of_ble_eq_true (by kernel_rfl)) (args_ok (by kernel_rfl) ⟨⟨rfl,⟨hu0_1,trivial⟩⟩,⟨⟨hu1,trivial⟩,⟨trivial,trivial⟩⟩⟩) fun w => ?_
 change T _ _ _ (endQ _ _ _)
 refine T_seq (c1:=(sub [0] Bd80)) (c2:=(sub [1] Bd80)) (by kernel_rfl) ?_
 refine T_region (id:=0) (by kernel_rfl) ?_
 refine TI_segK (i:=0) (j:=3) (s':={ σ := [(2,vi u2),(3,.lf (.own 3 0)),(4,.lf (.own 4 0))],H := [(3,[.one (.v (.slice Au0_0 (u0_0.length) cu0_0)),.arr .i64 4 u0_1]),(4,[.arr .i64 7 u1])],V := [],M := M,ds := [] }) [2,3,4] [3,4] [] (by kernel_rfl) (by kernel_rfl) ?_
 refine TI_end (by kernel_rfl) ?_
 refine thenQ_n ?_
 obtain ⟨j2,e_j2,h⟩ := jn_some h
 refine T_cut (c1:=(sub [1,0] Bd80)) (c2:=(sub [1,1] Bd80)) (fun s' => ∃ (b1 : Bool),Sub { σ := [(6,vb b1)],H := [],V := [],M := M,ds := [] } s' ∧ j2 b1 = some r) (by kernel_rfl) ?_ ?_
 ·obtain ⟨v3,c_v3,h⟩ := cl_some h
  obtain ⟨x4,e_x4,h⟩ := lt_some h
  obtain ⟨b5,e_b5,h⟩ := lt_some h
  cases b5 with
  | true =>
   replace h := sp_t h
   obtain ⟨x6,e_x6,h⟩ := lt_some h
   obtain ⟨v7,c_v7,h⟩ := cl_some h
   obtain ⟨x8,e_x8,h⟩ := lt_some h
   obtain ⟨b9,e_b9,h⟩ := lt_some h
   refine T_draw' (id:=1) [] [0,0,0,0,0,0,0,0,0,0,0,0,0,0,0,0] (by kernel_rfl) (by kernel_rfl) (by kernel_rfl) (by kernel_rfl) [(7,.agg [.one (.v (.slice Au0_0 (u0_0.length) cu0_0)),.arr .i64 4 u0_1]),(8,vi u2),(9,vi v3),(10,.lf (.own 4 4)),(11,vi x4),(12,vb true),(13,vb true),(14,.agg [.one (.v (.slice Au0_0 (u0_0.length) cu0_0)),.arr .i64 4 u0_1]),(15,vi u2),(16,vi x6),(17,vi v7),(18,.lf (.own 4 5)),(19,vi x8),(20,vb b9),(21,vb b9),(6,vb b9)] (by kernel_rfl) ⟨⟨rfl,⟨hu0_1,trivial⟩⟩,⟨trivial,⟨trivial,⟨trivial,⟨trivial,⟨trivial,⟨trivial,⟨⟨rfl,⟨hu0_1,trivial⟩⟩,⟨trivial,⟨trivial,⟨trivial,⟨trivial,⟨trivial,⟨trivial,⟨trivial,⟨trivial,trivial⟩⟩⟩⟩⟩⟩⟩⟩⟩⟩⟩⟩⟩⟩⟩⟩ ?_
   refine Stage_nil (stage_all' [0,1,3,4,6,7,8,9,11,12,13,14,15] [2,5,10] (by kernel_rfl) (by subst_vars;kernel_rfl) (by kernel_rfl) ⟨QF_at (i:=2) (d:=9) (x:=vi v3) (show OpAt _ _ _ 2 9 _ from by exact At_call (d:=9) (f:=45) (args:=[rval (.agg [.one (.v (.slice Au0_0 (u0_0.length) cu0_0)),.arr .i64 4 u0_1]),rval (vi u2)]) (x:=vi v3) (by subst_vars;kernel_rfl) (w45 k hu0_0 hu0_1 c_v3)) (by kernel_rfl) (by subst_vars;kernel_rfl),⟨QF_at (i:=5) (d:=12) (x:=vb true) (show OpAt _ _ _ 5 12 _ from by exact At_bin (d:=12) (b:=.geq) (u:=.int .i64 v3) (v:=.int .i64 x4) (w':=.bool true) (by subst_vars;kernel_rfl) (by rw [show exBin .geq (.int .i64 v3) (.int .i64 x4) = some (.bool (decide (v3 ≥ x4))) from by kernel_rfl,← e_b5])) (by kernel_rfl) (by subst_vars;kernel_rfl),⟨QF_at (i:=10) (d:=17) (x:=vi v7) (show OpAt _ _ _ 10 17 _ from by exact At_call (d:=17) (f:=45) (args:=[rval (.agg [.one (.v (.slice Au0_0 (u0_0.length) cu0_0)),.arr .i64 4 u0_1]),rval (vi x6)]) (x:=vi v7) (by subst_vars;kernel_rfl) (w45 k hu0_0 hu0_1 c_v7)) (by kernel_rfl) (by subst_vars;kernel_rfl),trivial⟩⟩⟩) ?_
   refine thenQ_n ?_
   exact ⟨b9,keep_sub (ts:=[6]) (hs:=[]) (vs:=[]) (by subst_vars;kernel_rfl),h⟩
  | false =>
   replace h := sp_f h
   refine T_draw' (id:=1) [] [0,0,0,0,0,0,0,0,0,0,0,0,0,0,0,0] (by kernel_rfl) (by kernel_rfl) (by kernel_rfl) (by kernel_rfl) [(7,.agg [.one (.v (.slice Au0_0 (u0_0.length) cu0_0)),.arr .i64 4 u0_1]),(8,vi u2),(9,vi v3),(10,.lf (.own 4 4)),(11,vi x4),(12,vb false),(13,vb false),(14,.tup []),(15,.tup []),(16,.tup []),(17,.tup []),(18,.tup []),(19,.tup []),(20,.tup []),(21,vb false),(6,vb false)] (by kernel_rfl) ⟨⟨rfl,⟨hu0_1,trivial⟩⟩,⟨trivial,⟨trivial,⟨trivial,⟨trivial,⟨trivial,⟨trivial,⟨(by intro y hy;cases hy),⟨(by intro y hy;cases hy),⟨(by intro y hy;cases hy),⟨(by intro y hy;cases hy),⟨(by intro y hy;cases hy),⟨(by intro y hy;cases hy),⟨(by intro y hy;cases hy),⟨trivial,⟨trivial,trivial⟩⟩⟩⟩⟩⟩⟩⟩⟩⟩⟩⟩⟩⟩⟩⟩ ?_
   refine Stage_nil (stage_all' [0,1,3,4,6,7,8,9,10,11,12,13,14,15] [2,5] (by kernel_rfl) (by subst e_x4;kernel_rfl) (by kernel_rfl) ⟨QF_at (i:=2) (d:=9) (x:=vi v3) (show OpAt _ _ _ 2 9 _ from by exact At_call (d:=9) (f:=45) (args:=[rval (.agg [.one (.v (.slice Au0_0 (u0_0.length) cu0_0)),.arr .i64 4 u0_1]),rval (vi u2)]) (x:=vi v3) (by subst e_x4;kernel_rfl) (w45 k hu0_0 hu0_1 c_v3)) (by kernel_rfl) (by subst e_x4;kernel_rfl),⟨QF_at (i:=5) (d:=12) (x:=vb false) (show OpAt _ _ _ 5 12 _ from by exact At_bin (d:=12) (b:=.geq) (u:=.int .i64 v3) (v:=.int .i64 x4) (w':=.bool false) (by subst e_x4;kernel_rfl) (by rw [show exBin .geq (.int .i64 v3) (.int .i64 x4) = some (.bool (decide (v3 ≥ x4))) from by kernel_rfl,← e_b5])) (by kernel_rfl) (by subst e_x4;kernel_rfl),trivial⟩⟩) ?_
   refine thenQ_n ?_
   exact ⟨false,keep_sub (ts:=[6]) (hs:=[]) (vs:=[]) (by subst e_x4;kernel_rfl),h⟩
 ·rintro s' ⟨b1,hsub,h⟩
  subst e_j2
  refine T_sub hsub ?_
  refine T_ret (by kernel_rfl) ?_
  have h := Option.some.inj h
  subst h
  refine fin_ret (vb b1) (by kernel_rfl) (by kernel_rfl) rfl ?_
  rfl
end Go.Proofs.Ythjkejbgknemgaa
namespace Go.Proofs.Ythjkejbgknemgaa
open Go.RowKit
def p18 (k : Nat) (u0_0 : List (List Int)) (u0_1 : List Int) : Option Bool :=
 jn (fun (b1 : Bool) => sp b1 (some true) (jn (fun (b6 : Bool) => some b6) fun j7 => lt' (decide ((u0_0.length : Int) > (1 : Int))) fun b8 => sp b8 (lt' (wr .i64 ((u0_0.length : Int) - (1 : Int))) fun x9 => gd ((0 : Int) ≤ x9 ∧ x9 < (u0_0.length : Int)) <| lt' (List.getD (List.getD u0_0 ((x9).toNat) []) 0 0) fun x11 => gd ((0 : Int) ≤ (0 : Int) ∧ (0 : Int) < (u0_0.length : Int)) <| lt' (List.getD (List.getD u0_0 0 []) 0 0) fun x13 => lt' (decide (x11 > x13)) fun b14 => sp b14 (lt' (wr .i64 ((u0_0.length : Int) - (1 : Int))) fun x15 => gd ((0 : Int) ≤ x15 ∧ x15 < (u0_0.length : Int)) <| lt' (List.getD (List.getD u0_0 ((x15).toNat) []) 0 0) fun x17 => gd ((0 : Int) ≤ (0 : Int) ∧ (0 : Int) < (u0_0.length : Int)) <| lt' (List.getD (List.getD u0_0 0 []) 0 0) fun x19 => lt' (wr .i64 (x17 - x19)) fun x20 => lt' (decide (x20 > (120 : Int))) fun b21 => sp b21 (lt' (wr .i64 ((u0_0.length : Int) - (1 : Int))) fun x22 => gd ((0 : Int) ≤ x22 ∧ x22 < (u0_0.length : Int)) <| lt' (List.getD (List.getD u0_0 ((x22).toNat) []) 0 0) fun x24 => gd ((0 : Int) ≤ (0 : Int) ∧ (0 : Int) < (u0_0.length : Int)) <| lt' (List.getD (List.getD u0_0 0 []) 0 0) fun x26 => lt' (wr .i64 (x24 - x26)) fun x27 => lt' (decide (x27 ≤ (2000 : Int))) fun b28 => j7 b28) (j7 false)) (j7 false)) (j7 false))) fun j2 => lt' (decide ((u0_0.length : Int) > (100 : Int))) fun b3 => sp b3 (j2 true) (lt' (decide ((u0_0.length : Int) > (20 : Int))) fun b4 => sp b4 (lt' (decide ((u0_0.length : Int) ≤ (64 : Int))) fun b5 => j2 b5) (j2 false))
theorem hf18 : Try.prog.funcs[18]? = some Try.f18 := by kernel_rfl
theorem w18 (k : Nat) {M : Mem} {Au0_0 : Option Addr} {cu0_0 : Nat} {u0_0 : List (List Int)} {u0_1 : List Int} (hu0_0 : SlR M Au0_0 cu0_0 .i64 11 u0_0) (hu0_1 : u0_1.length = 4) {r} (h : p18 k u0_0 u0_1 = some r) :
  Fn Try.prog 18 [rval (.agg [.one (.v (.slice Au0_0 (u0_0.length) cu0_0)),.arr .i64 4 u0_1])] M (fun x _ => x = vb r) := by
 unfold p18 at h
 refine Fn_of (P:=Try.prog) (fn:=Try.f18) (c:=bodyOf Try.f18) [.agg [.one (.v (.slice Au0_0 (u0_0.length) cu0_0)),.arr .i64 4 u0_1]] hf18 (by kernel_rfl) (Nat.le_of_ble_eq_true (by kernel_rfl)) (args_ok (by kernel_rfl) ⟨⟨rfl,⟨hu0_1,trivial⟩⟩,trivial⟩) fun w => ?_
 change T _ _ _ (endQ _ _ _)
 refine T_seq (c1:=(sub [0] Bd18)) (c2:=(sub [1] Bd18)) (by kernel_rfl) ?_
 refine T_region (id:=0) (by kernel_rfl) ?_
 refine TI_segK (i:=0) (j:=2) (s':={ σ := [(1,.lf (.own 1 0))],H := [(1,[.one (.v (.slice Au0_0 (u0_0.length) cu0_0)),.arr .i64 4 u0_1])],V := [],M := M,ds := [] }) [1] [1] [] (by kernel_rfl) (by kernel_rfl) ?_
 refine TI_end (by kernel_rfl) ?_
 refine thenQ_n ?_
 refine T_seq (c1:=(sub [1,0] Bd18)) (c2:=(sub [1,1] Bd18)) (by kernel_rfl) ?_
 refine T_region (id:=1) (by kernel_rfl) ?_
 refine TI_segS (i:=0) (j:=4) [(1,.lf (.own 1 0)),(3,vi (u0_0.length : Int))] (by kernel_rfl) (by kernel_rfl) ?_
 refine TI_end (by kernel_rfl) ?_
 refine thenQ_n ?_
 refine T_seq (c1:=(sub [1,1,0] Bd18)) (c2:=(sub [1,1,1] Bd18)) (by kernel_rfl) ?_
 obtain ⟨j2,e_j2,h⟩ := jn_some h
 refine T_cut (c1:=(sub [1,1,0,0] Bd18)) (c2:=(sub [1,1,0,1] Bd18)) (fun s' => ∃ (b1 : Bool),Sub { σ := [(1,.lf (.own 1 0)),(3,vi (u0_0.length : Int)),(16,vb b1)],H := [(1,[.one (.v (.slice Au0_0 (u0_0.length) cu0_0)),.arr .i64 4 u0_1])],V := [],M := M,ds := [] } s' ∧ j2 b1 = some r) (by kernel_rfl) ?_ ?_
 ·refine T_region (id:=2) (by kernel_rfl) ?_
  obtain ⟨b3,e_b3,h⟩ := lt_some h
  refine TI_segK (i:=0) (j:=3) (s':={ σ := [(1,.lf (.own 1 0)),(3,vi (u0_0.length : Int)),(9,vb b3)],H := [(1,[.one (.v (.slice Au0_0 (u0_0.length) cu0_0)),.arr .i64 4 u0_1])],V := [],M := M,ds := [] }) [1,3,9] [1] [] (by subst e_b3;kernel_rfl) (by kernel_rfl) ?_
  cases b3 with
  | true =>
   replace h := sp_t h
   refine TI_segS (i:=3) (j:=10) [(1,.lf (.own 1 0)),(3,vi (u0_0.length : Int)),(16,vb true)] (by kernel_rfl) (by kernel_rfl) ?_
   refine TI_end (by kernel_rfl) ?_
   refine thenQ_n ?_
   exact ⟨true,keep_sub (ts:=[1,3,16]) (hs:=[1]) (vs:=[]) (by kernel_rfl),h⟩
  | false =>
   replace h := sp_f h
   obtain ⟨b4,e_b4,h⟩ := lt_some h
   refine TI_segS (i:=3) (j:=6) [(1,.lf (.own 1 0)),(3,vi (u0_0.length : Int)),(9,vb false),(12,vb b4)] (by subst e_b4;kernel_rfl) (by kernel_rfl) ?_
   cases b4 with
   | true =>
    replace h := sp_t h
    obtain ⟨b5,e_b5,h⟩ := lt_some h
    refine TI_segS (i:=6) (j:=10) [(1,.lf (.own 1 0)),(3,vi (u0_0.length : Int)),(16,vb b5)] (by subst e_b5;kernel_rfl) (by kernel_rfl) ?_
    refine TI_end (by kernel_rfl) ?_
    refine thenQ_n ?_
    exact ⟨b5,keep_sub (ts:=[1,3,16]) (hs:=[1]) (vs:=[]) (by kernel_rfl),h⟩
   | false =>
    replace h := sp_f h
    refine TI_segS (i:=6) (j:=10) [(1,.lf (.own 1 0)),(3,vi (u0_0.length : Int)),(16,vb false)] (by kernel_rfl) (by kernel_rfl) ?_
    refine TI_end (by kernel_rfl) ?_
    refine thenQ_n ?_
    exact ⟨false,keep_sub (ts:=[1,3,16]) (hs:=[1]) (vs:=[]) (by kernel_rfl),h⟩
 ·rintro s' ⟨b1,hsub,h⟩
  subst e_j2
  refine T_sub hsub ?_
  cases b1 with
  | true =>
   replace h := sp_t h
   refine T_condT (x:=(.tmp 16)) (c1:=(sub [1,1,0,1,0] Bd18)) (c2:=(sub [1,1,0,1,1] Bd18)) (by kernel_rfl) (by kernel_rfl) ?_
   refine T_keep (s':={ σ := [],H := [],V := [],M := M,ds := [] }) [] [] [] (by kernel_rfl) ?_
   refine T_seq (c1:=(sub [1,1,0,1,0,0] Bd18)) (c2:=(sub [1,1,0,1,0,1] Bd18)) (by kernel_rfl) ?_
   refine T_region (id:=3) (by kernel_rfl) ?_
   refine TI_segS (i:=0) (j:=1) [(2,vb true)] (by kernel_rfl) (by kernel_rfl) ?_
   refine TI_end (by kernel_rfl) ?_
   refine thenQ_n ?_
   refine T_ret (by kernel_rfl) ?_
   refine thenQ_r ?_
   have h := Option.some.inj h
   subst h
   refine fin_ret (vb true) (by kernel_rfl) (by kernel_rfl) rfl ?_
   rfl
  | false =>
   replace h := sp_f h
   refine T_condF (x:=(.tmp 16)) (c1:=(sub [1,1,0,1,0] Bd18)) (c2:=(sub [1,1,0,1,1] Bd18)) (by kernel_rfl) (by kernel_rfl) ?_
   refine T_keep (s':={ σ := [(1,.lf (.own 1 0)),(3,vi (u0_0.length : Int))],H := [(1,[.one (.v (.slice Au0_0 (u0_0.length) cu0_0)),.arr .i64 4 u0_1])],V := [],M := M,ds := [] }) [1,3] [1] [] (by kernel_rfl) ?_
   refine T_skip (by kernel_rfl) ?_
   refine thenQ_n ?_
   obtain ⟨j7,e_j7,h⟩ := jn_some h
   refine T_cut (c1:=(sub [1,1,1,0] Bd18)) (c2:=(sub [1,1,1,1] Bd18)) (fun s' => ∃ (b6 : Bool),Sub { σ := [(2,vb b6)],H := [],V := [],M := M,ds := [] } s' ∧ j7 b6 = some r) (by kernel_rfl) ?_ ?_
   ·obtain ⟨b8,e_b8,h⟩ := lt_some h
    cases b8 with
    | true =>
     replace h := sp_t h
     obtain ⟨x9,e_x9,h⟩ := lt_some h
     obtain ⟨g10,h⟩ := gd_some h
     obtain ⟨x11,e_x11,h⟩ := lt_some h
     obtain ⟨g12,h⟩ := gd_some h
     obtain ⟨x13,e_x13,h⟩ := lt_some h
     obtain ⟨b14,e_b14,h⟩ := lt_some h
     cases b14 with
     | true =>
      replace h := sp_t h
      obtain ⟨x15,e_x15,h⟩ := lt_some h
      obtain ⟨g16,h⟩ := gd_some h
      obtain ⟨x17,e_x17,h⟩ := lt_some h
      obtain ⟨g18,h⟩ := gd_some h
      obtain ⟨x19,e_x19,h⟩ := lt_some h
      obtain ⟨x20,e_x20,h⟩ := lt_some h
      obtain ⟨b21,e_b21,h⟩ := lt_some h
      cases b21 with
      | true =>
       replace h := sp_t h
       obtain ⟨x22,e_x22,h⟩ := lt_some h
       obtain ⟨g23,h⟩ := gd_some h
       obtain ⟨x24,e_x24,h⟩ := lt_some h
       obtain ⟨g25,h⟩ := gd_some h
       obtain ⟨x26,e_x26,h⟩ := lt_some h
       obtain ⟨x27,e_x27,h⟩ := lt_some h
       obtain ⟨b28,e_b28,h⟩ := lt_some h
       refine T_draw' (id:=4) [] [0,0,0,0,0,0,0,0,0,0,0,0,0,0,0,0,0,0,0,0,0,0,0,0,0,0,0,0,0,0,0,0,0,0,0,0,0,0,0,0,0,0,0,0,0,0,0,0,0,0] (by kernel_rfl) (by kernel_rfl) (by kernel_rfl) (by kernel_rfl) ((17,vi (u0_0.length : Int))::(18,vb true)::(19,vb true)::(20,.lf (.own 1 0))::(21,.lf (.v (.slice Au0_0 (u0_0.length) cu0_0)))::(22,vi (u0_0.length : Int))::(23,vi x9)::(24,.lf (.ep (.slice Au0_0 (u0_0.length) cu0_0) 11 ((x9).toNat) 0))::(25,.lf (.ep (.slice Au0_0 (u0_0.length) cu0_0) 11 ((x9).toNat) 0))::(26,vi x11)::(27,.lf (.own 1 0))::(28,.lf (.v (.slice Au0_0 (u0_0.length) cu0_0)))::(29,.lf (.ep (.slice Au0_0 (u0_0.length) cu0_0) 11 0 0))::(30,.lf (.ep (.slice Au0_0 (u0_0.length) cu0_0) 11 0 0))::(31,vi x13)::(32,vb true)::(33,vb true)::(34,vb true)::(35,.lf (.own 1 0))::(36,.lf (.v (.slice Au0_0 (u0_0.length) cu0_0)))::(37,vi (u0_0.length : Int))::(38,vi x15)::(39,.lf (.ep (.slice Au0_0 (u0_0.length) cu0_0) 11 ((x15).toNat) 0))::(40,.lf (.ep (.slice Au0_0 (u0_0.length) cu0_0) 11 ((x15).toNat) 0))::(41,vi x17)::(42,.lf (.own 1 0))::(43,.lf (.v (.slice Au0_0 (u0_0.length) cu0_0)))::(44,.lf (.ep (.slice Au0_0 (u0_0.length) cu0_0) 11 0 0))::(45,.lf (.ep (.slice Au0_0 (u0_0.length) cu0_0) 11 0 0))::(46,vi x19)::(47,vi x20)::(48,vb true)::(49,vb true)::(50,vb true)::(51,.lf (.own 1 0))::(52,.lf (.v (.slice Au0_0 (u0_0.length) cu0_0)))::(53,vi (u0_0.length : Int))::(54,vi x22)::(55,.lf (.ep (.slice Au0_0 (u0_0.length) cu0_0) 11 ((x22).toNat) 0))::(56,.lf (.ep (.slice Au0_0 (u0_0.length) cu0_0) 11 ((x22).toNat) 0))::(57,vi x24)::(58,.lf (.own 1 0))::(59,.lf (.v (.slice Au0_0 (u0_0.length) cu0_0)))::(60,.lf (.ep (.slice Au0_0 (u0_0.length) cu0_0) 11 0 0))::(61,.lf (.ep (.slice Au0_0 (u0_0.length) cu0_0) 11 0 0))::(62,vi x26)::(63,vi x27)::(64,vb b28)::(65,vb b28)::(2,vb b28)::[]) (by kernel_rfl) (wfs_lf _ (by kernel_rfl)) ?_
       refine Stage_nil (stage_all' [0,2,3,4,5,6,8,10,11,13,16,17,18,19,20,21,23,25,26,28,30,32,33,34,35,36,37,39,41,42,44,46,47,48,49] [1,7,9,12,14,15,22,24,27,29,31,38,40,43,45] (by kernel_rfl) (by subst_vars; kernel_rfl) (by kernel_rfl) ⟨QF_at (i:=1) (d:=18) (x:=vb true) (show OpAt _ _ _ 1 18 _ from by exact At_bin (d:=18) (b:=.gtr) (u:=.int .i64 (u0_0.length : Int)) (v:=.int .i64 (1 : Int)) (w':=.bool true) (by subst_vars; kernel_rfl) (by rw [show exBin .gtr (.int .i64 (u0_0.length : Int)) (.int .i64 (1 : Int)) = some (.bool (decide ((u0_0.length : Int) > (1 : Int)))) from by kernel_rfl,← e_b8])) (by kernel_rfl) (by subst_vars; kernel_rfl),⟨QF_at (i:=7) (d:=24) (x:=.lf (.ep (.slice Au0_0 (u0_0.length) cu0_0) 11 ((x9).toNat) 0)) (show OpAt _ _ _ 7 24 _ from by exact At_idxR (d:=24) (z:=x9) (by subst_vars; kernel_rfl) g10 hu0_0) (by kernel_rfl) (by subst_vars; kernel_rfl),⟨QF_at (i:=9) (d:=26) (x:=vi x11) (show OpAt _ _ _ 9 26 _ from by rw [e_x11]; exact At_ldR1 (d:=26) (q:=(x9).toNat) (j:=0) (by subst_vars; kernel_rfl) rfl (toNat_lt g10) hu0_0) (by kernel_rfl) (by subst_vars; kernel_rfl),⟨QF_at (i:=12) (d:=29) (x:=.lf (.ep (.slice Au0_0 (u0_0.length) cu0_0) 11 0 0)) (show OpAt _ _ _ 12 29 _ from by exact At_idxR (d:=29) (z:=(0 : Int)) (by subst_vars; kernel_rfl) g12 hu0_0) (by kernel_rfl) (by subst_vars; kernel_rfl),⟨QF_at (i:=14) (d:=31) (x:=vi x13) (show OpAt _ _ _ 14 31 _ from by rw [e_x13]; exact At_ldR1 (d:=31) (q:=0) (j:=0) (by subst_vars; kernel_rfl) rfl (toNat_lt g12) hu0_0) (by kernel_rfl) (by subst_vars; kernel_rfl),⟨QF_at (i:=15) (d:=32) (x:=vb true) (show OpAt _ _ _ 15 32 _ from by exact At_bin (d:=32) (b:=.gtr) (u:=.int .i64 x11) (v:=.int .i64 x13) (w':=.bool true) (by subst_vars; kernel_rfl) (by rw [show exBin .gtr (.int .i64 x11) (.int .i64 x13) = some (.bool (decide (x11 > x13))) from by kernel_rfl,← e_b14])) (by kernel_rfl) (by subst_vars; kernel_rfl),⟨QF_at (i:=22) (d:=39) (x:=.lf (.ep (.slice Au0_0 (u0_0.length) cu0_0) 11 ((x15).toNat) 0)) (show OpAt _ _ _ 22 39 _ from by exact At_idxR (d:=39) (z:=x15) (by subst_vars; kernel_rfl) g16 hu0_0) (by kernel_rfl) (by subst_vars; kernel_rfl),⟨QF_at (i:=24) (d:=41) (x:=vi x17) (show OpAt _ _ _ 24 41 _ from by rw [e_x17]; exact At_ldR1 (d:=41) (q:=(x15).toNat) (j:=0) (by subst_vars; kernel_rfl) rfl (toNat_lt g16) hu0_0) (by kernel_rfl) (by subst_vars; kernel_rfl),⟨QF_at (i:=27) (d:=44) (x:=.lf (.ep (.slice Au0_0 (u0_0.length) cu0_0) 11 0 0)) (show OpAt _ _ _ 27 44 _ from by exact At_idxR (d:=44) (z:=(0 : Int)) (by subst_vars; kernel_rfl) g18 hu0_0) (by kernel_rfl) (by subst_vars; kernel_rfl),⟨QF_at (i:=29) (d:=46) (x:=vi x19) (show OpAt _ _ _ 29 46 _ from by rw [e_x19]; exact At_ldR1 (d:=46) (q:=0) (j:=0) (by subst_vars; kernel_rfl) rfl (toNat_lt g18) hu0_0) (by kernel_rfl) (by subst_vars; kernel_rfl),⟨QF_at (i:=31) (d:=48) (x:=vb true) (show OpAt _ _ _ 31 48 _ from by exact At_bin (d:=48) (b:=.gtr) (u:=.int .i64 x20) (v:=.int .i64 (120 : Int)) (w':=.bool true) (by subst_vars; kernel_rfl) (by rw [show exBin .gtr (.int .i64 x20) (.int .i64 (120 : Int)) = some (.bool (decide (x20 > (120 : Int)))) from by kernel_rfl,← e_b21])) (by kernel_rfl) (by subst_vars; kernel_rfl),⟨QF_at (i:=38) (d:=55) (x:=.lf (.ep (.slice Au0_0 (u0_0.length) cu0_0) 11 ((x22).toNat) 0)) (show OpAt _ _ _ 38 55 _ from by exact At_idxR (d:=55) (z:=x22) (by subst_vars; kernel_rfl) g23 hu0_0) (by kernel_rfl) (by subst_vars; kernel_rfl),⟨QF_at (i:=40) (d:=57) (x:=vi x24) (show OpAt _ _ _ 40 57 _ from by rw [e_x24]; exact At_ldR1 (d:=57) (q:=(x22).toNat) (j:=0) (by subst_vars; kernel_rfl) rfl (toNat_lt g23) hu0_0) (by kernel_rfl) (by subst_vars; kernel_rfl),⟨QF_at (i:=43) (d:=60) (x:=.lf (.ep (.slice Au0_0 (u0_0.length) cu0_0) 11 0 0)) (show OpAt _ _ _ 43 60 _ from by exact At_idxR (d:=60) (z:=(0 : Int)) (by subst_vars; kernel_rfl) g25 hu0_0) (by kernel_rfl) (by subst_vars; kernel_rfl),⟨QF_at (i:=45) (d:=62) (x:=vi x26) (show OpAt _ _ _ 45 62 _ from by rw [e_x26]; exact At_ldR1 (d:=62) (q:=0) (j:=0) (by subst_vars; kernel_rfl) rfl (toNat_lt g25) hu0_0) (by kernel_rfl) (by subst_vars; kernel_rfl),trivial⟩⟩⟩⟩⟩⟩⟩⟩⟩⟩⟩⟩⟩⟩⟩) ?_
       refine thenQ_n ?_
       exact ⟨b28,keep_sub (ts:=[2]) (hs:=[]) (vs:=[]) (by subst_vars;kernel_rfl),h⟩
      | false =>
       replace h := sp_f h
       refine T_draw' (id:=4) [] [0,0,0,0,0,0,0,0,0,0,0,0,0,0,0,0,0,0,0,0,0,0,0,0,0,0,0,0,0,0,0,0,0,0,0,0,0,0,0,0,0,0,0,0,0,0,0,0,0,0] (by kernel_rfl) (by kernel_rfl) (by kernel_rfl) (by kernel_rfl) ((17,vi (u0_0.length : Int))::(18,vb true)::(19,vb true)::(20,.lf (.own 1 0))::(21,.lf (.v (.slice Au0_0 (u0_0.length) cu0_0)))::(22,vi (u0_0.length : Int))::(23,vi x9)::(24,.lf (.ep (.slice Au0_0 (u0_0.length) cu0_0) 11 ((x9).toNat) 0))::(25,.lf (.ep (.slice Au0_0 (u0_0.length) cu0_0) 11 ((x9).toNat) 0))::(26,vi x11)::(27,.lf (.own 1 0))::(28,.lf (.v (.slice Au0_0 (u0_0.length) cu0_0)))::(29,.lf (.ep (.slice Au0_0 (u0_0.length) cu0_0) 11 0 0))::(30,.lf (.ep (.slice Au0_0 (u0_0.length) cu0_0) 11 0 0))::(31,vi x13)::(32,vb true)::(33,vb true)::(34,vb true)::(35,.lf (.own 1 0))::(36,.lf (.v (.slice Au0_0 (u0_0.length) cu0_0)))::(37,vi (u0_0.length : Int))::(38,vi x15)::(39,.lf (.ep (.slice Au0_0 (u0_0.length) cu0_0) 11 ((x15).toNat) 0))::(40,.lf (.ep (.slice Au0_0 (u0_0.length) cu0_0) 11 ((x15).toNat) 0))::(41,vi x17)::(42,.lf (.own 1 0))::(43,.lf (.v (.slice Au0_0 (u0_0.length) cu0_0)))::(44,.lf (.ep (.slice Au0_0 (u0_0.length) cu0_0) 11 0 0))::(45,.lf (.ep (.slice Au0_0 (u0_0.length) cu0_0) 11 0 0))::(46,vi x19)::(47,vi x20)::(48,vb false)::(49,vb false)::(50,vb false)::(51,.tup [])::(52,.tup [])::(53,.tup [])::(54,.tup [])::(55,.tup [])::(56,.tup [])::(57,.tup [])::(58,.tup [])::(59,.tup [])::(60,.tup [])::(61,.tup [])::(62,.tup [])::(63,.tup [])::(64,.tup [])::(65,vb false)::(2,vb false)::[]) (by kernel_rfl) ⟨trivial,⟨trivial,⟨trivial,⟨trivial,⟨trivial,⟨trivial,⟨trivial,⟨trivial,⟨trivial,⟨trivial,⟨trivial,⟨trivial,⟨trivial,⟨trivial,⟨trivial,⟨trivial,⟨trivial,⟨trivial,⟨trivial,⟨trivial,⟨trivial,⟨trivial,⟨trivial,⟨trivial,⟨trivial,⟨trivial,⟨trivial,⟨trivial,⟨trivial,⟨trivial,⟨trivial,⟨trivial,⟨trivial,⟨trivial,⟨(by intro y hy;cases hy),⟨(by intro y hy;cases hy),⟨(by intro y hy;cases hy),⟨(by intro y hy;cases hy),⟨(by intro y hy;cases hy),⟨(by intro y hy;cases hy),⟨(by intro y hy;cases hy),⟨(by intro y hy;cases hy),⟨(by intro y hy;cases hy),⟨(by intro y hy;cases hy),⟨(by intro y hy;cases hy),⟨(by intro y hy;cases hy),⟨(by intro y hy;cases hy),⟨(by intro y hy;cases hy),⟨trivial,⟨trivial,trivial⟩⟩⟩⟩⟩⟩⟩⟩⟩⟩⟩⟩⟩⟩⟩⟩⟩⟩⟩⟩⟩⟩⟩⟩⟩⟩⟩⟩⟩⟩⟩⟩⟩⟩⟩⟩⟩⟩⟩⟩⟩⟩⟩⟩⟩⟩⟩⟩⟩⟩ ?_
       refine Stage_nil (stage_all' [0,2,3,4,5,6,8,10,11,13,16,17,18,19,20,21,23,25,26,28,30,32,33,34,35,36,37,38,39,40,41,42,43,44,45,46,47,48,49] [1,7,9,12,14,15,22,24,27,29,31] (by kernel_rfl) (by subst_vars; kernel_rfl) (by kernel_rfl) ⟨QF_at (i:=1) (d:=18) (x:=vb true) (show OpAt _ _ _ 1 18 _ from by exact At_bin (d:=18) (b:=.gtr) (u:=.int .i64 (u0_0.length : Int)) (v:=.int .i64 (1 : Int)) (w':=.bool true) (by subst_vars; kernel_rfl) (by rw [show exBin .gtr (.int .i64 (u0_0.length : Int)) (.int .i64 (1 : Int)) = some (.bool (decide ((u0_0.length : Int) > (1 : Int)))) from by kernel_rfl,← e_b8])) (by kernel_rfl) (by subst_vars; kernel_rfl),⟨QF_at (i:=7) (d:=24) (x:=.lf (.ep (.slice Au0_0 (u0_0.length) cu0_0) 11 ((x9).toNat) 0)) (show OpAt _ _ _ 7 24 _ from by exact At_idxR (d:=24) (z:=x9) (by subst_vars; kernel_rfl) g10 hu0_0) (by kernel_rfl) (by subst_vars; kernel_rfl),⟨QF_at (i:=9) (d:=26) (x:=vi x11) (show OpAt _ _ _ 9 26 _ from by rw [e_x11]; exact At_ldR1 (d:=26) (q:=(x9).toNat) (j:=0) (by subst_vars; kernel_rfl) rfl (toNat_lt g10) hu0_0) (by kernel_rfl) (by subst_vars; kernel_rfl),⟨QF_at (i:=12) (d:=29) (x:=.lf (.ep (.slice Au0_0 (u0_0.length) cu0_0) 11 0 0)) (show OpAt _ _ _ 12 29 _ from by exact At_idxR (d:=29) (z:=(0 : Int)) (by subst_vars; kernel_rfl) g12 hu0_0) (by kernel_rfl) (by subst_vars; kernel_rfl),⟨QF_at (i:=14) (d:=31) (x:=vi x13) (show OpAt _ _ _ 14 31 _ from by rw [e_x13]; exact At_ldR1 (d:=31) (q:=0) (j:=0) (by subst_vars; kernel_rfl) rfl (toNat_lt g12) hu0_0) (by kernel_rfl) (by subst_vars; kernel_rfl),⟨QF_at (i:=15) (d:=32) (x:=vb true) (show OpAt _ _ _ 15 32 _ from by exact At_bin (d:=32) (b:=.gtr) (u:=.int .i64 x11) (v:=.int .i64 x13) (w':=.bool true) (by subst_vars; kernel_rfl) (by rw [show exBin .gtr (.int .i64 x11) (.int .i64 x13) = some (.bool (decide (x11 > x13))) from by kernel_rfl,← e_b14])) (by kernel_rfl) (by subst_vars; kernel_rfl),⟨QF_at (i:=22) (d:=39) (x:=.lf (.ep (.slice Au0_0 (u0_0.length) cu0_0) 11 ((x15).toNat) 0)) (show OpAt _ _ _ 22 39 _ from by exact At_idxR (d:=39) (z:=x15) (by subst_vars; kernel_rfl) g16 hu0_0) (by kernel_rfl) (by subst_vars; kernel_rfl),⟨QF_at (i:=24) (d:=41) (x:=vi x17) (show OpAt _ _ _ 24 41 _ from by rw [e_x17]; exact At_ldR1 (d:=41) (q:=(x15).toNat) (j:=0) (by subst_vars; kernel_rfl) rfl (toNat_lt g16) hu0_0) (by kernel_rfl) (by subst_vars; kernel_rfl),⟨QF_at (i:=27) (d:=44) (x:=.lf (.ep (.slice Au0_0 (u0_0.length) cu0_0) 11 0 0)) (show OpAt _ _ _ 27 44 _ from by exact At_idxR (d:=44) (z:=(0 : Int)) (by subst_vars; kernel_rfl) g18 hu0_0) (by kernel_rfl) (by subst_vars; kernel_rfl),⟨QF_at (i:=29) (d:=46) (x:=vi x19) (show OpAt _ _ _ 29 46 _ from by rw [e_x19]; exact At_ldR1 (d:=46) (q:=0) (j:=0) (by subst_vars; kernel_rfl) rfl (toNat_lt g18) hu0_0) (by kernel_rfl) (by subst_vars; kernel_rfl),⟨QF_at (i:=31) (d:=48) (x:=vb false) (show OpAt _ _ _ 31 48 _ from by exact At_bin (d:=48) (b:=.gtr) (u:=.int .i64 x20) (v:=.int .i64 (120 : Int)) (w':=.bool false) (by subst_vars; kernel_rfl) (by rw [show exBin .gtr (.int .i64 x20) (.int .i64 (120 : Int)) = some (.bool (decide (x20 > (120 : Int)))) from by kernel_rfl,← e_b21])) (by kernel_rfl) (by subst_vars; kernel_rfl),trivial⟩⟩⟩⟩⟩⟩⟩⟩⟩⟩⟩) ?_
       refine thenQ_n ?_
       exact ⟨false,keep_sub (ts:=[2]) (hs:=[]) (vs:=[]) (by subst_vars;kernel_rfl),h⟩
     | false =>
      replace h := sp_f h
      refine T_draw' (id:=4) [] [0,0,0,0,0,0,0,0,0,0,0,0,0,0,0,0,0,0,0,0,0,0,0,0,0,0,0,0,0,0,0,0,0,0,0,0,0,0,0,0,0,0,0,0,0,0,0,0,0,0] (by kernel_rfl) (by kernel_rfl) (by kernel_rfl) (by kernel_rfl) ((17,vi (u0_0.length : Int))::(18,vb true)::(19,vb true)::(20,.lf (.own 1 0))::(21,.lf (.v (.slice Au0_0 (u0_0.length) cu0_0)))::(22,vi (u0_0.length : Int))::(23,vi x9)::(24,.lf (.ep (.slice Au0_0 (u0_0.length) cu0_0) 11 ((x9).toNat) 0))::(25,.lf (.ep (.slice Au0_0 (u0_0.length) cu0_0) 11 ((x9).toNat) 0))::(26,vi x11)::(27,.lf (.own 1 0))::(28,.lf (.v (.slice Au0_0 (u0_0.length) cu0_0)))::(29,.lf (.ep (.slice Au0_0 (u0_0.length) cu0_0) 11 0 0))::(30,.lf (.ep (.slice Au0_0 (u0_0.length) cu0_0) 11 0 0))::(31,vi x13)::(32,vb false)::(33,vb false)::(34,vb false)::(35,.tup [])::(36,.tup [])::(37,.tup [])::(38,.tup [])::(39,.tup [])::(40,.tup [])::(41,.tup [])::(42,.tup [])::(43,.tup [])::(44,.tup [])::(45,.tup [])::(46,.tup [])::(47,.tup [])::(48,.tup [])::(49,vb false)::(50,vb false)::(51,.tup [])::(52,.tup [])::(53,.tup [])::(54,.tup [])::(55,.tup [])::(56,.tup [])::(57,.tup [])::(58,.tup [])::(59,.tup [])::(60,.tup [])::(61,.tup [])::(62,.tup [])::(63,.tup [])::(64,.tup [])::(65,vb false)::(2,vb false)::[]) (by kernel_rfl) ⟨trivial,⟨trivial,⟨trivial,⟨trivial,⟨trivial,⟨trivial,⟨trivial,⟨trivial,⟨trivial,⟨trivial,⟨trivial,⟨trivial,⟨trivial,⟨trivial,⟨trivial,⟨trivial,⟨trivial,⟨trivial,⟨(by intro y hy;cases hy),⟨(by intro y hy;cases hy),⟨(by intro y hy;cases hy),⟨(by intro y hy;cases hy),⟨(by intro y hy;cases hy),⟨(by intro y hy;cases hy),⟨(by intro y hy;cases hy),⟨(by intro y hy;cases hy),⟨(by intro y hy;cases hy),⟨(by intro y hy;cases hy),⟨(by intro y hy;cases hy),⟨(by intro y hy;cases hy),⟨(by intro y hy;cases hy),⟨(by intro y hy;cases hy),⟨trivial,⟨trivial,⟨(by intro y hy;cases hy),⟨(by intro y hy;cases hy),⟨(by intro y hy;cases hy),⟨(by intro y hy;cases hy),⟨(by intro y hy;cases hy),⟨(by intro y hy;cases hy),⟨(by intro y hy;cases hy),⟨(by intro y hy;cases hy),⟨(by intro y hy;cases hy),⟨(by intro y hy;cases hy),⟨(by intro y hy;cases hy),⟨(by intro y hy;cases hy),⟨(by intro y hy;cases hy),⟨(by intro y hy;cases hy),⟨trivial,⟨trivial,trivial⟩⟩⟩⟩⟩⟩⟩⟩⟩⟩⟩⟩⟩⟩⟩⟩⟩⟩⟩⟩⟩⟩⟩⟩⟩⟩⟩⟩⟩⟩⟩⟩⟩⟩⟩⟩⟩⟩⟩⟩⟩⟩⟩⟩⟩⟩⟩⟩⟩⟩ ?_
      refine Stage_nil (stage_all' [0,2,3,4,5,6,8,10,11,13,16,17,18,19,20,21,22,23,24,25,26,27,28,29,30,31,32,33,34,35,36,37,38,39,40,41,42,43,44,45,46,47,48,49] [1,7,9,12,14,15] (by kernel_rfl) (by subst_vars; kernel_rfl) (by kernel_rfl) ⟨QF_at (i:=1) (d:=18) (x:=vb true) (show OpAt _ _ _ 1 18 _ from by exact At_bin (d:=18) (b:=.gtr) (u:=.int .i64 (u0_0.length : Int)) (v:=.int .i64 (1 : Int)) (w':=.bool true) (by subst_vars; kernel_rfl) (by rw [show exBin .gtr (.int .i64 (u0_0.length : Int)) (.int .i64 (1 : Int)) = some (.bool (decide ((u0_0.length : Int) > (1 : Int)))) from by kernel_rfl,← e_b8])) (by kernel_rfl) (by subst_vars; kernel_rfl),⟨QF_at (i:=7) (d:=24) (x:=.lf (.ep (.slice Au0_0 (u0_0.length) cu0_0) 11 ((x9).toNat) 0)) (show OpAt _ _ _ 7 24 _ from by exact At_idxR (d:=24) (z:=x9) (by subst_vars; kernel_rfl) g10 hu0_0) (by kernel_rfl) (by subst_vars; kernel_rfl),⟨QF_at (i:=9) (d:=26) (x:=vi x11) (show OpAt _ _ _ 9 26 _ from by rw [e_x11]; exact At_ldR1 (d:=26) (q:=(x9).toNat) (j:=0) (by subst_vars; kernel_rfl) rfl (toNat_lt g10) hu0_0) (by kernel_rfl) (by subst_vars; kernel_rfl),⟨QF_at (i:=12) (d:=29) (x:=.lf (.ep (.slice Au0_0 (u0_0.length) cu0_0) 11 0 0)) (show OpAt _ _ _ 12 29 _ from by exact At_idxR (d:=29) (z:=(0 : Int)) (by subst_vars; kernel_rfl) g12 hu0_0) (by kernel_rfl) (by subst_vars; kernel_rfl),⟨QF_at (i:=14) (d:=31) (x:=vi x13) (show OpAt _ _ _ 14 31 _ from by rw [e_x13]; exact At_ldR1 (d:=31) (q:=0) (j:=0) (by subst_vars; kernel_rfl) rfl (toNat_lt g12) hu0_0) (by kernel_rfl) (by subst_vars; kernel_rfl),⟨QF_at (i:=15) (d:=32) (x:=vb false) (show OpAt _ _ _ 15 32 _ from by exact At_bin (d:=32) (b:=.gtr) (u:=.int .i64 x11) (v:=.int .i64 x13) (w':=.bool false) (by subst_vars; kernel_rfl) (by rw [show exBin .gtr (.int .i64 x11) (.int .i64 x13) = some (.bool (decide (x11 > x13))) from by kernel_rfl,← e_b14])) (by kernel_rfl) (by subst_vars; kernel_rfl),trivial⟩⟩⟩⟩⟩⟩) ?_
      refine thenQ_n ?_
      exact ⟨false,keep_sub (ts:=[2]) (hs:=[]) (vs:=[]) (by subst_vars;kernel_rfl),h⟩
    | false =>
     replace h := sp_f h
     refine T_draw' (id:=4) [] [0,0,0,0,0,0,0,0,0,0,0,0,0,0,0,0,0,0,0,0,0,0,0,0,0,0,0,0,0,0,0,0,0,0,0,0,0,0,0,0,0,0,0,0,0,0,0,0,0,0] (by kernel_rfl) (by kernel_rfl) (by kernel_rfl) (by kernel_rfl) ((17,vi (u0_0.length : Int))::(18,vb false)::(19,vb false)::(20,.tup [])::(21,.tup [])::(22,.tup [])::(23,.tup [])::(24,.tup [])::(25,.tup [])::(26,.tup [])::(27,.tup [])::(28,.tup [])::(29,.tup [])::(30,.tup [])::(31,.tup [])::(32,.tup [])::(33,vb false)::(34,vb false)::(35,.tup [])::(36,.tup [])::(37,.tup [])::(38,.tup [])::(39,.tup [])::(40,.tup [])::(41,.tup [])::(42,.tup [])::(43,.tup [])::(44,.tup [])::(45,.tup [])::(46,.tup [])::(47,.tup [])::(48,.tup [])::(49,vb false)::(50,vb false)::(51,.tup [])::(52,.tup [])::(53,.tup [])::(54,.tup [])::(55,.tup [])::(56,.tup [])::(57,.tup [])::(58,.tup [])::(59,.tup [])::(60,.tup [])::(61,.tup [])::(62,.tup [])::(63,.tup [])::(64,.tup [])::(65,vb false)::(2,vb false)::[]) (by kernel_rfl) ⟨trivial,⟨trivial,⟨trivial,⟨(by intro y hy;cases hy),⟨(by intro y hy;cases hy),⟨(by intro y hy;cases hy),⟨(by intro y hy;cases hy),⟨(by intro y hy;cases hy),⟨(by intro y hy;cases hy),⟨(by intro y hy;cases hy),⟨(by intro y hy;cases hy),⟨(by intro y hy;cases hy),⟨(by intro y hy;cases hy),⟨(by intro y hy;cases hy),⟨(by intro y hy;cases hy),⟨(by intro y hy;cases hy),⟨trivial,⟨trivial,⟨(by intro y hy;cases hy),⟨(by intro y hy;cases hy),⟨(by intro y hy;cases hy),⟨(by intro y hy;cases hy),⟨(by intro y hy;cases hy),⟨(by intro y hy;cases hy),⟨(by intro y hy;cases hy),⟨(by intro y hy;cases hy),⟨(by intro y hy;cases hy),⟨(by intro y hy;cases hy),⟨(by intro y hy;cases hy),⟨(by intro y hy;cases hy),⟨(by intro y hy;cases hy),⟨(by intro y hy;cases hy),⟨trivial,⟨trivial,⟨(by intro y hy;cases hy),⟨(by intro y hy;cases hy),⟨(by intro y hy;cases hy),⟨(by intro y hy;cases hy),⟨(by intro y hy;cases hy),⟨(by intro y hy;cases hy),⟨(by intro y hy;cases hy),⟨(by intro y hy;cases hy),⟨(by intro y hy;cases hy),⟨(by intro y hy;cases hy),⟨(by intro y hy;cases hy),⟨(by intro y hy;cases hy),⟨(by intro y hy;cases hy),⟨(by intro y hy;cases hy),⟨trivial,⟨trivial,trivial⟩⟩⟩⟩⟩⟩⟩⟩⟩⟩⟩⟩⟩⟩⟩⟩⟩⟩⟩⟩⟩⟩⟩⟩⟩⟩⟩⟩⟩⟩⟩⟩⟩⟩⟩⟩⟩⟩⟩⟩⟩⟩⟩⟩⟩⟩⟩⟩⟩⟩ ?_
     refine Stage_nil (stage_all' [0,2,3,4,5,6,7,8,9,10,11,12,13,14,15,16,17,18,19,20,21,22,23,24,25,26,27,28,29,30,31,32,33,34,35,36,37,38,39,40,41,42,43,44,45,46,47,48,49] [1] (by kernel_rfl) (by kernel_rfl) (by kernel_rfl) ⟨QF_at (i:=1) (d:=18) (x:=vb false) (show OpAt _ _ _ 1 18 _ from by exact At_bin (d:=18) (b:=.gtr) (u:=.int .i64 (u0_0.length : Int)) (v:=.int .i64 (1 : Int)) (w':=.bool false) (by kernel_rfl) (by rw [show exBin .gtr (.int .i64 (u0_0.length : Int)) (.int .i64 (1 : Int)) = some (.bool (decide ((u0_0.length : Int) > (1 : Int)))) from by kernel_rfl,← e_b8])) (by kernel_rfl) (by kernel_rfl),trivial⟩) ?_
     refine thenQ_n ?_
     exact ⟨false,keep_sub (ts:=[2]) (hs:=[]) (vs:=[]) (by kernel_rfl),h⟩
   ·rintro s' ⟨b6,hsub,h⟩
    subst e_j7
    refine T_sub hsub ?_
    refine T_ret (by kernel_rfl) ?_
    have h := Option.some.inj h
    subst h
    refine fin_ret (vb b6) (by kernel_rfl) (by kernel_rfl) rfl ?_
    rfl
def p69 (k : Nat) (u0 : Int) : Option Bool :=
 cl (p49 k u0 (0 : Int) (1048576 : Int)) fun v1 => some (!v1)
theorem hf69 : Try.prog.funcs[69]? = some Try.f69 := by kernel_rfl
theorem w69 (k : Nat) {M : Mem} {u0 : Int} {r} (h : p69 k u0 = some r) :
  Fn Try.prog 69 [rval (vi u0)] M (fun x _ => x = vb r) := by
 unfold p69 at h
 refine Fn_of (P:=Try.prog) (fn:=Try.f69) (c:=bodyOf Try.f69) [vi u0] hf69 (by kernel_rfl) (Nat.le_of_ble_eq_true (by kernel_rfl)) (args_ok (by kernel_rfl) ⟨trivial,trivial⟩) fun w => ?_
 change T _ _ _ (endQ _ _ _)
 refine T_seq (c1:=(sub [0] Bd69)) (c2:=(sub [1] Bd69)) (by kernel_rfl) ?_
 refine T_region (id:=0) (by kernel_rfl) ?_
 refine TI_segK (i:=0) (j:=1) (s':={ σ := [(0,vi u0)],H := [],V := [],M := M,ds := [] }) [0] [] [] (by kernel_rfl) (by kernel_rfl) ?_
 refine TI_end (by kernel_rfl) ?_
 refine thenQ_n ?_
 refine T_seq (c1:=(sub [1,0] Bd69)) (c2:=(sub [1,1] Bd69)) (by kernel_rfl) ?_
 refine T_region (id:=1) (by kernel_rfl) ?_
 refine TI_segS (i:=0) (j:=1) [(3,vi u0)] (by kernel_rfl) (by kernel_rfl) ?_
 obtain ⟨v1,c_v1,h⟩ := cl_some h
 refine TI_at (i:=1) (d:=4) (x:=vb v1) (At_call (d:=4) (f:=49) (args:=[rval (vi u0),rval (vi (0 : Int)),rval (vi (1048576 : Int))]) (x:=vb v1) (by kernel_rfl) (w49 k  c_v1)) (by kernel_rfl) trivial ?_
 refine TI_segK (i:=2) (j:=4) (s':={ σ := [(2,vb (!v1))],H := [],V := [],M := M,ds := [] }) [2] [] [] (by kernel_rfl) (by kernel_rfl) ?_
 refine TI_end (by kernel_rfl) ?_
 refine thenQ_n ?_
 refine T_ret (by kernel_rfl) ?_
 have h := Option.some.inj h
 subst h
 refine fin_ret (vb (!v1)) (by kernel_rfl) (by kernel_rfl) rfl ?_
 rfl
def p71 (k : Nat) (u0 : List Int) : Option Bool :=
 cl (p61 k u0) fun v1 => some (!v1)
theorem hf71 : Try.prog.funcs[71]? = some Try.f71 := by kernel_rfl
theorem w71 (k : Nat) {M : Mem} {u0 : List Int} (hu0 : u0.length = 2) {r} (h : p71 k u0 = some r) :
  Fn Try.prog 71 [rval (.agg [.arr .i64 2 u0])] M (fun x _ => x = vb r) := by
 unfold p71 at h
 refine Fn_of (P:=Try.prog) (fn:=Try.f71) (c:=bodyOf Try.f71) [.agg [.arr .i64 2 u0]] hf71 (by kernel_rfl) (Nat.le_of_ble_eq_true (by kernel_rfl)) (args_ok (by kernel_rfl) ⟨⟨hu0,trivial⟩,trivial⟩) fun w => ?_
 change T _ _ _ (endQ _ _ _)
 refine T_seq (c1:=(sub [0] Bd71)) (c2:=(sub [1] Bd71)) (by kernel_rfl) ?_
 refine T_region (id:=0) (by kernel_rfl) ?_
 refine TI_segK (i:=0) (j:=2) (s':={ σ := [(1,.lf (.own 1 0))],H := [(1,[.arr .i64 2 u0])],V := [],M := M,ds := [] }) [1] [1] [] (by kernel_rfl) (by kernel_rfl) ?_
 refine TI_end (by kernel_rfl) ?_
 refine thenQ_n ?_
 refine T_seq (c1:=(sub [1,0] Bd71)) (c2:=(sub [1,1] Bd71)) (by kernel_rfl) ?_
 refine T_region (id:=1) (by kernel_rfl) ?_
 refine TI_segK (i:=0) (j:=1) (s':={ σ := [(3,.agg [.arr .i64 2 u0])],H := [],V := [],M := M,ds := [] }) [3] [] [] (by kernel_rfl) (by kernel_rfl) ?_
 obtain ⟨v1,c_v1,h⟩ := cl_some h
 refine TI_at (i:=1) (d:=4) (x:=vb v1) (At_call (d:=4) (f:=61) (args:=[rval (.agg [.arr .i64 2 u0])]) (x:=vb v1) (by kernel_rfl) (w61 k hu0 c_v1)) (by kernel_rfl) trivial ?_
 refine TI_segK (i:=2) (j:=4) (s':={ σ := [(2,vb (!v1))],H := [],V := [],M := M,ds := [] }) [2] [] [] (by kernel_rfl) (by kernel_rfl) ?_
 refine TI_end (by kernel_rfl) ?_
 refine thenQ_n ?_
 refine T_ret (by kernel_rfl) ?_
 have h := Option.some.inj h
 subst h
 refine fin_ret (vb (!v1)) (by kernel_rfl) (by kernel_rfl) rfl ?_
 rfl
end Go.Proofs.Ythjkejbgknemgaa
namespace Go.Proofs.Ythjkejbgknemgaa
open Go.RowKit
def p83_l1 (k : Nat) (j6 : List Int → Option (List Int)) (P4 : List (List Int)) : Nat → Int → List Int → Option (List Int)
 | 0,_,_ => none
 | n9 + 1,x7,L8 => lt' (decide (x7 < (P4.length : Int))) fun b10 => sp b10 (gd ((0 : Int) ≤ x7 ∧ x7 < (P4.length : Int)) <| lt' (List.getD P4 ((x7).toNat) []) fun L12 => lt' (List.getD L8 0 0) fun x13 => lt' (List.getD L12 0 0) fun x14 => lt' (mx x13 x14) fun x15 => lt' (List.getD L8 1 0) fun x16 => lt' (List.getD L12 1 0) fun x17 => lt' (mn x16 x17) fun x18 => lt' (List.set L8 0 x15) fun L19 => lt' (List.set L19 1 x18) fun L20 => lt' (wr .i64 (x7 + (1 : Int))) fun x21 => p83_l1 k j6 P4 n9 x21 L20) (j6 L8)
def p83 (k : Nat) (u0 : List (List Int)) : Option (List Int) :=
 gd ((0 : Int) ≤ (0 : Int) ∧ (0 : Int) < (u0.length : Int)) <| lt' (List.getD u0 0 []) fun L2 => gd ((0 : Int) ≤ (1 : Int) ∧ (0 : Int) ≤ (0 : Int) ∧ ((1 : Int)).toNat ≤ List.length u0 ∧ List.length u0 ≤ List.length u0) <| lt' (part u0 (((1 : Int)).toNat) (u0.length)) fun P4 => jn (fun (L5 : List Int) => some L5) fun j6 => p83_l1 k j6 P4 k (0 : Int) L2
theorem hf83 : Try.prog.funcs[83]? = some Try.f83 := by kernel_rfl
theorem w83 (k : Nat) {M : Mem} {Au0 : Option Addr} {cu0 : Nat} {u0 : List (List Int)} (hu0 : SlR M Au0 cu0 .i64 2 u0) {r} (h : p83 k u0 = some r) :
  Fn Try.prog 83 [rval (.lf (.v (.slice Au0 (u0.length) cu0)))] M (fun x _ => x = .agg [.arr .i64 2 r]) := by
 unfold p83 at h
 refine Fn_of (P:=Try.prog) (fn:=Try.f83) (c:=bodyOf Try.f83) [.lf (.v (.slice Au0 (u0.length) cu0))] hf83 (by kernel_rfl) (Nat.le_of_ble_eq_true (by kernel_rfl)) (args_ok (by kernel_rfl) ⟨trivial,trivial⟩) fun w => ?_
 change T _ _ _ (endQ _ _ _)
 refine T_seq (c1:=(sub [0] Bd83)) (c2:=(sub [1] Bd83)) (by kernel_rfl) ?_
 refine T_region (id:=0) (by kernel_rfl) ?_
 refine TI_segK (i:=0) (j:=1) (s':={ σ := [(0,.lf (.v (.slice Au0 (u0.length) cu0))),(2,.lf (.own 2 0))],H := [(2,[.arr .i64 2 [(0 : Int),(0 : Int)]])],V := [],M := M,ds := [] }) [0,2] [2] [] (by kernel_rfl) (by kernel_rfl) ?_
 refine TI_end (by kernel_rfl) ?_
 refine thenQ_n ?_
 refine T_seq (c1:=(sub [1,0] Bd83)) (c2:=(sub [1,1] Bd83)) (by kernel_rfl) ?_
 refine T_region (id:=1) (by kernel_rfl) ?_
 refine TI_segS (i:=0) (j:=1) [(0,.lf (.v (.slice Au0 (u0.length) cu0))),(2,.lf (.own 2 0)),(6,.lf (.v (.slice Au0 (u0.length) cu0)))] (by kernel_rfl) (by kernel_rfl) ?_
 obtain ⟨g1,h⟩ := gd_some h
 refine TI_at (i:=1) (d:=7) (x:=.lf (.ep (.slice Au0 (u0.length) cu0) 2 0 0)) (by exact At_idxR (d:=7) (z:=(0 : Int)) (by kernel_rfl) g1 hu0) (by kernel_rfl) trivial ?_
 obtain ⟨L2,e_L2,h⟩ := lt_some h
 have l_L2 : (L2).length = 2 := by rw [e_L2]; exact SlR_row hu0 (toNat_lt g1)
 refine TI_at (i:=2) (d:=8) (x:=.agg [.arr .i64 2 L2]) (by rw [e_L2]; exact At_ldRow (d:=8) (q:=0) (by subst e_L2; kernel_rfl) (toNat_lt g1) hu0) (by kernel_rfl) ⟨l_L2,trivial⟩ ?_
 refine TI_segK (i:=3) (j:=5) (s':={ σ := [(0,.lf (.v (.slice Au0 (u0.length) cu0))),(2,.lf (.own 2 0)),(3,.lf (.own 3 0))],H := [(2,[.arr .i64 2 [(0 : Int),(0 : Int)]]),(3,[.arr .i64 2 L2])],V := [],M := M,ds := [] }) [0,2,3] [2,3] [] (by kernel_rfl) (by kernel_rfl) ?_
 refine TI_end (by kernel_rfl) ?_
 refine thenQ_n ?_
 refine T_seq (c1:=(sub [1,1,0] Bd83)) (c2:=(sub [1,1,1] Bd83)) (by kernel_rfl) ?_
 refine T_seq (c1:=(sub [1,1,0,0] Bd83)) (c2:=(sub [1,1,0,1] Bd83)) (by kernel_rfl) ?_
 refine T_region (id:=2) (by kernel_rfl) ?_
 refine TI_segS (i:=0) (j:=1) [(2,.lf (.own 2 0)),(3,.lf (.own 3 0)),(9,.lf (.v (.slice Au0 (u0.length) cu0)))] (by kernel_rfl) (by kernel_rfl) ?_
 obtain ⟨g3,h⟩ := gd_some h
 obtain ⟨P4,e_P4,h⟩ := lt_some h
 refine TI_at (i:=1) (d:=10) (x:=.lf (.v (.slice (cutA Au0 cu0 (((1 : Int)).toNat) 2) (P4.length) (cu0 - ((1 : Int)).toNat)))) (by exact At_slR (d:=10) (a:=(some (1 : Int))) (b:=none) (P:=P4) (by subst e_P4;kernel_rfl) hu0 (some_nn g3.1) none_nn g3.2.2.1 g3.2.2.2 e_P4) (by kernel_rfl) trivial ?_
 refine TI_segK (i:=2) (j:=4) (s':={ σ := [(2,.lf (.own 2 0)),(3,.lf (.own 3 0)),(10,.lf (.v (.slice (cutA Au0 cu0 (((1 : Int)).toNat) 2) (P4.length) (cu0 - ((1 : Int)).toNat)))),(11,vi (P4.length : Int)),(12,vi (0 : Int))],H := [(2,[.arr .i64 2 [(0 : Int),(0 : Int)]]),(3,[.arr .i64 2 L2])],V := [],M := M,ds := [] }) [2,3,10,11,12] [2,3] [] (by kernel_rfl) (by kernel_rfl) ?_
 refine TI_end (by kernel_rfl) ?_
 refine thenQ_n ?_
 obtain ⟨j6,e_j6,h⟩ := jn_some h
 refine T_bcut (id:=0) (c1:=(sub [1,1,0,1,0] Bd83)) (fun s' => ∃ (L5 : List Int),Sub { σ := [(2,.lf (.own 2 0)),(3,.lf (.own 3 0))],H := [(2,[.arr .i64 2 [(0 : Int),(0 : Int)]]),(3,[.arr .i64 2 L5])],V := [],M := M,ds := [] } s' ∧ (L5).length = 2 ∧ j6 L5 = some r) (by kernel_rfl) ?_ ?_
 ·refine T_loop (c1:=(sub [1,1,0,1,0,0] Bd83)) (by kernel_rfl) (fun n9 s' => ∃ (x7 : Int) (L8 : List Int),Sub { σ := [(2,.lf (.own 2 0)),(3,.lf (.own 3 0)),(10,.lf (.v (.slice (cutA Au0 cu0 (((1 : Int)).toNat) 2) (P4.length) (cu0 - ((1 : Int)).toNat)))),(11,vi (P4.length : Int)),(12,vi x7)],H := [(2,[.arr .i64 2 [(0 : Int),(0 : Int)]]),(3,[.arr .i64 2 L8])],V := [],M := M,ds := [] } s' ∧ (L8).length = 2 ∧ p83_l1 k j6 P4 n9 x7 L8 = some r) (k:=k) ⟨(0 : Int),L2,keep_sub (ts:=[2,3,10,11,12]) (hs:=[2,3]) (vs:=[]) (by kernel_rfl),l_L2,h⟩ ?_
  rintro n9 s' ⟨x7,L8,hsub,l_L8,h⟩
  cases n9 with
  | zero => rw [p83_l1] at h;cases h
  | succ n9 =>
   rw [p83_l1] at h
   refine T_sub hsub ?_
   refine T_seq (c1:=(sub [1,1,0,1,0,0,0] Bd83)) (c2:=(sub [1,1,0,1,0,0,1] Bd83)) (by kernel_rfl) ?_
   refine T_region (id:=3) (by kernel_rfl) ?_
   obtain ⟨b10,e_b10,h⟩ := lt_some h
   refine TI_segK (i:=0) (j:=1) (s':={ σ := [(2,.lf (.own 2 0)),(3,.lf (.own 3 0)),(10,.lf (.v (.slice (cutA Au0 cu0 (((1 : Int)).toNat) 2) (P4.length) (cu0 - ((1 : Int)).toNat)))),(11,vi (P4.length : Int)),(12,vi x7),(13,vb b10)],H := [(2,[.arr .i64 2 [(0 : Int),(0 : Int)]]),(3,[.arr .i64 2 L8])],V := [],M := M,ds := [] }) [2,3,10,11,12,13] [2,3] [] (by subst e_b10;kernel_rfl) (by kernel_rfl) ?_
   refine TI_end (by kernel_rfl) ?_
   refine thenQ_n ?_
   refine T_seq (c1:=(sub [1,1,0,1,0,0,1,0] Bd83)) (c2:=(sub [1,1,0,1,0,0,1,1] Bd83)) (by kernel_rfl) ?_
   cases b10 with
   | true =>
    replace h := sp_t h
    refine T_condT (x:=(.tmp 13)) (c1:=(sub [1,1,0,1,0,0,1,0,0] Bd83)) (c2:=(sub [1,1,0,1,0,0,1,0,1] Bd83)) (by kernel_rfl) (by kernel_rfl) ?_
    refine T_keepS [(2,.lf (.own 2 0)),(3,.lf (.own 3 0)),(10,.lf (.v (.slice (cutA Au0 cu0 (((1 : Int)).toNat) 2) (P4.length) (cu0 - ((1 : Int)).toNat)))),(11,vi (P4.length : Int)),(12,vi x7)] (by kernel_rfl) ?_
    refine T_skip (by kernel_rfl) ?_
    refine thenQ_n ?_
    refine T_seq (c1:=(sub [1,1,0,1,0,0,1,1,0] Bd83)) (c2:=(sub [1,1,0,1,0,0,1,1,1] Bd83)) (by kernel_rfl) ?_
    refine T_block (id:=1) (c1:=(sub [1,1,0,1,0,0,1,1,0,0] Bd83)) (by kernel_rfl) ?_
    refine T_seq (c1:=(sub [1,1,0,1,0,0,1,1,0,0,0] Bd83)) (c2:=(sub [1,1,0,1,0,0,1,1,0,0,1] Bd83)) (by kernel_rfl) ?_
    refine T_region (id:=4) (by kernel_rfl) ?_
    obtain ⟨g11,h⟩ := gd_some h
    refine TI_at (i:=0) (d:=14) (x:=.lf (.ep (.slice (cutA Au0 cu0 (((1 : Int)).toNat) 2) (P4.length) (cu0 - ((1 : Int)).toNat)) 2 ((x7).toNat) 0)) (by exact At_idxR (d:=14) (z:=x7) (by kernel_rfl) g11 (SlR.part hu0 e_P4 g3.2.2.1 g3.2.2.2)) (by kernel_rfl) trivial ?_
    obtain ⟨L12,e_L12,h⟩ := lt_some h
    have l_L12 : (L12).length = 2 := by rw [e_L12]; exact SlR_row (SlR.part hu0 e_P4 g3.2.2.1 g3.2.2.2) (toNat_lt g11)
    refine TI_at (i:=1) (d:=15) (x:=.agg [.arr .i64 2 L12]) (by rw [e_L12]; exact At_ldRow (d:=15) (q:=(x7).toNat) (by subst e_L12; kernel_rfl) (toNat_lt g11) (SlR.part hu0 e_P4 g3.2.2.1 g3.2.2.2)) (by kernel_rfl) ⟨l_L12,trivial⟩ ?_
    refine TI_segK (i:=2) (j:=4) (s':={ σ := [(2,.lf (.own 2 0)),(3,.lf (.own 3 0)),(5,.lf (.own 5 0)),(10,.lf (.v (.slice (cutA Au0 cu0 (((1 : Int)).toNat) 2) (P4.length) (cu0 - ((1 : Int)).toNat)))),(11,vi (P4.length : Int)),(12,vi x7)],H := [(2,[.arr .i64 2 [(0 : Int),(0 : Int)]]),(3,[.arr .i64 2 L8]),(5,[.arr .i64 2 L12])],V := [],M := M,ds := [] }) [2,3,5,10,11,12] [2,3,5] [] (by kernel_rfl) (by kernel_rfl) ?_
    refine TI_end (by kernel_rfl) ?_
    refine thenQ_n ?_
    obtain ⟨x13,e_x13,h⟩ := lt_some h
    obtain ⟨x14,e_x14,h⟩ := lt_some h
    obtain ⟨x15,e_x15,h⟩ := lt_some h
    obtain ⟨x16,e_x16,h⟩ := lt_some h
    obtain ⟨x17,e_x17,h⟩ := lt_some h
    obtain ⟨x18,e_x18,h⟩ := lt_some h
    obtain ⟨L19,e_L19,h⟩ := lt_some h
    have l_L19 : (L19).length = 2 := by rw [e_L19]; exact (by rw [List.length_set]; exact l_L8)
    obtain ⟨L20,e_L20,h⟩ := lt_some h
    have l_L20 : (L20).length = 2 := by rw [e_L20]; exact (by rw [List.length_set]; exact l_L19)
    refine T_draw' (id:=5) [11,13] [0,0,0,0,0,0,0,0,0,0,0,0,1,0] (by kernel_rfl) (by kernel_rfl) (by kernel_rfl) (by kernel_rfl) [(16,.lf (.own 3 0)),(17,vi x13),(18,.lf (.own 5 0)),(19,vi x14),(20,vi x15),(21,.lf (.own 3 1)),(22,vi x16),(23,.lf (.own 5 1)),(24,vi x17),(25,vi x18),(26,.lf (.own 3 0))] (by kernel_rfl) (wfs_lf _ (by kernel_rfl)) ?_
    refine Stage_ex (stage_all' [0,1,2,3,4,5,6,7,8,9,10] [] (by kernel_rfl) (by subst_vars;kernel_rfl) (by kernel_rfl) trivial) ({ σ := [(16,.lf (.own 3 0)),(17,vi x13),(18,.lf (.own 5 0)),(19,vi x14),(20,vi x15),(21,.lf (.own 3 1)),(22,vi x16),(23,.lf (.own 5 1)),(24,vi x17),(25,vi x18),(26,.lf (.own 3 0)),(2,.lf (.own 2 0)),(3,.lf (.own 3 0)),(5,.lf (.own 5 0)),(10,.lf (.v (.slice (cutA Au0 cu0 (((1 : Int)).toNat) 2) (P4.length) (cu0 - ((1 : Int)).toNat)))),(11,vi (P4.length : Int)),(12,vi x7)],H := [(3,[.arr .i64 2 L19]),(2,[.arr .i64 2 [(0 : Int),(0 : Int)]]),(3,[.arr .i64 2 L8]),(5,[.arr .i64 2 L12])],V := [],M := M,ds := [] }) (by subst_vars;kernel_rfl) [(27,.lf (.own 3 1))] (by kernel_rfl) ⟨trivial,trivial⟩ ?_
    refine Stage_ex (stage_all' [7,8,9,12] [] (by kernel_rfl) (by subst_vars;kernel_rfl) (by kernel_rfl) trivial) ({ σ := [(27,.lf (.own 3 1)),(16,.lf (.own 3 0)),(17,vi x13),(18,.lf (.own 5 0)),(19,vi x14),(20,vi x15),(21,.lf (.own 3 1)),(22,vi x16),(23,.lf (.own 5 1)),(24,vi x17),(25,vi x18),(26,.lf (.own 3 0)),(2,.lf (.own 2 0)),(3,.lf (.own 3 0)),(5,.lf (.own 5 0)),(10,.lf (.v (.slice (cutA Au0 cu0 (((1 : Int)).toNat) 2) (P4.length) (cu0 - ((1 : Int)).toNat)))),(11,vi (P4.length : Int)),(12,vi x7)],H := [(3,[.arr .i64 2 L20]),(3,[.arr .i64 2 L19]),(2,[.arr .i64 2 [(0 : Int),(0 : Int)]]),(3,[.arr .i64 2 L8]),(5,[.arr .i64 2 L12])],V := [],M := M,ds := [] }) (by subst_vars;kernel_rfl) [] (by kernel_rfl) trivial ?_
    refine Stage_nil (stage_all' [] [] (by kernel_rfl) (by subst_vars;kernel_rfl) (by kernel_rfl) trivial) ?_
    refine blockQ_n ?_
    refine thenQ_n ?_
    refine T_keep (s':={ σ := [(2,.lf (.own 2 0)),(3,.lf (.own 3 0)),(10,.lf (.v (.slice (cutA Au0 cu0 (((1 : Int)).toNat) 2) (P4.length) (cu0 - ((1 : Int)).toNat)))),(11,vi (P4.length : Int)),(12,vi x7)],H := [(2,[.arr .i64 2 [(0 : Int),(0 : Int)]]),(3,[.arr .i64 2 L20])],V := [],M := M,ds := [] }) [2,3,10,11,12] [2,3] [] (by subst_vars;kernel_rfl) ?_
    refine T_region (id:=6) (by kernel_rfl) ?_
    obtain ⟨x21,e_x21,h⟩ := lt_some h
    refine TI_segS (i:=0) (j:=2) [(2,.lf (.own 2 0)),(3,.lf (.own 3 0)),(10,.lf (.v (.slice (cutA Au0 cu0 (((1 : Int)).toNat) 2) (P4.length) (cu0 - ((1 : Int)).toNat)))),(11,vi (P4.length : Int)),(12,vi x21)] (by subst e_x21;kernel_rfl) (by kernel_rfl) ?_
    refine TI_end (by kernel_rfl) ?_
    refine thenQ_n ?_
    exact ⟨n9,Nat.lt_succ_self _,x21,L20,keep_sub (ts:=[2,3,10,11,12]) (hs:=[2,3]) (vs:=[]) (by kernel_rfl),l_L20,h⟩
   | false =>
    replace h := sp_f h
    refine T_condF (x:=(.tmp 13)) (c1:=(sub [1,1,0,1,0,0,1,0,0] Bd83)) (c2:=(sub [1,1,0,1,0,0,1,0,1] Bd83)) (by kernel_rfl) (by kernel_rfl) ?_
    refine T_keepS [(2,.lf (.own 2 0)),(3,.lf (.own 3 0))] (by kernel_rfl) ?_
    refine T_exit (id:=0) (by kernel_rfl) ?_
    refine thenQ_x ?_
    refine thenQ_x ?_
    refine blockQ_x ?_
    refine thenQ_n ?_
    exact ⟨L8,keep_sub (ts:=[2,3]) (hs:=[2,3]) (vs:=[]) (by kernel_rfl),l_L8,h⟩
 ·rintro s' ⟨L5,hsub,l_L5,h⟩
  subst e_j6
  refine thenQ_n ?_
  refine T_sub hsub ?_
  refine T_seq (c1:=(sub [1,1,1,0] Bd83)) (c2:=(sub [1,1,1,1] Bd83)) (by kernel_rfl) ?_
  refine T_region (id:=7) (by kernel_rfl) ?_
  refine TI_segK (i:=0) (j:=2) (s':={ σ := [(2,.lf (.own 2 0))],H := [(2,[.arr .i64 2 L5])],V := [],M := M,ds := [] }) [2] [2] [] (by kernel_rfl) (by kernel_rfl) ?_
  refine TI_end (by kernel_rfl) ?_
  refine thenQ_n ?_
  refine T_ret (by kernel_rfl) ?_
  have h := Option.some.inj h
  subst h
  refine fin_ret (.agg [.arr .i64 2 L5]) (by kernel_rfl) (by kernel_rfl) rfl ?_
  rfl
def p64_l1 (k : Nat) (u0_0 : List (List Int)) (u0_1 : List Int) (u1 : List Int) (u2_0 : List Int) (u2_1 : List (List Int)) (j1 : Option Bool) : Nat → Int → Option Bool
 | 0,_ => none
 | n3 + 1,x2 => cl (p53 k u0_0 u0_1) fun v4 => lt' (decide (x2 < v4)) fun b5 => sp b5 (jn (fun (b6 : Bool) => sp b6 (some true) (lt' (wr .i64 (x2 + (1 : Int))) fun x30 => p64_l1 k u0_0 u0_1 u1 u2_0 u2_1 j1 n3 x30)) fun j7 => cl (p80 k u0_0 u0_1 u1 x2) fun v8 => sp v8 (gd ((0 : Int) ≤ x2 ∧ x2 < (u2_0.length : Int)) <| lt' (List.getD u2_0 ((x2).toNat) 0) fun x10 => lt' (List.getD u1 1 0) fun x11 => lt' (decide (x10 ≤ x11)) fun b12 => sp b12 (lt' (wr .i64 (x2 + (1 : Int))) fun x13 => gd ((0 : Int) ≤ x13 ∧ x13 < (u2_0.length : Int)) <| lt' (List.getD u2_0 ((x13).toNat) 0) fun x15 => lt' (List.getD u1 0 0) fun x16 => lt' (decide (x15 ≥ x16)) fun b17 => sp b17 (lt' (List.getD u1 2 0) fun x18 => gd ((0 : Int) ≤ x2 ∧ x2 < (u2_1.length : Int)) <| gd ((0 : Int) ≤ x18 ∧ x18 < ((4 : Nat) : Int)) <| lt' (List.getD (List.getD u2_1 ((x2).toNat) []) (0 + (x18).toNat * 1) 0) fun x21 => lt' (wr .i64 (x2 + (1 : Int))) fun x22 => lt' (List.getD u1 2 0) fun x23 => gd ((0 : Int) ≤ x22 ∧ x22 < (u2_1.length : Int)) <| gd ((0 : Int) ≤ x23 ∧ x23 < ((4 : Nat) : Int)) <| lt' (List.getD (List.getD u2_1 ((x22).toNat) []) (0 + (x23).toNat * 1) 0) fun x26 => lt' (mx x21 x26) fun x27 => lt' (List.getD u1 3 0) fun x28 => lt' (decide (x27 > x28)) fun b29 => j7 b29) (j7 false)) (j7 false)) (j7 false)) (j1)
def p64 (k : Nat) (u0_0 : List (List Int)) (u0_1 : List Int) (u1 : List Int) (u2_0 : List Int) (u2_1 : List (List Int)) : Option Bool :=
 jn (some false) fun j1 => p64_l1 k u0_0 u0_1 u1 u2_0 u2_1 j1 k (0 : Int)
theorem hf64 : Try.prog.funcs[64]? = some Try.f64 := by kernel_rfl
theorem w64 (k : Nat) {M : Mem} {Au0_0 : Option Addr} {cu0_0 : Nat} {Au2_0 : Option Addr} {cu2_0 : Nat} {Au2_1 : Option Addr} {cu2_1 : Nat} {u0_0 : List (List Int)} {u0_1 : List Int} {u1 : List Int} {u2_0 : List Int} {u2_1 : List (List Int)} (hu0_0 : SlR M Au0_0 cu0_0 .i64 11 u0_0) (hu0_1 : u0_1.length = 4) (hu1 : u1.length = 7) (hu2_0 : SlI M Au2_0 cu2_0 .i64 u2_0) (hu2_1 : SlR M Au2_1 cu2_1 .i64 4 u2_1) {r} (h : p64 k u0_0 u0_1 u1 u2_0 u2_1 = some r) :
  Fn Try.prog 64 [rval (.agg [.one (.v (.slice Au0_0 (u0_0.length) cu0_0)),.arr .i64 4 u0_1]),rval (.agg [.arr .i64 7 u1]),rval (.agg [.one (.v (.slice Au2_0 (u2_0.length) cu2_0)),.one (.v (.slice Au2_1 (u2_1.length) cu2_1))])] M (fun x _ => x = vb r) := by
 unfold p64 at h
 refine Fn_of (P:=Try.prog) (fn:=Try.f64) (c:=bodyOf Try.f64) [.agg [.one (.v (.slice Au0_0 (u0_0.length) cu0_0)),.arr .i64 4 u0_1],.agg [.arr .i64 7 u1],.agg [.one (.v (.slice Au2_0 (u2_0.length) cu2_0)),.one (.v (.slice Au2_1 (u2_1.length) cu2_1))]] hf64 (by kernel_rfl) (Nat.le_of_ble_eq_true (by kernel_rfl)) (args_ok (by kernel_rfl) ⟨⟨rfl,⟨hu0_1,trivial⟩⟩,⟨⟨hu1,trivial⟩,⟨⟨rfl,⟨rfl,trivial⟩⟩,trivial⟩⟩⟩) fun w => ?_
 change T _ _ _ (endQ _ _ _)
 refine T_seq (c1:=(sub [0] Bd64)) (c2:=(sub [1] Bd64)) (by kernel_rfl) ?_
 refine T_region (id:=0) (by kernel_rfl) ?_
 refine TI_segK (i:=0) (j:=4) (s':={ σ := [(3,.lf (.own 3 0)),(4,.lf (.own 4 0)),(5,.lf (.own 5 0))],H := [(3,[.one (.v (.slice Au0_0 (u0_0.length) cu0_0)),.arr .i64 4 u0_1]),(4,[.arr .i64 7 u1]),(5,[.one (.v (.slice Au2_0 (u2_0.length) cu2_0)),.one (.v (.slice Au2_1 (u2_1.length) cu2_1))])],V := [],M := M,ds := [] }) [3,4,5] [3,4,5] [] (by kernel_rfl) (by kernel_rfl) ?_
 refine TI_end (by kernel_rfl) ?_
 refine thenQ_n ?_
 refine T_seq (c1:=(sub [1,0] Bd64)) (c2:=(sub [1,1] Bd64)) (by kernel_rfl) ?_
 refine T_seq (c1:=(sub [1,0,0] Bd64)) (c2:=(sub [1,0,1] Bd64)) (by kernel_rfl) ?_
 refine T_region (id:=1) (by kernel_rfl) ?_
 refine TI_segS (i:=0) (j:=1) [(3,.lf (.own 3 0)),(4,.lf (.own 4 0)),(5,.lf (.own 5 0)),(7,vi (0 : Int))] (by kernel_rfl) (by kernel_rfl) ?_
 refine TI_end (by kernel_rfl) ?_
 refine thenQ_n ?_
 obtain ⟨j1,e_j1,h⟩ := jn_some h
 refine T_bcut (id:=0) (c1:=(sub [1,0,1,0] Bd64)) (fun s' => Sub { σ := [],H := [],V := [],M := M,ds := [] } s' ∧ j1 = some r) (by kernel_rfl) ?_ ?_
 ·refine T_loop (c1:=(sub [1,0,1,0,0] Bd64)) (by kernel_rfl) (fun n3 s' => ∃ (x2 : Int),Sub { σ := [(3,.lf (.own 3 0)),(4,.lf (.own 4 0)),(5,.lf (.own 5 0)),(7,vi x2)],H := [(3,[.one (.v (.slice Au0_0 (u0_0.length) cu0_0)),.arr .i64 4 u0_1]),(4,[.arr .i64 7 u1]),(5,[.one (.v (.slice Au2_0 (u2_0.length) cu2_0)),.one (.v (.slice Au2_1 (u2_1.length) cu2_1))])],V := [],M := M,ds := [] } s' ∧ p64_l1 k u0_0 u0_1 u1 u2_0 u2_1 j1 n3 x2 = some r) (k:=k) ⟨(0 : Int),keep_sub (ts:=[3,4,5,7]) (hs:=[3,4,5]) (vs:=[]) (by kernel_rfl),h⟩ ?_
  rintro n3 s' ⟨x2,hsub,h⟩
  cases n3 with
  | zero => rw [p64_l1] at h;cases h
  | succ n3 =>
   rw [p64_l1] at h
   refine T_sub hsub ?_
   refine T_seq (c1:=(sub [1,0,1,0,0,0] Bd64)) (c2:=(sub [1,0,1,0,0,1] Bd64)) (by kernel_rfl) ?_
   refine T_seq (c1:=(sub [1,0,1,0,0,0,0] Bd64)) (c2:=(sub [1,0,1,0,0,0,1] Bd64)) (by kernel_rfl) ?_
   refine T_region (id:=2) (by kernel_rfl) ?_
   refine TI_segK (i:=0) (j:=2) (s':={ σ := [(3,.lf (.own 3 0)),(4,.lf (.own 4 0)),(5,.lf (.own 5 0)),(7,vi x2),(8,vi x2),(9,.agg [.one (.v (.slice Au0_0 (u0_0.length) cu0_0)),.arr .i64 4 u0_1])],H := [(3,[.one (.v (.slice Au0_0 (u0_0.length) cu0_0)),.arr .i64 4 u0_1]),(4,[.arr .i64 7 u1]),(5,[.one (.v (.slice Au2_0 (u2_0.length) cu2_0)),.one (.v (.slice Au2_1 (u2_1.length) cu2_1))])],V := [],M := M,ds := [] }) [3,4,5,7,8,9] [3,4,5] [] (by kernel_rfl) (by kernel_rfl) ?_
   obtain ⟨v4,c_v4,h⟩ := cl_some h
   refine TI_at (i:=2) (d:=10) (x:=vi v4) (At_call (d:=10) (f:=53) (args:=[rval (.agg [.one (.v (.slice Au0_0 (u0_0.length) cu0_0)),.arr .i64 4 u0_1])]) (x:=vi v4) (by kernel_rfl) (w53 k hu0_0 hu0_1 c_v4)) (by kernel_rfl) trivial ?_
   obtain ⟨b5,e_b5,h⟩ := lt_some h
   refine TI_segK (i:=3) (j:=4) (s':={ σ := [(3,.lf (.own 3 0)),(4,.lf (.own 4 0)),(5,.lf (.own 5 0)),(7,vi x2),(11,vb b5)],H := [(3,[.one (.v (.slice Au0_0 (u0_0.length) cu0_0)),.arr .i64 4 u0_1]),(4,[.arr .i64 7 u1]),(5,[.one (.v (.slice Au2_0 (u2_0.length) cu2_0)),.one (.v (.slice Au2_1 (u2_1.length) cu2_1))])],V := [],M := M,ds := [] }) [3,4,5,7,11] [3,4,5] [] (by subst e_b5;kernel_rfl) (by kernel_rfl) ?_
   refine TI_end (by kernel_rfl) ?_
   refine thenQ_n ?_
   cases b5 with
   | true =>
    replace h := sp_t h
    refine T_condT (x:=(.tmp 11)) (c1:=(sub [1,0,1,0,0,0,1,0] Bd64)) (c2:=(sub [1,0,1,0,0,0,1,1] Bd64)) (by kernel_rfl) (by kernel_rfl) ?_
    refine T_keepS [(3,.lf (.own 3 0)),(4,.lf (.own 4 0)),(5,.lf (.own 5 0)),(7,vi x2)] (by kernel_rfl) ?_
    refine T_skip (by kernel_rfl) ?_
    refine thenQ_n ?_
    refine T_seq (c1:=(sub [1,0,1,0,0,1,0] Bd64)) (c2:=(sub [1,0,1,0,0,1,1] Bd64)) (by kernel_rfl) ?_
    refine T_block (id:=1) (c1:=(sub [1,0,1,0,0,1,0,0] Bd64)) (by kernel_rfl) ?_
    obtain ⟨j7,e_j7,h⟩ := jn_some h
    refine T_cut (c1:=(sub [1,0,1,0,0,1,0,0,0] Bd64)) (c2:=(sub [1,0,1,0,0,1,0,0,1] Bd64)) (fun s' => ∃ (b6 : Bool),Sub { σ := [(3,.lf (.own 3 0)),(4,.lf (.own 4 0)),(5,.lf (.own 5 0)),(7,vi x2),(61,vb b6)],H := [(3,[.one (.v (.slice Au0_0 (u0_0.length) cu0_0)),.arr .i64 4 u0_1]),(4,[.arr .i64 7 u1]),(5,[.one (.v (.slice Au2_0 (u2_0.length) cu2_0)),.one (.v (.slice Au2_1 (u2_1.length) cu2_1))])],V := [],M := M,ds := [] } s' ∧ j7 b6 = some r) (by kernel_rfl) ?_ ?_
    ·obtain ⟨v8,c_v8,h⟩ := cl_some h
     cases v8 with
     | true =>
      replace h := sp_t h
      obtain ⟨g9,h⟩ := gd_some h
      obtain ⟨x10,e_x10,h⟩ := lt_some h
      obtain ⟨x11,e_x11,h⟩ := lt_some h
      obtain ⟨b12,e_b12,h⟩ := lt_some h
      cases b12 with
      | true =>
       replace h := sp_t h
       obtain ⟨x13,e_x13,h⟩ := lt_some h
       obtain ⟨g14,h⟩ := gd_some h
       obtain ⟨x15,e_x15,h⟩ := lt_some h
       obtain ⟨x16,e_x16,h⟩ := lt_some h
       obtain ⟨b17,e_b17,h⟩ := lt_some h
       cases b17 with
       | true =>
        replace h := sp_t h
        obtain ⟨x18,e_x18,h⟩ := lt_some h
        obtain ⟨g19,h⟩ := gd_some h
        obtain ⟨g20,h⟩ := gd_some h
        obtain ⟨x21,e_x21,h⟩ := lt_some h
        obtain ⟨x22,e_x22,h⟩ := lt_some h
        obtain ⟨x23,e_x23,h⟩ := lt_some h
        obtain ⟨g24,h⟩ := gd_some h
        obtain ⟨g25,h⟩ := gd_some h
        obtain ⟨x26,e_x26,h⟩ := lt_some h
        obtain ⟨x27,e_x27,h⟩ := lt_some h
        obtain ⟨x28,e_x28,h⟩ := lt_some h
        obtain ⟨b29,e_b29,h⟩ := lt_some h
        refine T_draw' (id:=4) [] [0,0,0,0,0,0,0,0,0,0,0,0,0,0,0,0,0,0,0,0,0,0,0,0,0,0,0,0,0,0,0,0,0,0,0,0,0,0,0,0,0,0,0,0,0,0,0,0] (by kernel_rfl) (by kernel_rfl) (by kernel_rfl) (by kernel_rfl) ((14,.agg [.one (.v (.slice Au0_0 (u0_0.length) cu0_0)),.arr .i64 4 u0_1])::(15,.agg [.arr .i64 7 u1])::(16,vi x2)::(17,vb true)::(18,vb true)::(19,.lf (.own 5 0))::(20,.lf (.v (.slice Au2_0 (u2_0.length) cu2_0)))::(21,vi x2)::(22,.lf (.ep (.slice Au2_0 (u2_0.length) cu2_0) 1 ((x2).toNat) 0))::(23,vi x10)::(24,.lf (.own 4 1))::(25,vi x11)::(26,vb true)::(27,vb true)::(28,vb true)::(29,.lf (.own 5 0))::(30,.lf (.v (.slice Au2_0 (u2_0.length) cu2_0)))::(31,vi x2)::(32,vi x13)::(33,.lf (.ep (.slice Au2_0 (u2_0.length) cu2_0) 1 ((x13).toNat) 0))::(34,vi x15)::(35,.lf (.own 4 0))::(36,vi x16)::(37,vb true)::(38,vb true)::(39,vb true)::(40,.lf (.own 5 1))::(41,.lf (.v (.slice Au2_1 (u2_1.length) cu2_1)))::(42,vi x2)::(43,.lf (.own 4 2))::(44,vi x18)::(45,.lf (.ep (.slice Au2_1 (u2_1.length) cu2_1) 4 ((x2).toNat) 0))::(46,.lf (.ep (.slice Au2_1 (u2_1.length) cu2_1) 4 ((x2).toNat) (0 + (x18).toNat * 1)))::(47,vi x21)::(48,.lf (.own 5 1))::(49,.lf (.v (.slice Au2_1 (u2_1.length) cu2_1)))::(50,vi x2)::(51,vi x22)::(52,.lf (.own 4 2))::(53,vi x23)::(54,.lf (.ep (.slice Au2_1 (u2_1.length) cu2_1) 4 ((x22).toNat) 0))::(55,.lf (.ep (.slice Au2_1 (u2_1.length) cu2_1) 4 ((x22).toNat) (0 + (x23).toNat * 1)))::(56,vi x26)::(57,vi x27)::(58,.lf (.own 4 3))::(59,vi x28)::(60,vb b29)::(61,vb b29)::[]) (by kernel_rfl) ⟨⟨rfl,⟨hu0_1,trivial⟩⟩,⟨⟨hu1,trivial⟩,⟨trivial,⟨trivial,⟨trivial,⟨trivial,⟨trivial,⟨trivial,⟨trivial,⟨trivial,⟨trivial,⟨trivial,⟨trivial,⟨trivial,⟨trivial,⟨trivial,⟨trivial,⟨trivial,⟨trivial,⟨trivial,⟨trivial,⟨trivial,⟨trivial,⟨trivial,⟨trivial,⟨trivial,⟨trivial,⟨trivial,⟨trivial,⟨trivial,⟨trivial,⟨trivial,⟨trivial,⟨trivial,⟨trivial,⟨trivial,⟨trivial,⟨trivial,⟨trivial,⟨trivial,⟨trivial,⟨trivial,⟨trivial,⟨trivial,⟨trivial,⟨trivial,⟨trivial,⟨trivial,trivial⟩⟩⟩⟩⟩⟩⟩⟩⟩⟩⟩⟩⟩⟩⟩⟩⟩⟩⟩⟩⟩⟩⟩⟩⟩⟩⟩⟩⟩⟩⟩⟩⟩⟩⟩⟩⟩⟩⟩⟩⟩⟩⟩⟩⟩⟩⟩⟩ ?_
        refine Stage_nil (stage_all' [0,1,2,4,5,6,7,10,11,13,14,15,16,17,18,21,22,24,25,26,27,28,29,30,34,35,36,37,38,39,43,44,45,46,47] [3,8,9,12,19,20,23,31,32,33,40,41,42] (by kernel_rfl) (by subst_vars; kernel_rfl) (by kernel_rfl) ⟨QF_at (i:=3) (d:=17) (x:=vb true) (show OpAt _ _ _ 3 17 _ from by exact At_call (d:=17) (f:=80) (args:=[rval (.agg [.one (.v (.slice Au0_0 (u0_0.length) cu0_0)),.arr .i64 4 u0_1]),rval (.agg [.arr .i64 7 u1]),rval (vi x2)]) (x:=vb true) (by subst_vars; kernel_rfl) (w80 k hu0_0 hu0_1 hu1 c_v8)) (by kernel_rfl) (by subst_vars; kernel_rfl),⟨QF_at (i:=8) (d:=22) (x:=.lf (.ep (.slice Au2_0 (u2_0.length) cu2_0) 1 ((x2).toNat) 0)) (show OpAt _ _ _ 8 22 _ from by exact At_idxI (d:=22) (z:=x2) (by subst_vars; kernel_rfl) g9 hu2_0) (by kernel_rfl) (by subst_vars; kernel_rfl),⟨QF_at (i:=9) (d:=23) (x:=vi x10) (show OpAt _ _ _ 9 23 _ from by rw [e_x10]; exact At_ldI (d:=23) (q:=(x2).toNat) (by subst_vars; kernel_rfl) (toNat_lt g9) hu2_0) (by kernel_rfl) (by subst_vars; kernel_rfl),⟨QF_at (i:=12) (d:=26) (x:=vb true) (show OpAt _ _ _ 12 26 _ from by exact At_bin (d:=26) (b:=.leq) (u:=.int .i64 x10) (v:=.int .i64 x11) (w':=.bool true) (by subst_vars; kernel_rfl) (by rw [show exBin .leq (.int .i64 x10) (.int .i64 x11) = some (.bool (decide (x10 ≤ x11))) from by kernel_rfl,← e_b12])) (by kernel_rfl) (by subst_vars; kernel_rfl),⟨QF_at (i:=19) (d:=33) (x:=.lf (.ep (.slice Au2_0 (u2_0.length) cu2_0) 1 ((x13).toNat) 0)) (show OpAt _ _ _ 19 33 _ from by exact At_idxI (d:=33) (z:=x13) (by subst_vars; kernel_rfl) g14 hu2_0) (by kernel_rfl) (by subst_vars; kernel_rfl),⟨QF_at (i:=20) (d:=34) (x:=vi x15) (show OpAt _ _ _ 20 34 _ from by rw [e_x15]; exact At_ldI (d:=34) (q:=(x13).toNat) (by subst_vars; kernel_rfl) (toNat_lt g14) hu2_0) (by kernel_rfl) (by subst_vars; kernel_rfl),⟨QF_at (i:=23) (d:=37) (x:=vb true) (show OpAt _ _ _ 23 37 _ from by exact At_bin (d:=37) (b:=.geq) (u:=.int .i64 x15) (v:=.int .i64 x16) (w':=.bool true) (by subst_vars; kernel_rfl) (by rw [show exBin .geq (.int .i64 x15) (.int .i64 x16) = some (.bool (decide (x15 ≥ x16))) from by kernel_rfl,← e_b17])) (by kernel_rfl) (by subst_vars; kernel_rfl),⟨QF_at (i:=31) (d:=45) (x:=.lf (.ep (.slice Au2_1 (u2_1.length) cu2_1) 4 ((x2).toNat) 0)) (show OpAt _ _ _ 31 45 _ from by exact At_idxR (d:=45) (z:=x2) (by subst_vars; kernel_rfl) g19 hu2_1) (by kernel_rfl) (by subst_vars; kernel_rfl),⟨QF_at (i:=32) (d:=46) (x:=.lf (.ep (.slice Au2_1 (u2_1.length) cu2_1) 4 ((x2).toNat) (0 + (x18).toNat * 1))) (show OpAt _ _ _ 32 46 _ from by exact At_idxE (d:=46) (z:=x18) (A:=(.slice Au2_1 (u2_1.length) cu2_1)) (sz:=4) (q:=(x2).toNat) (j:=0) (es:=1) (n:=4) (by subst_vars; kernel_rfl) g20) (by kernel_rfl) (by subst_vars; kernel_rfl),⟨QF_at (i:=33) (d:=47) (x:=vi x21) (show OpAt _ _ _ 33 47 _ from by rw [e_x21]; exact At_ldR1' (d:=47) (q:=(x2).toNat) (j:=0 + (x18).toNat * 1) (by subst_vars; kernel_rfl) (by omega) (toNat_lt g19) hu2_1) (by kernel_rfl) (by subst_vars; kernel_rfl),⟨QF_at (i:=40) (d:=54) (x:=.lf (.ep (.slice Au2_1 (u2_1.length) cu2_1) 4 ((x22).toNat) 0)) (show OpAt _ _ _ 40 54 _ from by exact At_idxR (d:=54) (z:=x22) (by subst_vars; kernel_rfl) g24 hu2_1) (by kernel_rfl) (by subst_vars; kernel_rfl),⟨QF_at (i:=41) (d:=55) (x:=.lf (.ep (.slice Au2_1 (u2_1.length) cu2_1) 4 ((x22).toNat) (0 + (x23).toNat * 1))) (show OpAt _ _ _ 41 55 _ from by exact At_idxE (d:=55) (z:=x23) (A:=(.slice Au2_1 (u2_1.length) cu2_1)) (sz:=4) (q:=(x22).toNat) (j:=0) (es:=1) (n:=4) (by subst_vars; kernel_rfl) g25) (by kernel_rfl) (by subst_vars; kernel_rfl),⟨QF_at (i:=42) (d:=56) (x:=vi x26) (show OpAt _ _ _ 42 56 _ from by rw [e_x26]; exact At_ldR1' (d:=56) (q:=(x22).toNat) (j:=0 + (x23).toNat * 1) (by subst_vars; kernel_rfl) (by omega) (toNat_lt g24) hu2_1) (by kernel_rfl) (by subst_vars; kernel_rfl),trivial⟩⟩⟩⟩⟩⟩⟩⟩⟩⟩⟩⟩⟩) ?_
        refine thenQ_n ?_
        exact ⟨b29,keep_sub (ts:=[3,4,5,7,61]) (hs:=[3,4,5]) (vs:=[]) (by subst_vars;kernel_rfl),h⟩
       | false =>
        replace h := sp_f h
        refine T_draw' (id:=4) [] [0,0,0,0,0,0,0,0,0,0,0,0,0,0,0,0,0,0,0,0,0,0,0,0,0,0,0,0,0,0,0,0,0,0,0,0,0,0,0,0,0,0,0,0,0,0,0,0] (by kernel_rfl) (by kernel_rfl) (by kernel_rfl) (by kernel_rfl) ((14,.agg [.one (.v (.slice Au0_0 (u0_0.length) cu0_0)),.arr .i64 4 u0_1])::(15,.agg [.arr .i64 7 u1])::(16,vi x2)::(17,vb true)::(18,vb true)::(19,.lf (.own 5 0))::(20,.lf (.v (.slice Au2_0 (u2_0.length) cu2_0)))::(21,vi x2)::(22,.lf (.ep (.slice Au2_0 (u2_0.length) cu2_0) 1 ((x2).toNat) 0))::(23,vi x10)::(24,.lf (.own 4 1))::(25,vi x11)::(26,vb true)::(27,vb true)::(28,vb true)::(29,.lf (.own 5 0))::(30,.lf (.v (.slice Au2_0 (u2_0.length) cu2_0)))::(31,vi x2)::(32,vi x13)::(33,.lf (.ep (.slice Au2_0 (u2_0.length) cu2_0) 1 ((x13).toNat) 0))::(34,vi x15)::(35,.lf (.own 4 0))::(36,vi x16)::(37,vb false)::(38,vb false)::(39,vb false)::(40,.tup [])::(41,.tup [])::(42,.tup [])::(43,.tup [])::(44,.tup [])::(45,.tup [])::(46,.tup [])::(47,.tup [])::(48,.tup [])::(49,.tup [])::(50,.tup [])::(51,.tup [])::(52,.tup [])::(53,.tup [])::(54,.tup [])::(55,.tup [])::(56,.tup [])::(57,.tup [])::(58,.tup [])::(59,.tup [])::(60,.tup [])::(61,vb false)::[]) (by kernel_rfl) ⟨⟨rfl,⟨hu0_1,trivial⟩⟩,⟨⟨hu1,trivial⟩,⟨trivial,⟨trivial,⟨trivial,⟨trivial,⟨trivial,⟨trivial,⟨trivial,⟨trivial,⟨trivial,⟨trivial,⟨trivial,⟨trivial,⟨trivial,⟨trivial,⟨trivial,⟨trivial,⟨trivial,⟨trivial,⟨trivial,⟨trivial,⟨trivial,⟨trivial,⟨trivial,⟨trivial,⟨(by intro y hy;cases hy),⟨(by intro y hy;cases hy),⟨(by intro y hy;cases hy),⟨(by intro y hy;cases hy),⟨(by intro y hy;cases hy),⟨(by intro y hy;cases hy),⟨(by intro y hy;cases hy),⟨(by intro y hy;cases hy),⟨(by intro y hy;cases hy),⟨(by intro y hy;cases hy),⟨(by intro y hy;cases hy),⟨(by intro y hy;cases hy),⟨(by intro y hy;cases hy),⟨(by intro y hy;cases hy),⟨(by intro y hy;cases hy),⟨(by intro y hy;cases hy),⟨(by intro y hy;cases hy),⟨(by intro y hy;cases hy),⟨(by intro y hy;cases hy),⟨(by intro y hy;cases hy),⟨(by intro y hy;cases hy),⟨trivial,trivial⟩⟩⟩⟩⟩⟩⟩⟩⟩⟩⟩⟩⟩⟩⟩⟩⟩⟩⟩⟩⟩⟩⟩⟩⟩⟩⟩⟩⟩⟩⟩⟩⟩⟩⟩⟩⟩⟩⟩⟩⟩⟩⟩⟩⟩⟩⟩⟩ ?_
        refine Stage_nil (stage_all' [0,1,2,4,5,6,7,10,11,13,14,15,16,17,18,21,22,24,25,26,27,28,29,30,31,32,33,34,35,36,37,38,39,40,41,42,43,44,45,46,47] [3,8,9,12,19,20,23] (by kernel_rfl) (by subst_vars; kernel_rfl) (by kernel_rfl) ⟨QF_at (i:=3) (d:=17) (x:=vb true) (show OpAt _ _ _ 3 17 _ from by exact At_call (d:=17) (f:=80) (args:=[rval (.agg [.one (.v (.slice Au0_0 (u0_0.length) cu0_0)),.arr .i64 4 u0_1]),rval (.agg [.arr .i64 7 u1]),rval (vi x2)]) (x:=vb true) (by subst_vars; kernel_rfl) (w80 k hu0_0 hu0_1 hu1 c_v8)) (by kernel_rfl) (by subst_vars; kernel_rfl),⟨QF_at (i:=8) (d:=22) (x:=.lf (.ep (.slice Au2_0 (u2_0.length) cu2_0) 1 ((x2).toNat) 0)) (show OpAt _ _ _ 8 22 _ from by exact At_idxI (d:=22) (z:=x2) (by subst_vars; kernel_rfl) g9 hu2_0) (by kernel_rfl) (by subst_vars; kernel_rfl),⟨QF_at (i:=9) (d:=23) (x:=vi x10) (show OpAt _ _ _ 9 23 _ from by rw [e_x10]; exact At_ldI (d:=23) (q:=(x2).toNat) (by subst_vars; kernel_rfl) (toNat_lt g9) hu2_0) (by kernel_rfl) (by subst_vars; kernel_rfl),⟨QF_at (i:=12) (d:=26) (x:=vb true) (show OpAt _ _ _ 12 26 _ from by exact At_bin (d:=26) (b:=.leq) (u:=.int .i64 x10) (v:=.int .i64 x11) (w':=.bool true) (by subst_vars; kernel_rfl) (by rw [show exBin .leq (.int .i64 x10) (.int .i64 x11) = some (.bool (decide (x10 ≤ x11))) from by kernel_rfl,← e_b12])) (by kernel_rfl) (by subst_vars; kernel_rfl),⟨QF_at (i:=19) (d:=33) (x:=.lf (.ep (.slice Au2_0 (u2_0.length) cu2_0) 1 ((x13).toNat) 0)) (show OpAt _ _ _ 19 33 _ from by exact At_idxI (d:=33) (z:=x13) (by subst_vars; kernel_rfl) g14 hu2_0) (by kernel_rfl) (by subst_vars; kernel_rfl),⟨QF_at (i:=20) (d:=34) (x:=vi x15) (show OpAt _ _ _ 20 34 _ from by rw [e_x15]; exact At_ldI (d:=34) (q:=(x13).toNat) (by subst_vars; kernel_rfl) (toNat_lt g14) hu2_0) (by kernel_rfl) (by subst_vars; kernel_rfl),⟨QF_at (i:=23) (d:=37) (x:=vb false) (show OpAt _ _ _ 23 37 _ from by exact At_bin (d:=37) (b:=.geq) (u:=.int .i64 x15) (v:=.int .i64 x16) (w':=.bool false) (by subst_vars; kernel_rfl) (by rw [show exBin .geq (.int .i64 x15) (.int .i64 x16) = some (.bool (decide (x15 ≥ x16))) from by kernel_rfl,← e_b17])) (by kernel_rfl) (by subst_vars; kernel_rfl),trivial⟩⟩⟩⟩⟩⟩⟩) ?_
        refine thenQ_n ?_
        exact ⟨false,keep_sub (ts:=[3,4,5,7,61]) (hs:=[3,4,5]) (vs:=[]) (by subst_vars;kernel_rfl),h⟩
      | false =>
       replace h := sp_f h
       refine T_draw' (id:=4) [] [0,0,0,0,0,0,0,0,0,0,0,0,0,0,0,0,0,0,0,0,0,0,0,0,0,0,0,0,0,0,0,0,0,0,0,0,0,0,0,0,0,0,0,0,0,0,0,0] (by kernel_rfl) (by kernel_rfl) (by kernel_rfl) (by kernel_rfl) ((14,.agg [.one (.v (.slice Au0_0 (u0_0.length) cu0_0)),.arr .i64 4 u0_1])::(15,.agg [.arr .i64 7 u1])::(16,vi x2)::(17,vb true)::(18,vb true)::(19,.lf (.own 5 0))::(20,.lf (.v (.slice Au2_0 (u2_0.length) cu2_0)))::(21,vi x2)::(22,.lf (.ep (.slice Au2_0 (u2_0.length) cu2_0) 1 ((x2).toNat) 0))::(23,vi x10)::(24,.lf (.own 4 1))::(25,vi x11)::(26,vb false)::(27,vb false)::(28,vb false)::(29,.tup [])::(30,.tup [])::(31,.tup [])::(32,.tup [])::(33,.tup [])::(34,.tup [])::(35,.tup [])::(36,.tup [])::(37,.tup [])::(38,vb false)::(39,vb false)::(40,.tup [])::(41,.tup [])::(42,.tup [])::(43,.tup [])::(44,.tup [])::(45,.tup [])::(46,.tup [])::(47,.tup [])::(48,.tup [])::(49,.tup [])::(50,.tup [])::(51,.tup [])::(52,.tup [])::(53,.tup [])::(54,.tup [])::(55,.tup [])::(56,.tup [])::(57,.tup [])::(58,.tup [])::(59,.tup [])::(60,.tup [])::(61,vb false)::[]) (by kernel_rfl) ⟨⟨rfl,⟨hu0_1,trivial⟩⟩,⟨⟨hu1,trivial⟩,⟨trivial,⟨trivial,⟨trivial,⟨trivial,⟨trivial,⟨trivial,⟨trivial,⟨trivial,⟨trivial,⟨trivial,⟨trivial,⟨trivial,⟨trivial,⟨(by intro y hy;cases hy),⟨(by intro y hy;cases hy),⟨(by intro y hy;cases hy),⟨(by intro y hy;cases hy),⟨(by intro y hy;cases hy),⟨(by intro y hy;cases hy),⟨(by intro y hy;cases hy),⟨(by intro y hy;cases hy),⟨(by intro y hy;cases hy),⟨trivial,⟨trivial,⟨(by intro y hy;cases hy),⟨(by intro y hy;cases hy),⟨(by intro y hy;cases hy),⟨(by intro y hy;cases hy),⟨(by intro y hy;cases hy),⟨(by intro y hy;cases hy),⟨(by intro y hy;cases hy),⟨(by intro y hy;cases hy),⟨(by intro y hy;cases hy),⟨(by intro y hy;cases hy),⟨(by intro y hy;cases hy),⟨(by intro y hy;cases hy),⟨(by intro y hy;cases hy),⟨(by intro y hy;cases hy),⟨(by intro y hy;cases hy),⟨(by intro y hy;cases hy),⟨(by intro y hy;cases hy),⟨(by intro y hy;cases hy),⟨(by intro y hy;cases hy),⟨(by intro y hy;cases hy),⟨(by intro y hy;cases hy),⟨trivial,trivial⟩⟩⟩⟩⟩⟩⟩⟩⟩⟩⟩⟩⟩⟩⟩⟩⟩⟩⟩⟩⟩⟩⟩⟩⟩⟩⟩⟩⟩⟩⟩⟩⟩⟩⟩⟩⟩⟩⟩⟩⟩⟩⟩⟩⟩⟩⟩⟩ ?_
       refine Stage_nil (stage_all' [0,1,2,4,5,6,7,10,11,13,14,15,16,17,18,19,20,21,22,23,24,25,26,27,28,29,30,31,32,33,34,35,36,37,38,39,40,41,42,43,44,45,46,47] [3,8,9,12] (by kernel_rfl) (by subst e_x11 e_x10; kernel_rfl) (by kernel_rfl) ⟨QF_at (i:=3) (d:=17) (x:=vb true) (show OpAt _ _ _ 3 17 _ from by exact At_call (d:=17) (f:=80) (args:=[rval (.agg [.one (.v (.slice Au0_0 (u0_0.length) cu0_0)),.arr .i64 4 u0_1]),rval (.agg [.arr .i64 7 u1]),rval (vi x2)]) (x:=vb true) (by subst e_x11 e_x10; kernel_rfl) (w80 k hu0_0 hu0_1 hu1 c_v8)) (by kernel_rfl) (by subst e_x11 e_x10; kernel_rfl),⟨QF_at (i:=8) (d:=22) (x:=.lf (.ep (.slice Au2_0 (u2_0.length) cu2_0) 1 ((x2).toNat) 0)) (show OpAt _ _ _ 8 22 _ from by exact At_idxI (d:=22) (z:=x2) (by subst e_x11 e_x10; kernel_rfl) g9 hu2_0) (by kernel_rfl) (by subst e_x11 e_x10; kernel_rfl),⟨QF_at (i:=9) (d:=23) (x:=vi x10) (show OpAt _ _ _ 9 23 _ from by rw [e_x10]; exact At_ldI (d:=23) (q:=(x2).toNat) (by subst e_x11 e_x10; kernel_rfl) (toNat_lt g9) hu2_0) (by kernel_rfl) (by subst e_x11 e_x10; kernel_rfl),⟨QF_at (i:=12) (d:=26) (x:=vb false) (show OpAt _ _ _ 12 26 _ from by exact At_bin (d:=26) (b:=.leq) (u:=.int .i64 x10) (v:=.int .i64 x11) (w':=.bool false) (by subst e_x11 e_x10; kernel_rfl) (by rw [show exBin .leq (.int .i64 x10) (.int .i64 x11) = some (.bool (decide (x10 ≤ x11))) from by kernel_rfl,← e_b12])) (by kernel_rfl) (by subst e_x11 e_x10; kernel_rfl),trivial⟩⟩⟩⟩) ?_
       refine thenQ_n ?_
       exact ⟨false,keep_sub (ts:=[3,4,5,7,61]) (hs:=[3,4,5]) (vs:=[]) (by subst e_x11 e_x10;kernel_rfl),h⟩
     | false =>
      replace h := sp_f h
      refine T_draw' (id:=4) [] [0,0,0,0,0,0,0,0,0,0,0,0,0,0,0,0,0,0,0,0,0,0,0,0,0,0,0,0,0,0,0,0,0,0,0,0,0,0,0,0,0,0,0,0,0,0,0,0] (by kernel_rfl) (by kernel_rfl) (by kernel_rfl) (by kernel_rfl) ((14,.agg [.one (.v (.slice Au0_0 (u0_0.length) cu0_0)),.arr .i64 4 u0_1])::(15,.agg [.arr .i64 7 u1])::(16,vi x2)::(17,vb false)::(18,vb false)::(19,.tup [])::(20,.tup [])::(21,.tup [])::(22,.tup [])::(23,.tup [])::(24,.tup [])::(25,.tup [])::(26,.tup [])::(27,vb false)::(28,vb false)::(29,.tup [])::(30,.tup [])::(31,.tup [])::(32,.tup [])::(33,.tup [])::(34,.tup [])::(35,.tup [])::(36,.tup [])::(37,.tup [])::(38,vb false)::(39,vb false)::(40,.tup [])::(41,.tup [])::(42,.tup [])::(43,.tup [])::(44,.tup [])::(45,.tup [])::(46,.tup [])::(47,.tup [])::(48,.tup [])::(49,.tup [])::(50,.tup [])::(51,.tup [])::(52,.tup [])::(53,.tup [])::(54,.tup [])::(55,.tup [])::(56,.tup [])::(57,.tup [])::(58,.tup [])::(59,.tup [])::(60,.tup [])::(61,vb false)::[]) (by kernel_rfl) ⟨⟨rfl,⟨hu0_1,trivial⟩⟩,⟨⟨hu1,trivial⟩,⟨trivial,⟨trivial,⟨trivial,⟨(by intro y hy;cases hy),⟨(by intro y hy;cases hy),⟨(by intro y hy;cases hy),⟨(by intro y hy;cases hy),⟨(by intro y hy;cases hy),⟨(by intro y hy;cases hy),⟨(by intro y hy;cases hy),⟨(by intro y hy;cases hy),⟨trivial,⟨trivial,⟨(by intro y hy;cases hy),⟨(by intro y hy;cases hy),⟨(by intro y hy;cases hy),⟨(by intro y hy;cases hy),⟨(by intro y hy;cases hy),⟨(by intro y hy;cases hy),⟨(by intro y hy;cases hy),⟨(by intro y hy;cases hy),⟨(by intro y hy;cases hy),⟨trivial,⟨trivial,⟨(by intro y hy;cases hy),⟨(by intro y hy;cases hy),⟨(by intro y hy;cases hy),⟨(by intro y hy;cases hy),⟨(by intro y hy;cases hy),⟨(by intro y hy;cases hy),⟨(by intro y hy;cases hy),⟨(by intro y hy;cases hy),⟨(by intro y hy;cases hy),⟨(by intro y hy;cases hy),⟨(by intro y hy;cases hy),⟨(by intro y hy;cases hy),⟨(by intro y hy;cases hy),⟨(by intro y hy;cases hy),⟨(by intro y hy;cases hy),⟨(by intro y hy;cases hy),⟨(by intro y hy;cases hy),⟨(by intro y hy;cases hy),⟨(by intro y hy;cases hy),⟨(by intro y hy;cases hy),⟨(by intro y hy;cases hy),⟨trivial,trivial⟩⟩⟩⟩⟩⟩⟩⟩⟩⟩⟩⟩⟩⟩⟩⟩⟩⟩⟩⟩⟩⟩⟩⟩⟩⟩⟩⟩⟩⟩⟩⟩⟩⟩⟩⟩⟩⟩⟩⟩⟩⟩⟩⟩⟩⟩⟩⟩ ?_
      refine Stage_nil (stage_all' [0,1,2,4,5,6,7,8,9,10,11,12,13,14,15,16,17,18,19,20,21,22,23,24,25,26,27,28,29,30,31,32,33,34,35,36,37,38,39,40,41,42,43,44,45,46,47] [3] (by kernel_rfl) (by kernel_rfl) (by kernel_rfl) ⟨QF_at (i:=3) (d:=17) (x:=vb false) (show OpAt _ _ _ 3 17 _ from by exact At_call (d:=17) (f:=80) (args:=[rval (.agg [.one (.v (.slice Au0_0 (u0_0.length) cu0_0)),.arr .i64 4 u0_1]),rval (.agg [.arr .i64 7 u1]),rval (vi x2)]) (x:=vb false) (by kernel_rfl) (w80 k hu0_0 hu0_1 hu1 c_v8)) (by kernel_rfl) (by kernel_rfl),trivial⟩) ?_
      refine thenQ_n ?_
      exact ⟨false,keep_sub (ts:=[3,4,5,7,61]) (hs:=[3,4,5]) (vs:=[]) (by kernel_rfl),h⟩
    ·rintro s' ⟨b6,hsub,h⟩
     subst e_j7
     refine T_sub hsub ?_
     cases b6 with
     | true =>
      replace h := sp_t h
      refine T_condT (x:=(.tmp 61)) (c1:=(sub [1,0,1,0,0,1,0,0,1,0] Bd64)) (c2:=(sub [1,0,1,0,0,1,0,0,1,1] Bd64)) (by kernel_rfl) (by kernel_rfl) ?_
      refine T_keep (s':={ σ := [],H := [],V := [],M := M,ds := [] }) [] [] [] (by kernel_rfl) ?_
      refine T_seq (c1:=(sub [1,0,1,0,0,1,0,0,1,0,0] Bd64)) (c2:=(sub [1,0,1,0,0,1,0,0,1,0,1] Bd64)) (by kernel_rfl) ?_
      refine T_region (id:=5) (by kernel_rfl) ?_
      refine TI_segS (i:=0) (j:=1) [(6,vb true)] (by kernel_rfl) (by kernel_rfl) ?_
      refine TI_end (by kernel_rfl) ?_
      refine thenQ_n ?_
      refine T_ret (by kernel_rfl) ?_
      refine blockQ_r ?_
      refine thenQ_r ?_
      refine thenQ_r ?_
      refine blockQ_r ?_
      refine thenQ_r ?_
      refine thenQ_r ?_
      have h := Option.some.inj h
      subst h
      refine fin_ret (vb true) (by kernel_rfl) (by kernel_rfl) rfl ?_
      rfl
     | false =>
      replace h := sp_f h
      refine T_condF (x:=(.tmp 61)) (c1:=(sub [1,0,1,0,0,1,0,0,1,0] Bd64)) (c2:=(sub [1,0,1,0,0,1,0,0,1,1] Bd64)) (by kernel_rfl) (by kernel_rfl) ?_
      refine T_keep (s':={ σ := [(3,.lf (.own 3 0)),(4,.lf (.own 4 0)),(5,.lf (.own 5 0)),(7,vi x2)],H := [(3,[.one (.v (.slice Au0_0 (u0_0.length) cu0_0)),.arr .i64 4 u0_1]),(4,[.arr .i64 7 u1]),(5,[.one (.v (.slice Au2_0 (u2_0.length) cu2_0)),.one (.v (.slice Au2_1 (u2_1.length) cu2_1))])],V := [],M := M,ds := [] }) [3,4,5,7] [3,4,5] [] (by kernel_rfl) ?_
      refine T_skip (by kernel_rfl) ?_
      refine blockQ_n ?_
      refine thenQ_n ?_
      refine T_region (id:=3) (by kernel_rfl) ?_
      obtain ⟨x30,e_x30,h⟩ := lt_some h
      refine TI_segS (i:=0) (j:=3) [(3,.lf (.own 3 0)),(4,.lf (.own 4 0)),(5,.lf (.own 5 0)),(7,vi x30)] (by subst e_x30;kernel_rfl) (by kernel_rfl) ?_
      refine TI_end (by kernel_rfl) ?_
      refine thenQ_n ?_
      exact ⟨n3,Nat.lt_succ_self _,x30,keep_sub (ts:=[3,4,5,7]) (hs:=[3,4,5]) (vs:=[]) (by kernel_rfl),h⟩
   | false =>
    replace h := sp_f h
    refine T_condF (x:=(.tmp 11)) (c1:=(sub [1,0,1,0,0,0,1,0] Bd64)) (c2:=(sub [1,0,1,0,0,0,1,1] Bd64)) (by kernel_rfl) (by kernel_rfl) ?_
    refine T_keep (s':={ σ := [],H := [],V := [],M := M,ds := [] }) [] [] [] (by kernel_rfl) ?_
    refine T_exit (id:=0) (by kernel_rfl) ?_
    refine thenQ_x ?_
    refine thenQ_x ?_
    refine blockQ_x ?_
    refine thenQ_n ?_
    exact ⟨keep_sub (ts:=[]) (hs:=[]) (vs:=[]) (by kernel_rfl),h⟩
 ·rintro s' ⟨hsub,h⟩
  subst e_j1
  refine thenQ_n ?_
  refine T_sub hsub ?_
  refine T_seq (c1:=(sub [1,1,0] Bd64)) (c2:=(sub [1,1,1] Bd64)) (by kernel_rfl) ?_
  refine T_region (id:=6) (by kernel_rfl) ?_
  refine TI_segK (i:=0) (j:=1) (s':={ σ := [(6,vb false)],H := [],V := [],M := M,ds := [] }) [6] [] [] (by kernel_rfl) (by kernel_rfl) ?_
  refine TI_end (by kernel_rfl) ?_
  refine thenQ_n ?_
  refine T_ret (by kernel_rfl) ?_
  have h := Option.some.inj h
  subst h
  refine fin_ret (vb false) (by kernel_rfl) (by kernel_rfl) rfl ?_
  rfl
def p37 (k : Nat) (u0_0 : List (List Int)) (u0_1 : List Int) (u1 : List Int) (u2_0 : List Int) (u2_1 : List (List Int)) : Option (Bool × Int) :=
 cl (p55 k u0_0 u0_1 u1) fun v1 => lt' (v1 != (0 : Int)) fun b2 => sp b2 (some (false,v1)) (cl (p62 k u0_0 u0_1 u2_0 u2_1) fun v3 => sp v3 (cl (p64 k u0_0 u0_1 u1 u2_0 u2_1) fun v4 => some (v4,(0 : Int))) (some (false,(17 : Int))))
theorem hf37 : Try.prog.funcs[37]? = some Try.f37 := by kernel_rfl
theorem w37 (k : Nat) {M : Mem} {Au0_0 : Option Addr} {cu0_0 : Nat} {Au2_0 : Option Addr} {cu2_0 : Nat} {Au2_1 : Option Addr} {cu2_1 : Nat} {u0_0 : List (List Int)} {u0_1 : List Int} {u1 : List Int} {u2_0 : List Int} {u2_1 : List (List Int)} (hu0_0 : SlR M Au0_0 cu0_0 .i64 11 u0_0) (hu0_1 : u0_1.length = 4) (hu1 : u1.length = 7) (hu2_0 : SlI M Au2_0 cu2_0 .i64 u2_0) (hu2_1 : SlR M Au2_1 cu2_1 .i64 4 u2_1) {r} (h : p37 k u0_0 u0_1 u1 u2_0 u2_1 = some r) :
  Fn Try.prog 37 [rval (.agg [.one (.v (.slice Au0_0 (u0_0.length) cu0_0)),.arr .i64 4 u0_1]),rval (.agg [.arr .i64 7 u1]),rval (.agg [.one (.v (.slice Au2_0 (u2_0.length) cu2_0)),.one (.v (.slice Au2_1 (u2_1.length) cu2_1))])] M (fun x _ => x = .tup [(some (.v (.bool r.1)),[]),(some (.v (.int .i64 r.2)),[])]) := by
 unfold p37 at h
 refine Fn_of (P:=Try.prog) (fn:=Try.f37) (c:=bodyOf Try.f37) [.agg [.one (.v (.slice Au0_0 (u0_0.length) cu0_0)),.arr .i64 4 u0_1],.agg [.arr .i64 7 u1],.agg [.one (.v (.slice Au2_0 (u2_0.length) cu2_0)),.one (.v (.slice Au2_1 (u2_1.length) cu2_1))]] hf37 (by kernel_rfl) (Nat.le_of_ble_eq_true (by kernel_rfl)) (args_ok (by kernel_rfl) ⟨⟨rfl,⟨hu0_1,trivial⟩⟩,⟨⟨hu1,trivial⟩,⟨⟨rfl,⟨rfl,trivial⟩⟩,trivial⟩⟩⟩) fun w => ?_
 change T _ _ _ (endQ _ _ _)
 refine T_seq (c1:=(sub [0] Bd37)) (c2:=(sub [1] Bd37)) (by kernel_rfl) ?_
 refine T_region (id:=0) (by kernel_rfl) ?_
 refine TI_segK (i:=0) (j:=5) (s':={ σ := [(3,.lf (.own 3 0)),(4,.lf (.own 4 0)),(5,.lf (.own 5 0))],H := [(3,[.one (.v (.slice Au0_0 (u0_0.length) cu0_0)),.arr .i64 4 u0_1]),(4,[.arr .i64 7 u1]),(5,[.one (.v (.slice Au2_0 (u2_0.length) cu2_0)),.one (.v (.slice Au2_1 (u2_1.length) cu2_1))])],V := [],M := M,ds := [] }) [3,4,5] [3,4,5] [] (by kernel_rfl) (by kernel_rfl) ?_
 refine TI_end (by kernel_rfl) ?_
 refine thenQ_n ?_
 refine T_seq (c1:=(sub [1,0] Bd37)) (c2:=(sub [1,1] Bd37)) (by kernel_rfl) ?_
 refine T_region (id:=1) (by kernel_rfl) ?_
 refine TI_segS (i:=0) (j:=2) [(3,.lf (.own 3 0)),(4,.lf (.own 4 0)),(5,.lf (.own 5 0)),(9,.agg [.one (.v (.slice Au0_0 (u0_0.length) cu0_0)),.arr .i64 4 u0_1]),(10,.agg [.arr .i64 7 u1])] (by kernel_rfl) (by kernel_rfl) ?_
 obtain ⟨v1,c_v1,h⟩ := cl_some h
 refine TI_at (i:=2) (d:=11) (x:=vi v1) (At_call (d:=11) (f:=55) (args:=[rval (.agg [.one (.v (.slice Au0_0 (u0_0.length) cu0_0)),.arr .i64 4 u0_1]),rval (.agg [.arr .i64 7 u1])]) (x:=vi v1) (by kernel_rfl) (w55 k hu0_0 hu0_1 hu1 c_v1)) (by kernel_rfl) trivial ?_
 refine TI_segK (i:=3) (j:=4) (s':={ σ := [(3,.lf (.own 3 0)),(4,.lf (.own 4 0)),(5,.lf (.own 5 0)),(8,vi v1)],H := [(3,[.one (.v (.slice Au0_0 (u0_0.length) cu0_0)),.arr .i64 4 u0_1]),(4,[.arr .i64 7 u1]),(5,[.one (.v (.slice Au2_0 (u2_0.length) cu2_0)),.one (.v (.slice Au2_1 (u2_1.length) cu2_1))])],V := [],M := M,ds := [] }) [3,4,5,8] [3,4,5] [] (by kernel_rfl) (by kernel_rfl) ?_
 refine TI_end (by kernel_rfl) ?_
 refine thenQ_n ?_
 refine T_seq (c1:=(sub [1,1,0] Bd37)) (c2:=(sub [1,1,1] Bd37)) (by kernel_rfl) ?_
 refine T_seq (c1:=(sub [1,1,0,0] Bd37)) (c2:=(sub [1,1,0,1] Bd37)) (by kernel_rfl) ?_
 refine T_region (id:=2) (by kernel_rfl) ?_
 obtain ⟨b2,e_b2,h⟩ := lt_some h
 refine TI_segS (i:=0) (j:=2) [(3,.lf (.own 3 0)),(4,.lf (.own 4 0)),(5,.lf (.own 5 0)),(8,vi v1),(13,vb b2)] (by subst e_b2;kernel_rfl) (by kernel_rfl) ?_
 refine TI_end (by kernel_rfl) ?_
 refine thenQ_n ?_
 cases b2 with
 | true =>
  replace h := sp_t h
  refine T_condT (x:=(.tmp 13)) (c1:=(sub [1,1,0,1,0] Bd37)) (c2:=(sub [1,1,0,1,1] Bd37)) (by kernel_rfl) (by kernel_rfl) ?_
  refine T_keep (s':={ σ := [(8,vi v1)],H := [],V := [],M := M,ds := [] }) [8] [] [] (by kernel_rfl) ?_
  refine T_seq (c1:=(sub [1,1,0,1,0,0] Bd37)) (c2:=(sub [1,1,0,1,0,1] Bd37)) (by kernel_rfl) ?_
  refine T_region (id:=3) (by kernel_rfl) ?_
  refine TI_segS (i:=0) (j:=3) [(6,vb false),(7,vi v1)] (by kernel_rfl) (by kernel_rfl) ?_
  refine TI_end (by kernel_rfl) ?_
  refine thenQ_n ?_
  refine T_ret (by kernel_rfl) ?_
  refine thenQ_r ?_
  have h := Option.some.inj h
  subst h
  refine fin_ret (.tup [(some (.v (.bool false)),[]),(some (.v (.int .i64 v1)),[])]) (by kernel_rfl) (by kernel_rfl) rfl ?_
  rfl
 | false =>
  replace h := sp_f h
  refine T_condF (x:=(.tmp 13)) (c1:=(sub [1,1,0,1,0] Bd37)) (c2:=(sub [1,1,0,1,1] Bd37)) (by kernel_rfl) (by kernel_rfl) ?_
  refine T_keepS [(3,.lf (.own 3 0)),(4,.lf (.own 4 0)),(5,.lf (.own 5 0))] (by kernel_rfl) ?_
  refine T_skip (by kernel_rfl) ?_
  refine thenQ_n ?_
  refine T_seq (c1:=(sub [1,1,1,0] Bd37)) (c2:=(sub [1,1,1,1] Bd37)) (by kernel_rfl) ?_
  refine T_seq (c1:=(sub [1,1,1,0,0] Bd37)) (c2:=(sub [1,1,1,0,1] Bd37)) (by kernel_rfl) ?_
  refine T_region (id:=4) (by kernel_rfl) ?_
  refine TI_segS (i:=0) (j:=2) [(3,.lf (.own 3 0)),(4,.lf (.own 4 0)),(5,.lf (.own 5 0)),(15,.agg [.one (.v (.slice Au0_0 (u0_0.length) cu0_0)),.arr .i64 4 u0_1]),(16,.agg [.one (.v (.slice Au2_0 (u2_0.length) cu2_0)),.one (.v (.slice Au2_1 (u2_1.length) cu2_1))])] (by kernel_rfl) (by kernel_rfl) ?_
  obtain ⟨v3,c_v3,h⟩ := cl_some h
  refine TI_at (i:=2) (d:=17) (x:=vb v3) (At_call (d:=17) (f:=62) (args:=[rval (.agg [.one (.v (.slice Au0_0 (u0_0.length) cu0_0)),.arr .i64 4 u0_1]),rval (.agg [.one (.v (.slice Au2_0 (u2_0.length) cu2_0)),.one (.v (.slice Au2_1 (u2_1.length) cu2_1))])]) (x:=vb v3) (by kernel_rfl) (w62 k hu0_0 hu0_1 hu2_0 hu2_1 c_v3)) (by kernel_rfl) trivial ?_
  refine TI_segK (i:=3) (j:=4) (s':={ σ := [(3,.lf (.own 3 0)),(4,.lf (.own 4 0)),(5,.lf (.own 5 0)),(18,vb (!v3))],H := [(3,[.one (.v (.slice Au0_0 (u0_0.length) cu0_0)),.arr .i64 4 u0_1]),(4,[.arr .i64 7 u1]),(5,[.one (.v (.slice Au2_0 (u2_0.length) cu2_0)),.one (.v (.slice Au2_1 (u2_1.length) cu2_1))])],V := [],M := M,ds := [] }) [3,4,5,18] [3,4,5] [] (by kernel_rfl) (by kernel_rfl) ?_
  refine TI_end (by kernel_rfl) ?_
  refine thenQ_n ?_
  cases v3 with
  | true =>
   replace h := sp_t h
   refine T_condF (x:=(.tmp 18)) (c1:=(sub [1,1,1,0,1,0] Bd37)) (c2:=(sub [1,1,1,0,1,1] Bd37)) (by kernel_rfl) (by kernel_rfl) ?_
   refine T_keepS [(3,.lf (.own 3 0)),(4,.lf (.own 4 0)),(5,.lf (.own 5 0))] (by kernel_rfl) ?_
   refine T_skip (by kernel_rfl) ?_
   refine thenQ_n ?_
   refine T_seq (c1:=(sub [1,1,1,1,0] Bd37)) (c2:=(sub [1,1,1,1,1] Bd37)) (by kernel_rfl) ?_
   refine T_region (id:=6) (by kernel_rfl) ?_
   refine TI_segK (i:=0) (j:=3) (s':={ σ := [(19,.agg [.one (.v (.slice Au0_0 (u0_0.length) cu0_0)),.arr .i64 4 u0_1]),(20,.agg [.arr .i64 7 u1]),(21,.agg [.one (.v (.slice Au2_0 (u2_0.length) cu2_0)),.one (.v (.slice Au2_1 (u2_1.length) cu2_1))])],H := [],V := [],M := M,ds := [] }) [19,20,21] [] [] (by kernel_rfl) (by kernel_rfl) ?_
   obtain ⟨v4,c_v4,h⟩ := cl_some h
   refine TI_at (i:=3) (d:=22) (x:=vb v4) (At_call (d:=22) (f:=64) (args:=[rval (.agg [.one (.v (.slice Au0_0 (u0_0.length) cu0_0)),.arr .i64 4 u0_1]),rval (.agg [.arr .i64 7 u1]),rval (.agg [.one (.v (.slice Au2_0 (u2_0.length) cu2_0)),.one (.v (.slice Au2_1 (u2_1.length) cu2_1))])]) (x:=vb v4) (by kernel_rfl) (w64 k hu0_0 hu0_1 hu1 hu2_0 hu2_1 c_v4)) (by kernel_rfl) trivial ?_
   refine TI_segK (i:=4) (j:=6) (s':={ σ := [(6,vb v4),(7,vi (0 : Int))],H := [],V := [],M := M,ds := [] }) [6,7] [] [] (by kernel_rfl) (by kernel_rfl) ?_
   refine TI_end (by kernel_rfl) ?_
   refine thenQ_n ?_
   refine T_ret (by kernel_rfl) ?_
   have h := Option.some.inj h
   subst h
   refine fin_ret (.tup [(some (.v (.bool v4)),[]),(some (.v (.int .i64 (0 : Int))),[])]) (by kernel_rfl) (by kernel_rfl) rfl ?_
   rfl
  | false =>
   replace h := sp_f h
   refine T_condT (x:=(.tmp 18)) (c1:=(sub [1,1,1,0,1,0] Bd37)) (c2:=(sub [1,1,1,0,1,1] Bd37)) (by kernel_rfl) (by kernel_rfl) ?_
   refine T_keep (s':={ σ := [],H := [],V := [],M := M,ds := [] }) [] [] [] (by kernel_rfl) ?_
   refine T_seq (c1:=(sub [1,1,1,0,1,0,0] Bd37)) (c2:=(sub [1,1,1,0,1,0,1] Bd37)) (by kernel_rfl) ?_
   refine T_region (id:=5) (by kernel_rfl) ?_
   refine TI_segS (i:=0) (j:=2) [(6,vb false),(7,vi (17 : Int))] (by kernel_rfl) (by kernel_rfl) ?_
   refine TI_end (by kernel_rfl) ?_
   refine thenQ_n ?_
   refine T_ret (by kernel_rfl) ?_
   refine thenQ_r ?_
   have h := Option.some.inj h
   subst h
   refine fin_ret (.tup [(some (.v (.bool false)),[]),(some (.v (.int .i64 (17 : Int))),[])]) (by kernel_rfl) (by kernel_rfl) rfl ?_
   rfl
def p40 (k : Nat) : Option (List (List Int) × List Int) :=
 some ([[(100 : Int),(0 : Int),(10 : Int),(5 : Int),(5 : Int),(0 : Int),(0 : Int),(0 : Int),(0 : Int),(0 : Int),(0 : Int)],[(104 : Int),(90 : Int),(100 : Int),(9 : Int),(9 : Int),(0 : Int),(0 : Int),(0 : Int),(0 : Int),(0 : Int),(0 : Int)]],[(2 : Int),(0 : Int),(0 : Int),(0 : Int)])
theorem hf40 : Try.prog.funcs[40]? = some Try.f40 := by kernel_rfl
theorem w40 (k : Nat) {M : Mem} {r} (h : p40 k = some r) :
  Fn Try.prog 40 [] M (fun x M' => ∃ (A1 : Option Addr) (c2 : Nat),x = .agg [.one (.v (.slice A1 (List.length r.1) c2)),.arr .i64 4 r.2] ∧ SlR M' A1 c2 .i64 11 r.1) := by
 unfold p40 at h
 refine Fn_of (P:=Try.prog) (fn:=Try.f40) (c:=bodyOf Try.f40) [] hf40 (by kernel_rfl) (Nat.le_of_ble_eq_true (by kernel_rfl)) (args_ok (by kernel_rfl) trivial) fun w => ?_
 change T _ _ _ (endQ _ _ _)
 refine T_seq (c1:=(sub [0] Bd40)) (c2:=(sub [1] Bd40)) (by kernel_rfl) ?_
 refine T_region (id:=0) (by kernel_rfl) ?_
 refine TI_segK (i:=0) (j:=1) (s':={ σ := [(0,.lf (.own 0 0))],H := [(0,[.one (.v (.slice none (List.length ([] : List (List Int))) 0)),.arr .i64 4 [(0 : Int),(0 : Int),(0 : Int),(0 : Int)]])],V := [],M := M,ds := [] }) [0] [0] [] (by kernel_rfl) (by kernel_rfl) ?_
 refine TI_end (by kernel_rfl) ?_
 refine thenQ_n ?_
 refine T_seq (c1:=(sub [1,0] Bd40)) (c2:=(sub [1,1] Bd40)) (by kernel_rfl) ?_
 refine T_region (id:=1) (by kernel_rfl) ?_
 refine TI_segS (i:=0) (j:=9) [(0,.lf (.own 0 0)),(1,.agg [.arr .i64 4 [(2 : Int),(0 : Int),(0 : Int),(0 : Int)]]),(5,.agg [.arr .i64 11 [(100 : Int),(0 : Int),(10 : Int),(5 : Int),(5 : Int),(0 : Int),(0 : Int),(0 : Int),(0 : Int),(0 : Int),(0 : Int)]]),(9,.agg [.arr .i64 11 [(104 : Int),(90 : Int),(100 : Int),(9 : Int),(9 : Int),(0 : Int),(0 : Int),(0 : Int),(0 : Int),(0 : Int),(0 : Int)]])] (by kernel_rfl) (by kernel_rfl) ?_
 refine TI_of (i:=9) (by kernel_rfl) (TE_litC (d:=10) (e:=43) (sz:=11) (len:=2) (cs:=rowsC .i64 ([[(100 : Int),(0 : Int),(10 : Int),(5 : Int),(5 : Int),(0 : Int),(0 : Int),(0 : Int),(0 : Int),(0 : Int),(0 : Int)],[(104 : Int),(90 : Int),(100 : Int),(9 : Int),(9 : Int),(0 : Int),(0 : Int),(0 : Int),(0 : Int),(0 : Int),(0 : Int)]])) (by kernel_rfl) (by kernel_rfl) (by kernel_rfl) ?_)
 refine TI_segK (i:=10) (j:=12) (s':={ σ := [(0,.lf (.own 0 0))],H := [(0,[.one (.vec 10),.arr .i64 4 [(2 : Int),(0 : Int),(0 : Int),(0 : Int)]])],V := [(10,⟨43,11,List.length ([[(100 : Int),(0 : Int),(10 : Int),(5 : Int),(5 : Int),(0 : Int),(0 : Int),(0 : Int),(0 : Int),(0 : Int),(0 : Int)],[(104 : Int),(90 : Int),(100 : Int),(9 : Int),(9 : Int),(0 : Int),(0 : Int),(0 : Int),(0 : Int),(0 : Int),(0 : Int)]]),rowsC .i64 ([[(100 : Int),(0 : Int),(10 : Int),(5 : Int),(5 : Int),(0 : Int),(0 : Int),(0 : Int),(0 : Int),(0 : Int),(0 : Int)],[(104 : Int),(90 : Int),(100 : Int),(9 : Int),(9 : Int),(0 : Int),(0 : Int),(0 : Int),(0 : Int),(0 : Int),(0 : Int)]])⟩)],M := M,ds := [] }) [0] [0] [10] (by kernel_rfl) (by kernel_rfl) ?_
 refine TI_end (by kernel_rfl) ?_
 refine thenQ_n ?_
 refine T_turn (turn_pubV 10 (v:=⟨43,11,List.length ([[(100 : Int),(0 : Int),(10 : Int),(5 : Int),(5 : Int),(0 : Int),(0 : Int),(0 : Int),(0 : Int),(0 : Int),(0 : Int)],[(104 : Int),(90 : Int),(100 : Int),(9 : Int),(9 : Int),(0 : Int),(0 : Int),(0 : Int),(0 : Int),(0 : Int),(0 : Int)]]),rowsC .i64 ([[(100 : Int),(0 : Int),(10 : Int),(5 : Int),(5 : Int),(0 : Int),(0 : Int),(0 : Int),(0 : Int),(0 : Int),(0 : Int)],[(104 : Int),(90 : Int),(100 : Int),(9 : Int),(9 : Int),(0 : Int),(0 : Int),(0 : Int),(0 : Int),(0 : Int),(0 : Int)]])⟩) (by kernel_rfl)) ?_
 rintro _ ⟨A3,c4,M5,rfl,hSA3,hcA3,-,hNA3,hM5⟩
 have fA3 : SlR M5 A3 c4 .i64 11 ([[(100 : Int),(0 : Int),(10 : Int),(5 : Int),(5 : Int),(0 : Int),(0 : Int),(0 : Int),(0 : Int),(0 : Int),(0 : Int)],[(104 : Int),(90 : Int),(100 : Int),(9 : Int),(9 : Int),(0 : Int),(0 : Int),(0 : Int),(0 : Int),(0 : Int),(0 : Int)]]) := ⟨(rows_cons rfl (rows_cons rfl rows_nil)),hSA3,hcA3⟩
 refine T_keep (s':={ σ := [(0,.lf (.own 0 0))],H := [(0,[.one (.v (.slice A3 (List.length ([[(100 : Int),(0 : Int),(10 : Int),(5 : Int),(5 : Int),(0 : Int),(0 : Int),(0 : Int),(0 : Int),(0 : Int),(0 : Int)],[(104 : Int),(90 : Int),(100 : Int),(9 : Int),(9 : Int),(0 : Int),(0 : Int),(0 : Int),(0 : Int),(0 : Int),(0 : Int)]])) c4)),.arr .i64 4 [(2 : Int),(0 : Int),(0 : Int),(0 : Int)]])],V := [],M := M5,ds := [] }) [0] [0] [] (by kernel_rfl) ?_
 refine T_ret (by kernel_rfl) ?_
 have h := Option.some.inj h
 subst h
 refine fin_ret (.agg [.one (.v (.slice A3 (List.length ([[(100 : Int),(0 : Int),(10 : Int),(5 : Int),(5 : Int),(0 : Int),(0 : Int),(0 : Int),(0 : Int),(0 : Int),(0 : Int)],[(104 : Int),(90 : Int),(100 : Int),(9 : Int),(9 : Int),(0 : Int),(0 : Int),(0 : Int),(0 : Int),(0 : Int),(0 : Int)]])) c4)),.arr .i64 4 [(2 : Int),(0 : Int),(0 : Int),(0 : Int)]]) (by kernel_rfl) (by kernel_rfl) rfl ?_
 exact ⟨A3,c4,rfl,fA3⟩
end Go.Proofs.Ythjkejbgknemgaa
namespace Go.Proofs.Ythjkejbgknemgaa
open Go.RowKit
def p35_l2 (k : Nat) (u0_1 : List Int) (u1_1 : List (List Int)) (x5 : Int) (j15 : Option (Bool × Int)) : Nat → Int → Option (Bool × Int)
 | 0,_ => none
 | n17 + 1,x16 => lt' (decide (x16 < (4 : Int))) fun b18 => sp b18 (lt' (wr .i64 (x5 - (1 : Int))) fun x19 => gd ((0 : Int) ≤ x19 ∧ x19 < (u1_1.length : Int)) <| gd ((0 : Int) ≤ x16 ∧ x16 < ((4 : Nat) : Int)) <| lt' (List.getD (List.getD u1_1 ((x19).toNat) []) (0 + (x16).toNat * 1) 0) fun x22 => jn (fun (b23 : Bool) => sp b23 (some (false,(0 : Int))) (lt' (wr .i64 (x16 + (1 : Int))) fun x40 => p35_l2 k u0_1 u1_1 x5 j15 n17 x40)) fun j24 => cl (p50 k x22 (-1152921504606846976 : Int) (1152921504606846976 : Int)) fun v25 => sp v25 (gd ((0 : Int) ≤ x5 ∧ x5 < (u1_1.length : Int)) <| gd ((0 : Int) ≤ x16 ∧ x16 < ((4 : Nat) : Int)) <| lt' (List.getD (List.getD u1_1 ((x5).toNat) []) (0 + (x16).toNat * 1) 0) fun x28 => gd ((0 : Int) ≤ x16 ∧ x16 < ((4 : Nat) : Int)) <| lt' (List.getD u0_1 (0 + (x16).toNat * 1) 0) fun x30 => lt' (wr .i64 (x22 - x30)) fun x31 => lt' (decide (x28 < x31)) fun b32 => sp b32 (j24 true) (gd ((0 : Int) ≤ x5 ∧ x5 < (u1_1.length : Int)) <| gd ((0 : Int) ≤ x16 ∧ x16 < ((4 : Nat) : Int)) <| lt' (List.getD (List.getD u1_1 ((x5).toNat) []) (0 + (x16).toNat * 1) 0) fun x35 => gd ((0 : Int) ≤ x16 ∧ x16 < ((4 : Nat) : Int)) <| lt' (List.getD u0_1 (0 + (x16).toNat * 1) 0) fun x37 => lt' (wr .i64 (x22 + x37)) fun x38 => lt' (decide (x35 > x38)) fun b39 => j24 b39)) (j24 true)) (j15)
def p35_l1 (k : Nat) (u0_0 : List (List Int)) (u0_1 : List Int) (u1_0 : List Int) (u1_1 : List (List Int)) (j4 : Option (Bool × Int)) : Nat → Int → Option (Bool × Int)
 | 0,_ => none
 | n6 + 1,x5 => cl (p53 k u0_0 u0_1) fun v7 => lt' (decide (x5 ≤ v7)) fun b8 => sp b8 (gd ((0 : Int) ≤ x5 ∧ x5 < (u1_0.length : Int)) <| lt' (List.getD u1_0 ((x5).toNat) 0) fun x10 => lt' (wr .i64 (x5 - (1 : Int))) fun x11 => gd ((0 : Int) ≤ x11 ∧ x11 < (u1_0.length : Int)) <| lt' (List.getD u1_0 ((x11).toNat) 0) fun x13 => lt' (decide (x10 < x13)) fun b14 => sp b14 (some (false,(0 : Int))) (jn (lt' (wr .i64 (x5 + (1 : Int))) fun x41 => p35_l1 k u0_0 u0_1 u1_0 u1_1 j4 n6 x41) fun j15 => p35_l2 k u0_1 u1_1 x5 j15 k (0 : Int))) (j4)
def p35_l4 (k : Nat) (u1_1 : List (List Int)) (j57 : Option (Bool × Int)) (L47 : List Int) (x51 : Int) : Nat → Int → Option (Bool × Int)
 | 0,_ => none
 | n59 + 1,x58 => lt' (decide (x58 < (4 : Int))) fun b60 => sp b60 (gd ((0 : Int) ≤ x51 ∧ x51 < (u1_1.length : Int)) <| gd ((0 : Int) ≤ x58 ∧ x58 < ((4 : Nat) : Int)) <| lt' (List.getD (List.getD u1_1 ((x51).toNat) []) (0 + (x58).toNat * 1) 0) fun x63 => gd ((0 : Int) ≤ x58 ∧ x58 < ((4 : Nat) : Int)) <| lt' (List.getD L47 (3 + (x58).toNat * 2 + 0) 0) fun x65 => gd ((0 : Int) ≤ x58 ∧ x58 < ((4 : Nat) : Int)) <| lt' (List.getD L47 (3 + (x58).toNat * 2 + 1) 0) fun x67 => cl (p50 k x63 x65 x67) fun v68 => sp v68 (lt' (wr .i64 (x58 + (1 : Int))) fun x69 => p35_l4 k u1_1 j57 L47 x51 n59 x69) (some (false,(0 : Int)))) (j57)
def p35_l3 (k : Nat) (u0_0 : List (List Int)) (u1_0 : List Int) (u1_1 : List (List Int)) (j42 : Option (Bool × Int)) : Nat → Int → Option (Bool × Int)
 | 0,_ => none
 | n44 + 1,x43 => lt' (decide (x43 < (u0_0.length : Int))) fun b45 => sp b45 (gd ((0 : Int) ≤ x43 ∧ x43 < (u0_0.length : Int)) <| lt' (List.getD u0_0 ((x43).toNat) []) fun L47 => lt' (List.getD L47 0 0) fun x48 => gd ((0 : Int) ≤ (0 : Int) ∧ (0 : Int) < (u0_0.length : Int)) <| lt' (List.getD (List.getD u0_0 0 []) 0 0) fun x50 => lt' (wr .i64 (x48 - x50)) fun x51 => gd ((0 : Int) ≤ x51 ∧ x51 < (u1_0.length : Int)) <| lt' (List.getD u1_0 ((x51).toNat) 0) fun x53 => lt' (List.getD L47 1 0) fun x54 => lt' (List.getD L47 2 0) fun x55 => cl (p50 k x53 x54 x55) fun v56 => sp v56 (jn (lt' (wr .i64 (x43 + (1 : Int))) fun x70 => p35_l3 k u0_0 u1_0 u1_1 j42 n44 x70) fun j57 => p35_l4 k u1_1 j57 L47 x51 k (0 : Int)) (some (false,(0 : Int)))) (j42)
def p35 (k : Nat) (u0_0 : List (List Int)) (u0_1 : List Int) (u1_0 : List Int) (u1_1 : List (List Int)) : Option (Bool × Int) :=
 cl (p21 k u0_0 u0_1) fun v1 => lt' (v1 != (0 : Int)) fun b2 => sp b2 (some (false,v1)) (cl (p62 k u0_0 u0_1 u1_0 u1_1) fun v3 => sp v3 (jn (jn (some (true,(0 : Int))) fun j42 => p35_l3 k u0_0 u1_0 u1_1 j42 k (0 : Int)) fun j4 => p35_l1 k u0_0 u0_1 u1_0 u1_1 j4 k (1 : Int)) (some (false,(0 : Int))))
theorem hf35 : Try.prog.funcs[35]? = some Try.f35 := by kernel_rfl
theorem w35 (k : Nat) {M : Mem} {Au0_0 : Option Addr} {cu0_0 : Nat} {Au1_0 : Option Addr} {cu1_0 : Nat} {Au1_1 : Option Addr} {cu1_1 : Nat} {u0_0 : List (List Int)} {u0_1 : List Int} {u1_0 : List Int} {u1_1 : List (List Int)} (hu0_0 : SlR M Au0_0 cu0_0 .i64 11 u0_0) (hu0_1 : u0_1.length = 4) (hu1_0 : SlI M Au1_0 cu1_0 .i64 u1_0) (hu1_1 : SlR M Au1_1 cu1_1 .i64 4 u1_1) {r} (h : p35 k u0_0 u0_1 u1_0 u1_1 = some r) :
  Fn Try.prog 35 [rval (.agg [.one (.v (.slice Au0_0 (u0_0.length) cu0_0)),.arr .i64 4 u0_1]),rval (.agg [.one (.v (.slice Au1_0 (u1_0.length) cu1_0)),.one (.v (.slice Au1_1 (u1_1.length) cu1_1))])] M (fun x _ => x = .tup [(some (.v (.bool r.1)),[]),(some (.v (.int .i64 r.2)),[])]) := by
 unfold p35 at h
 refine Fn_of (P:=Try.prog) (fn:=Try.f35) (c:=bodyOf Try.f35) [.agg [.one (.v (.slice Au0_0 (u0_0.length) cu0_0)),.arr .i64 4 u0_1],.agg [.one (.v (.slice Au1_0 (u1_0.length) cu1_0)),.one (.v (.slice Au1_1 (u1_1.length) cu1_1))]] hf35 (by kernel_rfl) (Nat.le_of_ble_eq_true (by kernel_rfl)) (args_ok (by kernel_rfl) ⟨⟨rfl,⟨hu0_1,trivial⟩⟩,⟨⟨rfl,⟨rfl,trivial⟩⟩,trivial⟩⟩) fun w => ?_
 change T _ _ _ (endQ _ _ _)
 refine T_seq (c1:=(sub [0] Bd35)) (c2:=(sub [1] Bd35)) (by kernel_rfl) ?_
 refine T_region (id:=0) (by kernel_rfl) ?_
 refine TI_segK (i:=0) (j:=4) (s':={ σ := [(2,.lf (.own 2 0)),(3,.lf (.own 3 0))],H := [(2,[.one (.v (.slice Au0_0 (u0_0.length) cu0_0)),.arr .i64 4 u0_1]),(3,[.one (.v (.slice Au1_0 (u1_0.length) cu1_0)),.one (.v (.slice Au1_1 (u1_1.length) cu1_1))])],V := [],M := M,ds := [] }) [2,3] [2,3] [] (by kernel_rfl) (by kernel_rfl) ?_
 refine TI_end (by kernel_rfl) ?_
 refine thenQ_n ?_
 refine T_seq (c1:=(sub [1,0] Bd35)) (c2:=(sub [1,1] Bd35)) (by kernel_rfl) ?_
 refine T_region (id:=1) (by kernel_rfl) ?_
 refine TI_segS (i:=0) (j:=1) [(2,.lf (.own 2 0)),(3,.lf (.own 3 0)),(14,.agg [.one (.v (.slice Au0_0 (u0_0.length) cu0_0)),.arr .i64 4 u0_1])] (by kernel_rfl) (by kernel_rfl) ?_
 obtain ⟨v1,c_v1,h⟩ := cl_some h
 refine TI_at (i:=1) (d:=15) (x:=vi v1) (At_call (d:=15) (f:=21) (args:=[rval (.agg [.one (.v (.slice Au0_0 (u0_0.length) cu0_0)),.arr .i64 4 u0_1])]) (x:=vi v1) (by kernel_rfl) (w21 k hu0_0 hu0_1 c_v1)) (by kernel_rfl) trivial ?_
 refine TI_segK (i:=2) (j:=3) (s':={ σ := [(2,.lf (.own 2 0)),(3,.lf (.own 3 0)),(6,vi v1)],H := [(2,[.one (.v (.slice Au0_0 (u0_0.length) cu0_0)),.arr .i64 4 u0_1]),(3,[.one (.v (.slice Au1_0 (u1_0.length) cu1_0)),.one (.v (.slice Au1_1 (u1_1.length) cu1_1))])],V := [],M := M,ds := [] }) [2,3,6] [2,3] [] (by kernel_rfl) (by kernel_rfl) ?_
 refine TI_end (by kernel_rfl) ?_
 refine thenQ_n ?_
 refine T_seq (c1:=(sub [1,1,0] Bd35)) (c2:=(sub [1,1,1] Bd35)) (by kernel_rfl) ?_
 refine T_seq (c1:=(sub [1,1,0,0] Bd35)) (c2:=(sub [1,1,0,1] Bd35)) (by kernel_rfl) ?_
 refine T_region (id:=2) (by kernel_rfl) ?_
 obtain ⟨b2,e_b2,h⟩ := lt_some h
 refine TI_segS (i:=0) (j:=2) [(2,.lf (.own 2 0)),(3,.lf (.own 3 0)),(6,vi v1),(17,vb b2)] (by subst e_b2;kernel_rfl) (by kernel_rfl) ?_
 refine TI_end (by kernel_rfl) ?_
 refine thenQ_n ?_
 cases b2 with
 | true =>
  replace h := sp_t h
  refine T_condT (x:=(.tmp 17)) (c1:=(sub [1,1,0,1,0] Bd35)) (c2:=(sub [1,1,0,1,1] Bd35)) (by kernel_rfl) (by kernel_rfl) ?_
  refine T_keep (s':={ σ := [(6,vi v1)],H := [],V := [],M := M,ds := [] }) [6] [] [] (by kernel_rfl) ?_
  refine T_seq (c1:=(sub [1,1,0,1,0,0] Bd35)) (c2:=(sub [1,1,0,1,0,1] Bd35)) (by kernel_rfl) ?_
  refine T_region (id:=3) (by kernel_rfl) ?_
  refine TI_segS (i:=0) (j:=3) [(4,vb false),(5,vi v1)] (by kernel_rfl) (by kernel_rfl) ?_
  refine TI_end (by kernel_rfl) ?_
  refine thenQ_n ?_
  refine T_ret (by kernel_rfl) ?_
  refine thenQ_r ?_
  have h := Option.some.inj h
  subst h
  refine fin_ret (.tup [(some (.v (.bool false)),[]),(some (.v (.int .i64 v1)),[])]) (by kernel_rfl) (by kernel_rfl) rfl ?_
  rfl
 | false =>
  replace h := sp_f h
  refine T_condF (x:=(.tmp 17)) (c1:=(sub [1,1,0,1,0] Bd35)) (c2:=(sub [1,1,0,1,1] Bd35)) (by kernel_rfl) (by kernel_rfl) ?_
  refine T_keepS [(2,.lf (.own 2 0)),(3,.lf (.own 3 0))] (by kernel_rfl) ?_
  refine T_skip (by kernel_rfl) ?_
  refine thenQ_n ?_
  refine T_seq (c1:=(sub [1,1,1,0] Bd35)) (c2:=(sub [1,1,1,1] Bd35)) (by kernel_rfl) ?_
  refine T_seq (c1:=(sub [1,1,1,0,0] Bd35)) (c2:=(sub [1,1,1,0,1] Bd35)) (by kernel_rfl) ?_
  refine T_region (id:=4) (by kernel_rfl) ?_
  refine TI_segS (i:=0) (j:=2) [(2,.lf (.own 2 0)),(3,.lf (.own 3 0)),(19,.agg [.one (.v (.slice Au0_0 (u0_0.length) cu0_0)),.arr .i64 4 u0_1]),(20,.agg [.one (.v (.slice Au1_0 (u1_0.length) cu1_0)),.one (.v (.slice Au1_1 (u1_1.length) cu1_1))])] (by kernel_rfl) (by kernel_rfl) ?_
  obtain ⟨v3,c_v3,h⟩ := cl_some h
  refine TI_at (i:=2) (d:=21) (x:=vb v3) (At_call (d:=21) (f:=62) (args:=[rval (.agg [.one (.v (.slice Au0_0 (u0_0.length) cu0_0)),.arr .i64 4 u0_1]),rval (.agg [.one (.v (.slice Au1_0 (u1_0.length) cu1_0)),.one (.v (.slice Au1_1 (u1_1.length) cu1_1))])]) (x:=vb v3) (by kernel_rfl) (w62 k hu0_0 hu0_1 hu1_0 hu1_1 c_v3)) (by kernel_rfl) trivial ?_
  refine TI_segK (i:=3) (j:=4) (s':={ σ := [(2,.lf (.own 2 0)),(3,.lf (.own 3 0)),(22,vb (!v3))],H := [(2,[.one (.v (.slice Au0_0 (u0_0.length) cu0_0)),.arr .i64 4 u0_1]),(3,[.one (.v (.slice Au1_0 (u1_0.length) cu1_0)),.one (.v (.slice Au1_1 (u1_1.length) cu1_1))])],V := [],M := M,ds := [] }) [2,3,22] [2,3] [] (by kernel_rfl) (by kernel_rfl) ?_
  refine TI_end (by kernel_rfl) ?_
  refine thenQ_n ?_
  cases v3 with
  | true =>
   replace h := sp_t h
   refine T_condF (x:=(.tmp 22)) (c1:=(sub [1,1,1,0,1,0] Bd35)) (c2:=(sub [1,1,1,0,1,1] Bd35)) (by kernel_rfl) (by kernel_rfl) ?_
   refine T_keepS [(2,.lf (.own 2 0)),(3,.lf (.own 3 0))] (by kernel_rfl) ?_
   refine T_skip (by kernel_rfl) ?_
   refine thenQ_n ?_
   refine T_seq (c1:=(sub [1,1,1,1,0] Bd35)) (c2:=(sub [1,1,1,1,1] Bd35)) (by kernel_rfl) ?_
   refine T_seq (c1:=(sub [1,1,1,1,0,0] Bd35)) (c2:=(sub [1,1,1,1,0,1] Bd35)) (by kernel_rfl) ?_
   refine T_region (id:=6) (by kernel_rfl) ?_
   refine TI_segS (i:=0) (j:=1) [(2,.lf (.own 2 0)),(3,.lf (.own 3 0)),(7,vi (1 : Int))] (by kernel_rfl) (by kernel_rfl) ?_
   refine TI_end (by kernel_rfl) ?_
   refine thenQ_n ?_
   obtain ⟨j4,e_j4,h⟩ := jn_some h
   refine T_bcut (id:=0) (c1:=(sub [1,1,1,1,0,1,0] Bd35)) (fun s' => Sub { σ := [(2,.lf (.own 2 0)),(3,.lf (.own 3 0))],H := [(2,[.one (.v (.slice Au0_0 (u0_0.length) cu0_0)),.arr .i64 4 u0_1]),(3,[.one (.v (.slice Au1_0 (u1_0.length) cu1_0)),.one (.v (.slice Au1_1 (u1_1.length) cu1_1))])],V := [],M := M,ds := [] } s' ∧ j4 = some r) (by kernel_rfl) ?_ ?_
   ·refine T_loop (c1:=(sub [1,1,1,1,0,1,0,0] Bd35)) (by kernel_rfl) (fun n6 s' => ∃ (x5 : Int),Sub { σ := [(2,.lf (.own 2 0)),(3,.lf (.own 3 0)),(7,vi x5)],H := [(2,[.one (.v (.slice Au0_0 (u0_0.length) cu0_0)),.arr .i64 4 u0_1]),(3,[.one (.v (.slice Au1_0 (u1_0.length) cu1_0)),.one (.v (.slice Au1_1 (u1_1.length) cu1_1))])],V := [],M := M,ds := [] } s' ∧ p35_l1 k u0_0 u0_1 u1_0 u1_1 j4 n6 x5 = some r) (k:=k) ⟨(1 : Int),keep_sub (ts:=[2,3,7]) (hs:=[2,3]) (vs:=[]) (by kernel_rfl),h⟩ ?_
    rintro n6 s' ⟨x5,hsub,h⟩
    cases n6 with
    | zero => rw [p35_l1] at h;cases h
    | succ n6 =>
     rw [p35_l1] at h
     refine T_sub hsub ?_
     refine T_seq (c1:=(sub [1,1,1,1,0,1,0,0,0] Bd35)) (c2:=(sub [1,1,1,1,0,1,0,0,1] Bd35)) (by kernel_rfl) ?_
     refine T_seq (c1:=(sub [1,1,1,1,0,1,0,0,0,0] Bd35)) (c2:=(sub [1,1,1,1,0,1,0,0,0,1] Bd35)) (by kernel_rfl) ?_
     refine T_region (id:=7) (by kernel_rfl) ?_
     refine TI_segK (i:=0) (j:=2) (s':={ σ := [(2,.lf (.own 2 0)),(3,.lf (.own 3 0)),(7,vi x5),(23,vi x5),(24,.agg [.one (.v (.slice Au0_0 (u0_0.length) cu0_0)),.arr .i64 4 u0_1])],H := [(2,[.one (.v (.slice Au0_0 (u0_0.length) cu0_0)),.arr .i64 4 u0_1]),(3,[.one (.v (.slice Au1_0 (u1_0.length) cu1_0)),.one (.v (.slice Au1_1 (u1_1.length) cu1_1))])],V := [],M := M,ds := [] }) [2,3,7,23,24] [2,3] [] (by kernel_rfl) (by kernel_rfl) ?_
     obtain ⟨v7,c_v7,h⟩ := cl_some h
     refine TI_at (i:=2) (d:=25) (x:=vi v7) (At_call (d:=25) (f:=53) (args:=[rval (.agg [.one (.v (.slice Au0_0 (u0_0.length) cu0_0)),.arr .i64 4 u0_1])]) (x:=vi v7) (by kernel_rfl) (w53 k hu0_0 hu0_1 c_v7)) (by kernel_rfl) trivial ?_
     obtain ⟨b8,e_b8,h⟩ := lt_some h
     refine TI_segK (i:=3) (j:=4) (s':={ σ := [(2,.lf (.own 2 0)),(3,.lf (.own 3 0)),(7,vi x5),(26,vb b8)],H := [(2,[.one (.v (.slice Au0_0 (u0_0.length) cu0_0)),.arr .i64 4 u0_1]),(3,[.one (.v (.slice Au1_0 (u1_0.length) cu1_0)),.one (.v (.slice Au1_1 (u1_1.length) cu1_1))])],V := [],M := M,ds := [] }) [2,3,7,26] [2,3] [] (by subst e_b8;kernel_rfl) (by kernel_rfl) ?_
     refine TI_end (by kernel_rfl) ?_
     refine thenQ_n ?_
     cases b8 with
     | true =>
      replace h := sp_t h
      refine T_condT (x:=(.tmp 26)) (c1:=(sub [1,1,1,1,0,1,0,0,0,1,0] Bd35)) (c2:=(sub [1,1,1,1,0,1,0,0,0,1,1] Bd35)) (by kernel_rfl) (by kernel_rfl) ?_
      refine T_keepS [(2,.lf (.own 2 0)),(3,.lf (.own 3 0)),(7,vi x5)] (by kernel_rfl) ?_
      refine T_skip (by kernel_rfl) ?_
      refine thenQ_n ?_
      refine T_seq (c1:=(sub [1,1,1,1,0,1,0,0,1,0] Bd35)) (c2:=(sub [1,1,1,1,0,1,0,0,1,1] Bd35)) (by kernel_rfl) ?_
      refine T_block (id:=1) (c1:=(sub [1,1,1,1,0,1,0,0,1,0,0] Bd35)) (by kernel_rfl) ?_
      refine T_seq (c1:=(sub [1,1,1,1,0,1,0,0,1,0,0,0] Bd35)) (c2:=(sub [1,1,1,1,0,1,0,0,1,0,0,1] Bd35)) (by kernel_rfl) ?_
      refine T_seq (c1:=(sub [1,1,1,1,0,1,0,0,1,0,0,0,0] Bd35)) (c2:=(sub [1,1,1,1,0,1,0,0,1,0,0,0,1] Bd35)) (by kernel_rfl) ?_
      obtain ⟨g9,h⟩ := gd_some h
      obtain ⟨x10,e_x10,h⟩ := lt_some h
      obtain ⟨x11,e_x11,h⟩ := lt_some h
      obtain ⟨g12,h⟩ := gd_some h
      obtain ⟨x13,e_x13,h⟩ := lt_some h
      obtain ⟨b14,e_b14,h⟩ := lt_some h
      refine T_draw' (id:=9) [] [0,0,0,0,0,0,0,0,0,0,0,0] (by kernel_rfl) (by kernel_rfl) (by kernel_rfl) (by kernel_rfl) [(29,.lf (.own 3 0)),(30,.lf (.v (.slice Au1_0 (u1_0.length) cu1_0))),(31,vi x5),(32,.lf (.ep (.slice Au1_0 (u1_0.length) cu1_0) 1 ((x5).toNat) 0)),(33,vi x10),(34,.lf (.own 3 0)),(35,.lf (.v (.slice Au1_0 (u1_0.length) cu1_0))),(36,vi x5),(37,vi x11),(38,.lf (.ep (.slice Au1_0 (u1_0.length) cu1_0) 1 ((x11).toNat) 0)),(39,vi x13),(40,vb b14)] (by kernel_rfl) (wfs_lf _ (by kernel_rfl)) ?_
      refine Stage_nil (stage_all' [0,1,2,5,6,7,8,11] [3,4,9,10] (by kernel_rfl) (by subst_vars; kernel_rfl) (by kernel_rfl) ⟨QF_at (i:=3) (d:=32) (x:=.lf (.ep (.slice Au1_0 (u1_0.length) cu1_0) 1 ((x5).toNat) 0)) (show OpAt _ _ _ 3 32 _ from by exact At_idxI (d:=32) (z:=x5) (by subst_vars; kernel_rfl) g9 hu1_0) (by kernel_rfl) (by subst_vars; kernel_rfl),⟨QF_at (i:=4) (d:=33) (x:=vi x10) (show OpAt _ _ _ 4 33 _ from by rw [e_x10]; exact At_ldI (d:=33) (q:=(x5).toNat) (by subst_vars; kernel_rfl) (toNat_lt g9) hu1_0) (by kernel_rfl) (by subst_vars; kernel_rfl),⟨QF_at (i:=9) (d:=38) (x:=.lf (.ep (.slice Au1_0 (u1_0.length) cu1_0) 1 ((x11).toNat) 0)) (show OpAt _ _ _ 9 38 _ from by exact At_idxI (d:=38) (z:=x11) (by subst_vars; kernel_rfl) g12 hu1_0) (by kernel_rfl) (by subst_vars; kernel_rfl),⟨QF_at (i:=10) (d:=39) (x:=vi x13) (show OpAt _ _ _ 10 39 _ from by rw [e_x13]; exact At_ldI (d:=39) (q:=(x11).toNat) (by subst_vars; kernel_rfl) (toNat_lt g12) hu1_0) (by kernel_rfl) (by subst_vars; kernel_rfl),trivial⟩⟩⟩⟩) ?_
      refine thenQ_n ?_
      refine T_keep (s':={ σ := [(2,.lf (.own 2 0)),(3,.lf (.own 3 0)),(7,vi x5),(40,vb b14)],H := [(2,[.one (.v (.slice Au0_0 (u0_0.length) cu0_0)),.arr .i64 4 u0_1]),(3,[.one (.v (.slice Au1_0 (u1_0.length) cu1_0)),.one (.v (.slice Au1_1 (u1_1.length) cu1_1))])],V := [],M := M,ds := [] }) [2,3,7,40] [2,3] [] (by subst_vars;kernel_rfl) ?_
      cases b14 with
      | true =>
       replace h := sp_t h
       refine T_condT (x:=(.tmp 40)) (c1:=(sub [1,1,1,1,0,1,0,0,1,0,0,0,1,0] Bd35)) (c2:=(sub [1,1,1,1,0,1,0,0,1,0,0,0,1,1] Bd35)) (by kernel_rfl) (by kernel_rfl) ?_
       refine T_keep (s':={ σ := [],H := [],V := [],M := M,ds := [] }) [] [] [] (by kernel_rfl) ?_
       refine T_seq (c1:=(sub [1,1,1,1,0,1,0,0,1,0,0,0,1,0,0] Bd35)) (c2:=(sub [1,1,1,1,0,1,0,0,1,0,0,0,1,0,1] Bd35)) (by kernel_rfl) ?_
       refine T_region (id:=10) (by kernel_rfl) ?_
       refine TI_segS (i:=0) (j:=2) [(4,vb false),(5,vi (0 : Int))] (by kernel_rfl) (by kernel_rfl) ?_
       refine TI_end (by kernel_rfl) ?_
       refine thenQ_n ?_
       refine T_ret (by kernel_rfl) ?_
       refine thenQ_r ?_
       refine blockQ_r ?_
       refine thenQ_r ?_
       refine thenQ_r ?_
       refine blockQ_r ?_
       refine thenQ_r ?_
       refine thenQ_r ?_
       have h := Option.some.inj h
       subst h
       refine fin_ret (.tup [(some (.v (.bool false)),[]),(some (.v (.int .i64 (0 : Int))),[])]) (by kernel_rfl) (by kernel_rfl) rfl ?_
       rfl
      | false =>
       replace h := sp_f h
       refine T_condF (x:=(.tmp 40)) (c1:=(sub [1,1,1,1,0,1,0,0,1,0,0,0,1,0] Bd35)) (c2:=(sub [1,1,1,1,0,1,0,0,1,0,0,0,1,1] Bd35)) (by kernel_rfl) (by kernel_rfl) ?_
       refine T_keepS [(2,.lf (.own 2 0)),(3,.lf (.own 3 0)),(7,vi x5)] (by kernel_rfl) ?_
       refine T_skip (by kernel_rfl) ?_
       refine thenQ_n ?_
       refine T_seq (c1:=(sub [1,1,1,1,0,1,0,0,1,0,0,1,0] Bd35)) (c2:=(sub [1,1,1,1,0,1,0,0,1,0,0,1,1] Bd35)) (by kernel_rfl) ?_
       refine T_region (id:=11) (by kernel_rfl) ?_
       refine TI_segS (i:=0) (j:=1) [(2,.lf (.own 2 0)),(3,.lf (.own 3 0)),(7,vi x5),(8,vi (0 : Int))] (by kernel_rfl) (by kernel_rfl) ?_
       refine TI_end (by kernel_rfl) ?_
       refine thenQ_n ?_
       obtain ⟨j15,e_j15,h⟩ := jn_some h
       refine T_bcut (id:=2) (c1:=(sub [1,1,1,1,0,1,0,0,1,0,0,1,1,0] Bd35)) (fun s' => Sub { σ := [(2,.lf (.own 2 0)),(3,.lf (.own 3 0)),(7,vi x5)],H := [(2,[.one (.v (.slice Au0_0 (u0_0.length) cu0_0)),.arr .i64 4 u0_1]),(3,[.one (.v (.slice Au1_0 (u1_0.length) cu1_0)),.one (.v (.slice Au1_1 (u1_1.length) cu1_1))])],V := [],M := M,ds := [] } s' ∧ j15 = some r) (by kernel_rfl) ?_ ?_
       ·refine T_loop (c1:=(sub [1,1,1,1,0,1,0,0,1,0,0,1,1,0,0] Bd35)) (by kernel_rfl) (fun n17 s' => ∃ (x16 : Int),Sub { σ := [(2,.lf (.own 2 0)),(3,.lf (.own 3 0)),(7,vi x5),(8,vi x16)],H := [(2,[.one (.v (.slice Au0_0 (u0_0.length) cu0_0)),.arr .i64 4 u0_1]),(3,[.one (.v (.slice Au1_0 (u1_0.length) cu1_0)),.one (.v (.slice Au1_1 (u1_1.length) cu1_1))])],V := [],M := M,ds := [] } s' ∧ p35_l2 k u0_1 u1_1 x5 j15 n17 x16 = some r) (k:=k) ⟨(0 : Int),keep_sub (ts:=[2,3,7,8]) (hs:=[2,3]) (vs:=[]) (by kernel_rfl),h⟩ ?_
        rintro n17 s' ⟨x16,hsub,h⟩
        cases n17 with
        | zero => rw [p35_l2] at h;cases h
        | succ n17 =>
         rw [p35_l2] at h
         refine T_sub hsub ?_
         refine T_seq (c1:=(sub [1,1,1,1,0,1,0,0,1,0,0,1,1,0,0,0] Bd35)) (c2:=(sub [1,1,1,1,0,1,0,0,1,0,0,1,1,0,0,1] Bd35)) (by kernel_rfl) ?_
         refine T_seq (c1:=(sub [1,1,1,1,0,1,0,0,1,0,0,1,1,0,0,0,0] Bd35)) (c2:=(sub [1,1,1,1,0,1,0,0,1,0,0,1,1,0,0,0,1] Bd35)) (by kernel_rfl) ?_
         refine T_region (id:=12) (by kernel_rfl) ?_
         obtain ⟨b18,e_b18,h⟩ := lt_some h
         refine TI_segK (i:=0) (j:=2) (s':={ σ := [(2,.lf (.own 2 0)),(3,.lf (.own 3 0)),(7,vi x5),(8,vi x16),(42,vb b18)],H := [(2,[.one (.v (.slice Au0_0 (u0_0.length) cu0_0)),.arr .i64 4 u0_1]),(3,[.one (.v (.slice Au1_0 (u1_0.length) cu1_0)),.one (.v (.slice Au1_1 (u1_1.length) cu1_1))])],V := [],M := M,ds := [] }) [2,3,7,8,42] [2,3] [] (by subst e_b18;kernel_rfl) (by kernel_rfl) ?_
         refine TI_end (by kernel_rfl) ?_
         refine thenQ_n ?_
         cases b18 with
         | true =>
          replace h := sp_t h
          refine T_condT (x:=(.tmp 42)) (c1:=(sub [1,1,1,1,0,1,0,0,1,0,0,1,1,0,0,0,1,0] Bd35)) (c2:=(sub [1,1,1,1,0,1,0,0,1,0,0,1,1,0,0,0,1,1] Bd35)) (by kernel_rfl) (by kernel_rfl) ?_
          refine T_keepS [(2,.lf (.own 2 0)),(3,.lf (.own 3 0)),(7,vi x5),(8,vi x16)] (by kernel_rfl) ?_
          refine T_skip (by kernel_rfl) ?_
          refine thenQ_n ?_
          refine T_seq (c1:=(sub [1,1,1,1,0,1,0,0,1,0,0,1,1,0,0,1,0] Bd35)) (c2:=(sub [1,1,1,1,0,1,0,0,1,0,0,1,1,0,0,1,1] Bd35)) (by kernel_rfl) ?_
          refine T_block (id:=3) (c1:=(sub [1,1,1,1,0,1,0,0,1,0,0,1,1,0,0,1,0,0] Bd35)) (by kernel_rfl) ?_
          refine T_seq (c1:=(sub [1,1,1,1,0,1,0,0,1,0,0,1,1,0,0,1,0,0,0] Bd35)) (c2:=(sub [1,1,1,1,0,1,0,0,1,0,0,1,1,0,0,1,0,0,1] Bd35)) (by kernel_rfl) ?_
          refine T_region (id:=14) (by kernel_rfl) ?_
          obtain ⟨x19,e_x19,h⟩ := lt_some h
          refine TI_segS (i:=0) (j:=5) [(2,.lf (.own 2 0)),(3,.lf (.own 3 0)),(7,vi x5),(8,vi x16),(46,.lf (.v (.slice Au1_1 (u1_1.length) cu1_1))),(48,vi x19),(49,vi x16)] (by subst e_x19;kernel_rfl) (by kernel_rfl) ?_
          obtain ⟨g20,h⟩ := gd_some h
          refine TI_at (i:=5) (d:=50) (x:=.lf (.ep (.slice Au1_1 (u1_1.length) cu1_1) 4 ((x19).toNat) 0)) (by exact At_idxR (d:=50) (z:=x19) (by kernel_rfl) g20 hu1_1) (by kernel_rfl) trivial ?_
          obtain ⟨g21,h⟩ := gd_some h
          refine TI_at (i:=6) (d:=51) (x:=.lf (.ep (.slice Au1_1 (u1_1.length) cu1_1) 4 ((x19).toNat) (0 + (x16).toNat * 1))) (by exact At_idxE (d:=51) (z:=x16) (A:=(.slice Au1_1 (u1_1.length) cu1_1)) (sz:=4) (q:=(x19).toNat) (j:=0) (es:=1) (n:=4) (by kernel_rfl) g21) (by kernel_rfl) trivial ?_
          obtain ⟨x22,e_x22,h⟩ := lt_some h
          refine TI_at (i:=7) (d:=52) (x:=vi x22) (by rw [e_x22]; exact At_ldR1' (d:=52) (q:=(x19).toNat) (j:=0 + (x16).toNat * 1) (by subst e_x22; kernel_rfl) (by omega) (toNat_lt g20) hu1_1) (by kernel_rfl) trivial ?_
          refine TI_segK (i:=8) (j:=9) (s':={ σ := [(2,.lf (.own 2 0)),(3,.lf (.own 3 0)),(7,vi x5),(8,vi x16),(9,vi x22)],H := [(2,[.one (.v (.slice Au0_0 (u0_0.length) cu0_0)),.arr .i64 4 u0_1]),(3,[.one (.v (.slice Au1_0 (u1_0.length) cu1_0)),.one (.v (.slice Au1_1 (u1_1.length) cu1_1))])],V := [],M := M,ds := [] }) [2,3,7,8,9] [2,3] [] (by kernel_rfl) (by kernel_rfl) ?_
          refine TI_end (by kernel_rfl) ?_
          refine thenQ_n ?_
          obtain ⟨j24,e_j24,h⟩ := jn_some h
          refine T_cut (c1:=(sub [1,1,1,1,0,1,0,0,1,0,0,1,1,0,0,1,0,0,1,0] Bd35)) (c2:=(sub [1,1,1,1,0,1,0,0,1,0,0,1,1,0,0,1,0,0,1,1] Bd35)) (fun s' => ∃ (b23 : Bool),Sub { σ := [(2,.lf (.own 2 0)),(3,.lf (.own 3 0)),(7,vi x5),(8,vi x16),(87,vb b23)],H := [(2,[.one (.v (.slice Au0_0 (u0_0.length) cu0_0)),.arr .i64 4 u0_1]),(3,[.one (.v (.slice Au1_0 (u1_0.length) cu1_0)),.one (.v (.slice Au1_1 (u1_1.length) cu1_1))])],V := [],M := M,ds := [] } s' ∧ j24 b23 = some r) (by kernel_rfl) ?_ ?_
          ·obtain ⟨v25,c_v25,h⟩ := cl_some h
           cases v25 with
           | true =>
            replace h := sp_t h
            obtain ⟨g26,h⟩ := gd_some h
            obtain ⟨g27,h⟩ := gd_some h
            obtain ⟨x28,e_x28,h⟩ := lt_some h
            obtain ⟨g29,h⟩ := gd_some h
            obtain ⟨x30,e_x30,h⟩ := lt_some h
            obtain ⟨x31,e_x31,h⟩ := lt_some h
            obtain ⟨b32,e_b32,h⟩ := lt_some h
            cases b32 with
            | true =>
             replace h := sp_t h
             refine T_draw' (id:=15) [] [0,0,0,0,0,0,0,0,0,0,0,0,0,0,0,0,0,0,0,0,0,0,0,0,0,0,0,0,0,0,0,0,0,0,0] (by kernel_rfl) (by kernel_rfl) (by kernel_rfl) (by kernel_rfl) ((53,vi x22)::(54,vb true)::(55,vb false)::(56,vb false)::(57,.lf (.own 3 1))::(58,.lf (.v (.slice Au1_1 (u1_1.length) cu1_1)))::(59,vi x5)::(60,vi x16)::(61,.lf (.ep (.slice Au1_1 (u1_1.length) cu1_1) 4 ((x5).toNat) 0))::(62,.lf (.ep (.slice Au1_1 (u1_1.length) cu1_1) 4 ((x5).toNat) (0 + (x16).toNat * 1)))::(63,vi x28)::(64,vi x22)::(65,vi x16)::(66,.lf (.own 2 1))::(67,.lf (.oel 2 (1 + (x16).toNat * 1)))::(68,vi x30)::(69,vi x31)::(70,vb true)::(71,vb true)::(72,vb true)::(73,.tup [])::(74,.tup [])::(75,.tup [])::(76,.tup [])::(77,.tup [])::(78,.tup [])::(79,.tup [])::(80,.tup [])::(81,.tup [])::(82,.tup [])::(83,.tup [])::(84,.tup [])::(85,.tup [])::(86,.tup [])::(87,vb true)::[]) (by kernel_rfl) ⟨trivial,⟨trivial,⟨trivial,⟨trivial,⟨trivial,⟨trivial,⟨trivial,⟨trivial,⟨trivial,⟨trivial,⟨trivial,⟨trivial,⟨trivial,⟨trivial,⟨trivial,⟨trivial,⟨trivial,⟨trivial,⟨trivial,⟨trivial,⟨(by intro y hy;cases hy),⟨(by intro y hy;cases hy),⟨(by intro y hy;cases hy),⟨(by intro y hy;cases hy),⟨(by intro y hy;cases hy),⟨(by intro y hy;cases hy),⟨(by intro y hy;cases hy),⟨(by intro y hy;cases hy),⟨(by intro y hy;cases hy),⟨(by intro y hy;cases hy),⟨(by intro y hy;cases hy),⟨(by intro y hy;cases hy),⟨(by intro y hy;cases hy),⟨(by intro y hy;cases hy),⟨trivial,trivial⟩⟩⟩⟩⟩⟩⟩⟩⟩⟩⟩⟩⟩⟩⟩⟩⟩⟩⟩⟩⟩⟩⟩⟩⟩⟩⟩⟩⟩⟩⟩⟩⟩⟩⟩ ?_
             refine Stage_nil (stage_all' [0,2,3,4,5,6,7,11,12,13,16,18,19,20,21,22,23,24,25,26,27,28,29,30,31,32,33,34] [1,8,9,10,14,15,17] (by kernel_rfl) (by subst_vars; kernel_rfl) (by kernel_rfl) ⟨QF_at (i:=1) (d:=54) (x:=vb true) (show OpAt _ _ _ 1 54 _ from by exact At_call (d:=54) (f:=50) (args:=[rval (vi x22),rval (vi (-1152921504606846976 : Int)),rval (vi (1152921504606846976 : Int))]) (x:=vb true) (by subst_vars; kernel_rfl) (w50 k  c_v25)) (by kernel_rfl) (by subst_vars; kernel_rfl),⟨QF_at (i:=8) (d:=61) (x:=.lf (.ep (.slice Au1_1 (u1_1.length) cu1_1) 4 ((x5).toNat) 0)) (show OpAt _ _ _ 8 61 _ from by exact At_idxR (d:=61) (z:=x5) (by subst_vars; kernel_rfl) g26 hu1_1) (by kernel_rfl) (by subst_vars; kernel_rfl),⟨QF_at (i:=9) (d:=62) (x:=.lf (.ep (.slice Au1_1 (u1_1.length) cu1_1) 4 ((x5).toNat) (0 + (x16).toNat * 1))) (show OpAt _ _ _ 9 62 _ from by exact At_idxE (d:=62) (z:=x16) (A:=(.slice Au1_1 (u1_1.length) cu1_1)) (sz:=4) (q:=(x5).toNat) (j:=0) (es:=1) (n:=4) (by subst_vars; kernel_rfl) g27) (by kernel_rfl) (by subst_vars; kernel_rfl),⟨QF_at (i:=10) (d:=63) (x:=vi x28) (show OpAt _ _ _ 10 63 _ from by rw [e_x28]; exact At_ldR1' (d:=63) (q:=(x5).toNat) (j:=0 + (x16).toNat * 1) (by subst_vars; kernel_rfl) (by omega) (toNat_lt g26) hu1_1) (by kernel_rfl) (by subst_vars; kernel_rfl),⟨QF_at (i:=14) (d:=67) (x:=.lf (.oel 2 (1 + (x16).toNat * 1))) (show OpAt _ _ _ 14 67 _ from by exact At_idxO (d:=67) (z:=x16) (b:=2) (off:=1) (sz:=1) (n:=4) (by subst_vars; kernel_rfl) g29) (by kernel_rfl) (by subst_vars; kernel_rfl),⟨QF_at (i:=15) (d:=68) (x:=vi x30) (show OpAt _ _ _ 15 68 _ from by rw [e_x30]; exact At_ldO1 (d:=68) (b:=2) (off:=1 + (x16).toNat * 1) (base:=1) (q:=0 + (x16).toNat * 1) (n:=4) (k:=.i64) (L:=u0_1) (by subst_vars; kernel_rfl) (by subst_vars; kernel_rfl) (by omega) (by omega)) (by kernel_rfl) (by subst_vars; kernel_rfl),⟨QF_at (i:=17) (d:=70) (x:=vb true) (show OpAt _ _ _ 17 70 _ from by exact At_bin (d:=70) (b:=.lss) (u:=.int .i64 x28) (v:=.int .i64 x31) (w':=.bool true) (by subst_vars; kernel_rfl) (by rw [show exBin .lss (.int .i64 x28) (.int .i64 x31) = some (.bool (decide (x28 < x31))) from by kernel_rfl,← e_b32])) (by kernel_rfl) (by subst_vars; kernel_rfl),trivial⟩⟩⟩⟩⟩⟩⟩) ?_
             refine thenQ_n ?_
             exact ⟨true,keep_sub (ts:=[2,3,7,8,87]) (hs:=[2,3]) (vs:=[]) (by subst_vars;kernel_rfl),h⟩
            | false =>
             replace h := sp_f h
             obtain ⟨g33,h⟩ := gd_some h
             obtain ⟨g34,h⟩ := gd_some h
             obtain ⟨x35,e_x35,h⟩ := lt_some h
             obtain ⟨g36,h⟩ := gd_some h
             obtain ⟨x37,e_x37,h⟩ := lt_some h
             obtain ⟨x38,e_x38,h⟩ := lt_some h
             obtain ⟨b39,e_b39,h⟩ := lt_some h
             refine T_draw' (id:=15) [] [0,0,0,0,0,0,0,0,0,0,0,0,0,0,0,0,0,0,0,0,0,0,0,0,0,0,0,0,0,0,0,0,0,0,0] (by kernel_rfl) (by kernel_rfl) (by kernel_rfl) (by kernel_rfl) ((53,vi x22)::(54,vb true)::(55,vb false)::(56,vb false)::(57,.lf (.own 3 1))::(58,.lf (.v (.slice Au1_1 (u1_1.length) cu1_1)))::(59,vi x5)::(60,vi x16)::(61,.lf (.ep (.slice Au1_1 (u1_1.length) cu1_1) 4 ((x5).toNat) 0))::(62,.lf (.ep (.slice Au1_1 (u1_1.length) cu1_1) 4 ((x5).toNat) (0 + (x16).toNat * 1)))::(63,vi x28)::(64,vi x22)::(65,vi x16)::(66,.lf (.own 2 1))::(67,.lf (.oel 2 (1 + (x16).toNat * 1)))::(68,vi x30)::(69,vi x31)::(70,vb false)::(71,vb false)::(72,vb false)::(73,.lf (.own 3 1))::(74,.lf (.v (.slice Au1_1 (u1_1.length) cu1_1)))::(75,vi x5)::(76,vi x16)::(77,.lf (.ep (.slice Au1_1 (u1_1.length) cu1_1) 4 ((x5).toNat) 0))::(78,.lf (.ep (.slice Au1_1 (u1_1.length) cu1_1) 4 ((x5).toNat) (0 + (x16).toNat * 1)))::(79,vi x35)::(80,vi x22)::(81,vi x16)::(82,.lf (.own 2 1))::(83,.lf (.oel 2 (1 + (x16).toNat * 1)))::(84,vi x37)::(85,vi x38)::(86,vb b39)::(87,vb b39)::[]) (by kernel_rfl) (wfs_lf _ (by kernel_rfl)) ?_
             refine Stage_nil (stage_all' [0,2,3,4,5,6,7,11,12,13,16,18,19,20,21,22,23,27,28,29,32,33,34] [1,8,9,10,14,15,17,24,25,26,30,31] (by kernel_rfl) (by subst_vars; kernel_rfl) (by kernel_rfl) ⟨QF_at (i:=1) (d:=54) (x:=vb true) (show OpAt _ _ _ 1 54 _ from by exact At_call (d:=54) (f:=50) (args:=[rval (vi x22),rval (vi (-1152921504606846976 : Int)),rval (vi (1152921504606846976 : Int))]) (x:=vb true) (by subst_vars; kernel_rfl) (w50 k  c_v25)) (by kernel_rfl) (by subst_vars; kernel_rfl),⟨QF_at (i:=8) (d:=61) (x:=.lf (.ep (.slice Au1_1 (u1_1.length) cu1_1) 4 ((x5).toNat) 0)) (show OpAt _ _ _ 8 61 _ from by exact At_idxR (d:=61) (z:=x5) (by subst_vars; kernel_rfl) g26 hu1_1) (by kernel_rfl) (by subst_vars; kernel_rfl),⟨QF_at (i:=9) (d:=62) (x:=.lf (.ep (.slice Au1_1 (u1_1.length) cu1_1) 4 ((x5).toNat) (0 + (x16).toNat * 1))) (show OpAt _ _ _ 9 62 _ from by exact At_idxE (d:=62) (z:=x16) (A:=(.slice Au1_1 (u1_1.length) cu1_1)) (sz:=4) (q:=(x5).toNat) (j:=0) (es:=1) (n:=4) (by subst_vars; kernel_rfl) g27) (by kernel_rfl) (by subst_vars; kernel_rfl),⟨QF_at (i:=10) (d:=63) (x:=vi x28) (show OpAt _ _ _ 10 63 _ from by rw [e_x28]; exact At_ldR1' (d:=63) (q:=(x5).toNat) (j:=0 + (x16).toNat * 1) (by subst_vars; kernel_rfl) (by omega) (toNat_lt g26) hu1_1) (by kernel_rfl) (by subst_vars; kernel_rfl),⟨QF_at (i:=14) (d:=67) (x:=.lf (.oel 2 (1 + (x16).toNat * 1))) (show OpAt _ _ _ 14 67 _ from by exact At_idxO (d:=67) (z:=x16) (b:=2) (off:=1) (sz:=1) (n:=4) (by subst_vars; kernel_rfl) g29) (by kernel_rfl) (by subst_vars; kernel_rfl),⟨QF_at (i:=15) (d:=68) (x:=vi x30) (show OpAt _ _ _ 15 68 _ from by rw [e_x30]; exact At_ldO1 (d:=68) (b:=2) (off:=1 + (x16).toNat * 1) (base:=1) (q:=0 + (x16).toNat * 1) (n:=4) (k:=.i64) (L:=u0_1) (by subst_vars; kernel_rfl) (by subst_vars; kernel_rfl) (by omega) (by omega)) (by kernel_rfl) (by subst_vars; kernel_rfl),⟨QF_at (i:=17) (d:=70) (x:=vb false) (show OpAt _ _ _ 17 70 _ from by exact At_bin (d:=70) (b:=.lss) (u:=.int .i64 x28) (v:=.int .i64 x31) (w':=.bool false) (by subst_vars; kernel_rfl) (by rw [show exBin .lss (.int .i64 x28) (.int .i64 x31) = some (.bool (decide (x28 < x31))) from by kernel_rfl,← e_b32])) (by kernel_rfl) (by subst_vars; kernel_rfl),⟨QF_at (i:=24) (d:=77) (x:=.lf (.ep (.slice Au1_1 (u1_1.length) cu1_1) 4 ((x5).toNat) 0)) (show OpAt _ _ _ 24 77 _ from by exact At_idxR (d:=77) (z:=x5) (by subst_vars; kernel_rfl) g33 hu1_1) (by kernel_rfl) (by subst_vars; kernel_rfl),⟨QF_at (i:=25) (d:=78) (x:=.lf (.ep (.slice Au1_1 (u1_1.length) cu1_1) 4 ((x5).toNat) (0 + (x16).toNat * 1))) (show OpAt _ _ _ 25 78 _ from by exact At_idxE (d:=78) (z:=x16) (A:=(.slice Au1_1 (u1_1.length) cu1_1)) (sz:=4) (q:=(x5).toNat) (j:=0) (es:=1) (n:=4) (by subst_vars; kernel_rfl) g34) (by kernel_rfl) (by subst_vars; kernel_rfl),⟨QF_at (i:=26) (d:=79) (x:=vi x35) (show OpAt _ _ _ 26 79 _ from by rw [e_x35]; exact At_ldR1' (d:=79) (q:=(x5).toNat) (j:=0 + (x16).toNat * 1) (by subst_vars; kernel_rfl) (by omega) (toNat_lt g33) hu1_1) (by kernel_rfl) (by subst_vars; kernel_rfl),⟨QF_at (i:=30) (d:=83) (x:=.lf (.oel 2 (1 + (x16).toNat * 1))) (show OpAt _ _ _ 30 83 _ from by exact At_idxO (d:=83) (z:=x16) (b:=2) (off:=1) (sz:=1) (n:=4) (by subst_vars; kernel_rfl) g36) (by kernel_rfl) (by subst_vars; kernel_rfl),⟨QF_at (i:=31) (d:=84) (x:=vi x37) (show OpAt _ _ _ 31 84 _ from by rw [e_x37]; exact At_ldO1 (d:=84) (b:=2) (off:=1 + (x16).toNat * 1) (base:=1) (q:=0 + (x16).toNat * 1) (n:=4) (k:=.i64) (L:=u0_1) (by subst_vars; kernel_rfl) (by subst_vars; kernel_rfl) (by omega) (by omega)) (by kernel_rfl) (by subst_vars; kernel_rfl),trivial⟩⟩⟩⟩⟩⟩⟩⟩⟩⟩⟩⟩) ?_
             refine thenQ_n ?_
             exact ⟨b39,keep_sub (ts:=[2,3,7,8,87]) (hs:=[2,3]) (vs:=[]) (by subst_vars;kernel_rfl),h⟩
           | false =>
            replace h := sp_f h
            refine T_draw' (id:=15) [] [0,0,0,0,0,0,0,0,0,0,0,0,0,0,0,0,0,0,0,0,0,0,0,0,0,0,0,0,0,0,0,0,0,0,0] (by kernel_rfl) (by kernel_rfl) (by kernel_rfl) (by kernel_rfl) ((53,vi x22)::(54,vb false)::(55,vb true)::(56,vb true)::(57,.tup [])::(58,.tup [])::(59,.tup [])::(60,.tup [])::(61,.tup [])::(62,.tup [])::(63,.tup [])::(64,.tup [])::(65,.tup [])::(66,.tup [])::(67,.tup [])::(68,.tup [])::(69,.tup [])::(70,.tup [])::(71,vb true)::(72,vb true)::(73,.tup [])::(74,.tup [])::(75,.tup [])::(76,.tup [])::(77,.tup [])::(78,.tup [])::(79,.tup [])::(80,.tup [])::(81,.tup [])::(82,.tup [])::(83,.tup [])::(84,.tup [])::(85,.tup [])::(86,.tup [])::(87,vb true)::[]) (by kernel_rfl) ⟨trivial,⟨trivial,⟨trivial,⟨trivial,⟨(by intro y hy;cases hy),⟨(by intro y hy;cases hy),⟨(by intro y hy;cases hy),⟨(by intro y hy;cases hy),⟨(by intro y hy;cases hy),⟨(by intro y hy;cases hy),⟨(by intro y hy;cases hy),⟨(by intro y hy;cases hy),⟨(by intro y hy;cases hy),⟨(by intro y hy;cases hy),⟨(by intro y hy;cases hy),⟨(by intro y hy;cases hy),⟨(by intro y hy;cases hy),⟨(by intro y hy;cases hy),⟨trivial,⟨trivial,⟨(by intro y hy;cases hy),⟨(by intro y hy;cases hy),⟨(by intro y hy;cases hy),⟨(by intro y hy;cases hy),⟨(by intro y hy;cases hy),⟨(by intro y hy;cases hy),⟨(by intro y hy;cases hy),⟨(by intro y hy;cases hy),⟨(by intro y hy;cases hy),⟨(by intro y hy;cases hy),⟨(by intro y hy;cases hy),⟨(by intro y hy;cases hy),⟨(by intro y hy;cases hy),⟨(by intro y hy;cases hy),⟨trivial,trivial⟩⟩⟩⟩⟩⟩⟩⟩⟩⟩⟩⟩⟩⟩⟩⟩⟩⟩⟩⟩⟩⟩⟩⟩⟩⟩⟩⟩⟩⟩⟩⟩⟩⟩⟩ ?_
            refine Stage_nil (stage_all' [0,2,3,4,5,6,7,8,9,10,11,12,13,14,15,16,17,18,19,20,21,22,23,24,25,26,27,28,29,30,31,32,33,34] [1] (by kernel_rfl) (by kernel_rfl) (by kernel_rfl) ⟨QF_at (i:=1) (d:=54) (x:=vb false) (show OpAt _ _ _ 1 54 _ from by exact At_call (d:=54) (f:=50) (args:=[rval (vi x22),rval (vi (-1152921504606846976 : Int)),rval (vi (1152921504606846976 : Int))]) (x:=vb false) (by kernel_rfl) (w50 k  c_v25)) (by kernel_rfl) (by kernel_rfl),trivial⟩) ?_
            refine thenQ_n ?_
            exact ⟨true,keep_sub (ts:=[2,3,7,8,87]) (hs:=[2,3]) (vs:=[]) (by kernel_rfl),h⟩
          ·rintro s' ⟨b23,hsub,h⟩
           subst e_j24
           refine T_sub hsub ?_
           cases b23 with
           | true =>
            replace h := sp_t h
            refine T_condT (x:=(.tmp 87)) (c1:=(sub [1,1,1,1,0,1,0,0,1,0,0,1,1,0,0,1,0,0,1,1,0] Bd35)) (c2:=(sub [1,1,1,1,0,1,0,0,1,0,0,1,1,0,0,1,0,0,1,1,1] Bd35)) (by kernel_rfl) (by kernel_rfl) ?_
            refine T_keep (s':={ σ := [],H := [],V := [],M := M,ds := [] }) [] [] [] (by kernel_rfl) ?_
            refine T_seq (c1:=(sub [1,1,1,1,0,1,0,0,1,0,0,1,1,0,0,1,0,0,1,1,0,0] Bd35)) (c2:=(sub [1,1,1,1,0,1,0,0,1,0,0,1,1,0,0,1,0,0,1,1,0,1] Bd35)) (by kernel_rfl) ?_
            refine T_region (id:=16) (by kernel_rfl) ?_
            refine TI_segS (i:=0) (j:=2) [(4,vb false),(5,vi (0 : Int))] (by kernel_rfl) (by kernel_rfl) ?_
            refine TI_end (by kernel_rfl) ?_
            refine thenQ_n ?_
            refine T_ret (by kernel_rfl) ?_
            refine blockQ_r ?_
            refine thenQ_r ?_
            refine thenQ_r ?_
            refine blockQ_r ?_
            refine thenQ_r ?_
            refine blockQ_r ?_
            refine thenQ_r ?_
            refine thenQ_r ?_
            refine blockQ_r ?_
            refine thenQ_r ?_
            refine thenQ_r ?_
            have h := Option.some.inj h
            subst h
            refine fin_ret (.tup [(some (.v (.bool false)),[]),(some (.v (.int .i64 (0 : Int))),[])]) (by kernel_rfl) (by kernel_rfl) rfl ?_
            rfl
           | false =>
            replace h := sp_f h
            refine T_condF (x:=(.tmp 87)) (c1:=(sub [1,1,1,1,0,1,0,0,1,0,0,1,1,0,0,1,0,0,1,1,0] Bd35)) (c2:=(sub [1,1,1,1,0,1,0,0,1,0,0,1,1,0,0,1,0,0,1,1,1] Bd35)) (by kernel_rfl) (by kernel_rfl) ?_
            refine T_keep (s':={ σ := [(2,.lf (.own 2 0)),(3,.lf (.own 3 0)),(7,vi x5),(8,vi x16)],H := [(2,[.one (.v (.slice Au0_0 (u0_0.length) cu0_0)),.arr .i64 4 u0_1]),(3,[.one (.v (.slice Au1_0 (u1_0.length) cu1_0)),.one (.v (.slice Au1_1 (u1_1.length) cu1_1))])],V := [],M := M,ds := [] }) [2,3,7,8] [2,3] [] (by kernel_rfl) ?_
            refine T_skip (by kernel_rfl) ?_
            refine blockQ_n ?_
            refine thenQ_n ?_
            refine T_region (id:=13) (by kernel_rfl) ?_
            obtain ⟨x40,e_x40,h⟩ := lt_some h
            refine TI_segS (i:=0) (j:=3) [(2,.lf (.own 2 0)),(3,.lf (.own 3 0)),(7,vi x5),(8,vi x40)] (by subst e_x40;kernel_rfl) (by kernel_rfl) ?_
            refine TI_end (by kernel_rfl) ?_
            refine thenQ_n ?_
            exact ⟨n17,Nat.lt_succ_self _,x40,keep_sub (ts:=[2,3,7,8]) (hs:=[2,3]) (vs:=[]) (by kernel_rfl),h⟩
         | false =>
          replace h := sp_f h
          refine T_condF (x:=(.tmp 42)) (c1:=(sub [1,1,1,1,0,1,0,0,1,0,0,1,1,0,0,0,1,0] Bd35)) (c2:=(sub [1,1,1,1,0,1,0,0,1,0,0,1,1,0,0,0,1,1] Bd35)) (by kernel_rfl) (by kernel_rfl) ?_
          refine T_keepS [(2,.lf (.own 2 0)),(3,.lf (.own 3 0)),(7,vi x5)] (by kernel_rfl) ?_
          refine T_exit (id:=2) (by kernel_rfl) ?_
          refine thenQ_x ?_
          refine thenQ_x ?_
          refine blockQ_x ?_
          refine thenQ_n ?_
          exact ⟨keep_sub (ts:=[2,3,7]) (hs:=[2,3]) (vs:=[]) (by kernel_rfl),h⟩
       ·rintro s' ⟨hsub,h⟩
        subst e_j15
        refine blockQ_n ?_
        refine thenQ_n ?_
        refine T_sub hsub ?_
        refine T_region (id:=8) (by kernel_rfl) ?_
        obtain ⟨x41,e_x41,h⟩ := lt_some h
        refine TI_segK (i:=0) (j:=3) (s':={ σ := [(2,.lf (.own 2 0)),(3,.lf (.own 3 0)),(7,vi x41)],H := [(2,[.one (.v (.slice Au0_0 (u0_0.length) cu0_0)),.arr .i64 4 u0_1]),(3,[.one (.v (.slice Au1_0 (u1_0.length) cu1_0)),.one (.v (.slice Au1_1 (u1_1.length) cu1_1))])],V := [],M := M,ds := [] }) [2,3,7] [2,3] [] (by subst e_x41;kernel_rfl) (by kernel_rfl) ?_
        refine TI_end (by kernel_rfl) ?_
        refine thenQ_n ?_
        exact ⟨n6,Nat.lt_succ_self _,x41,keep_sub (ts:=[2,3,7]) (hs:=[2,3]) (vs:=[]) (by kernel_rfl),h⟩
     | false =>
      replace h := sp_f h
      refine T_condF (x:=(.tmp 26)) (c1:=(sub [1,1,1,1,0,1,0,0,0,1,0] Bd35)) (c2:=(sub [1,1,1,1,0,1,0,0,0,1,1] Bd35)) (by kernel_rfl) (by kernel_rfl) ?_
      refine T_keepS [(2,.lf (.own 2 0)),(3,.lf (.own 3 0))] (by kernel_rfl) ?_
      refine T_exit (id:=0) (by kernel_rfl) ?_
      refine thenQ_x ?_
      refine thenQ_x ?_
      refine blockQ_x ?_
      refine thenQ_n ?_
      exact ⟨keep_sub (ts:=[2,3]) (hs:=[2,3]) (vs:=[]) (by kernel_rfl),h⟩
   ·rintro s' ⟨hsub,h⟩
    subst e_j4
    refine thenQ_n ?_
    refine T_sub hsub ?_
    refine T_seq (c1:=(sub [1,1,1,1,1,0] Bd35)) (c2:=(sub [1,1,1,1,1,1] Bd35)) (by kernel_rfl) ?_
    refine T_seq (c1:=(sub [1,1,1,1,1,0,0] Bd35)) (c2:=(sub [1,1,1,1,1,0,1] Bd35)) (by kernel_rfl) ?_
    refine T_region (id:=17) (by kernel_rfl) ?_
    refine TI_segK (i:=0) (j:=1) (s':={ σ := [(2,.lf (.own 2 0)),(3,.lf (.own 3 0)),(10,vi (0 : Int))],H := [(2,[.one (.v (.slice Au0_0 (u0_0.length) cu0_0)),.arr .i64 4 u0_1]),(3,[.one (.v (.slice Au1_0 (u1_0.length) cu1_0)),.one (.v (.slice Au1_1 (u1_1.length) cu1_1))])],V := [],M := M,ds := [] }) [2,3,10] [2,3] [] (by kernel_rfl) (by kernel_rfl) ?_
    refine TI_end (by kernel_rfl) ?_
    refine thenQ_n ?_
    obtain ⟨j42,e_j42,h⟩ := jn_some h
    refine T_bcut (id:=4) (c1:=(sub [1,1,1,1,1,0,1,0] Bd35)) (fun s' => Sub { σ := [],H := [],V := [],M := M,ds := [] } s' ∧ j42 = some r) (by kernel_rfl) ?_ ?_
    ·refine T_loop (c1:=(sub [1,1,1,1,1,0,1,0,0] Bd35)) (by kernel_rfl) (fun n44 s' => ∃ (x43 : Int),Sub { σ := [(2,.lf (.own 2 0)),(3,.lf (.own 3 0)),(10,vi x43)],H := [(2,[.one (.v (.slice Au0_0 (u0_0.length) cu0_0)),.arr .i64 4 u0_1]),(3,[.one (.v (.slice Au1_0 (u1_0.length) cu1_0)),.one (.v (.slice Au1_1 (u1_1.length) cu1_1))])],V := [],M := M,ds := [] } s' ∧ p35_l3 k u0_0 u1_0 u1_1 j42 n44 x43 = some r) (k:=k) ⟨(0 : Int),keep_sub (ts:=[2,3,10]) (hs:=[2,3]) (vs:=[]) (by kernel_rfl),h⟩ ?_
     rintro n44 s' ⟨x43,hsub,h⟩
     cases n44 with
     | zero => rw [p35_l3] at h;cases h
     | succ n44 =>
      rw [p35_l3] at h
      refine T_sub hsub ?_
      refine T_seq (c1:=(sub [1,1,1,1,1,0,1,0,0,0] Bd35)) (c2:=(sub [1,1,1,1,1,0,1,0,0,1] Bd35)) (by kernel_rfl) ?_
      refine T_seq (c1:=(sub [1,1,1,1,1,0,1,0,0,0,0] Bd35)) (c2:=(sub [1,1,1,1,1,0,1,0,0,0,1] Bd35)) (by kernel_rfl) ?_
      refine T_region (id:=18) (by kernel_rfl) ?_
      obtain ⟨b45,e_b45,h⟩ := lt_some h
      refine TI_segK (i:=0) (j:=5) (s':={ σ := [(2,.lf (.own 2 0)),(3,.lf (.own 3 0)),(10,vi x43),(92,vb b45)],H := [(2,[.one (.v (.slice Au0_0 (u0_0.length) cu0_0)),.arr .i64 4 u0_1]),(3,[.one (.v (.slice Au1_0 (u1_0.length) cu1_0)),.one (.v (.slice Au1_1 (u1_1.length) cu1_1))])],V := [],M := M,ds := [] }) [2,3,10,92] [2,3] [] (by subst e_b45;kernel_rfl) (by kernel_rfl) ?_
      refine TI_end (by kernel_rfl) ?_
      refine thenQ_n ?_
      cases b45 with
      | true =>
       replace h := sp_t h
       refine T_condT (x:=(.tmp 92)) (c1:=(sub [1,1,1,1,1,0,1,0,0,0,1,0] Bd35)) (c2:=(sub [1,1,1,1,1,0,1,0,0,0,1,1] Bd35)) (by kernel_rfl) (by kernel_rfl) ?_
       refine T_keepS [(2,.lf (.own 2 0)),(3,.lf (.own 3 0)),(10,vi x43)] (by kernel_rfl) ?_
       refine T_skip (by kernel_rfl) ?_
       refine thenQ_n ?_
       refine T_seq (c1:=(sub [1,1,1,1,1,0,1,0,0,1,0] Bd35)) (c2:=(sub [1,1,1,1,1,0,1,0,0,1,1] Bd35)) (by kernel_rfl) ?_
       refine T_block (id:=5) (c1:=(sub [1,1,1,1,1,0,1,0,0,1,0,0] Bd35)) (by kernel_rfl) ?_
       refine T_seq (c1:=(sub [1,1,1,1,1,0,1,0,0,1,0,0,0] Bd35)) (c2:=(sub [1,1,1,1,1,0,1,0,0,1,0,0,1] Bd35)) (by kernel_rfl) ?_
       refine T_region (id:=20) (by kernel_rfl) ?_
       refine TI_segS (i:=0) (j:=3) [(2,.lf (.own 2 0)),(3,.lf (.own 3 0)),(10,vi x43),(96,.lf (.v (.slice Au0_0 (u0_0.length) cu0_0))),(97,vi x43)] (by kernel_rfl) (by kernel_rfl) ?_
       obtain ⟨g46,h⟩ := gd_some h
       refine TI_at (i:=3) (d:=98) (x:=.lf (.ep (.slice Au0_0 (u0_0.length) cu0_0) 11 ((x43).toNat) 0)) (by exact At_idxR (d:=98) (z:=x43) (by kernel_rfl) g46 hu0_0) (by kernel_rfl) trivial ?_
       obtain ⟨L47,e_L47,h⟩ := lt_some h
       have l_L47 : (L47).length = 11 := by rw [e_L47]; exact SlR_row hu0_0 (toNat_lt g46)
       refine TI_at (i:=4) (d:=99) (x:=.agg [.arr .i64 11 L47]) (by rw [e_L47]; exact At_ldRow (d:=99) (q:=(x43).toNat) (by subst e_L47; kernel_rfl) (toNat_lt g46) hu0_0) (by kernel_rfl) ⟨l_L47,trivial⟩ ?_
       refine TI_segK (i:=5) (j:=7) (s':={ σ := [(2,.lf (.own 2 0)),(3,.lf (.own 3 0)),(10,vi x43),(11,.lf (.own 11 0))],H := [(2,[.one (.v (.slice Au0_0 (u0_0.length) cu0_0)),.arr .i64 4 u0_1]),(3,[.one (.v (.slice Au1_0 (u1_0.length) cu1_0)),.one (.v (.slice Au1_1 (u1_1.length) cu1_1))]),(11,[.arr .i64 11 L47])],V := [],M := M,ds := [] }) [2,3,10,11] [2,3,11] [] (by kernel_rfl) (by kernel_rfl) ?_
       refine TI_end (by kernel_rfl) ?_
       refine thenQ_n ?_
       refine T_seq (c1:=(sub [1,1,1,1,1,0,1,0,0,1,0,0,1,0] Bd35)) (c2:=(sub [1,1,1,1,1,0,1,0,0,1,0,0,1,1] Bd35)) (by kernel_rfl) ?_
       obtain ⟨x48,e_x48,h⟩ := lt_some h
       obtain ⟨g49,h⟩ := gd_some h
       obtain ⟨x50,e_x50,h⟩ := lt_some h
       obtain ⟨x51,e_x51,h⟩ := lt_some h
       refine T_draw' (id:=21) [] [0,0,0,0,0,0,0,0,0] (by kernel_rfl) (by kernel_rfl) (by kernel_rfl) (by kernel_rfl) [(100,.lf (.own 11 0)),(101,vi x48),(102,.lf (.own 2 0)),(103,.lf (.v (.slice Au0_0 (u0_0.length) cu0_0))),(104,.lf (.ep (.slice Au0_0 (u0_0.length) cu0_0) 11 0 0)),(105,.lf (.ep (.slice Au0_0 (u0_0.length) cu0_0) 11 0 0)),(106,vi x50),(107,vi x51),(12,vi x51)] (by kernel_rfl) (wfs_lf _ (by kernel_rfl)) ?_
       refine Stage_nil (stage_all' [0,1,2,3,5,7,8] [4,6] (by kernel_rfl) (by subst_vars; kernel_rfl) (by kernel_rfl) ⟨QF_at (i:=4) (d:=104) (x:=.lf (.ep (.slice Au0_0 (u0_0.length) cu0_0) 11 0 0)) (show OpAt _ _ _ 4 104 _ from by exact At_idxR (d:=104) (z:=(0 : Int)) (by subst_vars; kernel_rfl) g49 hu0_0) (by kernel_rfl) (by subst_vars; kernel_rfl),⟨QF_at (i:=6) (d:=106) (x:=vi x50) (show OpAt _ _ _ 6 106 _ from by rw [e_x50]; exact At_ldR1 (d:=106) (q:=0) (j:=0) (by subst_vars; kernel_rfl) rfl (toNat_lt g49) hu0_0) (by kernel_rfl) (by subst_vars; kernel_rfl),trivial⟩⟩) ?_
       refine thenQ_n ?_
       refine T_keep (s':={ σ := [(2,.lf (.own 2 0)),(3,.lf (.own 3 0)),(10,vi x43),(11,.lf (.own 11 0)),(12,vi x51)],H := [(2,[.one (.v (.slice Au0_0 (u0_0.length) cu0_0)),.arr .i64 4 u0_1]),(3,[.one (.v (.slice Au1_0 (u1_0.length) cu1_0)),.one (.v (.slice Au1_1 (u1_1.length) cu1_1))]),(11,[.arr .i64 11 L47])],V := [],M := M,ds := [] }) [2,3,10,11,12] [2,3,11] [] (by subst_vars;kernel_rfl) ?_
       refine T_seq (c1:=(sub [1,1,1,1,1,0,1,0,0,1,0,0,1,1,0] Bd35)) (c2:=(sub [1,1,1,1,1,0,1,0,0,1,0,0,1,1,1] Bd35)) (by kernel_rfl) ?_
       refine T_seq (c1:=(sub [1,1,1,1,1,0,1,0,0,1,0,0,1,1,0,0] Bd35)) (c2:=(sub [1,1,1,1,1,0,1,0,0,1,0,0,1,1,0,1] Bd35)) (by kernel_rfl) ?_
       obtain ⟨g52,h⟩ := gd_some h
       obtain ⟨x53,e_x53,h⟩ := lt_some h
       obtain ⟨x54,e_x54,h⟩ := lt_some h
       obtain ⟨x55,e_x55,h⟩ := lt_some h
       obtain ⟨v56,c_v56,h⟩ := cl_some h
       refine T_draw' (id:=22) [] [0,0,0,0,0,0,0,0,0,0,0,0,0] (by kernel_rfl) (by kernel_rfl) (by kernel_rfl) (by kernel_rfl) [(108,.lf (.own 3 0)),(109,.lf (.v (.slice Au1_0 (u1_0.length) cu1_0))),(110,vi x51),(111,.lf (.ep (.slice Au1_0 (u1_0.length) cu1_0) 1 ((x51).toNat) 0)),(112,vi x53),(113,.lf (.own 11 1)),(114,.lf (.own 11 1)),(115,vi x54),(116,.lf (.own 11 1)),(117,.lf (.own 11 2)),(118,vi x55),(119,vb v56),(120,vb (!v56))] (by kernel_rfl) (wfs_lf _ (by kernel_rfl)) ?_
       refine Stage_nil (stage_all' [0,1,2,5,6,7,8,9,10,12] [3,4,11] (by kernel_rfl) (by subst_vars; kernel_rfl) (by kernel_rfl) ⟨QF_at (i:=3) (d:=111) (x:=.lf (.ep (.slice Au1_0 (u1_0.length) cu1_0) 1 ((x51).toNat) 0)) (show OpAt _ _ _ 3 111 _ from by exact At_idxI (d:=111) (z:=x51) (by subst_vars; kernel_rfl) g52 hu1_0) (by kernel_rfl) (by subst_vars; kernel_rfl),⟨QF_at (i:=4) (d:=112) (x:=vi x53) (show OpAt _ _ _ 4 112 _ from by rw [e_x53]; exact At_ldI (d:=112) (q:=(x51).toNat) (by subst_vars; kernel_rfl) (toNat_lt g52) hu1_0) (by kernel_rfl) (by subst_vars; kernel_rfl),⟨QF_at (i:=11) (d:=119) (x:=vb v56) (show OpAt _ _ _ 11 119 _ from by exact At_call (d:=119) (f:=50) (args:=[rval (vi x53),rval (vi x54),rval (vi x55)]) (x:=vb v56) (by subst_vars; kernel_rfl) (w50 k  c_v56)) (by kernel_rfl) (by subst_vars; kernel_rfl),trivial⟩⟩⟩) ?_
       refine thenQ_n ?_
       refine T_keep (s':={ σ := [(2,.lf (.own 2 0)),(3,.lf (.own 3 0)),(10,vi x43),(11,.lf (.own 11 0)),(12,vi x51),(120,vb (!v56))],H := [(2,[.one (.v (.slice Au0_0 (u0_0.length) cu0_0)),.arr .i64 4 u0_1]),(3,[.one (.v (.slice Au1_0 (u1_0.length) cu1_0)),.one (.v (.slice Au1_1 (u1_1.length) cu1_1))]),(11,[.arr .i64 11 L47])],V := [],M := M,ds := [] }) [2,3,10,11,12,120] [2,3,11] [] (by subst_vars;kernel_rfl) ?_
       cases v56 with
       | true =>
        replace h := sp_t h
        refine T_condF (x:=(.tmp 120)) (c1:=(sub [1,1,1,1,1,0,1,0,0,1,0,0,1,1,0,1,0] Bd35)) (c2:=(sub [1,1,1,1,1,0,1,0,0,1,0,0,1,1,0,1,1] Bd35)) (by kernel_rfl) (by kernel_rfl) ?_
        refine T_keepS [(2,.lf (.own 2 0)),(3,.lf (.own 3 0)),(10,vi x43),(11,.lf (.own 11 0)),(12,vi x51)] (by kernel_rfl) ?_
        refine T_skip (by kernel_rfl) ?_
        refine thenQ_n ?_
        refine T_seq (c1:=(sub [1,1,1,1,1,0,1,0,0,1,0,0,1,1,1,0] Bd35)) (c2:=(sub [1,1,1,1,1,0,1,0,0,1,0,0,1,1,1,1] Bd35)) (by kernel_rfl) ?_
        refine T_region (id:=24) (by kernel_rfl) ?_
        refine TI_segS (i:=0) (j:=1) [(2,.lf (.own 2 0)),(3,.lf (.own 3 0)),(10,vi x43),(11,.lf (.own 11 0)),(12,vi x51),(13,vi (0 : Int))] (by kernel_rfl) (by kernel_rfl) ?_
        refine TI_end (by kernel_rfl) ?_
        refine thenQ_n ?_
        obtain ⟨j57,e_j57,h⟩ := jn_some h
        refine T_bcut (id:=6) (c1:=(sub [1,1,1,1,1,0,1,0,0,1,0,0,1,1,1,1,0] Bd35)) (fun s' => Sub { σ := [(2,.lf (.own 2 0)),(3,.lf (.own 3 0)),(10,vi x43)],H := [(2,[.one (.v (.slice Au0_0 (u0_0.length) cu0_0)),.arr .i64 4 u0_1]),(3,[.one (.v (.slice Au1_0 (u1_0.length) cu1_0)),.one (.v (.slice Au1_1 (u1_1.length) cu1_1))])],V := [],M := M,ds := [] } s' ∧ j57 = some r) (by kernel_rfl) ?_ ?_
        ·refine T_loop (c1:=(sub [1,1,1,1,1,0,1,0,0,1,0,0,1,1,1,1,0,0] Bd35)) (by kernel_rfl) (fun n59 s' => ∃ (x58 : Int),Sub { σ := [(2,.lf (.own 2 0)),(3,.lf (.own 3 0)),(10,vi x43),(11,.lf (.own 11 0)),(12,vi x51),(13,vi x58)],H := [(2,[.one (.v (.slice Au0_0 (u0_0.length) cu0_0)),.arr .i64 4 u0_1]),(3,[.one (.v (.slice Au1_0 (u1_0.length) cu1_0)),.one (.v (.slice Au1_1 (u1_1.length) cu1_1))]),(11,[.arr .i64 11 L47])],V := [],M := M,ds := [] } s' ∧ p35_l4 k u1_1 j57 L47 x51 n59 x58 = some r) (k:=k) ⟨(0 : Int),keep_sub (ts:=[2,3,10,11,12,13]) (hs:=[2,3,11]) (vs:=[]) (by kernel_rfl),h⟩ ?_
         rintro n59 s' ⟨x58,hsub,h⟩
         cases n59 with
         | zero => rw [p35_l4] at h;cases h
         | succ n59 =>
          rw [p35_l4] at h
          refine T_sub hsub ?_
          refine T_seq (c1:=(sub [1,1,1,1,1,0,1,0,0,1,0,0,1,1,1,1,0,0,0] Bd35)) (c2:=(sub [1,1,1,1,1,0,1,0,0,1,0,0,1,1,1,1,0,0,1] Bd35)) (by kernel_rfl) ?_
          refine T_seq (c1:=(sub [1,1,1,1,1,0,1,0,0,1,0,0,1,1,1,1,0,0,0,0] Bd35)) (c2:=(sub [1,1,1,1,1,0,1,0,0,1,0,0,1,1,1,1,0,0,0,1] Bd35)) (by kernel_rfl) ?_
          refine T_region (id:=25) (by kernel_rfl) ?_
          obtain ⟨b60,e_b60,h⟩ := lt_some h
          refine TI_segK (i:=0) (j:=2) (s':={ σ := [(2,.lf (.own 2 0)),(3,.lf (.own 3 0)),(10,vi x43),(11,.lf (.own 11 0)),(12,vi x51),(13,vi x58),(122,vb b60)],H := [(2,[.one (.v (.slice Au0_0 (u0_0.length) cu0_0)),.arr .i64 4 u0_1]),(3,[.one (.v (.slice Au1_0 (u1_0.length) cu1_0)),.one (.v (.slice Au1_1 (u1_1.length) cu1_1))]),(11,[.arr .i64 11 L47])],V := [],M := M,ds := [] }) [2,3,10,11,12,13,122] [2,3,11] [] (by subst e_b60;kernel_rfl) (by kernel_rfl) ?_
          refine TI_end (by kernel_rfl) ?_
          refine thenQ_n ?_
          cases b60 with
          | true =>
           replace h := sp_t h
           refine T_condT (x:=(.tmp 122)) (c1:=(sub [1,1,1,1,1,0,1,0,0,1,0,0,1,1,1,1,0,0,0,1,0] Bd35)) (c2:=(sub [1,1,1,1,1,0,1,0,0,1,0,0,1,1,1,1,0,0,0,1,1] Bd35)) (by kernel_rfl) (by kernel_rfl) ?_
           refine T_keepS [(2,.lf (.own 2 0)),(3,.lf (.own 3 0)),(10,vi x43),(11,.lf (.own 11 0)),(12,vi x51),(13,vi x58)] (by kernel_rfl) ?_
           refine T_skip (by kernel_rfl) ?_
           refine thenQ_n ?_
           refine T_seq (c1:=(sub [1,1,1,1,1,0,1,0,0,1,0,0,1,1,1,1,0,0,1,0] Bd35)) (c2:=(sub [1,1,1,1,1,0,1,0,0,1,0,0,1,1,1,1,0,0,1,1] Bd35)) (by kernel_rfl) ?_
           refine T_block (id:=7) (c1:=(sub [1,1,1,1,1,0,1,0,0,1,0,0,1,1,1,1,0,0,1,0,0] Bd35)) (by kernel_rfl) ?_
           refine T_seq (c1:=(sub [1,1,1,1,1,0,1,0,0,1,0,0,1,1,1,1,0,0,1,0,0,0] Bd35)) (c2:=(sub [1,1,1,1,1,0,1,0,0,1,0,0,1,1,1,1,0,0,1,0,0,1] Bd35)) (by kernel_rfl) ?_
           obtain ⟨g61,h⟩ := gd_some h
           obtain ⟨g62,h⟩ := gd_some h
           obtain ⟨x63,e_x63,h⟩ := lt_some h
           obtain ⟨g64,h⟩ := gd_some h
           obtain ⟨x65,e_x65,h⟩ := lt_some h
           obtain ⟨g66,h⟩ := gd_some h
           obtain ⟨x67,e_x67,h⟩ := lt_some h
           obtain ⟨v68,c_v68,h⟩ := cl_some h
           refine T_draw' (id:=27) [] [0,0,0,0,0,0,0,0,0,0,0,0,0,0,0,0,0,0,0] (by kernel_rfl) (by kernel_rfl) (by kernel_rfl) (by kernel_rfl) [(125,.lf (.own 3 1)),(126,.lf (.v (.slice Au1_1 (u1_1.length) cu1_1))),(127,vi x51),(128,vi x58),(129,.lf (.ep (.slice Au1_1 (u1_1.length) cu1_1) 4 ((x51).toNat) 0)),(130,.lf (.ep (.slice Au1_1 (u1_1.length) cu1_1) 4 ((x51).toNat) (0 + (x58).toNat * 1))),(131,vi x63),(132,vi x58),(133,.lf (.own 11 3)),(134,.lf (.oel 11 (3 + (x58).toNat * 2))),(135,.lf (.oel 11 (3 + (x58).toNat * 2 + 0))),(136,vi x65),(137,vi x58),(138,.lf (.own 11 3)),(139,.lf (.oel 11 (3 + (x58).toNat * 2))),(140,.lf (.oel 11 (3 + (x58).toNat * 2 + 1))),(141,vi x67),(142,vb v68),(143,vb (!v68))] (by kernel_rfl) (wfs_lf _ (by kernel_rfl)) ?_
           refine Stage_nil (stage_all' [0,1,2,3,7,8,10,12,13,15,18] [4,5,6,9,11,14,16,17] (by kernel_rfl) (by subst_vars; kernel_rfl) (by kernel_rfl) ⟨QF_at (i:=4) (d:=129) (x:=.lf (.ep (.slice Au1_1 (u1_1.length) cu1_1) 4 ((x51).toNat) 0)) (show OpAt _ _ _ 4 129 _ from by exact At_idxR (d:=129) (z:=x51) (by subst_vars; kernel_rfl) g61 hu1_1) (by kernel_rfl) (by subst_vars; kernel_rfl),⟨QF_at (i:=5) (d:=130) (x:=.lf (.ep (.slice Au1_1 (u1_1.length) cu1_1) 4 ((x51).toNat) (0 + (x58).toNat * 1))) (show OpAt _ _ _ 5 130 _ from by exact At_idxE (d:=130) (z:=x58) (A:=(.slice Au1_1 (u1_1.length) cu1_1)) (sz:=4) (q:=(x51).toNat) (j:=0) (es:=1) (n:=4) (by subst_vars; kernel_rfl) g62) (by kernel_rfl) (by subst_vars; kernel_rfl),⟨QF_at (i:=6) (d:=131) (x:=vi x63) (show OpAt _ _ _ 6 131 _ from by rw [e_x63]; exact At_ldR1' (d:=131) (q:=(x51).toNat) (j:=0 + (x58).toNat * 1) (by subst_vars; kernel_rfl) (by omega) (toNat_lt g61) hu1_1) (by kernel_rfl) (by subst_vars; kernel_rfl),⟨QF_at (i:=9) (d:=134) (x:=.lf (.oel 11 (3 + (x58).toNat * 2))) (show OpAt _ _ _ 9 134 _ from by exact At_idxO (d:=134) (z:=x58) (b:=11) (off:=3) (sz:=2) (n:=4) (by subst_vars; kernel_rfl) g64) (by kernel_rfl) (by subst_vars; kernel_rfl),⟨QF_at (i:=11) (d:=136) (x:=vi x65) (show OpAt _ _ _ 11 136 _ from by rw [e_x65]; exact At_ldO1 (d:=136) (b:=11) (off:=3 + (x58).toNat * 2 + 0) (base:=0) (q:=3 + (x58).toNat * 2 + 0) (n:=11) (k:=.i64) (L:=L47) (by subst_vars; kernel_rfl) (by subst_vars; kernel_rfl) (by omega) (by omega)) (by kernel_rfl) (by subst_vars; kernel_rfl),⟨QF_at (i:=14) (d:=139) (x:=.lf (.oel 11 (3 + (x58).toNat * 2))) (show OpAt _ _ _ 14 139 _ from by exact At_idxO (d:=139) (z:=x58) (b:=11) (off:=3) (sz:=2) (n:=4) (by subst_vars; kernel_rfl) g66) (by kernel_rfl) (by subst_vars; kernel_rfl),⟨QF_at (i:=16) (d:=141) (x:=vi x67) (show OpAt _ _ _ 16 141 _ from by rw [e_x67]; exact At_ldO1 (d:=141) (b:=11) (off:=3 + (x58).toNat * 2 + 1) (base:=0) (q:=3 + (x58).toNat * 2 + 1) (n:=11) (k:=.i64) (L:=L47) (by subst_vars; kernel_rfl) (by subst_vars; kernel_rfl) (by omega) (by omega)) (by kernel_rfl) (by subst_vars; kernel_rfl),⟨QF_at (i:=17) (d:=142) (x:=vb v68) (show OpAt _ _ _ 17 142 _ from by exact At_call (d:=142) (f:=50) (args:=[rval (vi x63),rval (vi x65),rval (vi x67)]) (x:=vb v68) (by subst_vars; kernel_rfl) (w50 k  c_v68)) (by kernel_rfl) (by subst_vars; kernel_rfl),trivial⟩⟩⟩⟩⟩⟩⟩⟩) ?_
           refine thenQ_n ?_
           refine T_keep (s':={ σ := [(2,.lf (.own 2 0)),(3,.lf (.own 3 0)),(10,vi x43),(11,.lf (.own 11 0)),(12,vi x51),(13,vi x58),(143,vb (!v68))],H := [(2,[.one (.v (.slice Au0_0 (u0_0.length) cu0_0)),.arr .i64 4 u0_1]),(3,[.one (.v (.slice Au1_0 (u1_0.length) cu1_0)),.one (.v (.slice Au1_1 (u1_1.length) cu1_1))]),(11,[.arr .i64 11 L47])],V := [],M := M,ds := [] }) [2,3,10,11,12,13,143] [2,3,11] [] (by subst_vars;kernel_rfl) ?_
           cases v68 with
           | true =>
            replace h := sp_t h
            refine T_condF (x:=(.tmp 143)) (c1:=(sub [1,1,1,1,1,0,1,0,0,1,0,0,1,1,1,1,0,0,1,0,0,1,0] Bd35)) (c2:=(sub [1,1,1,1,1,0,1,0,0,1,0,0,1,1,1,1,0,0,1,0,0,1,1] Bd35)) (by kernel_rfl) (by kernel_rfl) ?_
            refine T_keepS [(2,.lf (.own 2 0)),(3,.lf (.own 3 0)),(10,vi x43),(11,.lf (.own 11 0)),(12,vi x51),(13,vi x58)] (by kernel_rfl) ?_
            refine T_skip (by kernel_rfl) ?_
            refine blockQ_n ?_
            refine thenQ_n ?_
            refine T_region (id:=26) (by kernel_rfl) ?_
            obtain ⟨x69,e_x69,h⟩ := lt_some h
            refine TI_segS (i:=0) (j:=3) [(2,.lf (.own 2 0)),(3,.lf (.own 3 0)),(10,vi x43),(11,.lf (.own 11 0)),(12,vi x51),(13,vi x69)] (by subst e_x69;kernel_rfl) (by kernel_rfl) ?_
            refine TI_end (by kernel_rfl) ?_
            refine thenQ_n ?_
            exact ⟨n59,Nat.lt_succ_self _,x69,keep_sub (ts:=[2,3,10,11,12,13]) (hs:=[2,3,11]) (vs:=[]) (by kernel_rfl),h⟩
           | false =>
            replace h := sp_f h
            refine T_condT (x:=(.tmp 143)) (c1:=(sub [1,1,1,1,1,0,1,0,0,1,0,0,1,1,1,1,0,0,1,0,0,1,0] Bd35)) (c2:=(sub [1,1,1,1,1,0,1,0,0,1,0,0,1,1,1,1,0,0,1,0,0,1,1] Bd35)) (by kernel_rfl) (by kernel_rfl) ?_
            refine T_keep (s':={ σ := [],H := [],V := [],M := M,ds := [] }) [] [] [] (by kernel_rfl) ?_
            refine T_seq (c1:=(sub [1,1,1,1,1,0,1,0,0,1,0,0,1,1,1,1,0,0,1,0,0,1,0,0] Bd35)) (c2:=(sub [1,1,1,1,1,0,1,0,0,1,0,0,1,1,1,1,0,0,1,0,0,1,0,1] Bd35)) (by kernel_rfl) ?_
            refine T_region (id:=28) (by kernel_rfl) ?_
            refine TI_segS (i:=0) (j:=2) [(4,vb false),(5,vi (0 : Int))] (by kernel_rfl) (by kernel_rfl) ?_
            refine TI_end (by kernel_rfl) ?_
            refine thenQ_n ?_
            refine T_ret (by kernel_rfl) ?_
            refine blockQ_r ?_
            refine thenQ_r ?_
            refine thenQ_r ?_
            refine blockQ_r ?_
            refine thenQ_r ?_
            refine blockQ_r ?_
            refine thenQ_r ?_
            refine thenQ_r ?_
            refine blockQ_r ?_
            refine thenQ_r ?_
            refine thenQ_r ?_
            have h := Option.some.inj h
            subst h
            refine fin_ret (.tup [(some (.v (.bool false)),[]),(some (.v (.int .i64 (0 : Int))),[])]) (by kernel_rfl) (by kernel_rfl) rfl ?_
            rfl
          | false =>
           replace h := sp_f h
           refine T_condF (x:=(.tmp 122)) (c1:=(sub [1,1,1,1,1,0,1,0,0,1,0,0,1,1,1,1,0,0,0,1,0] Bd35)) (c2:=(sub [1,1,1,1,1,0,1,0,0,1,0,0,1,1,1,1,0,0,0,1,1] Bd35)) (by kernel_rfl) (by kernel_rfl) ?_
           refine T_keep (s':={ σ := [(2,.lf (.own 2 0)),(3,.lf (.own 3 0)),(10,vi x43)],H := [(2,[.one (.v (.slice Au0_0 (u0_0.length) cu0_0)),.arr .i64 4 u0_1]),(3,[.one (.v (.slice Au1_0 (u1_0.length) cu1_0)),.one (.v (.slice Au1_1 (u1_1.length) cu1_1))])],V := [],M := M,ds := [] }) [2,3,10] [2,3] [] (by kernel_rfl) ?_
           refine T_exit (id:=6) (by kernel_rfl) ?_
           refine thenQ_x ?_
           refine thenQ_x ?_
           refine blockQ_x ?_
           refine thenQ_n ?_
           exact ⟨keep_sub (ts:=[2,3,10]) (hs:=[2,3]) (vs:=[]) (by kernel_rfl),h⟩
        ·rintro s' ⟨hsub,h⟩
         subst e_j57
         refine blockQ_n ?_
         refine thenQ_n ?_
         refine T_sub hsub ?_
         refine T_region (id:=19) (by kernel_rfl) ?_
         obtain ⟨x70,e_x70,h⟩ := lt_some h
         refine TI_segK (i:=0) (j:=3) (s':={ σ := [(2,.lf (.own 2 0)),(3,.lf (.own 3 0)),(10,vi x70)],H := [(2,[.one (.v (.slice Au0_0 (u0_0.length) cu0_0)),.arr .i64 4 u0_1]),(3,[.one (.v (.slice Au1_0 (u1_0.length) cu1_0)),.one (.v (.slice Au1_1 (u1_1.length) cu1_1))])],V := [],M := M,ds := [] }) [2,3,10] [2,3] [] (by subst e_x70;kernel_rfl) (by kernel_rfl) ?_
         refine TI_end (by kernel_rfl) ?_
         refine thenQ_n ?_
         exact ⟨n44,Nat.lt_succ_self _,x70,keep_sub (ts:=[2,3,10]) (hs:=[2,3]) (vs:=[]) (by kernel_rfl),h⟩
       | false =>
        replace h := sp_f h
        refine T_condT (x:=(.tmp 120)) (c1:=(sub [1,1,1,1,1,0,1,0,0,1,0,0,1,1,0,1,0] Bd35)) (c2:=(sub [1,1,1,1,1,0,1,0,0,1,0,0,1,1,0,1,1] Bd35)) (by kernel_rfl) (by kernel_rfl) ?_
        refine T_keep (s':={ σ := [],H := [],V := [],M := M,ds := [] }) [] [] [] (by kernel_rfl) ?_
        refine T_seq (c1:=(sub [1,1,1,1,1,0,1,0,0,1,0,0,1,1,0,1,0,0] Bd35)) (c2:=(sub [1,1,1,1,1,0,1,0,0,1,0,0,1,1,0,1,0,1] Bd35)) (by kernel_rfl) ?_
        refine T_region (id:=23) (by kernel_rfl) ?_
        refine TI_segS (i:=0) (j:=2) [(4,vb false),(5,vi (0 : Int))] (by kernel_rfl) (by kernel_rfl) ?_
        refine TI_end (by kernel_rfl) ?_
        refine thenQ_n ?_
        refine T_ret (by kernel_rfl) ?_
        refine thenQ_r ?_
        refine blockQ_r ?_
        refine thenQ_r ?_
        refine thenQ_r ?_
        refine blockQ_r ?_
        refine thenQ_r ?_
        refine thenQ_r ?_
        have h := Option.some.inj h
        subst h
        refine fin_ret (.tup [(some (.v (.bool false)),[]),(some (.v (.int .i64 (0 : Int))),[])]) (by kernel_rfl) (by kernel_rfl) rfl ?_
        rfl
      | false =>
       replace h := sp_f h
       refine T_condF (x:=(.tmp 92)) (c1:=(sub [1,1,1,1,1,0,1,0,0,0,1,0] Bd35)) (c2:=(sub [1,1,1,1,1,0,1,0,0,0,1,1] Bd35)) (by kernel_rfl) (by kernel_rfl) ?_
       refine T_keep (s':={ σ := [],H := [],V := [],M := M,ds := [] }) [] [] [] (by kernel_rfl) ?_
       refine T_exit (id:=4) (by kernel_rfl) ?_
       refine thenQ_x ?_
       refine thenQ_x ?_
       refine blockQ_x ?_
       refine thenQ_n ?_
       exact ⟨keep_sub (ts:=[]) (hs:=[]) (vs:=[]) (by kernel_rfl),h⟩
    ·rintro s' ⟨hsub,h⟩
     subst e_j42
     refine thenQ_n ?_
     refine T_sub hsub ?_
     refine T_seq (c1:=(sub [1,1,1,1,1,1,0] Bd35)) (c2:=(sub [1,1,1,1,1,1,1] Bd35)) (by kernel_rfl) ?_
     refine T_region (id:=29) (by kernel_rfl) ?_
     refine TI_segK (i:=0) (j:=2) (s':={ σ := [(4,vb true),(5,vi (0 : Int))],H := [],V := [],M := M,ds := [] }) [4,5] [] [] (by kernel_rfl) (by kernel_rfl) ?_
     refine TI_end (by kernel_rfl) ?_
     refine thenQ_n ?_
     refine T_ret (by kernel_rfl) ?_
     have h := Option.some.inj h
     subst h
     refine fin_ret (.tup [(some (.v (.bool true)),[]),(some (.v (.int .i64 (0 : Int))),[])]) (by kernel_rfl) (by kernel_rfl) rfl ?_
     rfl
  | false =>
   replace h := sp_f h
   refine T_condT (x:=(.tmp 22)) (c1:=(sub [1,1,1,0,1,0] Bd35)) (c2:=(sub [1,1,1,0,1,1] Bd35)) (by kernel_rfl) (by kernel_rfl) ?_
   refine T_keep (s':={ σ := [],H := [],V := [],M := M,ds := [] }) [] [] [] (by kernel_rfl) ?_
   refine T_seq (c1:=(sub [1,1,1,0,1,0,0] Bd35)) (c2:=(sub [1,1,1,0,1,0,1] Bd35)) (by kernel_rfl) ?_
   refine T_region (id:=5) (by kernel_rfl) ?_
   refine TI_segS (i:=0) (j:=2) [(4,vb false),(5,vi (0 : Int))] (by kernel_rfl) (by kernel_rfl) ?_
   refine TI_end (by kernel_rfl) ?_
   refine thenQ_n ?_
   refine T_ret (by kernel_rfl) ?_
   refine thenQ_r ?_
   have h := Option.some.inj h
   subst h
   refine fin_ret (.tup [(some (.v (.bool false)),[]),(some (.v (.int .i64 (0 : Int))),[])]) (by kernel_rfl) (by kernel_rfl) rfl ?_
   rfl
end Go.Proofs.Ythjkejbgknemgaa
namespace Go.Proofs.Ythjkejbgknemgaa
open Go.RowKit
abbrev CT := List (List Int) × List Int × Int × List (List Int) × List (List (List Int))
structure Crs (M : Mem) (b : Nat) (A : Option Addr) (c : Nat) (AP : Option Addr) (cP : Nat) (AV : Nat → Option Addr) (cV : Nat → Nat) (R : List (List Int)) (D : List Int) (st : Int) (P : List (List Int)) (V : List (List (List Int))) : Prop where
  log : memCell M b 0 = some (.slice A (List.length R) c)
  lR : SlR M A c .i64 11 R
  lD : D.length = 4
  dr : ∀ j, j < 4 → memCell M b (1 + j) = some (.int .i64 (D.getD j 0))
  start : memCell M b 5 = some (.int .i64 st)
  plc : memCell M b 6 = some (.slice AP (List.length P) cP)
  lP : SlR M AP cP .i64 2 P
  lV : V.length = 4
  val : ∀ k, k < 4 → memCell M b (7 + k) = some (.slice (AV k) (List.length (V.getD k [])) (cV k)) ∧ SlR M (AV k) (cV k) .i64 2 (V.getD k [])
theorem Crs.le {M M' : Mem} {b A c AP cP AV cV R D st P V} (h : Crs M b A c AP cP AV cV R D st P V) (hM : Mem.le M M') : Crs M' b A c AP cP AV cV R D st P V :=
  ⟨memCell_le hM h.log, h.lR.le hM, h.lD, fun j hj => memCell_le hM (h.dr j hj), memCell_le hM h.start, memCell_le hM h.plc, h.lP.le hM, h.lV, fun k hk => ⟨memCell_le hM (h.val k hk).1, (h.val k hk).2.le hM⟩⟩
def PtrR (M : Mem) (pv : Value) : Option CT → Prop
  | none => pv = .pointer none
  | some t => ∃ b A c AP cP AV cV, pv = .pointer (some ⟨b, 0, none⟩) ∧ Crs M b A c AP cP AV cV t.1 t.2.1 t.2.2.1 t.2.2.2.1 t.2.2.2.2
theorem PtrR.le {M M' : Mem} {pv : Value} : ∀ {o : Option CT}, PtrR M pv o → Mem.le M M' → PtrR M' pv o
  | none, h, _ => h
  | some _, ⟨b, A, c, AP, cP, AV, cV, h1, h2⟩, hM => ⟨b, A, c, AP, cP, AV, cV, h1, h2.le hM⟩
def AVof (A0 A1 A2 A3 : Option Addr) : Nat → Option Addr := fun k => [A0, A1, A2, A3].getD k none
def cVof (c0 c1 c2 c3 : Nat) : Nat → Nat := fun k => [c0, c1, c2, c3].getD k 0
theorem Crs_mk {M : Mem} {b c cP c0 c1 c2 c3 : Nat} {A AP A0 A1 A2 A3 : Option Addr} {R P V0 V1 V2 V3 : List (List Int)} {D : List Int} {st : Int}
    (hM : M b = some (sgCells (fun _ => 0) (fun _ => .slice none 0 0) [.one (.v (.slice A (List.length R) c)), .arr .i64 4 D, .one (.v (.int .i64 st)), .one (.v (.slice AP (List.length P) cP)), .one (.v (.slice A0 (List.length V0) c0)), .one (.v (.slice A1 (List.length V1) c1)), .one (.v (.slice A2 (List.length V2) c2)), .one (.v (.slice A3 (List.length V3) c3))]).toArray)
    (hD : D.length = 4) (hR : SlR M A c .i64 11 R) (hP : SlR M AP cP .i64 2 P) (h0 : SlR M A0 c0 .i64 2 V0) (h1 : SlR M A1 c1 .i64 2 V1) (h2 : SlR M A2 c2 .i64 2 V2) (h3 : SlR M A3 c3 .i64 2 V3) :
    Crs M b A c AP cP (AVof A0 A1 A2 A3) (cVof c0 c1 c2 c3) R D st P [V0, V1, V2, V3] := by
  obtain ⟨d0, d1, d2, d3, rfl⟩ : ∃ d0 d1 d2 d3, D = [d0, d1, d2, d3] := by
    match D, hD with
    | [d0, d1, d2, d3], _ => exact ⟨d0, d1, d2, d3, rfl⟩
  have g : ∀ {off v}, (sgCells (fun _ => 0) (fun _ => Value.slice none 0 0) [.one (.v (.slice A (List.length R) c)), .arr .i64 4 [d0, d1, d2, d3], .one (.v (.int .i64 st)), .one (.v (.slice AP (List.length P) cP)), .one (.v (.slice A0 (List.length V0) c0)), .one (.v (.slice A1 (List.length V1) c1)), .one (.v (.slice A2 (List.length V2) c2)), .one (.v (.slice A3 (List.length V3) c3))])[off]? = some v → memCell M b off = some v := fun h => cell_block hM h
  refine ⟨g rfl, hR, rfl, ?_, g rfl, g rfl, hP, rfl, ?_⟩
  · intro j hj
    match j, hj with
    | 0, _ => exact g rfl
    | 1, _ => exact g rfl
    | 2, _ => exact g rfl
    | 3, _ => exact g rfl
  · intro k hk
    match k, hk with
    | 0, _ => exact ⟨g rfl, h0⟩
    | 1, _ => exact ⟨g rfl, h1⟩
    | 2, _ => exact ⟨g rfl, h2⟩
    | 3, _ => exact ⟨g rfl, h3⟩
def bands4 (L : List Int) : List (List Int) := [List.take 2 (List.drop 3 L), List.take 2 (List.drop 5 L), List.take 2 (List.drop 7 L), List.take 2 (List.drop 9 L)]
theorem bands4_rows {L : List Int} (h : L.length = 11) : ∀ r ∈ bands4 L, r.length = 2 := by
  intro r hr
  simp only [bands4, List.mem_cons, List.mem_nil_iff, or_false] at hr
  rcases hr with rfl | rfl | rfl | rfl <;> (rw [List.length_take, List.length_drop, h]; rfl)
theorem bands4_cells {k : IntKind} {L : List Int} (h : L.length = 11) : ((sgCells (fun _ => 0) (fun _ => Value.slice none 0 0) [.arr k 11 L]).drop 3).take 8 = rowsC k (bands4 L) := by
  match L, h with
  | [a0, a1, a2, a3, a4, a5, a6, a7, a8, a9, a10], _ => rfl
end Go.Proofs.Ythjkejbgknemgaa
