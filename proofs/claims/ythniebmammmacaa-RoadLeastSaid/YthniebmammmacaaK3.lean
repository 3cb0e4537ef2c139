/- Lemmas and walks for the law RoadLeast (part 3). No condition: every theorem names its own hypotheses. -/
import Derived.Test.YthniebmammmacaaK2
import Derived.Test.YthniebmammmacaaProg
set_option linter.unusedVariables false
set_option linter.unusedSimpArgs false
set_option maxHeartbeats 4000000
namespace Go.Proofs.Ythniebmammmacaa
open Go.RowKit
def p30_l1 (k : Nat) (u0 : List Int) (u1 : Int) (j1 : Option Bool) : Nat → Int → Option Bool
 | 0,_ => none
 | n3 + 1,x2 => lt' (decide (x2 < (u0.length : Int))) fun b4 => sp b4 (jn (fun (b5 : Bool) => sp b5 (some false) (lt' (wr .i64 (x2 + (1 : Int))) fun x13 => p30_l1 k u0 u1 j1 n3 x13)) fun j6 => gd ((0 : Int) ≤ x2 ∧ x2 < (u0.length : Int)) <| lt' (List.getD u0 ((x2).toNat) 0) fun x8 => lt' (decide (x8 < (0 : Int))) fun b9 => sp b9 (j6 true) (gd ((0 : Int) ≤ x2 ∧ x2 < (u0.length : Int)) <| lt' (List.getD u0 ((x2).toNat) 0) fun x11 => lt' (decide (x11 ≥ u1)) fun b12 => j6 b12)) (j1)
def p30 (k : Nat) (u0 : List Int) (u1 : Int) : Option Bool :=
 jn (some true) fun j1 => p30_l1 k u0 u1 j1 k (0 : Int)
theorem hf30 : Try.prog.funcs[30]? = some Try.f30 := by kernel_rfl
theorem w30 (k : Nat) {M : Mem} {Au0 : Option Addr} {cu0 : Nat} {u0 : List Int} {u1 : Int} (hu0 : SlI M Au0 cu0 .i64 u0) {r} (h : p30 k u0 u1 = some r) :
  Fn Try.prog 30 [rval (lS Au0 u0 cu0),rval (vi u1)] M (fun x _ => x = vb r) := by
 unfold p30 at h
 refine FO [lS Au0 u0 cu0,vi u1] hf30 ⟨trivial,⟨trivial,trivial⟩⟩ fun w => ?_
 refine SQ0 (RG ?_)
 refine SG 1 (S4 [(0,lS Au0 u0 cu0),(1,vi u1)] [] [] M) ?_
 refine EN (SQ (SQ (RG ?_)))
 refine SS 1 [(0,lS Au0 u0 cu0),(1,vi u1),(5,vi (0 : Int))] ?_
 refine EN ?_
 obtain ⟨j1,e_j1,h⟩ := jn_some h
 refine T_bcut (id:=0) (c1:=(sub [1,0,1,0] Bd30)) (fun s' => Sub { σ := [],H := [],V := [],M := M,ds := [] } s' ∧ j1 = some r) (by kernel_rfl) ?_ ?_
 ·refine T_loop (c1:=(sub [1,0,1,0,0] Bd30)) (by kernel_rfl) (fun n3 s' => ∃ (x2 : Int),Sub { σ := [(0,lS Au0 u0 cu0),(1,vi u1),(5,vi x2)],H := [],V := [],M := M,ds := [] } s' ∧ p30_l1 k u0 u1 j1 n3 x2 = some r) (k:=k) ⟨(0 : Int),keep_sub (ts:=[0,1,5]) (hs:=[]) (vs:=[]) (by kernel_rfl),h⟩ ?_
  rintro n3 s' ⟨x2,hsub,h⟩
  cases n3 with
  | zero => rw [p30_l1] at h;cases h
  | succ n3 =>
   rw [p30_l1] at h
   refine T_sub hsub ?_
   refine SQ (SQ (RG ?_))
   obtain ⟨b4,e_b4,h⟩ := lt_some h
   refine SG 4 (S4 [(0,lS Au0 u0 cu0),(1,vi u1),(5,vi x2),(9,vb b4)] [] [] M) ?_ (by subst e_b4;kernel_rfl)
   refine EN ?_
   cases b4 with
   | true =>
    replace h := sp_t h
    refine CT ?_
    refine KS [(0,lS Au0 u0 cu0),(1,vi u1),(5,vi x2)] ?_
    refine SN (SQ (BK 1 ?_))
    obtain ⟨j6,e_j6,h⟩ := jn_some h
    refine T_cut (c1:=(sub [1,0,1,0,0,1,0,0,0] Bd30)) (c2:=(sub [1,0,1,0,0,1,0,0,1] Bd30)) (fun s' => ∃ (b5 : Bool),Sub { σ := [(0,lS Au0 u0 cu0),(1,vi u1),(5,vi x2),(24,vb b5)],H := [],V := [],M := M,ds := [] } s' ∧ j6 b5 = some r) (by kernel_rfl) ?_ ?_
    ·refine RG ?_
     refine SG 2 (S4 [(0,lS Au0 u0 cu0),(1,vi u1),(5,vi x2),(12,lS Au0 u0 cu0),(13,vi x2)] [] [] M) ?_
     obtain ⟨g7,h⟩ := gd_some h
     refine AT 14 (.lf (.ep (.slice Au0 (u0.length) cu0) 1 ((x2).toNat) 0)) (At_idxI (z:=x2) (by kernel_rfl) g7 hu0) ?_
     obtain ⟨x8,e_x8,h⟩ := lt_some h
     refine AT 15 (vi x8) (by rw [e_x8]; exact At_ldI (q:=(x2).toNat) (by subst e_x8; kernel_rfl) (toNat_lt g7) hu0) ?_
     obtain ⟨b9,e_b9,h⟩ := lt_some h
     refine SH 6 [(0,lS Au0 u0 cu0),(1,vi u1),(5,vi x2),(17,vb b9)] [] ?_ (by subst e_b9;kernel_rfl)
     cases b9 with
     | true =>
      replace h := sp_t h
      refine SS 13 [(0,lS Au0 u0 cu0),(1,vi u1),(5,vi x2),(24,vb true)] ?_
      refine EN ?_
      exact ⟨true,keep_sub (ts:=[0,1,5,24]) (hs:=[]) (vs:=[]) (by kernel_rfl),h⟩
     | false =>
      replace h := sp_f h
      refine SS 8 [(0,lS Au0 u0 cu0),(1,vi u1),(5,vi x2),(17,vb false),(18,lS Au0 u0 cu0),(19,vi x2)] ?_
      obtain ⟨g10,h⟩ := gd_some h
      refine AT 20 (.lf (.ep (.slice Au0 (u0.length) cu0) 1 ((x2).toNat) 0)) (At_idxI (z:=x2) (by kernel_rfl) g10 hu0) ?_
      obtain ⟨x11,e_x11,h⟩ := lt_some h
      refine AT 21 (vi x11) (by rw [e_x11]; exact At_ldI (q:=(x2).toNat) (by subst e_x11; kernel_rfl) (toNat_lt g10) hu0) ?_
      obtain ⟨b12,e_b12,h⟩ := lt_some h
      refine SH 13 [(0,lS Au0 u0 cu0),(1,vi u1),(5,vi x2),(24,vb b12)] [] ?_ (by subst e_b12;kernel_rfl)
      refine EN ?_
      exact ⟨b12,keep_sub (ts:=[0,1,5,24]) (hs:=[]) (vs:=[]) (by kernel_rfl),h⟩
    ·rintro s' ⟨b5,hsub,h⟩
     subst e_j6
     refine T_sub hsub ?_
     cases b5 with
     | true =>
      replace h := sp_t h
      refine CT ?_
      refine KG (S4 [] [] [] M) ?_
      refine SQ (RG ?_)
      refine SS 1 [(4,vb false)] ?_
      refine EN (RT (blockQ_r (thenQ_r (thenQ_r (blockQ_r (thenQ_r (thenQ_r ?_)))))))
      obtain rfl := sj h
      exact FT (vb false) rfl
     | false =>
      replace h := sp_f h
      refine CF ?_
      refine KG (S4 [(0,lS Au0 u0 cu0),(1,vi u1),(5,vi x2)] [] [] M) ?_
      refine S0 (blockQ_n (thenQ_n (RG ?_)))
      obtain ⟨x13,e_x13,h⟩ := lt_some h
      refine SS 3 [(0,lS Au0 u0 cu0),(1,vi u1),(5,vi x13)] ?_ (by subst e_x13;kernel_rfl)
      refine EN ?_
      exact ⟨n3,Nat.lt_succ_self _,x13,keep_sub (ts:=[0,1,5]) (hs:=[]) (vs:=[]) (by kernel_rfl),h⟩
   | false =>
    replace h := sp_f h
    refine CF ?_
    refine KS [] ?_
    refine XI 0 (thenQ_x (thenQ_x (blockQ_x (thenQ_n ?_))))
    exact ⟨keep_sub (ts:=[]) (hs:=[]) (vs:=[]) (by kernel_rfl),h⟩
 ·rintro s' ⟨hsub,h⟩
  subst e_j1
  refine thenQ_n ?_
  refine T_sub hsub ?_
  refine SQ (RG ?_)
  refine SG 1 (S4 [(4,vb true)] [] [] M) ?_
  refine EN (RT ?_)
  obtain rfl := sj h
  exact FT (vb true) rfl
def p33_l1 (k : Nat) (u0_1 : List (List Int)) (u1 : List Int) (j2 : Int → Option Int) : Nat → Int → Int → Option Int
 | 0,_,_ => none
 | n5 + 1,x3,x4 => lt' (decide (x4 < (u1.length : Int))) fun b6 => sp b6 (gd ((0 : Int) ≤ x4 ∧ x4 < (u1.length : Int)) <| lt' (List.getD u1 ((x4).toNat) 0) fun x8 => gd ((0 : Int) ≤ x8 ∧ x8 < (u0_1.length : Int)) <| lt' (List.getD (List.getD u0_1 ((x8).toNat) []) 2 0) fun x10 => lt' (wr .i64 (x3 + x10)) fun x11 => lt' (wr .i64 (x4 + (1 : Int))) fun x12 => p33_l1 k u0_1 u1 j2 n5 x11 x12) (j2 x3)
def p33_l2 (k : Nat) (u0_2 : List WT) (u2 : List Int) (j14 : Int → Option Int) : Nat → Int → Int → Option Int
 | 0,_,_ => none
 | n17 + 1,x15,x16 => lt' (decide (x16 < (u2.length : Int))) fun b18 => sp b18 (gd ((0 : Int) ≤ x16 ∧ x16 < (u2.length : Int)) <| lt' (List.getD u2 ((x16).toNat) 0) fun x20 => gd ((0 : Int) ≤ x20 ∧ x20 < (u0_2.length : Int)) <| lt' (List.getD (List.getD u0_2 ((x20).toNat) ([],[])).2 2 0) fun x22 => lt' (wr .i64 (x15 + x22)) fun x23 => lt' (wr .i64 (x16 + (1 : Int))) fun x24 => p33_l2 k u0_2 u2 j14 n17 x23 x24) (j14 x15)
def p33 (k : Nat) (u0_0 : Int) (u0_1 : List (List Int)) (u0_2 : List WT) (u1 : List Int) (u2 : List Int) : Option Int :=
 jn (fun (x1 : Int) => jn (fun (x13 : Int) => some x13) fun j14 => p33_l2 k u0_2 u2 j14 k x1 (0 : Int)) fun j2 => p33_l1 k u0_1 u1 j2 k (0 : Int) (0 : Int)
theorem hf33 : Try.prog.funcs[33]? = some Try.f33 := by kernel_rfl
theorem w33 (k : Nat) {M : Mem} {Au0_1 Au0_2 Au1 Au2 : Option Addr} {cu0_1 cu0_2 cu1 cu2 : Nat} {Hu0_2 : Nat → Option Addr} {Cu0_2 : Nat → Nat} {u0_0 : Int} {u0_1 : List (List Int)} {u0_2 : List WT} {u1 u2 : List Int} (hu0_1 : SlR M Au0_1 cu0_1 .i64 12 u0_1) (hu0_2 : SlW M 3 Au0_2 cu0_2 Hu0_2 Cu0_2 u0_2) (hu1 : SlI M Au1 cu1 .i64 u1) (hu2 : SlI M Au2 cu2 .i64 u2) {r} (h : p33 k u0_0 u0_1 u0_2 u1 u2 = some r) :
  Fn Try.prog 33 [rval (.agg [oI u0_0,oS Au0_1 u0_1 cu0_1,oS Au0_2 u0_2 cu0_2]),rval (lS Au1 u1 cu1),rval (lS Au2 u2 cu2)] M (fun x _ => x = vi r) := by
 unfold p33 at h
 refine FO [.agg [oI u0_0,oS Au0_1 u0_1 cu0_1,oS Au0_2 u0_2 cu0_2],lS Au1 u1 cu1,lS Au2 u2 cu2] hf33 ⟨⟨rfl,⟨rfl,⟨rfl,trivial⟩⟩⟩,⟨trivial,⟨trivial,trivial⟩⟩⟩ fun w => ?_
 refine SQ0 (RG ?_)
 refine SG 2 (S4 [(1,lS Au1 u1 cu1),(2,lS Au2 u2 cu2),(3,lO 3)] [(3,[oI u0_0,oS Au0_1 u0_1 cu0_1,oS Au0_2 u0_2 cu0_2])] [] M) ?_
 refine EN (SQ (RG ?_))
 refine SS 1 [(1,lS Au1 u1 cu1),(2,lS Au2 u2 cu2),(3,lO 3),(7,vi (0 : Int))] ?_
 refine EN (SQ (SQ (RG ?_)))
 refine SS 1 [(1,lS Au1 u1 cu1),(2,lS Au2 u2 cu2),(3,lO 3),(7,vi (0 : Int)),(8,vi (0 : Int))] ?_
 refine EN ?_
 obtain ⟨j2,e_j2,h⟩ := jn_some h
 refine T_bcut (id:=0) (c1:=(sub [1,1,0,1,0] Bd33)) (fun s' => ∃ (x1 : Int),Sub { σ := [(2,lS Au2 u2 cu2),(3,lO 3),(7,vi x1)],H := [(3,[oI u0_0,oS Au0_1 u0_1 cu0_1,oS Au0_2 u0_2 cu0_2])],V := [],M := M,ds := [] } s' ∧ j2 x1 = some r) (by kernel_rfl) ?_ ?_
 ·refine T_loop (c1:=(sub [1,1,0,1,0,0] Bd33)) (by kernel_rfl) (fun n5 s' => ∃ (x3 : Int) (x4 : Int),Sub { σ := [(1,lS Au1 u1 cu1),(2,lS Au2 u2 cu2),(3,lO 3),(7,vi x3),(8,vi x4)],H := [(3,[oI u0_0,oS Au0_1 u0_1 cu0_1,oS Au0_2 u0_2 cu0_2])],V := [],M := M,ds := [] } s' ∧ p33_l1 k u0_1 u1 j2 n5 x3 x4 = some r) (k:=k) ⟨(0 : Int),(0 : Int),keep_sub (ts:=[1,2,3,7,8]) (hs:=[3]) (vs:=[]) (by kernel_rfl),h⟩ ?_
  rintro n5 s' ⟨x3,x4,hsub,h⟩
  cases n5 with
  | zero => rw [p33_l1] at h;cases h
  | succ n5 =>
   rw [p33_l1] at h
   refine T_sub hsub ?_
   refine SQ (SQ (RG ?_))
   obtain ⟨b6,e_b6,h⟩ := lt_some h
   refine SG 4 (S4 [(1,lS Au1 u1 cu1),(2,lS Au2 u2 cu2),(3,lO 3),(7,vi x3),(8,vi x4),(13,vb b6)] [(3,[oI u0_0,oS Au0_1 u0_1 cu0_1,oS Au0_2 u0_2 cu0_2])] [] M) ?_ (by subst e_b6;kernel_rfl)
   refine EN ?_
   cases b6 with
   | true =>
    replace h := sp_t h
    refine CT ?_
    refine KS [(1,lS Au1 u1 cu1),(2,lS Au2 u2 cu2),(3,lO 3),(7,vi x3),(8,vi x4)] ?_
    refine SN (SQ (BK 1 ?_))
    obtain ⟨g7,h⟩ := gd_some h
    obtain ⟨x8,e_x8,h⟩ := lt_some h
    obtain ⟨g9,h⟩ := gd_some h
    obtain ⟨x10,e_x10,h⟩ := lt_some h
    obtain ⟨x11,e_x11,h⟩ := lt_some h
    refine T_draw' (id:=5) [11] [0,0,0,0,0,0,0,0,0,0,0,0] (by kernel_rfl) (by kernel_rfl) (by kernel_rfl) (by kernel_rfl) [(16,vi x3),(17,.lf (.own 3 1)),(18,lS Au0_1 u0_1 cu0_1),(19,lS Au1 u1 cu1),(20,vi x4),(21,.lf (.ep (.slice Au1 (u1.length) cu1) 1 ((x4).toNat) 0)),(22,vi x8),(23,.lf (.ep (.slice Au0_1 (u0_1.length) cu0_1) 12 ((x8).toNat) 0)),(24,.lf (.ep (.slice Au0_1 (u0_1.length) cu0_1) 12 ((x8).toNat) 2)),(25,vi x10),(26,vi x11)] (by kernel_rfl) (wfs_lf _ (by kernel_rfl)) ?_
    refine Stage_ex (stage_all' [0,1,2,3,4,8,10] [5,6,7,9] (by kernel_rfl) (by subst_vars; kernel_rfl) (by kernel_rfl) ⟨QF_at (i:=5) (d:=21) (x:=.lf (.ep (.slice Au1 (u1.length) cu1) 1 ((x4).toNat) 0)) (show OpAt _ _ _ 5 21 _ from by exact At_idxI (d:=21) (z:=x4) (by subst_vars; kernel_rfl) g7 hu1) (by kernel_rfl) (by subst_vars; kernel_rfl),⟨QF_at (i:=6) (d:=22) (x:=vi x8) (show OpAt _ _ _ 6 22 _ from by rw [e_x8]; exact At_ldI (d:=22) (q:=(x4).toNat) (by subst_vars; kernel_rfl) (toNat_lt g7) hu1) (by kernel_rfl) (by subst_vars; kernel_rfl),⟨QF_at (i:=7) (d:=23) (x:=.lf (.ep (.slice Au0_1 (u0_1.length) cu0_1) 12 ((x8).toNat) 0)) (show OpAt _ _ _ 7 23 _ from by exact At_idxR (d:=23) (z:=x8) (by subst_vars; kernel_rfl) g9 hu0_1) (by kernel_rfl) (by subst_vars; kernel_rfl),⟨QF_at (i:=9) (d:=25) (x:=vi x10) (show OpAt _ _ _ 9 25 _ from by rw [e_x10]; exact At_ldR1 (d:=25) (q:=(x8).toNat) (j:=2) (by subst_vars; kernel_rfl) rfl (toNat_lt g9) hu0_1) (by kernel_rfl) (by subst_vars; kernel_rfl),trivial⟩⟩⟩⟩) ({ σ := [(7,vi x11),(16,vi x3),(17,.lf (.own 3 1)),(18,lS Au0_1 u0_1 cu0_1),(19,lS Au1 u1 cu1),(20,vi x4),(21,.lf (.ep (.slice Au1 (u1.length) cu1) 1 ((x4).toNat) 0)),(22,vi x8),(23,.lf (.ep (.slice Au0_1 (u0_1.length) cu0_1) 12 ((x8).toNat) 0)),(24,.lf (.ep (.slice Au0_1 (u0_1.length) cu0_1) 12 ((x8).toNat) 2)),(25,vi x10),(26,vi x11),(1,lS Au1 u1 cu1),(2,lS Au2 u2 cu2),(3,lO 3),(7,vi x3),(8,vi x4)],H := [(3,[oI u0_0,oS Au0_1 u0_1 cu0_1,oS Au0_2 u0_2 cu0_2])],V := [],M := M,ds := [] }) (by subst_vars; kernel_rfl) [] (by kernel_rfl) trivial ?_
    refine Stage_nil (stage_all' [] [] (by kernel_rfl) (by subst_vars;kernel_rfl) (by kernel_rfl) trivial) ?_
    refine blockQ_n (thenQ_n ?_)
    refine KG (S4 [(1,lS Au1 u1 cu1),(2,lS Au2 u2 cu2),(3,lO 3),(7,vi x11),(8,vi x4)] [(3,[oI u0_0,oS Au0_1 u0_1 cu0_1,oS Au0_2 u0_2 cu0_2])] [] M) ?_ (by subst_vars;kernel_rfl)
    refine RG ?_
    obtain ⟨x12,e_x12,h⟩ := lt_some h
    refine SS 3 [(1,lS Au1 u1 cu1),(2,lS Au2 u2 cu2),(3,lO 3),(7,vi x11),(8,vi x12)] ?_ (by subst e_x12;kernel_rfl)
    refine EN ?_
    exact ⟨n5,Nat.lt_succ_self _,x11,x12,keep_sub (ts:=[1,2,3,7,8]) (hs:=[3]) (vs:=[]) (by kernel_rfl),h⟩
   | false =>
    replace h := sp_f h
    refine CF ?_
    refine KS [(2,lS Au2 u2 cu2),(3,lO 3),(7,vi x3)] ?_
    refine XI 0 (thenQ_x (thenQ_x (blockQ_x (thenQ_n ?_))))
    exact ⟨x3,keep_sub (ts:=[2,3,7]) (hs:=[3]) (vs:=[]) (by kernel_rfl),h⟩
 ·rintro s' ⟨x1,hsub,h⟩
  subst e_j2
  refine thenQ_n ?_
  refine T_sub hsub ?_
  refine SQ (SQ (RG ?_))
  refine SG 1 (S4 [(2,lS Au2 u2 cu2),(3,lO 3),(7,vi x1),(9,vi (0 : Int))] [(3,[oI u0_0,oS Au0_1 u0_1 cu0_1,oS Au0_2 u0_2 cu0_2])] [] M) ?_
  refine EN ?_
  obtain ⟨j14,e_j14,h⟩ := jn_some h
  refine T_bcut (id:=2) (c1:=(sub [1,1,1,0,1,0] Bd33)) (fun s' => ∃ (x13 : Int),Sub { σ := [(7,vi x13)],H := [],V := [],M := M,ds := [] } s' ∧ j14 x13 = some r) (by kernel_rfl) ?_ ?_
  ·refine T_loop (c1:=(sub [1,1,1,0,1,0,0] Bd33)) (by kernel_rfl) (fun n17 s' => ∃ (x15 : Int) (x16 : Int),Sub { σ := [(2,lS Au2 u2 cu2),(3,lO 3),(7,vi x15),(9,vi x16)],H := [(3,[oI u0_0,oS Au0_1 u0_1 cu0_1,oS Au0_2 u0_2 cu0_2])],V := [],M := M,ds := [] } s' ∧ p33_l2 k u0_2 u2 j14 n17 x15 x16 = some r) (k:=k) ⟨x1,(0 : Int),keep_sub (ts:=[2,3,7,9]) (hs:=[3]) (vs:=[]) (by kernel_rfl),h⟩ ?_
   rintro n17 s' ⟨x15,x16,hsub,h⟩
   cases n17 with
   | zero => rw [p33_l2] at h;cases h
   | succ n17 =>
    rw [p33_l2] at h
    refine T_sub hsub ?_
    refine SQ (SQ (RG ?_))
    obtain ⟨b18,e_b18,h⟩ := lt_some h
    refine SG 4 (S4 [(2,lS Au2 u2 cu2),(3,lO 3),(7,vi x15),(9,vi x16),(30,vb b18)] [(3,[oI u0_0,oS Au0_1 u0_1 cu0_1,oS Au0_2 u0_2 cu0_2])] [] M) ?_ (by subst e_b18;kernel_rfl)
    refine EN ?_
    cases b18 with
    | true =>
     replace h := sp_t h
     refine CT ?_
     refine KS [(2,lS Au2 u2 cu2),(3,lO 3),(7,vi x15),(9,vi x16)] ?_
     refine SN (SQ (BK 3 ?_))
     obtain ⟨g19,h⟩ := gd_some h
     obtain ⟨x20,e_x20,h⟩ := lt_some h
     obtain ⟨g21,h⟩ := gd_some h
     obtain ⟨x22,e_x22,h⟩ := lt_some h
     obtain ⟨x23,e_x23,h⟩ := lt_some h
     refine T_draw' (id:=9) [11] [0,0,0,0,0,0,0,0,0,0,0,0] (by kernel_rfl) (by kernel_rfl) (by kernel_rfl) (by kernel_rfl) [(33,vi x15),(34,.lf (.own 3 2)),(35,lS Au0_2 u0_2 cu0_2),(36,lS Au2 u2 cu2),(37,vi x16),(38,.lf (.ep (.slice Au2 (u2.length) cu2) 1 ((x16).toNat) 0)),(39,vi x20),(40,.lf (.ep (.slice Au0_2 (u0_2.length) cu0_2) 4 ((x20).toNat) 0)),(41,.lf (.ep (.slice Au0_2 (u0_2.length) cu0_2) 4 ((x20).toNat) 3)),(42,vi x22),(43,vi x23)] (by kernel_rfl) (wfs_lf _ (by kernel_rfl)) ?_
     refine Stage_ex (stage_all' [0,1,2,3,4,8,10] [5,6,7,9] (by kernel_rfl) (by subst_vars; kernel_rfl) (by kernel_rfl) ⟨QF_at (i:=5) (d:=38) (x:=.lf (.ep (.slice Au2 (u2.length) cu2) 1 ((x16).toNat) 0)) (show OpAt _ _ _ 5 38 _ from by exact At_idxI (d:=38) (z:=x16) (by subst_vars; kernel_rfl) g19 hu2) (by kernel_rfl) (by subst_vars; kernel_rfl),⟨QF_at (i:=6) (d:=39) (x:=vi x20) (show OpAt _ _ _ 6 39 _ from by rw [e_x20]; exact At_ldI (d:=39) (q:=(x16).toNat) (by subst_vars; kernel_rfl) (toNat_lt g19) hu2) (by kernel_rfl) (by subst_vars; kernel_rfl),⟨QF_at (i:=7) (d:=40) (x:=.lf (.ep (.slice Au0_2 (u0_2.length) cu0_2) 4 ((x20).toNat) 0)) (show OpAt _ _ _ 7 40 _ from by exact At_idxSW (m:=3) (d:=40) (z:=x20) (by subst_vars; kernel_rfl) g21 hu0_2) (by kernel_rfl) (by subst_vars; kernel_rfl),⟨QF_at (i:=9) (d:=42) (x:=vi x22) (show OpAt _ _ _ 9 42 _ from by rw [e_x22]; exact At_ldSWi (m:=3) (d:=42) (q:=(x20).toNat) (j:=2) (by subst_vars; kernel_rfl) (by kernel_rfl) (toNat_lt g21) hu0_2) (by kernel_rfl) (by subst_vars; kernel_rfl),trivial⟩⟩⟩⟩) ({ σ := [(7,vi x23),(33,vi x15),(34,.lf (.own 3 2)),(35,lS Au0_2 u0_2 cu0_2),(36,lS Au2 u2 cu2),(37,vi x16),(38,.lf (.ep (.slice Au2 (u2.length) cu2) 1 ((x16).toNat) 0)),(39,vi x20),(40,.lf (.ep (.slice Au0_2 (u0_2.length) cu0_2) 4 ((x20).toNat) 0)),(41,.lf (.ep (.slice Au0_2 (u0_2.length) cu0_2) 4 ((x20).toNat) 3)),(42,vi x22),(43,vi x23),(2,lS Au2 u2 cu2),(3,lO 3),(7,vi x15),(9,vi x16)],H := [(3,[oI u0_0,oS Au0_1 u0_1 cu0_1,oS Au0_2 u0_2 cu0_2])],V := [],M := M,ds := [] }) (by subst_vars; kernel_rfl) [] (by kernel_rfl) trivial ?_
     refine Stage_nil (stage_all' [] [] (by kernel_rfl) (by subst_vars;kernel_rfl) (by kernel_rfl) trivial) ?_
     refine blockQ_n (thenQ_n ?_)
     refine KG (S4 [(2,lS Au2 u2 cu2),(3,lO 3),(7,vi x23),(9,vi x16)] [(3,[oI u0_0,oS Au0_1 u0_1 cu0_1,oS Au0_2 u0_2 cu0_2])] [] M) ?_ (by subst_vars;kernel_rfl)
     refine RG ?_
     obtain ⟨x24,e_x24,h⟩ := lt_some h
     refine SS 3 [(2,lS Au2 u2 cu2),(3,lO 3),(7,vi x23),(9,vi x24)] ?_ (by subst e_x24;kernel_rfl)
     refine EN ?_
     exact ⟨n17,Nat.lt_succ_self _,x23,x24,keep_sub (ts:=[2,3,7,9]) (hs:=[3]) (vs:=[]) (by kernel_rfl),h⟩
    | false =>
     replace h := sp_f h
     refine CF ?_
     refine KP [(7,vi x15)] [] [] ?_
     refine XI 2 (thenQ_x (thenQ_x (blockQ_x (thenQ_n ?_))))
     exact ⟨x15,keep_sub (ts:=[7]) (hs:=[]) (vs:=[]) (by kernel_rfl),h⟩
  ·rintro s' ⟨x13,hsub,h⟩
   subst e_j14
   refine thenQ_n ?_
   refine T_sub hsub ?_
   refine SQ (RG ?_)
   refine SG 2 (S4 [(6,vi x13)] [] [] M) ?_
   refine EN (RT ?_)
   obtain rfl := sj h
   exact FT (vi x13) rfl
end Go.Proofs.Ythniebmammmacaa
namespace Go.Proofs.Ythniebmammmacaa
open Go.RowKit
def p29_l1 (k : Nat) (u0_2 : List WT) (j5 : Option Int) : Nat → Int → Option Int
 | 0,_ => none
 | n7 + 1,x6 => lt' (decide (x6 < (u0_2.length : Int))) fun b8 => sp b8 (gd ((0 : Int) ≤ x6 ∧ x6 < (u0_2.length : Int)) <| lt' ((List.getD u0_2 ((x6).toNat) ([],[])).1) fun L10 => lt' (decide ((L10.length : Int) > (16 : Int))) fun b11 => sp b11 (some (6 : Int)) (lt' (wr .i64 (x6 + (1 : Int))) fun x12 => p29_l1 k u0_2 j5 n7 x12)) (j5)
def p29_l2 (k : Nat) (u0_0 : Int) (u0_1 : List (List Int)) (j17 : Option Int) : Nat → Int → Option Int
 | 0,_ => none
 | n19 + 1,x18 => lt' (decide (x18 < (u0_1.length : Int))) fun b20 => sp b20 (gd ((0 : Int) ≤ x18 ∧ x18 < (u0_1.length : Int)) <| lt' (List.getD u0_1 ((x18).toNat) []) fun L22 => jn (fun (b23 : Bool) => sp b23 (some (2 : Int)) (lt' (wr .i64 (x18 + (1 : Int))) fun x54 => p29_l2 k u0_0 u0_1 j17 n19 x54)) fun j24 => lt' (List.getD L22 0 0) fun x25 => lt' (decide (x25 < (0 : Int))) fun b26 => sp b26 (j24 true) (lt' (List.getD L22 0 0) fun x27 => lt' (decide (x27 ≥ u0_0)) fun b28 => sp b28 (j24 true) (lt' (List.getD L22 1 0) fun x29 => lt' (decide (x29 < (0 : Int))) fun b30 => sp b30 (j24 true) (lt' (List.getD L22 1 0) fun x31 => lt' (decide (x31 ≥ u0_0)) fun b32 => sp b32 (j24 true) (lt' (List.getD L22 0 0) fun x33 => lt' (List.getD L22 1 0) fun x34 => lt' (x33 == x34) fun b35 => sp b35 (j24 true) (lt' (List.getD L22 2 0) fun x36 => cl (p65 k x36 (1 : Int) (1073741824 : Int)) fun v37 => sp v37 (lt' (List.getD L22 3 0) fun x38 => cl (p65 k x38 (1 : Int) (1440 : Int)) fun v39 => sp v39 (lt' (List.getD L22 4 0) fun x40 => lt' (decide (x40 < (0 : Int))) fun b41 => sp b41 (j24 true) (lt' (List.getD L22 4 0) fun x42 => lt' (List.getD L22 5 0) fun x43 => lt' (decide (x42 ≥ x43)) fun b44 => sp b44 (j24 true) (lt' (List.getD L22 5 0) fun x45 => lt' (decide (x45 > (1440 : Int))) fun b46 => sp b46 (j24 true) (lt' (List.getD L22 5 0) fun x47 => lt' (List.getD L22 4 0) fun x48 => lt' (wr .i64 (x47 - x48)) fun x49 => lt' (List.getD L22 3 0) fun x50 => lt' (decide (x49 < x50)) fun b51 => sp b51 (j24 true) (cl (p40 k (List.take 6 (List.drop 6 L22))) fun v52 => lt' (v52 != (0 : Int)) fun b53 => j24 b53))))) (j24 true)) (j24 true))))))) (j17)
def p29_l3 (k : Nat) (u0_1 : List (List Int)) (u0_2 : List WT) (j55 : Option Int) : Nat → Int → Option Int
 | 0,_ => none
 | n57 + 1,x56 => lt' (decide (x56 < (u0_2.length : Int))) fun b58 => sp b58 (gd ((0 : Int) ≤ x56 ∧ x56 < (u0_2.length : Int)) <| lt' ((List.getD u0_2 ((x56).toNat) ([],[])).1) fun L60 => lt' (List.getD (List.getD u0_2 ((x56).toNat) ([],[])).2 0 0) fun x61 => lt' (List.getD (List.getD u0_2 ((x56).toNat) ([],[])).2 1 0) fun x62 => lt' (List.getD (List.getD u0_2 ((x56).toNat) ([],[])).2 2 0) fun x63 => jn (fun (b64 : Bool) => sp b64 (some (2 : Int)) (lt' (wr .i64 (x56 + (1 : Int))) fun x72 => p29_l3 k u0_1 u0_2 j55 n57 x72)) fun j65 => lt' (decide ((L60.length : Int) < (1 : Int))) fun b66 => sp b66 (j65 true) (lt' (decide (x61 < (0 : Int))) fun b67 => sp b67 (j65 true) (lt' (decide (x61 > (5 : Int))) fun b68 => sp b68 (j65 true) (cl (p65 k x62 (0 : Int) (1073741824 : Int)) fun v69 => sp v69 (cl (p65 k x63 (1 : Int) (1073741824 : Int)) fun v70 => sp v70 (cl (p83 k L60 (u0_1.length : Int)) fun v71 => j65 (!v71)) (j65 true)) (j65 true))))) (j55)
def p29 (k : Nat) (u0_0 : Int) (u0_1 : List (List Int)) (u0_2 : List WT) : Option Int :=
 jn (fun (b1 : Bool) => sp b1 (some (6 : Int)) (jn (jn (fun (b13 : Bool) => sp b13 (some (2 : Int)) (jn (jn (some (0 : Int)) fun j55 => p29_l3 k u0_1 u0_2 j55 k (0 : Int)) fun j17 => p29_l2 k u0_0 u0_1 j17 k (0 : Int))) fun j14 => lt' (decide (u0_0 < (1 : Int))) fun b15 => sp b15 (j14 true) (lt' (decide (u0_0 > (64 : Int))) fun b16 => j14 b16)) fun j5 => p29_l1 k u0_2 j5 k (0 : Int))) fun j2 => lt' (decide ((u0_1.length : Int) > (256 : Int))) fun b3 => sp b3 (j2 true) (lt' (decide ((u0_2.length : Int) > (10 : Int))) fun b4 => j2 b4)
theorem hf29 : Try.prog.funcs[29]? = some Try.f29 := by kernel_rfl
theorem w29 (k : Nat) {M : Mem} {Au0_1 Au0_2 : Option Addr} {cu0_1 cu0_2 : Nat} {Hu0_2 : Nat → Option Addr} {Cu0_2 : Nat → Nat} {u0_0 : Int} {u0_1 : List (List Int)} {u0_2 : List WT} (hu0_1 : SlR M Au0_1 cu0_1 .i64 12 u0_1) (hu0_2 : SlW M 3 Au0_2 cu0_2 Hu0_2 Cu0_2 u0_2) {r} (h : p29 k u0_0 u0_1 u0_2 = some r) :
  Fn Try.prog 29 [rval (.agg [oI u0_0,oS Au0_1 u0_1 cu0_1,oS Au0_2 u0_2 cu0_2])] M (fun x _ => x = vi r) := by
 unfold p29 at h
 refine FO [.agg [oI u0_0,oS Au0_1 u0_1 cu0_1,oS Au0_2 u0_2 cu0_2]] hf29 ⟨⟨rfl,⟨rfl,⟨rfl,trivial⟩⟩⟩,trivial⟩ fun w => ?_
 refine SQ0 (RG ?_)
 refine SG 2 (S4 [(1,lO 1)] [(1,[oI u0_0,oS Au0_1 u0_1 cu0_1,oS Au0_2 u0_2 cu0_2])] [] M) ?_
 refine EN (SQ ?_)
 obtain ⟨j2,e_j2,h⟩ := jn_some h
 refine T_cut (c1:=(sub [1,0,0] Bd29)) (c2:=(sub [1,0,1] Bd29)) (fun s' => ∃ (b1 : Bool),Sub { σ := [(1,lO 1),(17,vb b1)],H := [(1,[oI u0_0,oS Au0_1 u0_1 cu0_1,oS Au0_2 u0_2 cu0_2])],V := [],M := M,ds := [] } s' ∧ j2 b1 = some r) (by kernel_rfl) ?_ ?_
 ·refine RG ?_
  obtain ⟨b3,e_b3,h⟩ := lt_some h
  refine SG 5 (S4 [(1,lO 1),(12,vb b3)] [(1,[oI u0_0,oS Au0_1 u0_1 cu0_1,oS Au0_2 u0_2 cu0_2])] [] M) ?_ (by subst e_b3;kernel_rfl)
  cases b3 with
  | true =>
   replace h := sp_t h
   refine SS 10 [(1,lO 1),(17,vb true)] ?_
   refine EN ?_
   exact ⟨true,keep_sub (ts:=[1,17]) (hs:=[1]) (vs:=[]) (by kernel_rfl),h⟩
  | false =>
   replace h := sp_f h
   obtain ⟨b4,e_b4,h⟩ := lt_some h
   refine SS 10 [(1,lO 1),(17,vb b4)] ?_ (by subst e_b4;kernel_rfl)
   refine EN ?_
   exact ⟨b4,keep_sub (ts:=[1,17]) (hs:=[1]) (vs:=[]) (by kernel_rfl),h⟩
 ·rintro s' ⟨b1,hsub,h⟩
  subst e_j2
  refine T_sub hsub ?_
  cases b1 with
  | true =>
   replace h := sp_t h
   refine CT ?_
   refine KG (S4 [] [] [] M) ?_
   refine SQ (RG ?_)
   refine SS 1 [(2,vi (6 : Int))] ?_
   refine EN (RT (thenQ_r ?_))
   obtain rfl := sj h
   exact FT (vi (6 : Int)) rfl
  | false =>
   replace h := sp_f h
   refine CF ?_
   refine KG (S4 [(1,lO 1)] [(1,[oI u0_0,oS Au0_1 u0_1 cu0_1,oS Au0_2 u0_2 cu0_2])] [] M) ?_
   refine SN (SQ (SQ (RG ?_)))
   refine SS 1 [(1,lO 1),(3,vi (0 : Int))] ?_
   refine EN ?_
   obtain ⟨j5,e_j5,h⟩ := jn_some h
   refine T_bcut (id:=0) (c1:=(sub [1,1,0,1,0] Bd29)) (fun s' => Sub { σ := [(1,lO 1)],H := [(1,[oI u0_0,oS Au0_1 u0_1 cu0_1,oS Au0_2 u0_2 cu0_2])],V := [],M := M,ds := [] } s' ∧ j5 = some r) (by kernel_rfl) ?_ ?_
   ·refine T_loop (c1:=(sub [1,1,0,1,0,0] Bd29)) (by kernel_rfl) (fun n7 s' => ∃ (x6 : Int),Sub { σ := [(1,lO 1),(3,vi x6)],H := [(1,[oI u0_0,oS Au0_1 u0_1 cu0_1,oS Au0_2 u0_2 cu0_2])],V := [],M := M,ds := [] } s' ∧ p29_l1 k u0_2 j5 n7 x6 = some r) (k:=k) ⟨(0 : Int),keep_sub (ts:=[1,3]) (hs:=[1]) (vs:=[]) (by kernel_rfl),h⟩ ?_
    rintro n7 s' ⟨x6,hsub,h⟩
    cases n7 with
    | zero => rw [p29_l1] at h;cases h
    | succ n7 =>
     rw [p29_l1] at h
     refine T_sub hsub ?_
     refine SQ (SQ (RG ?_))
     obtain ⟨b8,e_b8,h⟩ := lt_some h
     refine SG 5 (S4 [(1,lO 1),(3,vi x6),(22,vb b8)] [(1,[oI u0_0,oS Au0_1 u0_1 cu0_1,oS Au0_2 u0_2 cu0_2])] [] M) ?_ (by subst e_b8;kernel_rfl)
     refine EN ?_
     cases b8 with
     | true =>
      replace h := sp_t h
      refine CT ?_
      refine KS [(1,lO 1),(3,vi x6)] ?_
      refine SN (SQ (BK 1 (SQ (RG ?_))))
      refine SS 3 [(1,lO 1),(3,vi x6),(26,lS Au0_2 u0_2 cu0_2),(27,vi x6)] ?_
      obtain ⟨g9,h⟩ := gd_some h
      refine AT 28 (.lf (.ep (.slice Au0_2 (u0_2.length) cu0_2) 4 ((x6).toNat) 0)) (At_idxSW (m:=3) (z:=x6) (by kernel_rfl) g9 hu0_2) ?_
      refine SH 5 [(1,lO 1),(3,vi x6),(29,.lf (.ep (.slice Au0_2 (u0_2.length) cu0_2) 4 ((x6).toNat) 0))] [(1,[oI u0_0,oS Au0_1 u0_1 cu0_1,oS Au0_2 u0_2 cu0_2])] ?_
      obtain ⟨L10,e_L10,h⟩ := lt_some h
      have f_L10 : SlI M (Hu0_2 ((x6).toNat)) (Cu0_2 ((x6).toNat)) .i64 L10 := by rw [e_L10]; exact (hu0_2).rows _ (toNat_lt g9)
      refine AT 30 (lS (Hu0_2 ((x6).toNat)) L10 (Cu0_2 ((x6).toNat))) (by rw [e_L10]; exact At_ldSW0 (m:=3) (q:=(x6).toNat) (by subst e_L10; kernel_rfl) (toNat_lt g9) hu0_2) ?_
      obtain ⟨b11,e_b11,h⟩ := lt_some h
      refine SH 8 [(1,lO 1),(3,vi x6),(32,vb b11)] [(1,[oI u0_0,oS Au0_1 u0_1 cu0_1,oS Au0_2 u0_2 cu0_2])] ?_ (by subst e_b11;kernel_rfl)
      refine EN ?_
      cases b11 with
      | true =>
       replace h := sp_t h
       refine CT ?_
       refine KP [] [] [] ?_
       refine SQ (RG ?_)
       refine SS 1 [(2,vi (6 : Int))] ?_
       refine EN (RT (blockQ_r (thenQ_r (thenQ_r (blockQ_r (thenQ_r (thenQ_r ?_)))))))
       obtain rfl := sj h
       exact FT (vi (6 : Int)) rfl
      | false =>
       replace h := sp_f h
       refine CF ?_
       refine KS [(1,lO 1),(3,vi x6)] ?_
       refine S0 (blockQ_n (thenQ_n (RG ?_)))
       obtain ⟨x12,e_x12,h⟩ := lt_some h
       refine SS 3 [(1,lO 1),(3,vi x12)] ?_ (by subst e_x12;kernel_rfl)
       refine EN ?_
       exact ⟨n7,Nat.lt_succ_self _,x12,keep_sub (ts:=[1,3]) (hs:=[1]) (vs:=[]) (by kernel_rfl),h⟩
     | false =>
      replace h := sp_f h
      refine CF ?_
      refine KS [(1,lO 1)] ?_
      refine XI 0 (thenQ_x (thenQ_x (blockQ_x (thenQ_n ?_))))
      exact ⟨keep_sub (ts:=[1]) (hs:=[1]) (vs:=[]) (by kernel_rfl),h⟩
   ·rintro s' ⟨hsub,h⟩
    subst e_j5
    refine thenQ_n ?_
    refine T_sub hsub ?_
    refine SQ ?_
    obtain ⟨j14,e_j14,h⟩ := jn_some h
    refine T_cut (c1:=(sub [1,1,1,0,0] Bd29)) (c2:=(sub [1,1,1,0,1] Bd29)) (fun s' => ∃ (b13 : Bool),Sub { σ := [(1,lO 1),(40,vb b13)],H := [(1,[oI u0_0,oS Au0_1 u0_1 cu0_1,oS Au0_2 u0_2 cu0_2])],V := [],M := M,ds := [] } s' ∧ j14 b13 = some r) (by kernel_rfl) ?_ ?_
    ·refine RG ?_
     obtain ⟨b15,e_b15,h⟩ := lt_some h
     refine SG 4 (S4 [(1,lO 1),(36,vb b15)] [(1,[oI u0_0,oS Au0_1 u0_1 cu0_1,oS Au0_2 u0_2 cu0_2])] [] M) ?_ (by subst e_b15;kernel_rfl)
     cases b15 with
     | true =>
      replace h := sp_t h
      refine SS 8 [(1,lO 1),(40,vb true)] ?_
      refine EN ?_
      exact ⟨true,keep_sub (ts:=[1,40]) (hs:=[1]) (vs:=[]) (by kernel_rfl),h⟩
     | false =>
      replace h := sp_f h
      obtain ⟨b16,e_b16,h⟩ := lt_some h
      refine SS 8 [(1,lO 1),(40,vb b16)] ?_ (by subst e_b16;kernel_rfl)
      refine EN ?_
      exact ⟨b16,keep_sub (ts:=[1,40]) (hs:=[1]) (vs:=[]) (by kernel_rfl),h⟩
    ·rintro s' ⟨b13,hsub,h⟩
     subst e_j14
     refine T_sub hsub ?_
     cases b13 with
     | true =>
      replace h := sp_t h
      refine CT ?_
      refine KG (S4 [] [] [] M) ?_
      refine SQ (RG ?_)
      refine SS 1 [(2,vi (2 : Int))] ?_
      refine EN (RT (thenQ_r ?_))
      obtain rfl := sj h
      exact FT (vi (2 : Int)) rfl
     | false =>
      replace h := sp_f h
      refine CF ?_
      refine KG (S4 [(1,lO 1)] [(1,[oI u0_0,oS Au0_1 u0_1 cu0_1,oS Au0_2 u0_2 cu0_2])] [] M) ?_
      refine SN (SQ (SQ (RG ?_)))
      refine SS 1 [(1,lO 1),(4,vi (0 : Int))] ?_
      refine EN ?_
      obtain ⟨j17,e_j17,h⟩ := jn_some h
      refine T_bcut (id:=2) (c1:=(sub [1,1,1,1,0,1,0] Bd29)) (fun s' => Sub { σ := [(1,lO 1)],H := [(1,[oI u0_0,oS Au0_1 u0_1 cu0_1,oS Au0_2 u0_2 cu0_2])],V := [],M := M,ds := [] } s' ∧ j17 = some r) (by kernel_rfl) ?_ ?_
      ·refine T_loop (c1:=(sub [1,1,1,1,0,1,0,0] Bd29)) (by kernel_rfl) (fun n19 s' => ∃ (x18 : Int),Sub { σ := [(1,lO 1),(4,vi x18)],H := [(1,[oI u0_0,oS Au0_1 u0_1 cu0_1,oS Au0_2 u0_2 cu0_2])],V := [],M := M,ds := [] } s' ∧ p29_l2 k u0_0 u0_1 j17 n19 x18 = some r) (k:=k) ⟨(0 : Int),keep_sub (ts:=[1,4]) (hs:=[1]) (vs:=[]) (by kernel_rfl),h⟩ ?_
       rintro n19 s' ⟨x18,hsub,h⟩
       cases n19 with
       | zero => rw [p29_l2] at h;cases h
       | succ n19 =>
        rw [p29_l2] at h
        refine T_sub hsub ?_
        refine SQ (SQ (RG ?_))
        obtain ⟨b20,e_b20,h⟩ := lt_some h
        refine SG 5 (S4 [(1,lO 1),(4,vi x18),(45,vb b20)] [(1,[oI u0_0,oS Au0_1 u0_1 cu0_1,oS Au0_2 u0_2 cu0_2])] [] M) ?_ (by subst e_b20;kernel_rfl)
        refine EN ?_
        cases b20 with
        | true =>
         replace h := sp_t h
         refine CT ?_
         refine KS [(1,lO 1),(4,vi x18)] ?_
         refine SN (SQ (BK 3 (SQ (RG ?_))))
         refine SS 3 [(1,lO 1),(4,vi x18),(49,lS Au0_1 u0_1 cu0_1),(50,vi x18)] ?_
         obtain ⟨g21,h⟩ := gd_some h
         refine AT 51 (.lf (.ep (.slice Au0_1 (u0_1.length) cu0_1) 12 ((x18).toNat) 0)) (At_idxR (z:=x18) (by kernel_rfl) g21 hu0_1) ?_
         obtain ⟨L22,e_L22,h⟩ := lt_some h
         have l_L22 : (L22).length = 12 := by rw [e_L22]; exact SlR_row hu0_1 (toNat_lt g21)
         refine AT 52 (.agg [.arr .i64 12 L22]) (by rw [e_L22]; exact At_ldRow (q:=(x18).toNat) (by subst e_L22; kernel_rfl) (toNat_lt g21) hu0_1) ?_ (hx:=⟨l_L22,trivial⟩)
         refine SH 7 [(1,lO 1),(4,vi x18),(5,lO 5)] [(1,[oI u0_0,oS Au0_1 u0_1 cu0_1,oS Au0_2 u0_2 cu0_2]),(5,[.arr .i64 12 L22])] ?_
         refine EN ?_
         obtain ⟨j24,e_j24,h⟩ := jn_some h
         refine T_cut (c1:=(sub [1,1,1,1,0,1,0,0,1,0,0,1,0] Bd29)) (c2:=(sub [1,1,1,1,0,1,0,0,1,0,0,1,1] Bd29)) (fun s' => ∃ (b23 : Bool),Sub { σ := [(1,lO 1),(4,vi x18),(126,vb b23)],H := [(1,[oI u0_0,oS Au0_1 u0_1 cu0_1,oS Au0_2 u0_2 cu0_2])],V := [],M := M,ds := [] } s' ∧ j24 b23 = some r) (by kernel_rfl) ?_ ?_
         ·refine RG ?_
          obtain ⟨x25,e_x25,h⟩ := lt_some h
          obtain ⟨b26,e_b26,h⟩ := lt_some h
          refine SG 4 (S4 [(1,lO 1),(4,vi x18),(5,lO 5),(56,vb b26)] [(1,[oI u0_0,oS Au0_1 u0_1 cu0_1,oS Au0_2 u0_2 cu0_2]),(5,[.arr .i64 12 L22])] [] M) ?_ (by subst e_b26 e_x25;kernel_rfl)
          cases b26 with
          | true =>
           replace h := sp_t h
           refine SH 74 [(1,lO 1),(4,vi x18),(126,vb true)] [(1,[oI u0_0,oS Au0_1 u0_1 cu0_1,oS Au0_2 u0_2 cu0_2])] ?_
           refine EN ?_
           exact ⟨true,keep_sub (ts:=[1,4,126]) (hs:=[1]) (vs:=[]) (by kernel_rfl),h⟩
          | false =>
           replace h := sp_f h
           obtain ⟨x27,e_x27,h⟩ := lt_some h
           obtain ⟨b28,e_b28,h⟩ := lt_some h
           refine SS 11 [(1,lO 1),(4,vi x18),(5,lO 5),(63,vb b28)] ?_ (by subst e_b28 e_x27;kernel_rfl)
           cases b28 with
           | true =>
            replace h := sp_t h
            refine SH 74 [(1,lO 1),(4,vi x18),(126,vb true)] [(1,[oI u0_0,oS Au0_1 u0_1 cu0_1,oS Au0_2 u0_2 cu0_2])] ?_
            refine EN ?_
            exact ⟨true,keep_sub (ts:=[1,4,126]) (hs:=[1]) (vs:=[]) (by kernel_rfl),h⟩
           | false =>
            replace h := sp_f h
            obtain ⟨x29,e_x29,h⟩ := lt_some h
            obtain ⟨b30,e_b30,h⟩ := lt_some h
            refine SS 16 [(1,lO 1),(4,vi x18),(5,lO 5),(68,vb b30)] ?_ (by subst e_b30 e_x29;kernel_rfl)
            cases b30 with
            | true =>
             replace h := sp_t h
             refine SH 74 [(1,lO 1),(4,vi x18),(126,vb true)] [(1,[oI u0_0,oS Au0_1 u0_1 cu0_1,oS Au0_2 u0_2 cu0_2])] ?_
             refine EN ?_
             exact ⟨true,keep_sub (ts:=[1,4,126]) (hs:=[1]) (vs:=[]) (by kernel_rfl),h⟩
            | false =>
             replace h := sp_f h
             obtain ⟨x31,e_x31,h⟩ := lt_some h
             obtain ⟨b32,e_b32,h⟩ := lt_some h
             refine SS 23 [(1,lO 1),(4,vi x18),(5,lO 5),(75,vb b32)] ?_ (by subst e_b32 e_x31;kernel_rfl)
             cases b32 with
             | true =>
              replace h := sp_t h
              refine SH 74 [(1,lO 1),(4,vi x18),(126,vb true)] [(1,[oI u0_0,oS Au0_1 u0_1 cu0_1,oS Au0_2 u0_2 cu0_2])] ?_
              refine EN ?_
              exact ⟨true,keep_sub (ts:=[1,4,126]) (hs:=[1]) (vs:=[]) (by kernel_rfl),h⟩
             | false =>
              replace h := sp_f h
              obtain ⟨x33,e_x33,h⟩ := lt_some h
              obtain ⟨x34,e_x34,h⟩ := lt_some h
              obtain ⟨b35,e_b35,h⟩ := lt_some h
              refine SS 30 [(1,lO 1),(4,vi x18),(5,lO 5),(82,vb b35)] ?_ (by subst_vars;kernel_rfl)
              cases b35 with
              | true =>
               replace h := sp_t h
               refine SH 74 [(1,lO 1),(4,vi x18),(126,vb true)] [(1,[oI u0_0,oS Au0_1 u0_1 cu0_1,oS Au0_2 u0_2 cu0_2])] ?_
               refine EN ?_
               exact ⟨true,keep_sub (ts:=[1,4,126]) (hs:=[1]) (vs:=[]) (by kernel_rfl),h⟩
              | false =>
               replace h := sp_f h
               obtain ⟨x36,e_x36,h⟩ := lt_some h
               refine SS 32 [(1,lO 1),(4,vi x18),(5,lO 5),(82,vb false),(84,vi x36)] ?_ (by subst e_x36;kernel_rfl)
               obtain ⟨v37,c_v37,h⟩ := cl_some h
               refine AC 85 (vb v37) (w65 k  c_v37) ?_
               refine SH 36 [(1,lO 1),(4,vi x18),(5,lO 5),(88,vb (!v37))] [(1,[oI u0_0,oS Au0_1 u0_1 cu0_1,oS Au0_2 u0_2 cu0_2]),(5,[.arr .i64 12 L22])] ?_
               cases v37 with
               | true =>
                replace h := sp_t h
                obtain ⟨x38,e_x38,h⟩ := lt_some h
                refine SS 38 [(1,lO 1),(4,vi x18),(5,lO 5),(88,vb false),(90,vi x38)] ?_ (by subst e_x38;kernel_rfl)
                obtain ⟨v39,c_v39,h⟩ := cl_some h
                refine AC 91 (vb v39) (w65 k  c_v39) ?_
                refine SH 42 [(1,lO 1),(4,vi x18),(5,lO 5),(94,vb (!v39))] [(1,[oI u0_0,oS Au0_1 u0_1 cu0_1,oS Au0_2 u0_2 cu0_2]),(5,[.arr .i64 12 L22])] ?_
                cases v39 with
                | true =>
                 replace h := sp_t h
                 obtain ⟨x40,e_x40,h⟩ := lt_some h
                 obtain ⟨b41,e_b41,h⟩ := lt_some h
                 refine SS 47 [(1,lO 1),(4,vi x18),(5,lO 5),(99,vb b41)] ?_ (by subst e_b41 e_x40;kernel_rfl)
                 cases b41 with
                 | true =>
                  replace h := sp_t h
                  refine SH 74 [(1,lO 1),(4,vi x18),(126,vb true)] [(1,[oI u0_0,oS Au0_1 u0_1 cu0_1,oS Au0_2 u0_2 cu0_2])] ?_
                  refine EN ?_
                  exact ⟨true,keep_sub (ts:=[1,4,126]) (hs:=[1]) (vs:=[]) (by kernel_rfl),h⟩
                 | false =>
                  replace h := sp_f h
                  obtain ⟨x42,e_x42,h⟩ := lt_some h
                  obtain ⟨x43,e_x43,h⟩ := lt_some h
                  obtain ⟨b44,e_b44,h⟩ := lt_some h
                  refine SS 54 [(1,lO 1),(4,vi x18),(5,lO 5),(106,vb b44)] ?_ (by subst_vars;kernel_rfl)
                  cases b44 with
                  | true =>
                   replace h := sp_t h
                   refine SH 74 [(1,lO 1),(4,vi x18),(126,vb true)] [(1,[oI u0_0,oS Au0_1 u0_1 cu0_1,oS Au0_2 u0_2 cu0_2])] ?_
                   refine EN ?_
                   exact ⟨true,keep_sub (ts:=[1,4,126]) (hs:=[1]) (vs:=[]) (by kernel_rfl),h⟩
                  | false =>
                   replace h := sp_f h
                   obtain ⟨x45,e_x45,h⟩ := lt_some h
                   obtain ⟨b46,e_b46,h⟩ := lt_some h
                   refine SS 59 [(1,lO 1),(4,vi x18),(5,lO 5),(111,vb b46)] ?_ (by subst e_b46 e_x45;kernel_rfl)
                   cases b46 with
                   | true =>
                    replace h := sp_t h
                    refine SH 74 [(1,lO 1),(4,vi x18),(126,vb true)] [(1,[oI u0_0,oS Au0_1 u0_1 cu0_1,oS Au0_2 u0_2 cu0_2])] ?_
                    refine EN ?_
                    exact ⟨true,keep_sub (ts:=[1,4,126]) (hs:=[1]) (vs:=[]) (by kernel_rfl),h⟩
                   | false =>
                    replace h := sp_f h
                    obtain ⟨x47,e_x47,h⟩ := lt_some h
                    obtain ⟨x48,e_x48,h⟩ := lt_some h
                    obtain ⟨x49,e_x49,h⟩ := lt_some h
                    obtain ⟨x50,e_x50,h⟩ := lt_some h
                    obtain ⟨b51,e_b51,h⟩ := lt_some h
                    refine SS 69 [(1,lO 1),(4,vi x18),(5,lO 5),(121,vb b51)] ?_ (by subst_vars;kernel_rfl)
                    cases b51 with
                    | true =>
                     replace h := sp_t h
                     refine SH 74 [(1,lO 1),(4,vi x18),(126,vb true)] [(1,[oI u0_0,oS Au0_1 u0_1 cu0_1,oS Au0_2 u0_2 cu0_2])] ?_
                     refine EN ?_
                     exact ⟨true,keep_sub (ts:=[1,4,126]) (hs:=[1]) (vs:=[]) (by kernel_rfl),h⟩
                    | false =>
                     replace h := sp_f h
                     refine SH 71 [(1,lO 1),(4,vi x18),(121,vb false),(123,.agg [.arr .i64 6 (List.take 6 (List.drop 6 L22))])] [(1,[oI u0_0,oS Au0_1 u0_1 cu0_1,oS Au0_2 u0_2 cu0_2])] ?_
                     obtain ⟨v52,c_v52,h⟩ := cl_some h
                     refine AC (args:=[rval (.agg [.arr .i64 6 (List.take 6 (List.drop 6 L22))])]) 124 (vi v52) (w40 k (len_dt l_L22 (Nat.le_of_ble_eq_true rfl)) c_v52) ?_
                     obtain ⟨b53,e_b53,h⟩ := lt_some h
                     refine SH 74 [(1,lO 1),(4,vi x18),(126,vb b53)] [(1,[oI u0_0,oS Au0_1 u0_1 cu0_1,oS Au0_2 u0_2 cu0_2])] ?_ (by subst e_b53;kernel_rfl)
                     refine EN ?_
                     exact ⟨b53,keep_sub (ts:=[1,4,126]) (hs:=[1]) (vs:=[]) (by kernel_rfl),h⟩
                | false =>
                 replace h := sp_f h
                 refine SH 74 [(1,lO 1),(4,vi x18),(126,vb true)] [(1,[oI u0_0,oS Au0_1 u0_1 cu0_1,oS Au0_2 u0_2 cu0_2])] ?_
                 refine EN ?_
                 exact ⟨true,keep_sub (ts:=[1,4,126]) (hs:=[1]) (vs:=[]) (by kernel_rfl),h⟩
               | false =>
                replace h := sp_f h
                refine SH 74 [(1,lO 1),(4,vi x18),(126,vb true)] [(1,[oI u0_0,oS Au0_1 u0_1 cu0_1,oS Au0_2 u0_2 cu0_2])] ?_
                refine EN ?_
                exact ⟨true,keep_sub (ts:=[1,4,126]) (hs:=[1]) (vs:=[]) (by kernel_rfl),h⟩
         ·rintro s' ⟨b23,hsub,h⟩
          subst e_j24
          refine T_sub hsub ?_
          cases b23 with
          | true =>
           replace h := sp_t h
           refine CT ?_
           refine KG (S4 [] [] [] M) ?_
           refine SQ (RG ?_)
           refine SS 1 [(2,vi (2 : Int))] ?_
           refine EN (RT (blockQ_r (thenQ_r (thenQ_r (blockQ_r (thenQ_r (thenQ_r ?_)))))))
           obtain rfl := sj h
           exact FT (vi (2 : Int)) rfl
          | false =>
           replace h := sp_f h
           refine CF ?_
           refine KG (S4 [(1,lO 1),(4,vi x18)] [(1,[oI u0_0,oS Au0_1 u0_1 cu0_1,oS Au0_2 u0_2 cu0_2])] [] M) ?_
           refine S0 (blockQ_n (thenQ_n (RG ?_)))
           obtain ⟨x54,e_x54,h⟩ := lt_some h
           refine SS 3 [(1,lO 1),(4,vi x54)] ?_ (by subst e_x54;kernel_rfl)
           refine EN ?_
           exact ⟨n19,Nat.lt_succ_self _,x54,keep_sub (ts:=[1,4]) (hs:=[1]) (vs:=[]) (by kernel_rfl),h⟩
        | false =>
         replace h := sp_f h
         refine CF ?_
         refine KS [(1,lO 1)] ?_
         refine XI 2 (thenQ_x (thenQ_x (blockQ_x (thenQ_n ?_))))
         exact ⟨keep_sub (ts:=[1]) (hs:=[1]) (vs:=[]) (by kernel_rfl),h⟩
      ·rintro s' ⟨hsub,h⟩
       subst e_j17
       refine thenQ_n ?_
       refine T_sub hsub ?_
       refine SQ (SQ (RG ?_))
       refine SG 1 (S4 [(1,lO 1),(6,vi (0 : Int))] [(1,[oI u0_0,oS Au0_1 u0_1 cu0_1,oS Au0_2 u0_2 cu0_2])] [] M) ?_
       refine EN ?_
       obtain ⟨j55,e_j55,h⟩ := jn_some h
       refine T_bcut (id:=4) (c1:=(sub [1,1,1,1,1,0,1,0] Bd29)) (fun s' => Sub { σ := [],H := [],V := [],M := M,ds := [] } s' ∧ j55 = some r) (by kernel_rfl) ?_ ?_
       ·refine T_loop (c1:=(sub [1,1,1,1,1,0,1,0,0] Bd29)) (by kernel_rfl) (fun n57 s' => ∃ (x56 : Int),Sub { σ := [(1,lO 1),(6,vi x56)],H := [(1,[oI u0_0,oS Au0_1 u0_1 cu0_1,oS Au0_2 u0_2 cu0_2])],V := [],M := M,ds := [] } s' ∧ p29_l3 k u0_1 u0_2 j55 n57 x56 = some r) (k:=k) ⟨(0 : Int),keep_sub (ts:=[1,6]) (hs:=[1]) (vs:=[]) (by kernel_rfl),h⟩ ?_
        rintro n57 s' ⟨x56,hsub,h⟩
        cases n57 with
        | zero => rw [p29_l3] at h;cases h
        | succ n57 =>
         rw [p29_l3] at h
         refine T_sub hsub ?_
         refine SQ (SQ (RG ?_))
         obtain ⟨b58,e_b58,h⟩ := lt_some h
         refine SG 5 (S4 [(1,lO 1),(6,vi x56),(131,vb b58)] [(1,[oI u0_0,oS Au0_1 u0_1 cu0_1,oS Au0_2 u0_2 cu0_2])] [] M) ?_ (by subst e_b58;kernel_rfl)
         refine EN ?_
         cases b58 with
         | true =>
          replace h := sp_t h
          refine CT ?_
          refine KS [(1,lO 1),(6,vi x56)] ?_
          refine SN (SQ (BK 5 (SQ (RG ?_))))
          refine SS 3 [(1,lO 1),(6,vi x56),(135,lS Au0_2 u0_2 cu0_2),(136,vi x56)] ?_
          obtain ⟨g59,h⟩ := gd_some h
          refine AT 137 (.lf (.ep (.slice Au0_2 (u0_2.length) cu0_2) 4 ((x56).toNat) 0)) (At_idxSW (m:=3) (z:=x56) (by kernel_rfl) g59 hu0_2) ?_
          obtain ⟨L60,e_L60,h⟩ := lt_some h
          have f_L60 : SlI M (Hu0_2 ((x56).toNat)) (Cu0_2 ((x56).toNat)) .i64 L60 := by rw [e_L60]; exact (hu0_2).rows _ (toNat_lt g59)
          obtain ⟨x61,e_x61,h⟩ := lt_some h
          obtain ⟨x62,e_x62,h⟩ := lt_some h
          obtain ⟨x63,e_x63,h⟩ := lt_some h
          refine AT 138 (.agg [oS (Hu0_2 ((x56).toNat)) L60 (Cu0_2 ((x56).toNat)),oI x61,oI x62,oI x63]) (by rw [e_L60,e_x61,e_x62,e_x63]; exact At_ldSWa (q:=(x56).toNat) (by subst_vars; kernel_rfl) (toNat_lt g59) hu0_2) ?_ (hx:=⟨rfl,⟨rfl,⟨rfl,⟨rfl,trivial⟩⟩⟩⟩)
          refine SH 7 [(1,lO 1),(6,vi x56),(7,lO 7)] [(1,[oI u0_0,oS Au0_1 u0_1 cu0_1,oS Au0_2 u0_2 cu0_2]),(7,[oS (Hu0_2 ((x56).toNat)) L60 (Cu0_2 ((x56).toNat)),oI x61,oI x62,oI x63])] ?_
          refine EN ?_
          obtain ⟨j65,e_j65,h⟩ := jn_some h
          refine T_cut (c1:=(sub [1,1,1,1,1,0,1,0,0,1,0,0,1,0] Bd29)) (c2:=(sub [1,1,1,1,1,0,1,0,0,1,0,0,1,1] Bd29)) (fun s' => ∃ (b64 : Bool),Sub { σ := [(1,lO 1),(6,vi x56),(173,vb b64)],H := [(1,[oI u0_0,oS Au0_1 u0_1 cu0_1,oS Au0_2 u0_2 cu0_2])],V := [],M := M,ds := [] } s' ∧ j65 b64 = some r) (by kernel_rfl) ?_ ?_
          ·refine RG ?_
           obtain ⟨b66,e_b66,h⟩ := lt_some h
           refine SG 5 (S4 [(1,lO 1),(6,vi x56),(7,lO 7),(143,vb b66)] [(1,[oI u0_0,oS Au0_1 u0_1 cu0_1,oS Au0_2 u0_2 cu0_2]),(7,[oS (Hu0_2 ((x56).toNat)) L60 (Cu0_2 ((x56).toNat)),oI x61,oI x62,oI x63])] [] M) ?_ (by subst e_b66;kernel_rfl)
           cases b66 with
           | true =>
            replace h := sp_t h
            refine SH 35 [(1,lO 1),(6,vi x56),(173,vb true)] [(1,[oI u0_0,oS Au0_1 u0_1 cu0_1,oS Au0_2 u0_2 cu0_2])] ?_
            refine EN ?_
            exact ⟨true,keep_sub (ts:=[1,6,173]) (hs:=[1]) (vs:=[]) (by kernel_rfl),h⟩
           | false =>
            replace h := sp_f h
            obtain ⟨b67,e_b67,h⟩ := lt_some h
            refine SS 10 [(1,lO 1),(6,vi x56),(7,lO 7),(148,vb b67)] ?_ (by subst e_b67;kernel_rfl)
            cases b67 with
            | true =>
             replace h := sp_t h
             refine SH 35 [(1,lO 1),(6,vi x56),(173,vb true)] [(1,[oI u0_0,oS Au0_1 u0_1 cu0_1,oS Au0_2 u0_2 cu0_2])] ?_
             refine EN ?_
             exact ⟨true,keep_sub (ts:=[1,6,173]) (hs:=[1]) (vs:=[]) (by kernel_rfl),h⟩
            | false =>
             replace h := sp_f h
             obtain ⟨b68,e_b68,h⟩ := lt_some h
             refine SS 15 [(1,lO 1),(6,vi x56),(7,lO 7),(153,vb b68)] ?_ (by subst e_b68;kernel_rfl)
             cases b68 with
             | true =>
              replace h := sp_t h
              refine SH 35 [(1,lO 1),(6,vi x56),(173,vb true)] [(1,[oI u0_0,oS Au0_1 u0_1 cu0_1,oS Au0_2 u0_2 cu0_2])] ?_
              refine EN ?_
              exact ⟨true,keep_sub (ts:=[1,6,173]) (hs:=[1]) (vs:=[]) (by kernel_rfl),h⟩
             | false =>
              replace h := sp_f h
              refine SS 17 [(1,lO 1),(6,vi x56),(7,lO 7),(153,vb false),(155,vi x62)] ?_
              obtain ⟨v69,c_v69,h⟩ := cl_some h
              refine AC 156 (vb v69) (w65 k  c_v69) ?_
              refine SH 21 [(1,lO 1),(6,vi x56),(7,lO 7),(159,vb (!v69))] [(1,[oI u0_0,oS Au0_1 u0_1 cu0_1,oS Au0_2 u0_2 cu0_2]),(7,[oS (Hu0_2 ((x56).toNat)) L60 (Cu0_2 ((x56).toNat)),oI x61,oI x62,oI x63])] ?_
              cases v69 with
              | true =>
               replace h := sp_t h
               refine SS 23 [(1,lO 1),(6,vi x56),(7,lO 7),(159,vb false),(161,vi x63)] ?_
               obtain ⟨v70,c_v70,h⟩ := cl_some h
               refine AC 162 (vb v70) (w65 k  c_v70) ?_
               refine SH 27 [(1,lO 1),(6,vi x56),(7,lO 7),(165,vb (!v70))] [(1,[oI u0_0,oS Au0_1 u0_1 cu0_1,oS Au0_2 u0_2 cu0_2]),(7,[oS (Hu0_2 ((x56).toNat)) L60 (Cu0_2 ((x56).toNat)),oI x61,oI x62,oI x63])] ?_
               cases v70 with
               | true =>
                replace h := sp_t h
                refine SH 32 [(1,lO 1),(6,vi x56),(165,vb false),(167,lS (Hu0_2 ((x56).toNat)) L60 (Cu0_2 ((x56).toNat))),(170,vi (u0_1.length : Int))] [(1,[oI u0_0,oS Au0_1 u0_1 cu0_1,oS Au0_2 u0_2 cu0_2])] ?_
                obtain ⟨v71,c_v71,h⟩ := cl_some h
                refine AC 171 (vb v71) (w83 k f_L60 c_v71) ?_
                refine SH 35 [(1,lO 1),(6,vi x56),(173,vb (!v71))] [(1,[oI u0_0,oS Au0_1 u0_1 cu0_1,oS Au0_2 u0_2 cu0_2])] ?_
                refine EN ?_
                exact ⟨(!v71),keep_sub (ts:=[1,6,173]) (hs:=[1]) (vs:=[]) (by kernel_rfl),h⟩
               | false =>
                replace h := sp_f h
                refine SH 35 [(1,lO 1),(6,vi x56),(173,vb true)] [(1,[oI u0_0,oS Au0_1 u0_1 cu0_1,oS Au0_2 u0_2 cu0_2])] ?_
                refine EN ?_
                exact ⟨true,keep_sub (ts:=[1,6,173]) (hs:=[1]) (vs:=[]) (by kernel_rfl),h⟩
              | false =>
               replace h := sp_f h
               refine SH 35 [(1,lO 1),(6,vi x56),(173,vb true)] [(1,[oI u0_0,oS Au0_1 u0_1 cu0_1,oS Au0_2 u0_2 cu0_2])] ?_
               refine EN ?_
               exact ⟨true,keep_sub (ts:=[1,6,173]) (hs:=[1]) (vs:=[]) (by kernel_rfl),h⟩
          ·rintro s' ⟨b64,hsub,h⟩
           subst e_j65
           refine T_sub hsub ?_
           cases b64 with
           | true =>
            replace h := sp_t h
            refine CT ?_
            refine KG (S4 [] [] [] M) ?_
            refine SQ (RG ?_)
            refine SS 1 [(2,vi (2 : Int))] ?_
            refine EN (RT (blockQ_r (thenQ_r (thenQ_r (blockQ_r (thenQ_r (thenQ_r ?_)))))))
            obtain rfl := sj h
            exact FT (vi (2 : Int)) rfl
           | false =>
            replace h := sp_f h
            refine CF ?_
            refine KG (S4 [(1,lO 1),(6,vi x56)] [(1,[oI u0_0,oS Au0_1 u0_1 cu0_1,oS Au0_2 u0_2 cu0_2])] [] M) ?_
            refine S0 (blockQ_n (thenQ_n (RG ?_)))
            obtain ⟨x72,e_x72,h⟩ := lt_some h
            refine SS 3 [(1,lO 1),(6,vi x72)] ?_ (by subst e_x72;kernel_rfl)
            refine EN ?_
            exact ⟨n57,Nat.lt_succ_self _,x72,keep_sub (ts:=[1,6]) (hs:=[1]) (vs:=[]) (by kernel_rfl),h⟩
         | false =>
          replace h := sp_f h
          refine CF ?_
          refine KP [] [] [] ?_
          refine XI 4 (thenQ_x (thenQ_x (blockQ_x (thenQ_n ?_))))
          exact ⟨keep_sub (ts:=[]) (hs:=[]) (vs:=[]) (by kernel_rfl),h⟩
       ·rintro s' ⟨hsub,h⟩
        subst e_j55
        refine thenQ_n ?_
        refine T_sub hsub ?_
        refine SQ (RG ?_)
        refine SG 1 (S4 [(2,vi (0 : Int))] [] [] M) ?_
        refine EN (RT ?_)
        obtain rfl := sj h
        exact FT (vi (0 : Int)) rfl
end Go.Proofs.Ythniebmammmacaa
namespace Go.Proofs.Ythniebmammmacaa
open Go.RowKit
def p13_l1 (k : Nat) (u0_2 : List WT) (j5 : Option Bool) : Nat → Int → Option Bool
 | 0,_ => none
 | n7 + 1,x6 => lt' (decide (x6 < (u0_2.length : Int))) fun b8 => sp b8 (gd ((0 : Int) ≤ x6 ∧ x6 < (u0_2.length : Int)) <| lt' ((List.getD u0_2 ((x6).toNat) ([],[])).1) fun L10 => lt' (decide ((L10.length : Int) > (40 : Int))) fun b11 => sp b11 (some true) (lt' (wr .i64 (x6 + (1 : Int))) fun x12 => p13_l1 k u0_2 j5 n7 x12)) (j5)
def p13 (k : Nat) (u0_0 : Int) (u0_1 : List (List Int)) (u0_2 : List WT) : Option Bool :=
 jn (fun (b1 : Bool) => sp b1 (some true) (jn (jn (fun (b13 : Bool) => some b13) fun j14 => cl (p29 k u0_0 u0_1 u0_2) fun v15 => lt' (v15 == (0 : Int)) fun b16 => sp b16 (lt' (decide (u0_0 > (12 : Int))) fun b17 => sp b17 (j14 true) (lt' (decide ((u0_1.length : Int) > (30 : Int))) fun b18 => sp b18 (j14 true) (lt' (decide ((u0_2.length : Int) > (5 : Int))) fun b19 => j14 b19))) (j14 false)) fun j5 => p13_l1 k u0_2 j5 k (0 : Int))) fun j2 => lt' (decide ((u0_1.length : Int) > (300 : Int))) fun b3 => sp b3 (j2 true) (lt' (decide ((u0_2.length : Int) > (20 : Int))) fun b4 => j2 b4)
theorem hf13 : Try.prog.funcs[13]? = some Try.f13 := by kernel_rfl
theorem w13 (k : Nat) {M : Mem} {Au0_1 Au0_2 : Option Addr} {cu0_1 cu0_2 : Nat} {Hu0_2 : Nat → Option Addr} {Cu0_2 : Nat → Nat} {u0_0 : Int} {u0_1 : List (List Int)} {u0_2 : List WT} (hu0_1 : SlR M Au0_1 cu0_1 .i64 12 u0_1) (hu0_2 : SlW M 3 Au0_2 cu0_2 Hu0_2 Cu0_2 u0_2) {r} (h : p13 k u0_0 u0_1 u0_2 = some r) :
  Fn Try.prog 13 [rval (.agg [oI u0_0,oS Au0_1 u0_1 cu0_1,oS Au0_2 u0_2 cu0_2])] M (fun x _ => x = vb r) := by
 unfold p13 at h
 refine FO [.agg [oI u0_0,oS Au0_1 u0_1 cu0_1,oS Au0_2 u0_2 cu0_2]] hf13 ⟨⟨rfl,⟨rfl,⟨rfl,trivial⟩⟩⟩,trivial⟩ fun w => ?_
 refine SQ0 (RG ?_)
 refine SG 2 (S4 [(1,lO 1)] [(1,[oI u0_0,oS Au0_1 u0_1 cu0_1,oS Au0_2 u0_2 cu0_2])] [] M) ?_
 refine EN (SQ ?_)
 obtain ⟨j2,e_j2,h⟩ := jn_some h
 refine T_cut (c1:=(sub [1,0,0] Bd13)) (c2:=(sub [1,0,1] Bd13)) (fun s' => ∃ (b1 : Bool),Sub { σ := [(1,lO 1),(13,vb b1)],H := [(1,[oI u0_0,oS Au0_1 u0_1 cu0_1,oS Au0_2 u0_2 cu0_2])],V := [],M := M,ds := [] } s' ∧ j2 b1 = some r) (by kernel_rfl) ?_ ?_
 ·refine RG ?_
  obtain ⟨b3,e_b3,h⟩ := lt_some h
  refine SG 5 (S4 [(1,lO 1),(8,vb b3)] [(1,[oI u0_0,oS Au0_1 u0_1 cu0_1,oS Au0_2 u0_2 cu0_2])] [] M) ?_ (by subst e_b3;kernel_rfl)
  cases b3 with
  | true =>
   replace h := sp_t h
   refine SS 10 [(1,lO 1),(13,vb true)] ?_
   refine EN ?_
   exact ⟨true,keep_sub (ts:=[1,13]) (hs:=[1]) (vs:=[]) (by kernel_rfl),h⟩
  | false =>
   replace h := sp_f h
   obtain ⟨b4,e_b4,h⟩ := lt_some h
   refine SS 10 [(1,lO 1),(13,vb b4)] ?_ (by subst e_b4;kernel_rfl)
   refine EN ?_
   exact ⟨b4,keep_sub (ts:=[1,13]) (hs:=[1]) (vs:=[]) (by kernel_rfl),h⟩
 ·rintro s' ⟨b1,hsub,h⟩
  subst e_j2
  refine T_sub hsub ?_
  cases b1 with
  | true =>
   replace h := sp_t h
   refine CT ?_
   refine KG (S4 [] [] [] M) ?_
   refine SQ (RG ?_)
   refine SS 1 [(2,vb true)] ?_
   refine EN (RT (thenQ_r ?_))
   obtain rfl := sj h
   exact FT (vb true) rfl
  | false =>
   replace h := sp_f h
   refine CF ?_
   refine KG (S4 [(1,lO 1)] [(1,[oI u0_0,oS Au0_1 u0_1 cu0_1,oS Au0_2 u0_2 cu0_2])] [] M) ?_
   refine SN (SQ (SQ (RG ?_)))
   refine SS 1 [(1,lO 1),(3,vi (0 : Int))] ?_
   refine EN ?_
   obtain ⟨j5,e_j5,h⟩ := jn_some h
   refine T_bcut (id:=0) (c1:=(sub [1,1,0,1,0] Bd13)) (fun s' => Sub { σ := [(1,lO 1)],H := [(1,[oI u0_0,oS Au0_1 u0_1 cu0_1,oS Au0_2 u0_2 cu0_2])],V := [],M := M,ds := [] } s' ∧ j5 = some r) (by kernel_rfl) ?_ ?_
   ·refine T_loop (c1:=(sub [1,1,0,1,0,0] Bd13)) (by kernel_rfl) (fun n7 s' => ∃ (x6 : Int),Sub { σ := [(1,lO 1),(3,vi x6)],H := [(1,[oI u0_0,oS Au0_1 u0_1 cu0_1,oS Au0_2 u0_2 cu0_2])],V := [],M := M,ds := [] } s' ∧ p13_l1 k u0_2 j5 n7 x6 = some r) (k:=k) ⟨(0 : Int),keep_sub (ts:=[1,3]) (hs:=[1]) (vs:=[]) (by kernel_rfl),h⟩ ?_
    rintro n7 s' ⟨x6,hsub,h⟩
    cases n7 with
    | zero => rw [p13_l1] at h;cases h
    | succ n7 =>
     rw [p13_l1] at h
     refine T_sub hsub ?_
     refine SQ (SQ (RG ?_))
     obtain ⟨b8,e_b8,h⟩ := lt_some h
     refine SG 5 (S4 [(1,lO 1),(3,vi x6),(18,vb b8)] [(1,[oI u0_0,oS Au0_1 u0_1 cu0_1,oS Au0_2 u0_2 cu0_2])] [] M) ?_ (by subst e_b8;kernel_rfl)
     refine EN ?_
     cases b8 with
     | true =>
      replace h := sp_t h
      refine CT ?_
      refine KS [(1,lO 1),(3,vi x6)] ?_
      refine SN (SQ (BK 1 (SQ (RG ?_))))
      refine SS 3 [(1,lO 1),(3,vi x6),(22,lS Au0_2 u0_2 cu0_2),(23,vi x6)] ?_
      obtain ⟨g9,h⟩ := gd_some h
      refine AT 24 (.lf (.ep (.slice Au0_2 (u0_2.length) cu0_2) 4 ((x6).toNat) 0)) (At_idxSW (m:=3) (z:=x6) (by kernel_rfl) g9 hu0_2) ?_
      refine SH 5 [(1,lO 1),(3,vi x6),(25,.lf (.ep (.slice Au0_2 (u0_2.length) cu0_2) 4 ((x6).toNat) 0))] [(1,[oI u0_0,oS Au0_1 u0_1 cu0_1,oS Au0_2 u0_2 cu0_2])] ?_
      obtain ⟨L10,e_L10,h⟩ := lt_some h
      have f_L10 : SlI M (Hu0_2 ((x6).toNat)) (Cu0_2 ((x6).toNat)) .i64 L10 := by rw [e_L10]; exact (hu0_2).rows _ (toNat_lt g9)
      refine AT 26 (lS (Hu0_2 ((x6).toNat)) L10 (Cu0_2 ((x6).toNat))) (by rw [e_L10]; exact At_ldSW0 (m:=3) (q:=(x6).toNat) (by subst e_L10; kernel_rfl) (toNat_lt g9) hu0_2) ?_
      obtain ⟨b11,e_b11,h⟩ := lt_some h
      refine SH 8 [(1,lO 1),(3,vi x6),(28,vb b11)] [(1,[oI u0_0,oS Au0_1 u0_1 cu0_1,oS Au0_2 u0_2 cu0_2])] ?_ (by subst e_b11;kernel_rfl)
      refine EN ?_
      cases b11 with
      | true =>
       replace h := sp_t h
       refine CT ?_
       refine KP [] [] [] ?_
       refine SQ (RG ?_)
       refine SS 1 [(2,vb true)] ?_
       refine EN (RT (blockQ_r (thenQ_r (thenQ_r (blockQ_r (thenQ_r (thenQ_r ?_)))))))
       obtain rfl := sj h
       exact FT (vb true) rfl
      | false =>
       replace h := sp_f h
       refine CF ?_
       refine KS [(1,lO 1),(3,vi x6)] ?_
       refine S0 (blockQ_n (thenQ_n (RG ?_)))
       obtain ⟨x12,e_x12,h⟩ := lt_some h
       refine SS 3 [(1,lO 1),(3,vi x12)] ?_ (by subst e_x12;kernel_rfl)
       refine EN ?_
       exact ⟨n7,Nat.lt_succ_self _,x12,keep_sub (ts:=[1,3]) (hs:=[1]) (vs:=[]) (by kernel_rfl),h⟩
     | false =>
      replace h := sp_f h
      refine CF ?_
      refine KS [(1,lO 1)] ?_
      refine XI 0 (thenQ_x (thenQ_x (blockQ_x (thenQ_n ?_))))
      exact ⟨keep_sub (ts:=[1]) (hs:=[1]) (vs:=[]) (by kernel_rfl),h⟩
   ·rintro s' ⟨hsub,h⟩
    subst e_j5
    refine thenQ_n ?_
    refine T_sub hsub ?_
    obtain ⟨j14,e_j14,h⟩ := jn_some h
    refine T_cut (c1:=(sub [1,1,1,0] Bd13)) (c2:=(sub [1,1,1,1] Bd13)) (fun s' => ∃ (b13 : Bool),Sub { σ := [(2,vb b13)],H := [],V := [],M := M,ds := [] } s' ∧ j14 b13 = some r) (by kernel_rfl) ?_ ?_
    ·refine RG ?_
     refine SG 1 (S4 [(1,lO 1),(29,.agg [oI u0_0,oS Au0_1 u0_1 cu0_1,oS Au0_2 u0_2 cu0_2])] [(1,[oI u0_0,oS Au0_1 u0_1 cu0_1,oS Au0_2 u0_2 cu0_2])] [] M) ?_
     obtain ⟨v15,c_v15,h⟩ := cl_some h
     refine AC 30 (vi v15) (w29 k hu0_1 hu0_2 c_v15) ?_
     obtain ⟨b16,e_b16,h⟩ := lt_some h
     refine SH 4 [(1,lO 1),(32,vb b16)] [(1,[oI u0_0,oS Au0_1 u0_1 cu0_1,oS Au0_2 u0_2 cu0_2])] ?_ (by subst e_b16;kernel_rfl)
     cases b16 with
     | true =>
      replace h := sp_t h
      obtain ⟨b17,e_b17,h⟩ := lt_some h
      refine SS 8 [(1,lO 1),(32,vb true),(36,vb b17)] ?_ (by subst e_b17;kernel_rfl)
      cases b17 with
      | true =>
       replace h := sp_t h
       refine SH 21 [(2,vb true)] [] ?_
       refine EN ?_
       exact ⟨true,keep_sub (ts:=[2]) (hs:=[]) (vs:=[]) (by kernel_rfl),h⟩
      | false =>
       replace h := sp_f h
       obtain ⟨b18,e_b18,h⟩ := lt_some h
       refine SS 14 [(1,lO 1),(32,vb true),(42,vb b18)] ?_ (by subst e_b18;kernel_rfl)
       cases b18 with
       | true =>
        replace h := sp_t h
        refine SH 21 [(2,vb true)] [] ?_
        refine EN ?_
        exact ⟨true,keep_sub (ts:=[2]) (hs:=[]) (vs:=[]) (by kernel_rfl),h⟩
       | false =>
        replace h := sp_f h
        obtain ⟨b19,e_b19,h⟩ := lt_some h
        refine SH 21 [(2,vb b19)] [] ?_ (by subst e_b19;kernel_rfl)
        refine EN ?_
        exact ⟨b19,keep_sub (ts:=[2]) (hs:=[]) (vs:=[]) (by kernel_rfl),h⟩
     | false =>
      replace h := sp_f h
      refine SH 21 [(2,vb false)] [] ?_
      refine EN ?_
      exact ⟨false,keep_sub (ts:=[2]) (hs:=[]) (vs:=[]) (by kernel_rfl),h⟩
    ·rintro s' ⟨b13,hsub,h⟩
     subst e_j14
     refine T_sub hsub ?_
     refine RT ?_
     obtain rfl := sj h
     exact FT (vb b13) rfl
end Go.Proofs.Ythniebmammmacaa
namespace Go.Proofs.Ythniebmammmacaa
open Go.RowKit
def p142_l1 (k : Nat) (u0 : List Int) (u1 : Int) (j1 : Option Int) : Nat → Int → Option Int
 | 0,_ => none
 | n3 + 1,x2 => lt' (decide (x2 < (u0.length : Int))) fun b4 => sp b4 (gd ((0 : Int) ≤ x2 ∧ x2 < (u0.length : Int)) <| lt' (List.getD u0 ((x2).toNat) 0) fun x6 => lt' (u1 == x6) fun b7 => sp b7 (some x2) (lt' (wr .i64 (x2 + (1 : Int))) fun x8 => p142_l1 k u0 u1 j1 n3 x8)) (j1)
def p142 (k : Nat) (u0 : List Int) (u1 : Int) : Option Int :=
 jn (some (-1 : Int)) fun j1 => p142_l1 k u0 u1 j1 k (0 : Int)
theorem hf142 : Try.prog.funcs[142]? = some Try.f142 := by kernel_rfl
theorem w142 (k : Nat) {M : Mem} {Au0 : Option Addr} {cu0 : Nat} {u0 : List Int} {u1 : Int} (hu0 : SlI M Au0 cu0 .i64 u0) {r} (h : p142 k u0 u1 = some r) :
  Fn Try.prog 142 [rval (lS Au0 u0 cu0),rval (vi u1)] M (fun x _ => x = vi r) := by
 unfold p142 at h
 refine FO [lS Au0 u0 cu0,vi u1] hf142 ⟨trivial,⟨trivial,trivial⟩⟩ fun w => ?_
 refine SQ0 (RG ?_)
 refine SG 1 (S4 [(0,lS Au0 u0 cu0),(1,vi u1)] [] [] M) ?_
 refine EN (SQ (SQ (RG ?_)))
 refine SS 3 [(0,lS Au0 u0 cu0),(1,vi u1),(7,vi (u0.length : Int)),(8,vi (0 : Int))] ?_
 refine EN ?_
 obtain ⟨j1,e_j1,h⟩ := jn_some h
 refine T_bcut (id:=0) (c1:=(sub [1,0,1,0] Bd142)) (fun s' => Sub { σ := [],H := [],V := [],M := M,ds := [] } s' ∧ j1 = some r) (by kernel_rfl) ?_ ?_
 ·refine T_loop (c1:=(sub [1,0,1,0,0] Bd142)) (by kernel_rfl) (fun n3 s' => ∃ (x2 : Int),Sub { σ := [(0,lS Au0 u0 cu0),(1,vi u1),(7,vi (u0.length : Int)),(8,vi x2)],H := [],V := [],M := M,ds := [] } s' ∧ p142_l1 k u0 u1 j1 n3 x2 = some r) (k:=k) ⟨(0 : Int),keep_sub (ts:=[0,1,7,8]) (hs:=[]) (vs:=[]) (by kernel_rfl),h⟩ ?_
  rintro n3 s' ⟨x2,hsub,h⟩
  cases n3 with
  | zero => rw [p142_l1] at h;cases h
  | succ n3 =>
   rw [p142_l1] at h
   refine T_sub hsub ?_
   refine SQ (RG ?_)
   obtain ⟨b4,e_b4,h⟩ := lt_some h
   refine SG 1 (S4 [(0,lS Au0 u0 cu0),(1,vi u1),(7,vi (u0.length : Int)),(8,vi x2),(9,vb b4)] [] [] M) ?_ (by subst e_b4;kernel_rfl)
   refine EN (SQ ?_)
   cases b4 with
   | true =>
    replace h := sp_t h
    refine CT ?_
    refine KS [(0,lS Au0 u0 cu0),(1,vi u1),(7,vi (u0.length : Int)),(8,vi x2)] ?_
    refine SN (SQ (BK 1 (SQ (RG ?_))))
    refine SS 2 [(0,lS Au0 u0 cu0),(1,vi u1),(5,vi x2),(7,vi (u0.length : Int)),(8,vi x2)] ?_
    refine EN (SQ (RG ?_))
    refine SS 3 [(0,lS Au0 u0 cu0),(1,vi u1),(5,vi x2),(7,vi (u0.length : Int)),(8,vi x2),(11,vi u1),(12,lS Au0 u0 cu0),(13,vi x2)] ?_
    obtain ⟨g5,h⟩ := gd_some h
    refine AT 14 (.lf (.ep (.slice Au0 (u0.length) cu0) 1 ((x2).toNat) 0)) (At_idxI (z:=x2) (by kernel_rfl) g5 hu0) ?_
    obtain ⟨x6,e_x6,h⟩ := lt_some h
    refine AT 15 (vi x6) (by rw [e_x6]; exact At_ldI (q:=(x2).toNat) (by subst e_x6; kernel_rfl) (toNat_lt g5) hu0) ?_
    obtain ⟨b7,e_b7,h⟩ := lt_some h
    refine SH 6 [(0,lS Au0 u0 cu0),(1,vi u1),(5,vi x2),(7,vi (u0.length : Int)),(8,vi x2),(16,vb b7)] [] ?_ (by subst e_b7;kernel_rfl)
    refine EN ?_
    cases b7 with
    | true =>
     replace h := sp_t h
     refine CT ?_
     refine KS [(5,vi x2)] ?_
     refine SQ (RG ?_)
     refine SS 2 [(4,vi x2)] ?_
     refine EN (RT (blockQ_r (thenQ_r (thenQ_r (blockQ_r (thenQ_r (thenQ_r ?_)))))))
     obtain rfl := sj h
     exact FT (vi x2) rfl
    | false =>
     replace h := sp_f h
     refine CF ?_
     refine KS [(0,lS Au0 u0 cu0),(1,vi u1),(7,vi (u0.length : Int)),(8,vi x2)] ?_
     refine S0 (blockQ_n (thenQ_n (RG ?_)))
     obtain ⟨x8,e_x8,h⟩ := lt_some h
     refine SS 2 [(0,lS Au0 u0 cu0),(1,vi u1),(7,vi (u0.length : Int)),(8,vi x8)] ?_ (by subst e_x8;kernel_rfl)
     refine EN ?_
     exact ⟨n3,Nat.lt_succ_self _,x8,keep_sub (ts:=[0,1,7,8]) (hs:=[]) (vs:=[]) (by kernel_rfl),h⟩
   | false =>
    replace h := sp_f h
    refine CF ?_
    refine KS [] ?_
    refine XI 0 (thenQ_x (thenQ_x (blockQ_x (thenQ_n ?_))))
    exact ⟨keep_sub (ts:=[]) (hs:=[]) (vs:=[]) (by kernel_rfl),h⟩
 ·rintro s' ⟨hsub,h⟩
  subst e_j1
  refine thenQ_n ?_
  refine T_sub hsub ?_
  refine SQ (RG ?_)
  refine SG 1 (S4 [(4,vi (-1 : Int))] [] [] M) ?_
  refine EN (RT ?_)
  obtain rfl := sj h
  exact FT (vi (-1 : Int)) rfl
def p131 (k : Nat) (u0 : List Int) (u1 : Int) : Option Bool :=
 cl (p142 k u0 u1) fun v1 => lt' (decide (v1 ≥ (0 : Int))) fun b2 => some b2
theorem hf131 : Try.prog.funcs[131]? = some Try.f131 := by kernel_rfl
theorem w131 (k : Nat) {M : Mem} {Au0 : Option Addr} {cu0 : Nat} {u0 : List Int} {u1 : Int} (hu0 : SlI M Au0 cu0 .i64 u0) {r} (h : p131 k u0 u1 = some r) :
  Fn Try.prog 131 [rval (lS Au0 u0 cu0),rval (vi u1)] M (fun x _ => x = vb r) := by
 unfold p131 at h
 refine FO [lS Au0 u0 cu0,vi u1] hf131 ⟨trivial,⟨trivial,trivial⟩⟩ fun w => ?_
 refine SQ0 (RG ?_)
 refine SG 1 (S4 [(0,lS Au0 u0 cu0),(1,vi u1)] [] [] M) ?_
 refine EN (SQ (RG ?_))
 refine SS 2 [(5,lS Au0 u0 cu0),(6,vi u1)] ?_
 obtain ⟨v1,c_v1,h⟩ := cl_some h
 refine AC 7 (vi v1) (w142 k hu0 c_v1) ?_
 obtain ⟨b2,e_b2,h⟩ := lt_some h
 refine SH 5 [(4,vb b2)] [] ?_ (by subst e_b2;kernel_rfl)
 refine EN (RT ?_)
 obtain rfl := sj h
 exact FT (vb b2) rfl
def p124_l1 (k : Nat) (u1G : Int) : Nat → Int → Option (List (Int))
 | 0,_ => none
 | n2 + 1,x1 => gd (0 ≤ x1) <| lt' (Int.fdiv u1G (2 ^ (min (x1).toNat (IntKind.bits .u64)))) fun x6 => lt' (x6 != (0 : Int)) fun b7 => sp b7 (gd (0 ≤ x1) <| lt' (Int.fdiv u1G (2 ^ (min (x1).toNat (IntKind.bits .u64)))) fun x9 => lt' (wr .u64 (band .u64 x9 (1 : Int))) fun x10 => lt' (x10 == (1 : Int)) fun b11 => sp b11 (cl (lt' (wr .i64 (x1 + (1 : Int))) fun x13 => p124_l1 k u1G n2 x13) fun r => some (x1::r)) (lt' (wr .i64 (x1 + (1 : Int))) fun x14 => p124_l1 k u1G n2 x14)) (some [])
def p124 (k : Nat) (u1G : Int) : Option (List (Int)) :=
 p124_l1 k u1G k (0 : Int)
theorem hf124 : Try.prog.funcs[124]? = some Try.f124 := by kernel_rfl
theorem w124 (k : Nat) {M : Mem} {bu1 : Nat} {u1G : Int} (hbu1 : MB M bu1 [.one (.v (.int .u64 u1G))]) {ks} (h : p124 k u1G = some ks) :
  IterE enI Try.prog 124 [(.pointer (some ⟨bu1,0,none⟩))] M ks := by
 unfold p124 at h
 refine IterE_of fun l J Jx W hyd hW h0 => ?_
 refine calls_TW (c:=bodyOf Try.f124) [.lf (.v (.func (.yield l) #[] #[])),lP bu1] hf124 (by kernel_rfl) (Nat.le_of_ble_eq_true (by kernel_rfl)) (by kernel_rfl) (by intro x hx; simp only [List.mem_cons,List.mem_nil_iff,or_false] at hx; rcases hx with rfl | rfl <;> trivial) hW ?_
 refine TW_pre (pre':=J M []) (by rintro w rfl;exact h0) ?_
 have hks : [] ++ ks = ks := rfl
 refine W_seq (c1:=(sub [0] Bd124)) (c2:=(sub [1] Bd124)) (by kernel_rfl) ?_
 refine TW_region (id:=0) (by kernel_rfl) ?_
 refine TWI_pure (y:=(3,vi (0 : Int))) (by kernel_rfl) ?_
 refine TWI_keep (σ':=[(0,.lf (.v (.func (.yield l) #[] #[]))),(1,lP bu1),(3,vi (0 : Int))]) [0,1,3] (by kernel_rfl) ?_
 refine WI_end (by kernel_rfl) ?_
 refine NQ_then ?_
 refine TW_block (id:=0) (c1:=(sub [1,0] Bd124)) (by kernel_rfl) ?_
 refine TW_keep (σ':=[(0,.lf (.v (.func (.yield l) #[] #[]))),(1,lP bu1),(3,vi (0 : Int))]) [0,1,3] (by kernel_rfl) ?_
 refine W_loop (γ:=(Int) × (List (Int)) × (List (Int))) (fun g => [(0,.lf (.v (.func (.yield l) #[] #[]))),(1,lP bu1),(3,vi g.1)]) (fun g => J M g.2.1) (fun n2 g => g.2.1 ++ g.2.2 = ks ∧ p124_l1 k u1G n2 g.1 = some g.2.2) (c1:=(sub [1,0,0] Bd124)) (g0:=((0 : Int),[],ks)) (k:=k) (by kernel_rfl) rfl ⟨hks,h⟩ (fun w hw => hw) ?_
 rintro n2 ⟨x1,pr3,rest4⟩ ⟨hks,h⟩
 replace hks : pr3 ++ rest4 = ks := hks
 replace h : p124_l1 k u1G n2 x1 = some rest4 := h
 change TW _ _ _ _ [(0,.lf (.v (.func (.yield l) #[] #[]))),(1,lP bu1),(3,vi x1)] (J M pr3) _
 cases n2 with
 | zero => rw [p124_l1] at h;cases h
 | succ n2 =>
  rw [p124_l1] at h
  refine W_seq (c1:=(sub [1,0,0,0] Bd124)) (c2:=(sub [1,0,0,1] Bd124)) (by kernel_rfl) ?_
  refine W_seq (c1:=(sub [1,0,0,0,0] Bd124)) (c2:=(sub [1,0,0,0,1] Bd124)) (by kernel_rfl) ?_
  refine TW_region (id:=1) (by kernel_rfl) ?_
  refine TWI_at (d:=4) (x:=.lf (.v (.int .u64 u1G))) (fun w => (At_ldP (d:=4) (b:=bu1) (off:=0) (m:=1) (v:=(.int .u64 u1G)) (by kernel_rfl) (cell_blk hbu1 ⟨rfl,trivial⟩ (by kernel_rfl)))) (hyd.gr _ _) (by kernel_rfl) trivial ?_
  refine TWI_pure (y:=(5,vi x1)) (by kernel_rfl) ?_
  obtain ⟨g5,h⟩ := gd_some h
  obtain ⟨x6,e_x6,h⟩ := lt_some h
  refine TWI_at (d:=6) (x:=.lf (.v (.int .u64 x6))) (fun w => (by rw [e_x6]; exact At_shr (d:=6) (k:=.u64) (k':=.i64) (m:=u1G) (n:=x1) (by subst e_x6; kernel_rfl) g5)) (hyd.gr _ _) (by kernel_rfl) trivial ?_
  obtain ⟨b7,e_b7,h⟩ := lt_some h
  refine TWI_pure (y:=(7,vb b7)) (by subst e_b7;kernel_rfl) ?_
  refine TWI_keep (σ':=[(0,.lf (.v (.func (.yield l) #[] #[]))),(1,lP bu1),(3,vi x1),(7,vb b7)]) [0,1,3,7] (by kernel_rfl) ?_
  refine WI_end (by kernel_rfl) ?_
  refine NQ_then ?_
  cases b7 with
  | true =>
   replace h := sp_t h
   refine W_condT (x:=(.tmp 7)) (c1:=(sub [1,0,0,0,1,0] Bd124)) (c2:=(sub [1,0,0,0,1,1] Bd124)) (by kernel_rfl) (by kernel_rfl) ?_
   refine TW_keep (σ':=[(0,.lf (.v (.func (.yield l) #[] #[]))),(1,lP bu1),(3,vi x1)]) [0,1,3] (by kernel_rfl) ?_
   refine W_skip (by kernel_rfl) ?_
   refine NQ_then ?_
   refine W_seq (c1:=(sub [1,0,0,1,0] Bd124)) (c2:=(sub [1,0,0,1,1] Bd124)) (by kernel_rfl) ?_
   refine TW_block (id:=1) (c1:=(sub [1,0,0,1,0,0] Bd124)) (by kernel_rfl) ?_
   refine W_seq (c1:=(sub [1,0,0,1,0,0,0] Bd124)) (c2:=(sub [1,0,0,1,0,0,1] Bd124)) (by kernel_rfl) ?_
   refine TW_region (id:=3) (by kernel_rfl) ?_
   refine TWI_at (d:=10) (x:=.lf (.v (.int .u64 u1G))) (fun w => (At_ldP (d:=10) (b:=bu1) (off:=0) (m:=1) (v:=(.int .u64 u1G)) (by kernel_rfl) (cell_blk hbu1 ⟨rfl,trivial⟩ (by kernel_rfl)))) (hyd.gr _ _) (by kernel_rfl) trivial ?_
   refine TWI_pure (y:=(11,vi x1)) (by kernel_rfl) ?_
   obtain ⟨g8,h⟩ := gd_some h
   obtain ⟨x9,e_x9,h⟩ := lt_some h
   refine TWI_at (d:=12) (x:=.lf (.v (.int .u64 x9))) (fun w => (by rw [e_x9]; exact At_shr (d:=12) (k:=.u64) (k':=.i64) (m:=u1G) (n:=x1) (by subst e_x9; kernel_rfl) g8)) (hyd.gr _ _) (by kernel_rfl) trivial ?_
   obtain ⟨x10,e_x10,h⟩ := lt_some h
   refine TWI_pure (y:=(13,.lf (.v (.int .u64 x10)))) (by subst e_x10;kernel_rfl) ?_
   obtain ⟨b11,e_b11,h⟩ := lt_some h
   refine TWI_pure (y:=(14,vb b11)) (by subst e_b11;kernel_rfl) ?_
   refine TWI_pure (y:=(15,vb b11)) (by kernel_rfl) ?_
   cases b11 with
   | true =>
    replace h := sp_t h
    refine TWI_pure (y:=(16,.lf (.v (.func (.yield l) #[] #[])))) (by kernel_rfl) ?_
    refine TWI_pure (y:=(17,vi x1)) (by kernel_rfl) ?_
    obtain ⟨rest12,h,erest12⟩ := cons_some h
    rw [erest12] at hks
    replace hks := pre_step hks
    refine WI_yield hyd (d:=18) (l:=l) (pr:=pr3) (x:=x1) (by kernel_rfl) rfl ⟨_,hks⟩ (by kernel_rfl) ?_ ?_
    ·refine TWI_pure (y:=(19,vb false)) (by kernel_rfl) ?_
     refine TWI_pure (y:=(20,vb false)) (by kernel_rfl) ?_
     refine TWI_keep (σ':=[(0,.lf (.v (.func (.yield l) #[] #[]))),(1,lP bu1),(3,vi x1),(20,vb false)]) [0,1,3,20] (by kernel_rfl) ?_
     refine WI_end (by kernel_rfl) ?_
     refine NQ_then ?_
     refine W_condF (x:=(.tmp 20)) (c1:=(sub [1,0,0,1,0,0,1,0] Bd124)) (c2:=(sub [1,0,0,1,0,0,1,1] Bd124)) (by kernel_rfl) (by kernel_rfl) ?_
     refine TW_keep (σ':=[(0,.lf (.v (.func (.yield l) #[] #[]))),(1,lP bu1),(3,vi x1)]) [0,1,3] (by kernel_rfl) ?_
     refine W_skip (by kernel_rfl) ?_
     refine NQ_bn ?_
     refine NQ_then ?_
     refine TW_region (id:=2) (by kernel_rfl) ?_
     refine TWI_pure (y:=(8,vi x1)) (by kernel_rfl) ?_
     obtain ⟨x13,e_x13,h⟩ := lt_some h
     refine TWI_pure (y:=(9,vi x13)) (by subst e_x13;kernel_rfl) ?_
     refine TWI_pure (y:=(3,vi x13)) (by kernel_rfl) ?_
     refine TWI_keep (σ':=[(0,.lf (.v (.func (.yield l) #[] #[]))),(1,lP bu1),(3,vi x13)]) [0,1,3] (by kernel_rfl) ?_
     refine WI_end (by kernel_rfl) ?_
     refine NQ_loop n2 (x13,(pr3 ++ [x1]),rest12) (Nat.lt_succ_self _) rfl ⟨hks,h⟩ (fun w hw => hw)
    ·refine TWI_pure (y:=(19,vb true)) (by kernel_rfl) ?_
     refine TWI_pure (y:=(20,vb true)) (by kernel_rfl) ?_
     refine TWI_keep (σ':=[(0,.lf (.v (.func (.yield l) #[] #[]))),(1,lP bu1),(3,vi x1),(20,vb true)]) [0,1,3,20] (by kernel_rfl) ?_
     refine WI_end (by kernel_rfl) ?_
     refine NQ_then ?_
     refine W_condT (x:=(.tmp 20)) (c1:=(sub [1,0,0,1,0,0,1,0] Bd124)) (c2:=(sub [1,0,0,1,0,0,1,1] Bd124)) (by kernel_rfl) (by kernel_rfl) ?_
     refine W_ret (by kernel_rfl) ?_
     refine NQ_br ?_
     refine NQ_thenr ?_
     refine NQ_thenr ?_
     refine NQ_br ?_
     exact fun w hw => ⟨.inr rfl,.inr hw.1⟩
   | false =>
    replace h := sp_f h
    refine TWI_pure (y:=(16,.tup [])) (by kernel_rfl) ?_
    refine TWI_pure (y:=(17,.tup [])) (by kernel_rfl) ?_
    refine TWI_pure (y:=(18,.tup [])) (by kernel_rfl) ?_
    refine TWI_pure (y:=(19,.tup [])) (by kernel_rfl) ?_
    refine TWI_pure (y:=(20,vb false)) (by kernel_rfl) ?_
    refine TWI_keep (σ':=[(0,.lf (.v (.func (.yield l) #[] #[]))),(1,lP bu1),(3,vi x1),(20,vb false)]) [0,1,3,20] (by kernel_rfl) ?_
    refine WI_end (by kernel_rfl) ?_
    refine NQ_then ?_
    refine W_condF (x:=(.tmp 20)) (c1:=(sub [1,0,0,1,0,0,1,0] Bd124)) (c2:=(sub [1,0,0,1,0,0,1,1] Bd124)) (by kernel_rfl) (by kernel_rfl) ?_
    refine TW_keep (σ':=[(0,.lf (.v (.func (.yield l) #[] #[]))),(1,lP bu1),(3,vi x1)]) [0,1,3] (by kernel_rfl) ?_
    refine W_skip (by kernel_rfl) ?_
    refine NQ_bn ?_
    refine NQ_then ?_
    refine TW_region (id:=2) (by kernel_rfl) ?_
    refine TWI_pure (y:=(8,vi x1)) (by kernel_rfl) ?_
    obtain ⟨x14,e_x14,h⟩ := lt_some h
    refine TWI_pure (y:=(9,vi x14)) (by subst e_x14;kernel_rfl) ?_
    refine TWI_pure (y:=(3,vi x14)) (by kernel_rfl) ?_
    refine TWI_keep (σ':=[(0,.lf (.v (.func (.yield l) #[] #[]))),(1,lP bu1),(3,vi x14)]) [0,1,3] (by kernel_rfl) ?_
    refine WI_end (by kernel_rfl) ?_
    refine NQ_loop n2 (x14,pr3,rest4) (Nat.lt_succ_self _) rfl ⟨hks,h⟩ (fun w hw => hw)
  | false =>
   replace h := sp_f h
   refine W_condF (x:=(.tmp 7)) (c1:=(sub [1,0,0,0,1,0] Bd124)) (c2:=(sub [1,0,0,0,1,1] Bd124)) (by kernel_rfl) (by kernel_rfl) ?_
   refine TW_keep (σ':=[]) [] (by kernel_rfl) ?_
   refine W_exit (id:=0) (by kernel_rfl) ?_
   refine NQ_thenx ?_
   refine NQ_thenx ?_
   refine NQ_bx ?_
   have hn := Option.some.inj h
   exact fun w hw => ⟨.inl rfl,.inl ⟨M,(show pr3 = ks from by rw [← hks,← hn,List.append_nil]) ▸ hw⟩⟩
def p79 (k : Nat) (u0 : Int) : Option (List (Int)) :=
 cl (p124 k u0) fun v4 => some v4
theorem hf79 : Try.prog.funcs[79]? = some Try.f79 := by kernel_rfl
theorem w79 (k : Nat) {M : Mem} {u0 : Int} {r} (h : p79 k u0 = some r) :
  Fn Try.prog 79 [rval (.lf (.v (.int .u64 u0)))] M (fun x M' => ∃ (lb1 : List Value),x = .lf (.v (.func (.func 124) #[] (List.toArray lb1))) ∧ IterE enI Try.prog 124 lb1 M' r) := by
 unfold p79 at h
 refine FO [.lf (.v (.int .u64 u0))] hf79 ⟨trivial,trivial⟩ fun w => ?_
 refine SQ0 (RG ?_)
 refine SG 2 (S4 [(1,lO 1)] [(1,[.one (.v (.int .u64 u0))])] [] M) ?_
 refine EN ?_
 refine T_turn (turn_pubH 1 (c:=[.one (.v (.int .u64 u0))]) (by kernel_rfl) (by kernel_rfl)) ?_
 rintro _ ⟨b2,M3,rfl,-,e_M3,-,hM3⟩
 have fb2 : MB M3 b2 [.one (.v (.int .u64 u0))] := by rw [e_M3]; exact addM_at _ _ _
 refine KG (S4 [(1,lP b2)] [] [] M3) ?_
 refine SQ (RG ?_)
 refine SS 2 [(2,.lf (.v (.func (.func 124) #[] #[(.pointer (some ⟨b2,0,none⟩))])))] ?_
 refine EN ?_
 obtain ⟨v4,c_v4,h⟩ := cl_some h
 refine RT ?_
 obtain rfl := sj h
 refine FT (.lf (.v (.func (.func 124) #[] (List.toArray [(.pointer (some ⟨b2,0,none⟩))])))) ?_
 exact ⟨[(.pointer (some ⟨b2,0,none⟩))],rfl,(w124 k fb2 c_v4)⟩
end Go.Proofs.Ythniebmammmacaa
namespace Go.Proofs.Ythniebmammmacaa
open Go.RowKit
def p77_r1 (k : Nat) (j7 : Int → Option Int) (u0_2 : List WT) : List (Int) → Int → Option Int
 | [],x4 => j7 x4
 | x6::rest5,x4 => gd ((0 : Int) ≤ x6 ∧ x6 < (u0_2.length : Int)) <| lt' (List.getD (List.getD u0_2 ((x6).toNat) ([],[])).2 2 0) fun x12 => lt' (wr .i64 (x4 + x12)) fun x13 => p77_r1 k j7 u0_2 rest5 x13
def p77 (k : Nat) (u0_0 : Int) (u0_1 : List (List Int)) (u0_2 : List WT) (u0_3 : List Int) (u1 : Int) : Option Int :=
 cl (p79 k u1) fun v1 => jn (fun (x4 : Int) => some x4) fun j7 => p77_r1 k j7 u0_2 v1 (0 : Int)
theorem hf77 : Try.prog.funcs[77]? = some Try.f77 := by kernel_rfl
theorem w77 (k : Nat) {M : Mem} {Au0_1 Au0_2 : Option Addr} {cu0_1 cu0_2 : Nat} {Hu0_2 : Nat → Option Addr} {Cu0_2 : Nat → Nat} {u0_0 u1 : Int} {u0_1 : List (List Int)} {u0_2 : List WT} {u0_3 : List Int} (hu0_1 : SlR M Au0_1 cu0_1 .i64 12 u0_1) (hu0_2 : SlW M 3 Au0_2 cu0_2 Hu0_2 Cu0_2 u0_2) (hu0_3 : u0_3.length = 6) {r} (h : p77 k u0_0 u0_1 u0_2 u0_3 u1 = some r) :
  Fn Try.prog 77 [rval (.agg [oI u0_0,oS Au0_1 u0_1 cu0_1,oS Au0_2 u0_2 cu0_2,.arr .i64 6 u0_3]),rval (.lf (.v (.int .u64 u1)))] M (fun x _ => x = vi r) := by
 unfold p77 at h
 refine FO [.agg [oI u0_0,oS Au0_1 u0_1 cu0_1,oS Au0_2 u0_2 cu0_2,.arr .i64 6 u0_3],.lf (.v (.int .u64 u1))] hf77 ⟨⟨rfl,⟨rfl,⟨rfl,⟨hu0_3,trivial⟩⟩⟩⟩,⟨trivial,trivial⟩⟩ fun w => ?_
 refine SQ0 (RG ?_)
 refine SG 2 (S4 [(1,.lf (.v (.int .u64 u1))),(2,lO 2),(4,vi (0 : Int))] [(2,[oI u0_0,oS Au0_1 u0_1 cu0_1,oS Au0_2 u0_2 cu0_2,.arr .i64 6 u0_3])] [] M) ?_
 refine EN (SQ (RG ?_))
 refine SH 2 [(1,.lf (.v (.int .u64 u1))),(2,lO 2),(4,vi (0 : Int)),(5,lO 5)] [(2,[oI u0_0,oS Au0_1 u0_1 cu0_1,oS Au0_2 u0_2 cu0_2,.arr .i64 6 u0_3]),(5,[oI (0 : Int)])] ?_
 refine EN (SQ (SQ (RG ?_)))
 refine SS 1 [(2,lO 2),(4,vi (0 : Int)),(5,lO 5),(7,.lf (.v (.int .u64 u1)))] ?_
 obtain ⟨v1,c_v1,h⟩ := cl_some h
 refine TI_of (i:=1) (by kernel_rfl) (TE_callR (d:=8) (f:=79) (args:=[rval (.lf (.v (.int .u64 u1)))]) (by kernel_rfl) (by kernel_rfl) (w79 k  c_v1) ?_)
 rintro _ M3 _ hM3 _ ⟨lb2,rfl,flb2⟩
 refine SG 2 (S4 [(2,lO 2),(4,vi (0 : Int)),(5,lO 5),(8,.lf (.v (.func (.func 124) #[] (List.toArray lb2))))] [(2,[oI u0_0,oS Au0_1 u0_1 cu0_1,oS Au0_2 u0_2 cu0_2,.arr .i64 6 u0_3]),(5,[oI (0 : Int)])] [] M3) ?_
 refine EN (BK 0 ?_)
 refine KS [(2,lO 2),(4,vi (0 : Int)),(5,lO 5),(8,.lf (.v (.func (.func 124) #[] (List.toArray lb2))))] ?_
 obtain ⟨j7,e_j7,h⟩ := jn_some h
 refine T_rangeE enI (p:=9) (g:=8) (gf:=124) (lb:=lb2) (ks:=v1) [2,5] (assign:=(sub [1,1,0,1,0,0] Bd77)) (body:=(sub [1,1,0,1,0,1] Bd77)) (by kernel_rfl) rfl (by kernel_rfl) (by kernel_rfl) (by kernel_rfl) flb2 (enI_ok _) (by kernel_rfl) (by kernel_rfl) (fun (pre : List (Int)) (H : List (Nat × List Sg)) (V : List (Nat × Vc)) (M' : Mem) => ∃ (x4 : Int) (rest : List (Int)),pre ++ rest = v1 ∧ H = [(2,[oI u0_0,oS Au0_1 u0_1 cu0_1,oS Au0_2 u0_2 cu0_2,.arr .i64 6 u0_3]),(5,[oI x4])] ∧ V = [] ∧ Mem.le M3 M' ∧ p77_r1 k j7 u0_2 rest x4 = some r) (fun (c : Code) (H : List (Nat × List Sg)) (V : List (Nat × Vc)) (M' : Mem) => False) ⟨(0 : Int),v1,List.nil_append _,rfl,rfl,(Mem.le_refl _),h⟩ ?_ ?_ ?_ ?_
 ·rintro pre H V M' M'' ⟨x4,rest,hks,e1,e2,hM,h⟩ hMM
  exact ⟨x4,rest,hks,e1,e2,(Mem.le_trans hM hMM),h⟩
 ·rintro l O9 bs pr x6 H V M8 ⟨rest5,hrr⟩ ⟨x4,rest0,hks,rfl,rfl,hM8,h⟩
  have hre : rest0 = x6::rest5 := List.append_cancel_left (hks.trans (by rw [← hrr,List.append_assoc]; rfl))
  subst hre
  rw [p77_r1] at h
  refine RG ?_
  refine SG 1 { σ := [(2,lO 2),(4,vi (0 : Int)),(5,lO 5),(6,vi x6),(8,.lf (.v (.func (.func 124) #[] (List.toArray lb2))))],H := [(2,[oI u0_0,oS Au0_1 u0_1 cu0_1,oS Au0_2 u0_2 cu0_2,.arr .i64 6 u0_3]),(5,[oI x4])],V := [],M := M8,ds := [],os := O9,ats := tiesOf [2,5] bs } ?_
  refine E0 ?_
  refine ⟨rfl,rfl,rfl,fun O10 => ?_⟩
  refine BK 1 ?_
  obtain ⟨g11,h⟩ := gd_some h
  obtain ⟨x12,e_x12,h⟩ := lt_some h
  obtain ⟨x13,e_x13,h⟩ := lt_some h
  refine T_draw' (id:=4) [9] [0,0,0,0,0,0,0,0,0,0] (by kernel_rfl) (by kernel_rfl) (by kernel_rfl) (by kernel_rfl) [(10,vi x4),(11,lO 2),(12,.lf (.own 2 2)),(13,lS Au0_2 u0_2 cu0_2),(14,vi x6),(15,.lf (.ep (.slice Au0_2 (u0_2.length) cu0_2) 4 ((x6).toNat) 0)),(16,.lf (.ep (.slice Au0_2 (u0_2.length) cu0_2) 4 ((x6).toNat) 3)),(17,vi x12),(18,vi x13)] (by kernel_rfl) (wfs_lf _ (by kernel_rfl)) ?_
  refine Stage_ex (stage_all' [0,1,2,3,4,6,8] [5,7] (by kernel_rfl) (by subst e_x13 e_x12; kernel_rfl) (by kernel_rfl) ⟨QF_at (i:=5) (d:=15) (x:=.lf (.ep (.slice Au0_2 (u0_2.length) cu0_2) 4 ((x6).toNat) 0)) (show OpAt _ _ _ 5 15 _ from by exact At_idxSW (m:=3) (d:=15) (z:=x6) (by subst e_x13 e_x12; kernel_rfl) g11 ((hu0_2.le hM3).le hM8)) (by kernel_rfl) (by subst e_x13 e_x12; kernel_rfl),⟨QF_at (i:=7) (d:=17) (x:=vi x12) (show OpAt _ _ _ 7 17 _ from by rw [e_x12]; exact At_ldSWi (m:=3) (d:=17) (q:=(x6).toNat) (j:=2) (by subst e_x13 e_x12; kernel_rfl) (by kernel_rfl) (toNat_lt g11) ((hu0_2.le hM3).le hM8)) (by kernel_rfl) (by subst e_x13 e_x12; kernel_rfl),trivial⟩⟩) ({ σ := [(10,vi x4),(11,lO 2),(12,.lf (.own 2 2)),(13,lS Au0_2 u0_2 cu0_2),(14,vi x6),(15,.lf (.ep (.slice Au0_2 (u0_2.length) cu0_2) 4 ((x6).toNat) 0)),(16,.lf (.ep (.slice Au0_2 (u0_2.length) cu0_2) 4 ((x6).toNat) 3)),(17,vi x12),(18,vi x13),(2,lO 2),(4,vi (0 : Int)),(5,lO 5),(6,vi x6),(8,.lf (.v (.func (.func 124) #[] (List.toArray lb2))))],H := [(5,[oI x13]),(2,[oI u0_0,oS Au0_1 u0_1 cu0_1,oS Au0_2 u0_2 cu0_2,.arr .i64 6 u0_3]),(5,[oI x4])],V := [],M := M8,ds := [],os := O10,ats := tiesOf [2,5] bs }) (by subst e_x13 e_x12; kernel_rfl) [] (by kernel_rfl) trivial ?_
  refine Stage_nil (stage_all' [] [] (by kernel_rfl) (by subst e_x13 e_x12;kernel_rfl) (by kernel_rfl) trivial) ?_
  refine blockQ_n ?_
  refine ⟨_,keep_sub (s':={ σ := [],H := [(2,[oI u0_0,oS Au0_1 u0_1 cu0_1,oS Au0_2 u0_2 cu0_2,.arr .i64 6 u0_3]),(5,[oI x13])],V := [],M := M8,ds := [],os := O10,ats := tiesOf [2,5] bs }) (ts:=[]) (hs:=[2,5]) (vs:=[]) (by subst e_x13 e_x12;kernel_rfl),rfl,rfl,(Mem.le_refl _),?_⟩
  show (fun (pre : List (Int)) (H : List (Nat × List Sg)) (V : List (Nat × Vc)) (M' : Mem) => ∃ (x4 : Int) (rest : List (Int)),pre ++ rest = v1 ∧ H = [(2,[oI u0_0,oS Au0_1 u0_1 cu0_1,oS Au0_2 u0_2 cu0_2,.arr .i64 6 u0_3]),(5,[oI x4])] ∧ V = [] ∧ Mem.le M3 M' ∧ p77_r1 k j7 u0_2 rest x4 = some r) (pr ++ [x6]) _ _ _
  exact ⟨x13,rest5,by rw [List.append_assoc]; exact hks,rfl,rfl,(Mem.le_trans (Mem.le_refl _) hM8),h⟩
 ·rintro D H V M8 ⟨x4,rest0,hks,rfl,rfl,hM8,h⟩
  have hre : rest0 = [] := by have := congrArg List.length hks;simp at this;exact this
  subst hre
  rw [p77_r1] at h
  subst e_j7
  refine blockQ_n (thenQ_n (SQ (RG ?_)))
  refine SG 2 { σ := [(4,vi x4)],H := [],V := [],M := M8,ds := [D] } ?_
  refine EN (RT ?_)
  obtain rfl := sj h
  refine fin_retD (vi x4) D (by kernel_rfl) (by kernel_rfl) rfl ?_
  rfl
 ·intro D c H V M' hI
  exact hI.elim
def p119_r1 (k : Nat) (j10 : Int → Option Int) (u0_2 : List WT) (u2 : Int) (u3 : Int) : List (Int) → Int → Option Int
 | [],x7 => j10 x7
 | x9::rest8,x7 => gd ((0 : Int) ≤ x9 ∧ x9 < (u0_2.length : Int)) <| lt' ((List.getD u0_2 ((x9).toNat) ([],[])).1) fun L15 => lt' (List.getD (List.getD u0_2 ((x9).toNat) ([],[])).2 0 0) fun x16 => lt' (List.getD (List.getD u0_2 ((x9).toNat) ([],[])).2 1 0) fun x17 => lt' (List.getD (List.getD u0_2 ((x9).toNat) ([],[])).2 2 0) fun x18 => jn (fun (b19 : Bool) => sp b19 (lt' (mx x7 x17) fun x23 => p119_r1 k j10 u0_2 u2 u3 rest8 x23) (p119_r1 k j10 u0_2 u2 u3 rest8 x7)) fun j20 => lt' (x16 == u3) fun b21 => sp b21 (cl (p131 k L15 u2) fun v22 => j20 v22) (j20 false)
def p119 (k : Nat) (u0_0 : Int) (u0_1 : List (List Int)) (u0_2 : List WT) (u0_3 : List Int) (u1 : Int) (u2 : Int) (u3 : Int) : Option Int :=
 gd ((0 : Int) ≤ u2 ∧ u2 < (u0_1.length : Int)) <| gd ((0 : Int) ≤ u3 ∧ u3 < ((6 : Nat) : Int)) <| lt' (List.getD (List.getD u0_1 ((u2).toNat) []) (6 + (u3).toNat * 1) 0) fun x3 => cl (p79 k u1) fun v4 => jn (fun (x7 : Int) => some x7) fun j10 => p119_r1 k j10 u0_2 u2 u3 v4 x3
theorem hf119 : Try.prog.funcs[119]? = some Try.f119 := by kernel_rfl
theorem w119 (k : Nat) {M : Mem} {Au0_1 Au0_2 : Option Addr} {cu0_1 cu0_2 : Nat} {Hu0_2 : Nat → Option Addr} {Cu0_2 : Nat → Nat} {u0_0 u1 u2 u3 : Int} {u0_1 : List (List Int)} {u0_2 : List WT} {u0_3 : List Int} (hu0_1 : SlR M Au0_1 cu0_1 .i64 12 u0_1) (hu0_2 : SlW M 3 Au0_2 cu0_2 Hu0_2 Cu0_2 u0_2) (hu0_3 : u0_3.length = 6) {r} (h : p119 k u0_0 u0_1 u0_2 u0_3 u1 u2 u3 = some r) :
  Fn Try.prog 119 [rval (.agg [oI u0_0,oS Au0_1 u0_1 cu0_1,oS Au0_2 u0_2 cu0_2,.arr .i64 6 u0_3]),rval (.lf (.v (.int .u64 u1))),rval (vi u2),rval (vi u3)] M (fun x _ => x = vi r) := by
 unfold p119 at h
 refine FO [.agg [oI u0_0,oS Au0_1 u0_1 cu0_1,oS Au0_2 u0_2 cu0_2,.arr .i64 6 u0_3],.lf (.v (.int .u64 u1)),vi u2,vi u3] hf119 ⟨⟨rfl,⟨rfl,⟨rfl,⟨hu0_3,trivial⟩⟩⟩⟩,⟨trivial,⟨trivial,⟨trivial,trivial⟩⟩⟩⟩ fun w => ?_
 refine SQ0 (RG ?_)
 refine SG 4 (S4 [(1,.lf (.v (.int .u64 u1))),(4,lO 4),(6,lO 6),(7,lO 7),(8,vi (0 : Int))] [(4,[oI u0_0,oS Au0_1 u0_1 cu0_1,oS Au0_2 u0_2 cu0_2,.arr .i64 6 u0_3]),(6,[oI u2]),(7,[oI u3])] [] M) ?_
 refine EN (SQ ?_)
 obtain ⟨g1,h⟩ := gd_some h
 obtain ⟨g2,h⟩ := gd_some h
 obtain ⟨x3,e_x3,h⟩ := lt_some h
 refine T_draw' (id:=1) [9,10] [0,0,0,0,0,0,0,0,0,0,0] (by kernel_rfl) (by kernel_rfl) (by kernel_rfl) (by kernel_rfl) [(12,lO 4),(13,.lf (.own 4 1)),(14,lS Au0_1 u0_1 cu0_1),(15,vi u2),(16,vi u3),(17,.lf (.ep (.slice Au0_1 (u0_1.length) cu0_1) 12 ((u2).toNat) 0)),(18,.lf (.ep (.slice Au0_1 (u0_1.length) cu0_1) 12 ((u2).toNat) 6)),(19,.lf (.ep (.slice Au0_1 (u0_1.length) cu0_1) 12 ((u2).toNat) (6 + (u3).toNat * 1))),(20,vi x3)] (by kernel_rfl) (wfs_lf _ (by kernel_rfl)) ?_
 refine Stage_ex (stage_all' [0,1,2,3,4,6] [5,7,8] (by kernel_rfl) (by subst e_x3; kernel_rfl) (by kernel_rfl) ⟨QF_at (i:=5) (d:=17) (x:=.lf (.ep (.slice Au0_1 (u0_1.length) cu0_1) 12 ((u2).toNat) 0)) (show OpAt _ _ _ 5 17 _ from by exact At_idxR (d:=17) (z:=u2) (by subst e_x3; kernel_rfl) g1 hu0_1) (by kernel_rfl) (by subst e_x3; kernel_rfl),⟨QF_at (i:=7) (d:=19) (x:=.lf (.ep (.slice Au0_1 (u0_1.length) cu0_1) 12 ((u2).toNat) (6 + (u3).toNat * 1))) (show OpAt _ _ _ 7 19 _ from by exact At_idxE (d:=19) (z:=u3) (A:=(.slice Au0_1 (u0_1.length) cu0_1)) (sz:=12) (q:=(u2).toNat) (j:=6) (es:=1) (n:=6) (by subst e_x3; kernel_rfl) g2) (by kernel_rfl) (by subst e_x3; kernel_rfl),⟨QF_at (i:=8) (d:=20) (x:=vi x3) (show OpAt _ _ _ 8 20 _ from by rw [e_x3]; exact At_ldR1' (d:=20) (q:=(u2).toNat) (j:=6 + (u3).toNat * 1) (by subst e_x3; kernel_rfl) (by omega) (toNat_lt g1) hu0_1) (by kernel_rfl) (by subst e_x3; kernel_rfl),trivial⟩⟩⟩) ({ σ := [(9,lO 9),(12,lO 4),(13,.lf (.own 4 1)),(14,lS Au0_1 u0_1 cu0_1),(15,vi u2),(16,vi u3),(17,.lf (.ep (.slice Au0_1 (u0_1.length) cu0_1) 12 ((u2).toNat) 0)),(18,.lf (.ep (.slice Au0_1 (u0_1.length) cu0_1) 12 ((u2).toNat) 6)),(19,.lf (.ep (.slice Au0_1 (u0_1.length) cu0_1) 12 ((u2).toNat) (6 + (u3).toNat * 1))),(20,vi x3),(1,.lf (.v (.int .u64 u1))),(4,lO 4),(6,lO 6),(7,lO 7),(8,vi (0 : Int))],H := [(9,[oI (0 : Int)]),(4,[oI u0_0,oS Au0_1 u0_1 cu0_1,oS Au0_2 u0_2 cu0_2,.arr .i64 6 u0_3]),(6,[oI u2]),(7,[oI u3])],V := [],M := M,ds := [] }) (by subst e_x3; kernel_rfl) [] (by kernel_rfl) trivial ?_
 refine Stage_ex (stage_all' [0,1,2,3,4,6] [5,7,8] (by kernel_rfl) (by subst e_x3; kernel_rfl) (by kernel_rfl) ⟨QF_at (i:=5) (d:=17) (x:=.lf (.ep (.slice Au0_1 (u0_1.length) cu0_1) 12 ((u2).toNat) 0)) (show OpAt _ _ _ 5 17 _ from by exact At_idxR (d:=17) (z:=u2) (by subst e_x3; kernel_rfl) g1 hu0_1) (by kernel_rfl) (by subst e_x3; kernel_rfl),⟨QF_at (i:=7) (d:=19) (x:=.lf (.ep (.slice Au0_1 (u0_1.length) cu0_1) 12 ((u2).toNat) (6 + (u3).toNat * 1))) (show OpAt _ _ _ 7 19 _ from by exact At_idxE (d:=19) (z:=u3) (A:=(.slice Au0_1 (u0_1.length) cu0_1)) (sz:=12) (q:=(u2).toNat) (j:=6) (es:=1) (n:=6) (by subst e_x3; kernel_rfl) g2) (by kernel_rfl) (by subst e_x3; kernel_rfl),⟨QF_at (i:=8) (d:=20) (x:=vi x3) (show OpAt _ _ _ 8 20 _ from by rw [e_x3]; exact At_ldR1' (d:=20) (q:=(u2).toNat) (j:=6 + (u3).toNat * 1) (by subst e_x3; kernel_rfl) (by omega) (toNat_lt g1) hu0_1) (by kernel_rfl) (by subst e_x3; kernel_rfl),trivial⟩⟩⟩) ({ σ := [(9,lO 9),(12,lO 4),(13,.lf (.own 4 1)),(14,lS Au0_1 u0_1 cu0_1),(15,vi u2),(16,vi u3),(17,.lf (.ep (.slice Au0_1 (u0_1.length) cu0_1) 12 ((u2).toNat) 0)),(18,.lf (.ep (.slice Au0_1 (u0_1.length) cu0_1) 12 ((u2).toNat) 6)),(19,.lf (.ep (.slice Au0_1 (u0_1.length) cu0_1) 12 ((u2).toNat) (6 + (u3).toNat * 1))),(20,vi x3),(1,.lf (.v (.int .u64 u1))),(4,lO 4),(6,lO 6),(7,lO 7),(8,vi (0 : Int))],H := [(9,[oI x3]),(9,[oI (0 : Int)]),(4,[oI u0_0,oS Au0_1 u0_1 cu0_1,oS Au0_2 u0_2 cu0_2,.arr .i64 6 u0_3]),(6,[oI u2]),(7,[oI u3])],V := [],M := M,ds := [] }) (by subst e_x3; kernel_rfl) [] (by kernel_rfl) trivial ?_
 refine Stage_nil (stage_all' [] [] (by kernel_rfl) (by subst e_x3;kernel_rfl) (by kernel_rfl) trivial) ?_
 refine thenQ_n ?_
 refine KG (S4 [(1,.lf (.v (.int .u64 u1))),(4,lO 4),(6,lO 6),(7,lO 7),(8,vi (0 : Int)),(9,lO 9)] [(4,[oI u0_0,oS Au0_1 u0_1 cu0_1,oS Au0_2 u0_2 cu0_2,.arr .i64 6 u0_3]),(6,[oI u2]),(7,[oI u3]),(9,[oI x3])] [] M) ?_ (by subst e_x3;kernel_rfl)
 refine SQ (SQ (RG ?_))
 refine SS 1 [(4,lO 4),(6,lO 6),(7,lO 7),(8,vi (0 : Int)),(9,lO 9),(21,.lf (.v (.int .u64 u1)))] ?_
 obtain ⟨v4,c_v4,h⟩ := cl_some h
 refine TI_of (i:=1) (by kernel_rfl) (TE_callR (d:=22) (f:=79) (args:=[rval (.lf (.v (.int .u64 u1)))]) (by kernel_rfl) (by kernel_rfl) (w79 k  c_v4) ?_)
 rintro _ M6 _ hM6 _ ⟨lb5,rfl,flb5⟩
 refine SG 2 (S4 [(4,lO 4),(6,lO 6),(7,lO 7),(8,vi (0 : Int)),(9,lO 9),(22,.lf (.v (.func (.func 124) #[] (List.toArray lb5))))] [(4,[oI u0_0,oS Au0_1 u0_1 cu0_1,oS Au0_2 u0_2 cu0_2,.arr .i64 6 u0_3]),(6,[oI u2]),(7,[oI u3]),(9,[oI x3])] [] M6) ?_
 refine EN (BK 0 ?_)
 refine KS [(4,lO 4),(6,lO 6),(7,lO 7),(8,vi (0 : Int)),(9,lO 9),(22,.lf (.v (.func (.func 124) #[] (List.toArray lb5))))] ?_
 obtain ⟨j10,e_j10,h⟩ := jn_some h
 refine T_rangeE enI (p:=23) (g:=22) (gf:=124) (lb:=lb5) (ks:=v4) [4,6,7,9] (assign:=(sub [1,1,0,1,0,0] Bd119)) (body:=(sub [1,1,0,1,0,1] Bd119)) (by kernel_rfl) rfl (by kernel_rfl) (by kernel_rfl) (by kernel_rfl) flb5 (enI_ok _) (by kernel_rfl) (by kernel_rfl) (fun (pre : List (Int)) (H : List (Nat × List Sg)) (V : List (Nat × Vc)) (M' : Mem) => ∃ (x7 : Int) (rest : List (Int)),pre ++ rest = v4 ∧ H = [(4,[oI u0_0,oS Au0_1 u0_1 cu0_1,oS Au0_2 u0_2 cu0_2,.arr .i64 6 u0_3]),(6,[oI u2]),(7,[oI u3]),(9,[oI x7])] ∧ V = [] ∧ Mem.le M6 M' ∧ p119_r1 k j10 u0_2 u2 u3 rest x7 = some r) (fun (c : Code) (H : List (Nat × List Sg)) (V : List (Nat × Vc)) (M' : Mem) => False) ⟨x3,v4,List.nil_append _,rfl,rfl,(Mem.le_refl _),h⟩ ?_ ?_ ?_ ?_
 ·rintro pre H V M' M'' ⟨x7,rest,hks,e1,e2,hM,h⟩ hMM
  exact ⟨x7,rest,hks,e1,e2,(Mem.le_trans hM hMM),h⟩
 ·rintro l O12 bs pr x9 H V M11 ⟨rest8,hrr⟩ ⟨x7,rest0,hks,rfl,rfl,hM11,h⟩
  have hre : rest0 = x9::rest8 := List.append_cancel_left (hks.trans (by rw [← hrr,List.append_assoc]; rfl))
  subst hre
  rw [p119_r1] at h
  refine RG ?_
  refine SG 1 { σ := [(4,lO 4),(6,lO 6),(7,lO 7),(8,vi (0 : Int)),(9,lO 9),(10,vi x9),(22,.lf (.v (.func (.func 124) #[] (List.toArray lb5))))],H := [(4,[oI u0_0,oS Au0_1 u0_1 cu0_1,oS Au0_2 u0_2 cu0_2,.arr .i64 6 u0_3]),(6,[oI u2]),(7,[oI u3]),(9,[oI x7])],V := [],M := M11,ds := [],os := O12,ats := tiesOf [4,6,7,9] bs } ?_
  refine E0 ?_
  refine ⟨rfl,rfl,rfl,fun O13 => ?_⟩
  refine BK 1 (SQ (RG ?_))
  refine SG 4 { σ := [(4,lO 4),(6,lO 6),(7,lO 7),(8,vi (0 : Int)),(9,lO 9),(22,.lf (.v (.func (.func 124) #[] (List.toArray lb5)))),(26,lS Au0_2 u0_2 cu0_2),(27,vi x9)],H := [(4,[oI u0_0,oS Au0_1 u0_1 cu0_1,oS Au0_2 u0_2 cu0_2,.arr .i64 6 u0_3]),(6,[oI u2]),(7,[oI u3]),(9,[oI x7])],V := [],M := M11,ds := [],os := O13,ats := tiesOf [4,6,7,9] bs } ?_
  obtain ⟨g14,h⟩ := gd_some h
  refine AT 28 (.lf (.ep (.slice Au0_2 (u0_2.length) cu0_2) 4 ((x9).toNat) 0)) (At_idxSW (m:=3) (z:=x9) (by kernel_rfl) g14 ((hu0_2.le hM6).le hM11)) ?_
  obtain ⟨L15,e_L15,h⟩ := lt_some h
  have f_L15 : SlI M11 (Hu0_2 ((x9).toNat)) (Cu0_2 ((x9).toNat)) .i64 L15 := by rw [e_L15]; exact (((hu0_2.le hM6).le hM11)).rows _ (toNat_lt g14)
  obtain ⟨x16,e_x16,h⟩ := lt_some h
  obtain ⟨x17,e_x17,h⟩ := lt_some h
  obtain ⟨x18,e_x18,h⟩ := lt_some h
  refine AT 29 (.agg [oS (Hu0_2 ((x9).toNat)) L15 (Cu0_2 ((x9).toNat)),oI x16,oI x17,oI x18]) (by rw [e_L15,e_x16,e_x17,e_x18]; exact At_ldSWa (q:=(x9).toNat) (by subst_vars; kernel_rfl) (toNat_lt g14) ((hu0_2.le hM6).le hM11)) ?_ (hx:=⟨rfl,⟨rfl,⟨rfl,⟨rfl,trivial⟩⟩⟩⟩)
  refine SH 8 [(4,lO 4),(6,lO 6),(7,lO 7),(8,vi (0 : Int)),(9,lO 9),(11,lO 11),(22,.lf (.v (.func (.func 124) #[] (List.toArray lb5))))] [(4,[oI u0_0,oS Au0_1 u0_1 cu0_1,oS Au0_2 u0_2 cu0_2,.arr .i64 6 u0_3]),(6,[oI u2]),(7,[oI u3]),(9,[oI x7]),(11,[oS (Hu0_2 ((x9).toNat)) L15 (Cu0_2 ((x9).toNat)),oI x16,oI x17,oI x18])] ?_
  refine EN ?_
  obtain ⟨j20,e_j20,h⟩ := jn_some h
  refine T_cut (c1:=(sub [1,1,0,1,0,1,0,1,0] Bd119)) (c2:=(sub [1,1,0,1,0,1,0,1,1] Bd119)) (fun s' => ∃ (b19 : Bool),Sub { σ := [(4,lO 4),(6,lO 6),(7,lO 7),(8,vi (0 : Int)),(9,lO 9),(11,lO 11),(22,.lf (.v (.func (.func 124) #[] (List.toArray lb5)))),(39,vb b19)],H := [(4,[oI u0_0,oS Au0_1 u0_1 cu0_1,oS Au0_2 u0_2 cu0_2,.arr .i64 6 u0_3]),(6,[oI u2]),(7,[oI u3]),(9,[oI x7]),(11,[oS (Hu0_2 ((x9).toNat)) L15 (Cu0_2 ((x9).toNat)),oI x16,oI x17,oI x18])],V := [],M := M11,ds := [],os := O13,ats := tiesOf [4,6,7,9] bs } s' ∧ j20 b19 = some r) (by kernel_rfl) ?_ ?_
  ·refine RG ?_
   obtain ⟨b21,e_b21,h⟩ := lt_some h
   refine SG 5 { σ := [(4,lO 4),(6,lO 6),(7,lO 7),(8,vi (0 : Int)),(9,lO 9),(11,lO 11),(22,.lf (.v (.func (.func 124) #[] (List.toArray lb5)))),(34,vb b21)],H := [(4,[oI u0_0,oS Au0_1 u0_1 cu0_1,oS Au0_2 u0_2 cu0_2,.arr .i64 6 u0_3]),(6,[oI u2]),(7,[oI u3]),(9,[oI x7]),(11,[oS (Hu0_2 ((x9).toNat)) L15 (Cu0_2 ((x9).toNat)),oI x16,oI x17,oI x18])],V := [],M := M11,ds := [],os := O13,ats := tiesOf [4,6,7,9] bs } ?_ (by subst e_b21;kernel_rfl)
   cases b21 with
   | true =>
    replace h := sp_t h
    refine SS 8 [(4,lO 4),(6,lO 6),(7,lO 7),(8,vi (0 : Int)),(9,lO 9),(11,lO 11),(22,.lf (.v (.func (.func 124) #[] (List.toArray lb5)))),(34,vb true),(36,lS (Hu0_2 ((x9).toNat)) L15 (Cu0_2 ((x9).toNat))),(37,vi u2)] ?_
    obtain ⟨v22,c_v22,h⟩ := cl_some h
    refine AC 38 (vb v22) (w131 k f_L15 c_v22) ?_
    refine SH 10 [(4,lO 4),(6,lO 6),(7,lO 7),(8,vi (0 : Int)),(9,lO 9),(11,lO 11),(22,.lf (.v (.func (.func 124) #[] (List.toArray lb5)))),(39,vb v22)] [(4,[oI u0_0,oS Au0_1 u0_1 cu0_1,oS Au0_2 u0_2 cu0_2,.arr .i64 6 u0_3]),(6,[oI u2]),(7,[oI u3]),(9,[oI x7]),(11,[oS (Hu0_2 ((x9).toNat)) L15 (Cu0_2 ((x9).toNat)),oI x16,oI x17,oI x18])] ?_
    refine EN ?_
    exact ⟨v22,keep_sub (ts:=[4,6,7,8,9,11,22,39]) (hs:=[4,6,7,9,11]) (vs:=[]) (by kernel_rfl),h⟩
   | false =>
    replace h := sp_f h
    refine SS 10 [(4,lO 4),(6,lO 6),(7,lO 7),(8,vi (0 : Int)),(9,lO 9),(11,lO 11),(22,.lf (.v (.func (.func 124) #[] (List.toArray lb5)))),(39,vb false)] ?_
    refine EN ?_
    exact ⟨false,keep_sub (ts:=[4,6,7,8,9,11,22,39]) (hs:=[4,6,7,9,11]) (vs:=[]) (by kernel_rfl),h⟩
  ·rintro s' ⟨b19,hsub,h⟩
   subst e_j20
   refine T_sub hsub ?_
   cases b19 with
   | true =>
    replace h := sp_t h
    refine CT ?_
    refine KG { σ := [(4,lO 4),(6,lO 6),(7,lO 7),(8,vi (0 : Int)),(9,lO 9),(11,lO 11),(22,.lf (.v (.func (.func 124) #[] (List.toArray lb5))))],H := [(4,[oI u0_0,oS Au0_1 u0_1 cu0_1,oS Au0_2 u0_2 cu0_2,.arr .i64 6 u0_3]),(6,[oI u2]),(7,[oI u3]),(9,[oI x7]),(11,[oS (Hu0_2 ((x9).toNat)) L15 (Cu0_2 ((x9).toNat)),oI x16,oI x17,oI x18])],V := [],M := M11,ds := [],os := O13,ats := tiesOf [4,6,7,9] bs } ?_
    refine RG ?_
    obtain ⟨x23,e_x23,h⟩ := lt_some h
    refine SH 5 [(4,lO 4),(6,lO 6),(7,lO 7),(8,vi (0 : Int)),(9,lO 9),(22,.lf (.v (.func (.func 124) #[] (List.toArray lb5))))] [(4,[oI u0_0,oS Au0_1 u0_1 cu0_1,oS Au0_2 u0_2 cu0_2,.arr .i64 6 u0_3]),(6,[oI u2]),(7,[oI u3]),(9,[oI x23])] ?_ (by subst e_x23;kernel_rfl)
    refine E0 (blockQ_n ?_)
    refine ⟨_,keep_sub (s':={ σ := [],H := [(4,[oI u0_0,oS Au0_1 u0_1 cu0_1,oS Au0_2 u0_2 cu0_2,.arr .i64 6 u0_3]),(6,[oI u2]),(7,[oI u3]),(9,[oI x23])],V := [],M := M11,ds := [],os := O13,ats := tiesOf [4,6,7,9] bs }) (ts:=[]) (hs:=[4,6,7,9]) (vs:=[]) (by kernel_rfl),rfl,rfl,(Mem.le_refl _),?_⟩
    show (fun (pre : List (Int)) (H : List (Nat × List Sg)) (V : List (Nat × Vc)) (M' : Mem) => ∃ (x7 : Int) (rest : List (Int)),pre ++ rest = v4 ∧ H = [(4,[oI u0_0,oS Au0_1 u0_1 cu0_1,oS Au0_2 u0_2 cu0_2,.arr .i64 6 u0_3]),(6,[oI u2]),(7,[oI u3]),(9,[oI x7])] ∧ V = [] ∧ Mem.le M6 M' ∧ p119_r1 k j10 u0_2 u2 u3 rest x7 = some r) (pr ++ [x9]) _ _ _
    exact ⟨x23,rest8,by rw [List.append_assoc]; exact hks,rfl,rfl,(Mem.le_trans (Mem.le_refl _) hM11),h⟩
   | false =>
    replace h := sp_f h
    refine CF ?_
    refine KG { σ := [(4,lO 4),(6,lO 6),(7,lO 7),(8,vi (0 : Int)),(9,lO 9),(22,.lf (.v (.func (.func 124) #[] (List.toArray lb5))))],H := [(4,[oI u0_0,oS Au0_1 u0_1 cu0_1,oS Au0_2 u0_2 cu0_2,.arr .i64 6 u0_3]),(6,[oI u2]),(7,[oI u3]),(9,[oI x7])],V := [],M := M11,ds := [],os := O13,ats := tiesOf [4,6,7,9] bs } ?_
    refine S0 (blockQ_n ?_)
    refine ⟨_,keep_sub (s':={ σ := [],H := [(4,[oI u0_0,oS Au0_1 u0_1 cu0_1,oS Au0_2 u0_2 cu0_2,.arr .i64 6 u0_3]),(6,[oI u2]),(7,[oI u3]),(9,[oI x7])],V := [],M := M11,ds := [],os := O13,ats := tiesOf [4,6,7,9] bs }) (ts:=[]) (hs:=[4,6,7,9]) (vs:=[]) (by kernel_rfl),rfl,rfl,(Mem.le_refl _),?_⟩
    show (fun (pre : List (Int)) (H : List (Nat × List Sg)) (V : List (Nat × Vc)) (M' : Mem) => ∃ (x7 : Int) (rest : List (Int)),pre ++ rest = v4 ∧ H = [(4,[oI u0_0,oS Au0_1 u0_1 cu0_1,oS Au0_2 u0_2 cu0_2,.arr .i64 6 u0_3]),(6,[oI u2]),(7,[oI u3]),(9,[oI x7])] ∧ V = [] ∧ Mem.le M6 M' ∧ p119_r1 k j10 u0_2 u2 u3 rest x7 = some r) (pr ++ [x9]) _ _ _
    exact ⟨x7,rest8,by rw [List.append_assoc]; exact hks,rfl,rfl,(Mem.le_trans (Mem.le_refl _) hM11),h⟩
 ·rintro D H V M11 ⟨x7,rest0,hks,rfl,rfl,hM11,h⟩
  have hre : rest0 = [] := by have := congrArg List.length hks;simp at this;exact this
  subst hre
  rw [p119_r1] at h
  subst e_j10
  refine blockQ_n (thenQ_n (SQ (RG ?_)))
  refine SG 2 { σ := [(8,vi x7)],H := [],V := [],M := M11,ds := [D] } ?_
  refine EN (RT ?_)
  obtain rfl := sj h
  refine fin_retD (vi x7) D (by kernel_rfl) (by kernel_rfl) rfl ?_
  rfl
 ·intro D c H V M' hI
  exact hI.elim
end Go.Proofs.Ythniebmammmacaa
namespace Go.Proofs.Ythniebmammmacaa
open Go.RowKit
def p118_l1 (k : Nat) (u1g0 : Int) (u1g1 : List (List Int)) (u1g2 : List WT) (u1g3 : List Int) (u2G : Int) (u3G : Int) : Nat → Int → Option (List (List Int))
 | 0,_ => none
 | n2 + 1,x1 => lt' (decide (x1 < (6 : Int))) fun b5 => sp b5 (gd ((0 : Int) ≤ x1 ∧ x1 < ((6 : Nat) : Int)) <| lt' (List.getD u1g3 (x1).toNat 0) fun x7 => cl (p119 k u1g0 u1g1 u1g2 u1g3 u2G u3G x1) fun v8 => lt' (decide (x7 > v8)) fun b9 => sp b9 (cl (lt' (wr .i64 (x1 + (1 : Int))) fun x11 => p118_l1 k u1g0 u1g1 u1g2 u1g3 u2G u3G n2 x11) fun r => some (([u3G,x1,v8,x7])::r)) (lt' (wr .i64 (x1 + (1 : Int))) fun x12 => p118_l1 k u1g0 u1g1 u1g2 u1g3 u2G u3G n2 x12)) (some [])
def p118 (k : Nat) (u1g0 : Int) (u1g1 : List (List Int)) (u1g2 : List WT) (u1g3 : List Int) (u2G : Int) (u3G : Int) : Option (List (List Int)) :=
 p118_l1 k u1g0 u1g1 u1g2 u1g3 u2G u3G k (0 : Int)
theorem hf118 : Try.prog.funcs[118]? = some Try.f118 := by kernel_rfl
theorem w118 (k : Nat) {M : Mem} {Au1g1 Au1g2 : Option Addr} {cu1g1 cu1g2 bu1 bu2 bu3 : Nat} {Hu1g2 : Nat → Option Addr} {Cu1g2 : Nat → Nat} {u1g0 u2G u3G : Int} {u1g1 : List (List Int)} {u1g2 : List WT} {u1g3 : List Int} (hu1g1 : SlR M Au1g1 cu1g1 .i64 12 u1g1) (hu1g2 : SlW M 3 Au1g2 cu1g2 Hu1g2 Cu1g2 u1g2) (hu1g3 : u1g3.length = 6) (hbu1 : MB M bu1 [oI u1g0,oS Au1g1 u1g1 cu1g1,oS Au1g2 u1g2 cu1g2,.arr .i64 6 u1g3]) (hbu2 : MB M bu2 [.one (.v (.int .u64 u2G))]) (hbu3 : MB M bu3 [oI u3G]) {ks} (h : p118 k u1g0 u1g1 u1g2 u1g3 u2G u3G = some ks) :
  IterE (enR 4) Try.prog 118 [(.pointer (some ⟨bu1,0,none⟩)),(.pointer (some ⟨bu2,0,none⟩)),(.pointer (some ⟨bu3,0,none⟩))] M ks := by
 unfold p118 at h
 refine IterE_of fun l J Jx W hyd hW h0 => ?_
 refine calls_TW (c:=bodyOf Try.f118) [.lf (.v (.func (.yield l) #[] #[])),lP bu1,lP bu2,lP bu3] hf118 (by kernel_rfl) (Nat.le_of_ble_eq_true (by kernel_rfl)) (by kernel_rfl) (by intro x hx; simp only [List.mem_cons,List.mem_nil_iff,or_false] at hx; rcases hx with rfl | rfl | rfl | rfl <;> trivial) hW ?_
 refine TW_pre (pre':=J M []) (by rintro w rfl;exact h0) ?_
 have hks : [] ++ ks = ks := rfl
 refine W_seq (c1:=(sub [0] Bd118)) (c2:=(sub [1] Bd118)) (by kernel_rfl) ?_
 refine TW_region (id:=0) (by kernel_rfl) ?_
 refine TWI_pure (y:=(8,.lf (.v (.pointer (some ⟨bu1,3,none⟩))))) (by kernel_rfl) ?_
 refine TWI_at (d:=9) (x:=.agg [.arr .i64 6 u1g3]) (fun w => (At_ldPR (d:=9) (b:=bu1) (off:=3) (m:=6) (c:=[.arr .i64 6 u1g3]) (by kernel_rfl) (by kernel_rfl) (sgCells_length ⟨hu1g3,trivial⟩) (cells_blk (m:=6) hbu1 ⟨rfl,⟨rfl,⟨rfl,⟨hu1g3,trivial⟩⟩⟩⟩ (by kernel_rfl) rfl))) (hyd.gr _ _) (by kernel_rfl) ⟨hu1g3,trivial⟩ ?_
 refine TWI_pure (y:=(10,vi (0 : Int))) (by kernel_rfl) ?_
 refine TWI_keep (σ':=[(0,.lf (.v (.func (.yield l) #[] #[]))),(1,lP bu1),(2,lP bu2),(3,lP bu3),(9,.agg [.arr .i64 6 u1g3]),(10,vi (0 : Int))]) [0,1,2,3,9,10] (by kernel_rfl) ?_
 refine WI_end (by kernel_rfl) ?_
 refine NQ_then ?_
 refine TW_block (id:=0) (c1:=(sub [1,0] Bd118)) (by kernel_rfl) ?_
 refine TW_keep (σ':=[(0,.lf (.v (.func (.yield l) #[] #[]))),(1,lP bu1),(2,lP bu2),(3,lP bu3),(9,.agg [.arr .i64 6 u1g3]),(10,vi (0 : Int))]) [0,1,2,3,9,10] (by kernel_rfl) ?_
 refine W_loop (γ:=(Int) × (List (List Int)) × (List (List Int))) (fun g => [(0,.lf (.v (.func (.yield l) #[] #[]))),(1,lP bu1),(2,lP bu2),(3,lP bu3),(9,.agg [.arr .i64 6 u1g3]),(10,vi g.1)]) (fun g => J M g.2.1) (fun n2 g => g.2.1 ++ g.2.2 = ks ∧ p118_l1 k u1g0 u1g1 u1g2 u1g3 u2G u3G n2 g.1 = some g.2.2) (c1:=(sub [1,0,0] Bd118)) (g0:=((0 : Int),[],ks)) (k:=k) (by kernel_rfl) rfl ⟨hks,h⟩ (fun w hw => hw) ?_
 rintro n2 ⟨x1,pr3,rest4⟩ ⟨hks,h⟩
 replace hks : pr3 ++ rest4 = ks := hks
 replace h : p118_l1 k u1g0 u1g1 u1g2 u1g3 u2G u3G n2 x1 = some rest4 := h
 change TW _ _ _ _ [(0,.lf (.v (.func (.yield l) #[] #[]))),(1,lP bu1),(2,lP bu2),(3,lP bu3),(9,.agg [.arr .i64 6 u1g3]),(10,vi x1)] (J M pr3) _
 cases n2 with
 | zero => rw [p118_l1] at h;cases h
 | succ n2 =>
  rw [p118_l1] at h
  refine W_seq (c1:=(sub [1,0,0,0] Bd118)) (c2:=(sub [1,0,0,1] Bd118)) (by kernel_rfl) ?_
  refine TW_region (id:=1) (by kernel_rfl) ?_
  obtain ⟨b5,e_b5,h⟩ := lt_some h
  refine TWI_pure (y:=(11,vb b5)) (by subst e_b5;kernel_rfl) ?_
  refine TWI_keep (σ':=[(0,.lf (.v (.func (.yield l) #[] #[]))),(1,lP bu1),(2,lP bu2),(3,lP bu3),(9,.agg [.arr .i64 6 u1g3]),(10,vi x1),(11,vb b5)]) [0,1,2,3,9,10,11] (by kernel_rfl) ?_
  refine WI_end (by kernel_rfl) ?_
  refine NQ_then ?_
  refine W_seq (c1:=(sub [1,0,0,1,0] Bd118)) (c2:=(sub [1,0,0,1,1] Bd118)) (by kernel_rfl) ?_
  cases b5 with
  | true =>
   replace h := sp_t h
   refine W_condT (x:=(.tmp 11)) (c1:=(sub [1,0,0,1,0,0] Bd118)) (c2:=(sub [1,0,0,1,0,1] Bd118)) (by kernel_rfl) (by kernel_rfl) ?_
   refine TW_keep (σ':=[(0,.lf (.v (.func (.yield l) #[] #[]))),(1,lP bu1),(2,lP bu2),(3,lP bu3),(9,.agg [.arr .i64 6 u1g3]),(10,vi x1)]) [0,1,2,3,9,10] (by kernel_rfl) ?_
   refine W_skip (by kernel_rfl) ?_
   refine NQ_then ?_
   refine W_seq (c1:=(sub [1,0,0,1,1,0] Bd118)) (c2:=(sub [1,0,0,1,1,1] Bd118)) (by kernel_rfl) ?_
   refine TW_block (id:=1) (c1:=(sub [1,0,0,1,1,0,0] Bd118)) (by kernel_rfl) ?_
   refine W_seq (c1:=(sub [1,0,0,1,1,0,0,0] Bd118)) (c2:=(sub [1,0,0,1,1,0,0,1] Bd118)) (by kernel_rfl) ?_
   refine TW_region (id:=2) (by kernel_rfl) ?_
   refine TWI_pure (y:=(12,vi x1)) (by kernel_rfl) ?_
   obtain ⟨g6,h⟩ := gd_some h
   obtain ⟨x7,e_x7,h⟩ := lt_some h
   refine TWI_at (d:=13) (x:=vi x7) (fun w => (by rw [e_x7]; exact At_index (d:=13) (z:=x1) (k:=.i64) (n:=6) (L:=u1g3) (by subst e_x7; kernel_rfl) hu1g3 g6)) (hyd.gr _ _) (by kernel_rfl) trivial ?_
   refine TWI_pure (y:=(5,vi x1)) (by kernel_rfl) ?_
   refine TWI_pure (y:=(6,vi x7)) (by kernel_rfl) ?_
   refine TWI_keep (σ':=[(0,.lf (.v (.func (.yield l) #[] #[]))),(1,lP bu1),(2,lP bu2),(3,lP bu3),(5,vi x1),(6,vi x7),(9,.agg [.arr .i64 6 u1g3]),(10,vi x1)]) [0,1,2,3,5,6,9,10] (by kernel_rfl) ?_
   refine WI_end (by kernel_rfl) ?_
   refine NQ_then ?_
   refine W_seq (c1:=(sub [1,0,0,1,1,0,0,1,0] Bd118)) (c2:=(sub [1,0,0,1,1,0,0,1,1] Bd118)) (by kernel_rfl) ?_
   refine TW_region (id:=3) (by kernel_rfl) ?_
   refine TWI_at (d:=14) (x:=.agg [oI u1g0,oS Au1g1 u1g1 cu1g1,oS Au1g2 u1g2 cu1g2,.arr .i64 6 u1g3]) (fun w => (At_ldPR (d:=14) (b:=bu1) (off:=0) (m:=9) (c:=[oI u1g0,oS Au1g1 u1g1 cu1g1,oS Au1g2 u1g2 cu1g2,.arr .i64 6 u1g3]) (by kernel_rfl) (by kernel_rfl) (sgCells_length ⟨rfl,⟨rfl,⟨rfl,⟨hu1g3,trivial⟩⟩⟩⟩) (cells_blk (m:=9) hbu1 ⟨rfl,⟨rfl,⟨rfl,⟨hu1g3,trivial⟩⟩⟩⟩ (by kernel_rfl) rfl))) (hyd.gr _ _) (by kernel_rfl) ⟨rfl,⟨rfl,⟨rfl,⟨hu1g3,trivial⟩⟩⟩⟩ ?_
   refine TWI_at (d:=15) (x:=.lf (.v (.int .u64 u2G))) (fun w => (At_ldP (d:=15) (b:=bu2) (off:=0) (m:=1) (v:=(.int .u64 u2G)) (by kernel_rfl) (cell_blk hbu2 ⟨rfl,trivial⟩ (by kernel_rfl)))) (hyd.gr _ _) (by kernel_rfl) trivial ?_
   refine TWI_at (d:=16) (x:=vi u3G) (fun w => (At_ldP (d:=16) (b:=bu3) (off:=0) (m:=1) (v:=(.int .i64 u3G)) (by kernel_rfl) (cell_blk hbu3 ⟨rfl,trivial⟩ (by kernel_rfl)))) (hyd.gr _ _) (by kernel_rfl) trivial ?_
   refine TWI_pure (y:=(17,vi x1)) (by kernel_rfl) ?_
   obtain ⟨v8,c_v8,h⟩ := cl_some h
   refine TWI_at (d:=18) (x:=vi v8) (fun w => (At_call (d:=18) (f:=119) (args:=[rval (.agg [oI u1g0,oS Au1g1 u1g1 cu1g1,oS Au1g2 u1g2 cu1g2,.arr .i64 6 u1g3]),rval (.lf (.v (.int .u64 u2G))),rval (vi u3G),rval (vi x1)]) (x:=vi v8) (by kernel_rfl) (w119 k hu1g1 hu1g2 hu1g3 c_v8))) (hyd.gr _ _) (by kernel_rfl) trivial ?_
   refine TWI_pure (y:=(7,vi v8)) (by kernel_rfl) ?_
   refine TWI_keep (σ':=[(0,.lf (.v (.func (.yield l) #[] #[]))),(1,lP bu1),(2,lP bu2),(3,lP bu3),(5,vi x1),(6,vi x7),(7,vi v8),(9,.agg [.arr .i64 6 u1g3]),(10,vi x1)]) [0,1,2,3,5,6,7,9,10] (by kernel_rfl) ?_
   refine WI_end (by kernel_rfl) ?_
   refine NQ_then ?_
   refine W_seq (c1:=(sub [1,0,0,1,1,0,0,1,1,0] Bd118)) (c2:=(sub [1,0,0,1,1,0,0,1,1,1] Bd118)) (by kernel_rfl) ?_
   refine TW_region (id:=4) (by kernel_rfl) ?_
   refine TWI_pure (y:=(19,vi x7)) (by kernel_rfl) ?_
   refine TWI_pure (y:=(20,vi v8)) (by kernel_rfl) ?_
   obtain ⟨b9,e_b9,h⟩ := lt_some h
   refine TWI_pure (y:=(21,vb b9)) (by subst e_b9;kernel_rfl) ?_
   refine TWI_pure (y:=(22,vb b9)) (by kernel_rfl) ?_
   cases b9 with
   | true =>
    replace h := sp_t h
    refine TWI_pure (y:=(23,.lf (.v (.func (.yield l) #[] #[])))) (by kernel_rfl) ?_
    refine TWI_at (d:=24) (x:=vi u3G) (fun w => (At_ldP (d:=24) (b:=bu3) (off:=0) (m:=1) (v:=(.int .i64 u3G)) (by kernel_rfl) (cell_blk hbu3 ⟨rfl,trivial⟩ (by kernel_rfl)))) (hyd.gr _ _) (by kernel_rfl) trivial ?_
    refine TWI_pure (y:=(25,vi x1)) (by kernel_rfl) ?_
    refine TWI_pure (y:=(26,vi v8)) (by kernel_rfl) ?_
    refine TWI_pure (y:=(27,vi x7)) (by kernel_rfl) ?_
    refine TWI_pure (y:=(28,.agg [.arr .i64 4 [u3G,x1,v8,x7]])) (by kernel_rfl) ?_
    obtain ⟨rest10,h,erest10⟩ := cons_some h
    rw [erest10] at hks
    replace hks := pre_step hks
    refine WI_yield hyd (d:=29) (l:=l) (pr:=pr3) (x:=([u3G,x1,v8,x7])) (by kernel_rfl) rfl ⟨_,hks⟩ (by kernel_rfl) ?_ ?_
    ·refine TWI_pure (y:=(30,vb false)) (by kernel_rfl) ?_
     refine TWI_pure (y:=(31,vb false)) (by kernel_rfl) ?_
     refine TWI_keep (σ':=[(0,.lf (.v (.func (.yield l) #[] #[]))),(1,lP bu1),(2,lP bu2),(3,lP bu3),(9,.agg [.arr .i64 6 u1g3]),(10,vi x1),(31,vb false)]) [0,1,2,3,9,10,31] (by kernel_rfl) ?_
     refine WI_end (by kernel_rfl) ?_
     refine NQ_then ?_
     refine W_condF (x:=(.tmp 31)) (c1:=(sub [1,0,0,1,1,0,0,1,1,1,0] Bd118)) (c2:=(sub [1,0,0,1,1,0,0,1,1,1,1] Bd118)) (by kernel_rfl) (by kernel_rfl) ?_
     refine TW_keep (σ':=[(0,.lf (.v (.func (.yield l) #[] #[]))),(1,lP bu1),(2,lP bu2),(3,lP bu3),(9,.agg [.arr .i64 6 u1g3]),(10,vi x1)]) [0,1,2,3,9,10] (by kernel_rfl) ?_
     refine W_skip (by kernel_rfl) ?_
     refine NQ_bn ?_
     refine NQ_then ?_
     refine TW_region (id:=5) (by kernel_rfl) ?_
     obtain ⟨x11,e_x11,h⟩ := lt_some h
     refine TWI_pure (y:=(32,vi x11)) (by subst e_x11;kernel_rfl) ?_
     refine TWI_pure (y:=(10,vi x11)) (by kernel_rfl) ?_
     refine TWI_keep (σ':=[(0,.lf (.v (.func (.yield l) #[] #[]))),(1,lP bu1),(2,lP bu2),(3,lP bu3),(9,.agg [.arr .i64 6 u1g3]),(10,vi x11)]) [0,1,2,3,9,10] (by kernel_rfl) ?_
     refine WI_end (by kernel_rfl) ?_
     refine NQ_loop n2 (x11,(pr3 ++ [[u3G,x1,v8,x7]]),rest10) (Nat.lt_succ_self _) rfl ⟨hks,h⟩ (fun w hw => hw)
    ·refine TWI_pure (y:=(30,vb true)) (by kernel_rfl) ?_
     refine TWI_pure (y:=(31,vb true)) (by kernel_rfl) ?_
     refine TWI_keep (σ':=[(0,.lf (.v (.func (.yield l) #[] #[]))),(1,lP bu1),(2,lP bu2),(3,lP bu3),(9,.agg [.arr .i64 6 u1g3]),(10,vi x1),(31,vb true)]) [0,1,2,3,9,10,31] (by kernel_rfl) ?_
     refine WI_end (by kernel_rfl) ?_
     refine NQ_then ?_
     refine W_condT (x:=(.tmp 31)) (c1:=(sub [1,0,0,1,1,0,0,1,1,1,0] Bd118)) (c2:=(sub [1,0,0,1,1,0,0,1,1,1,1] Bd118)) (by kernel_rfl) (by kernel_rfl) ?_
     refine W_ret (by kernel_rfl) ?_
     refine NQ_br ?_
     refine NQ_thenr ?_
     refine NQ_thenr ?_
     refine NQ_br ?_
     exact fun w hw => ⟨.inr rfl,.inr hw.1⟩
   | false =>
    replace h := sp_f h
    refine TWI_pure (y:=(23,.tup [])) (by kernel_rfl) ?_
    refine TWI_pure (y:=(24,.tup [])) (by kernel_rfl) ?_
    refine TWI_pure (y:=(25,.tup [])) (by kernel_rfl) ?_
    refine TWI_pure (y:=(26,.tup [])) (by kernel_rfl) ?_
    refine TWI_pure (y:=(27,.tup [])) (by kernel_rfl) ?_
    refine TWI_pure (y:=(28,.tup [])) (by kernel_rfl) ?_
    refine TWI_pure (y:=(29,.tup [])) (by kernel_rfl) ?_
    refine TWI_pure (y:=(30,.tup [])) (by kernel_rfl) ?_
    refine TWI_pure (y:=(31,vb false)) (by kernel_rfl) ?_
    refine TWI_keep (σ':=[(0,.lf (.v (.func (.yield l) #[] #[]))),(1,lP bu1),(2,lP bu2),(3,lP bu3),(9,.agg [.arr .i64 6 u1g3]),(10,vi x1),(31,vb false)]) [0,1,2,3,9,10,31] (by kernel_rfl) ?_
    refine WI_end (by kernel_rfl) ?_
    refine NQ_then ?_
    refine W_condF (x:=(.tmp 31)) (c1:=(sub [1,0,0,1,1,0,0,1,1,1,0] Bd118)) (c2:=(sub [1,0,0,1,1,0,0,1,1,1,1] Bd118)) (by kernel_rfl) (by kernel_rfl) ?_
    refine TW_keep (σ':=[(0,.lf (.v (.func (.yield l) #[] #[]))),(1,lP bu1),(2,lP bu2),(3,lP bu3),(9,.agg [.arr .i64 6 u1g3]),(10,vi x1)]) [0,1,2,3,9,10] (by kernel_rfl) ?_
    refine W_skip (by kernel_rfl) ?_
    refine NQ_bn ?_
    refine NQ_then ?_
    refine TW_region (id:=5) (by kernel_rfl) ?_
    obtain ⟨x12,e_x12,h⟩ := lt_some h
    refine TWI_pure (y:=(32,vi x12)) (by subst e_x12;kernel_rfl) ?_
    refine TWI_pure (y:=(10,vi x12)) (by kernel_rfl) ?_
    refine TWI_keep (σ':=[(0,.lf (.v (.func (.yield l) #[] #[]))),(1,lP bu1),(2,lP bu2),(3,lP bu3),(9,.agg [.arr .i64 6 u1g3]),(10,vi x12)]) [0,1,2,3,9,10] (by kernel_rfl) ?_
    refine WI_end (by kernel_rfl) ?_
    refine NQ_loop n2 (x12,pr3,rest4) (Nat.lt_succ_self _) rfl ⟨hks,h⟩ (fun w hw => hw)
  | false =>
   replace h := sp_f h
   refine W_condF (x:=(.tmp 11)) (c1:=(sub [1,0,0,1,0,0] Bd118)) (c2:=(sub [1,0,0,1,0,1] Bd118)) (by kernel_rfl) (by kernel_rfl) ?_
   refine TW_keep (σ':=[]) [] (by kernel_rfl) ?_
   refine W_exit (id:=0) (by kernel_rfl) ?_
   refine NQ_thenx ?_
   refine NQ_thenx ?_
   refine NQ_bx ?_
   have hn := Option.some.inj h
   exact fun w hw => ⟨.inl rfl,.inl ⟨M,(show pr3 = ks from by rw [← hks,← hn,List.append_nil]) ▸ hw⟩⟩
end Go.Proofs.Ythniebmammmacaa
namespace Go.Proofs.Ythniebmammmacaa
open Go.RowKit
def p71 (k : Nat) (u0_0 : Int) (u0_1 : List (List Int)) (u0_2 : List WT) (u0_3 : List Int) (u1 : Int) (u2 : Int) : Option (List (List Int)) :=
 cl (p118 k u0_0 u0_1 u0_2 u0_3 u1 u2) fun v8 => some v8
theorem hf71 : Try.prog.funcs[71]? = some Try.f71 := by kernel_rfl
theorem w71 (k : Nat) {M : Mem} {Au0_1 Au0_2 : Option Addr} {cu0_1 cu0_2 : Nat} {Hu0_2 : Nat → Option Addr} {Cu0_2 : Nat → Nat} {u0_0 u1 u2 : Int} {u0_1 : List (List Int)} {u0_2 : List WT} {u0_3 : List Int} (hu0_1 : SlR M Au0_1 cu0_1 .i64 12 u0_1) (hu0_2 : SlW M 3 Au0_2 cu0_2 Hu0_2 Cu0_2 u0_2) (hu0_3 : u0_3.length = 6) {r} (h : p71 k u0_0 u0_1 u0_2 u0_3 u1 u2 = some r) :
  Fn Try.prog 71 [rval (.agg [oI u0_0,oS Au0_1 u0_1 cu0_1,oS Au0_2 u0_2 cu0_2,.arr .i64 6 u0_3]),rval (.lf (.v (.int .u64 u1))),rval (vi u2)] M (fun x M' => ∃ (lb1 : List Value),x = .lf (.v (.func (.func 118) #[] (List.toArray lb1))) ∧ IterE (enR 4) Try.prog 118 lb1 M' r) := by
 unfold p71 at h
 refine FO [.agg [oI u0_0,oS Au0_1 u0_1 cu0_1,oS Au0_2 u0_2 cu0_2,.arr .i64 6 u0_3],.lf (.v (.int .u64 u1)),vi u2] hf71 ⟨⟨rfl,⟨rfl,⟨rfl,⟨hu0_3,trivial⟩⟩⟩⟩,⟨trivial,⟨trivial,trivial⟩⟩⟩ fun w => ?_
 refine SQ0 (RG ?_)
 refine SG 4 (S4 [(3,lO 3),(4,lO 4),(5,lO 5)] [(3,[oI u0_0,oS Au0_1 u0_1 cu0_1,oS Au0_2 u0_2 cu0_2,.arr .i64 6 u0_3]),(4,[.one (.v (.int .u64 u1))]),(5,[oI u2])] [] M) ?_
 refine EN ?_
 refine T_turn (turn_pubH 3 (c:=[oI u0_0,oS Au0_1 u0_1 cu0_1,oS Au0_2 u0_2 cu0_2,.arr .i64 6 u0_3]) (by kernel_rfl) (by kernel_rfl)) ?_
 rintro _ ⟨b2,M3,rfl,-,e_M3,-,hM3⟩
 have fb2 : MB M3 b2 [oI u0_0,oS Au0_1 u0_1 cu0_1,oS Au0_2 u0_2 cu0_2,.arr .i64 6 u0_3] := by rw [e_M3]; exact addM_at _ _ _
 refine KG (S4 [(3,lP b2),(4,lO 4),(5,lO 5)] [(4,[.one (.v (.int .u64 u1))]),(5,[oI u2])] [] M3) ?_
 refine T_turn (turn_pubH 4 (c:=[.one (.v (.int .u64 u1))]) (by kernel_rfl) (by kernel_rfl)) ?_
 rintro _ ⟨b4,M5,rfl,-,e_M5,-,hM5⟩
 have fb4 : MB M5 b4 [.one (.v (.int .u64 u1))] := by rw [e_M5]; exact addM_at _ _ _
 refine KG (S4 [(3,lP b2),(4,lP b4),(5,lO 5)] [(5,[oI u2])] [] M5) ?_
 refine T_turn (turn_pubH 5 (c:=[oI u2]) (by kernel_rfl) (by kernel_rfl)) ?_
 rintro _ ⟨b6,M7,rfl,-,e_M7,-,hM7⟩
 have fb6 : MB M7 b6 [oI u2] := by rw [e_M7]; exact addM_at _ _ _
 refine KG (S4 [(3,lP b2),(4,lP b4),(5,lP b6)] [] [] M7) ?_
 refine SQ (RG ?_)
 refine SS 2 [(6,.lf (.v (.func (.func 118) #[] #[(.pointer (some ⟨b2,0,none⟩)),(.pointer (some ⟨b4,0,none⟩)),(.pointer (some ⟨b6,0,none⟩))])))] ?_
 refine EN ?_
 obtain ⟨v8,c_v8,h⟩ := cl_some h
 refine RT ?_
 obtain rfl := sj h
 refine FT (.lf (.v (.func (.func 118) #[] (List.toArray [(.pointer (some ⟨b2,0,none⟩)),(.pointer (some ⟨b4,0,none⟩)),(.pointer (some ⟨b6,0,none⟩))])))) ?_
 exact ⟨[(.pointer (some ⟨b2,0,none⟩)),(.pointer (some ⟨b4,0,none⟩)),(.pointer (some ⟨b6,0,none⟩))],rfl,(w118 k (((hu0_1.le hM3).le hM5).le hM7) (((hu0_2.le hM3).le hM5).le hM7) hu0_3 (hM7 _ _ (hM5 _ _ fb2)) (hM7 _ _ fb4) fb6 c_v8)⟩
def p55_r1 (k : Nat) (j6 : Option Bool) (j7 : Option Bool) : List (List Int) → Option Bool
 | [] => j6
 | x5::rest4 => lt' (fixl 4 x5) fun L11 => j7
def p55 (k : Nat) (u0_0 : Int) (u0_1 : List (List Int)) (u0_2 : List WT) (u0_3 : List Int) (u1 : Int) (u2 : Int) : Option Bool :=
 cl (p71 k u0_0 u0_1 u0_2 u0_3 u1 u2) fun v1 => jn (some true) fun j6 => jn (some false) fun j7 => p55_r1 k j6 j7 v1
theorem hf55 : Try.prog.funcs[55]? = some Try.f55 := by kernel_rfl
theorem w55 (k : Nat) {M : Mem} {Au0_1 Au0_2 : Option Addr} {cu0_1 cu0_2 : Nat} {Hu0_2 : Nat → Option Addr} {Cu0_2 : Nat → Nat} {u0_0 u1 u2 : Int} {u0_1 : List (List Int)} {u0_2 : List WT} {u0_3 : List Int} (hu0_1 : SlR M Au0_1 cu0_1 .i64 12 u0_1) (hu0_2 : SlW M 3 Au0_2 cu0_2 Hu0_2 Cu0_2 u0_2) (hu0_3 : u0_3.length = 6) {r} (h : p55 k u0_0 u0_1 u0_2 u0_3 u1 u2 = some r) :
  Fn Try.prog 55 [rval (.agg [oI u0_0,oS Au0_1 u0_1 cu0_1,oS Au0_2 u0_2 cu0_2,.arr .i64 6 u0_3]),rval (.lf (.v (.int .u64 u1))),rval (vi u2)] M (fun x _ => x = vb r) := by
 unfold p55 at h
 refine FO [.agg [oI u0_0,oS Au0_1 u0_1 cu0_1,oS Au0_2 u0_2 cu0_2,.arr .i64 6 u0_3],.lf (.v (.int .u64 u1)),vi u2] hf55 ⟨⟨rfl,⟨rfl,⟨rfl,⟨hu0_3,trivial⟩⟩⟩⟩,⟨trivial,⟨trivial,trivial⟩⟩⟩ fun w => ?_
 refine SQ0 (RG ?_)
 refine SG 2 (S4 [(1,.lf (.v (.int .u64 u1))),(2,vi u2),(3,lO 3),(6,lO 6)] [(3,[oI u0_0,oS Au0_1 u0_1 cu0_1,oS Au0_2 u0_2 cu0_2,.arr .i64 6 u0_3]),(6,[.one (.v (.bool false))])] [] M) ?_
 refine EN (SQ (SQ (RG ?_)))
 refine SH 3 [(6,lO 6),(7,.agg [oI u0_0,oS Au0_1 u0_1 cu0_1,oS Au0_2 u0_2 cu0_2,.arr .i64 6 u0_3]),(8,.lf (.v (.int .u64 u1))),(9,vi u2)] [(6,[.one (.v (.bool false))])] ?_
 obtain ⟨v1,c_v1,h⟩ := cl_some h
 refine TI_of (i:=3) (by kernel_rfl) (TE_callR (d:=10) (f:=71) (args:=[rval (.agg [oI u0_0,oS Au0_1 u0_1 cu0_1,oS Au0_2 u0_2 cu0_2,.arr .i64 6 u0_3]),rval (.lf (.v (.int .u64 u1))),rval (vi u2)]) (by kernel_rfl) (by kernel_rfl) (w71 k hu0_1 hu0_2 hu0_3 c_v1) ?_)
 rintro _ M3 _ hM3 _ ⟨lb2,rfl,flb2⟩
 refine SG 4 (S4 [(6,lO 6),(10,.lf (.v (.func (.func 118) #[] (List.toArray lb2))))] [(6,[.one (.v (.bool false))])] [] M3) ?_
 refine EN (BK 0 ?_)
 refine KS [(6,lO 6),(10,.lf (.v (.func (.func 118) #[] (List.toArray lb2))))] ?_
 obtain ⟨j6,e_j6,h⟩ := jn_some h
 obtain ⟨j7,e_j7,h⟩ := jn_some h
 refine T_rangeE (enR 4) (p:=11) (g:=10) (gf:=118) (lb:=lb2) (ks:=v1) [6] (assign:=(sub [1,0,1,0,0] Bd55)) (body:=(sub [1,0,1,0,1] Bd55)) (by kernel_rfl) rfl (by kernel_rfl) (by kernel_rfl) (by kernel_rfl) flb2 (enR_ok 4 _) (by kernel_rfl) (by kernel_rfl) (fun (pre : List (List Int)) (H : List (Nat × List Sg)) (V : List (Nat × Vc)) (M' : Mem) => ∃ (rest : List (List Int)),pre ++ rest = v1 ∧ H = [(6,[.one (.v (.bool false))])] ∧ V = [] ∧ Mem.le M3 M' ∧ p55_r1 k j6 j7 rest = some r) (fun (c : Code) (H : List (Nat × List Sg)) (V : List (Nat × Vc)) (M' : Mem) => c = .ret ∧ H = [(6,[.one (.v (.bool false))])] ∧ V = [] ∧ Mem.le M3 M' ∧ j7 = some r) ⟨v1,List.nil_append _,rfl,rfl,(Mem.le_refl _),h⟩ ?_ ?_ ?_ ?_
 ·rintro pre H V M' M'' ⟨rest,hks,e1,e2,hM,h⟩ hMM
  exact ⟨rest,hks,e1,e2,(Mem.le_trans hM hMM),h⟩
 ·rintro l O9 bs pr x5 H V M8 ⟨rest4,hrr⟩ ⟨rest0,hks,rfl,rfl,hM8,h⟩
  have hre : rest0 = x5::rest4 := List.append_cancel_left (hks.trans (by rw [← hrr,List.append_assoc]; rfl))
  subst hre
  rw [p55_r1] at h
  obtain ⟨L11,e_L11,h⟩ := lt_some h
  have l_L11 : (L11).length = 4 := by rw [e_L11]; exact fixl_len _ _
  have e2_L11 : (enR 4) x5 = .agg [.arr .i64 4 L11] := by rw [e_L11]; rfl
  rw [e2_L11]
  refine S0 ?_
  refine ⟨rfl,rfl,rfl,fun O10 => ?_⟩
  refine BK 1 (SQ (RG ?_))
  refine SG 1 { σ := [(6,lO 6),(10,.lf (.v (.func (.func 118) #[] (List.toArray lb2))))],H := [(6,[.one (.v (.bool false))])],V := [],M := M8,ds := [],os := O10,ats := tiesOf [6] bs } ?_
  refine EN (RT (blockQ_r ?_))
  refine ⟨_,keep_sub (s':={ σ := [],H := [(6,[.one (.v (.bool false))])],V := [],M := M8,ds := [],os := O10,ats := tiesOf [6] bs }) (ts:=[]) (hs:=[6]) (vs:=[]) (by kernel_rfl),rfl,rfl,(Mem.le_refl _),?_⟩
  show (fun (c : Code) (H : List (Nat × List Sg)) (V : List (Nat × Vc)) (M' : Mem) => c = .ret ∧ H = [(6,[.one (.v (.bool false))])] ∧ V = [] ∧ Mem.le M3 M' ∧ j7 = some r) .ret _ _ _
  exact ⟨rfl,rfl,rfl,(Mem.le_trans (Mem.le_refl _) hM8),h⟩
 ·rintro D H V M8 ⟨rest0,hks,rfl,rfl,hM8,h⟩
  have hre : rest0 = [] := by have := congrArg List.length hks;simp at this;exact this
  subst hre
  rw [p55_r1] at h
  subst e_j6
  refine blockQ_n (thenQ_n (SQ (RG ?_)))
  refine SG 1 { σ := [(6,lO 6)],H := [(6,[.one (.v (.bool true))])],V := [],M := M8,ds := [D] } ?_
  refine EN (RT ?_)
  obtain rfl := sj h
  refine fin_retD (vb true) D (by kernel_rfl) (by kernel_rfl) rfl ?_
  rfl
 ·rintro D c H V M8 ⟨rfl,rfl,rfl,hM8,h⟩
  subst e_j7
  refine T_ret rfl ?_
  refine blockQ_r (thenQ_r ?_)
  obtain rfl := sj h
  refine fin_retD (vb false) D (by kernel_rfl) (by kernel_rfl) rfl ?_
  rfl
end Go.Proofs.Ythniebmammmacaa
namespace Go.Proofs.Ythniebmammmacaa
open Go.RowKit
def p122 (k : Nat) (u0 : Int) (u1g0 : Int) (u1g1 : List (List Int)) (u1g2 : List WT) (u1g3 : List Int) (u2G : Int) : Option Int :=
 cl (p55 k u1g0 u1g1 u1g2 u1g3 u2G u0) fun v1 => sp v1 (gd ((0 : Int) ≤ u0 ∧ u0 < (u1g1.length : Int)) <| lt' (List.getD (List.getD u1g1 ((u0).toNat) []) 2 0) fun x3 => some x3) (some (-1 : Int))
theorem hf122 : Try.prog.funcs[122]? = some Try.f122 := by kernel_rfl
theorem w122 (k : Nat) {M : Mem} {Au1g1 Au1g2 : Option Addr} {cu1g1 cu1g2 bu1 bu2 : Nat} {Hu1g2 : Nat → Option Addr} {Cu1g2 : Nat → Nat} {u0 u1g0 u2G : Int} {u1g1 : List (List Int)} {u1g2 : List WT} {u1g3 : List Int} (hu1g1 : SlR M Au1g1 cu1g1 .i64 12 u1g1) (hu1g2 : SlW M 3 Au1g2 cu1g2 Hu1g2 Cu1g2 u1g2) (hu1g3 : u1g3.length = 6) (hbu1 : MB M bu1 [oI u1g0,oS Au1g1 u1g1 cu1g1,oS Au1g2 u1g2 cu1g2,.arr .i64 6 u1g3]) (hbu2 : MB M bu2 [.one (.v (.int .u64 u2G))]) {r} (h : p122 k u0 u1g0 u1g1 u1g2 u1g3 u2G = some r) :
  Fn Try.prog 122 [rval (vi u0),rval (lP bu1),rval (lP bu2)] M (fun x _ => x = vi r) := by
 unfold p122 at h
 refine FO [vi u0,lP bu1,lP bu2] hf122 ⟨trivial,⟨trivial,⟨trivial,trivial⟩⟩⟩ fun w => ?_
 refine SQ0 (RG ?_)
 refine SG 1 (S4 [(0,vi u0),(1,lP bu1),(2,lP bu2)] [] [] M) ?_
 refine EN (SQ (SQ (RG ?_)))
 refine AT 5 (.agg [oI u1g0,oS Au1g1 u1g1 cu1g1,oS Au1g2 u1g2 cu1g2,.arr .i64 6 u1g3]) (At_ldPR (b:=bu1) (off:=0) (m:=9) (c:=[oI u1g0,oS Au1g1 u1g1 cu1g1,oS Au1g2 u1g2 cu1g2,.arr .i64 6 u1g3]) (by kernel_rfl) (by kernel_rfl) (sgCells_length ⟨rfl,⟨rfl,⟨rfl,⟨hu1g3,trivial⟩⟩⟩⟩) (cells_blk (m:=9) hbu1 ⟨rfl,⟨rfl,⟨rfl,⟨hu1g3,trivial⟩⟩⟩⟩ (by kernel_rfl) rfl)) ?_ (hx:=⟨rfl,⟨rfl,⟨rfl,⟨hu1g3,trivial⟩⟩⟩⟩)
 refine AT 6 (.lf (.v (.int .u64 u2G))) (At_ldP (b:=bu2) (off:=0) (m:=1) (v:=(.int .u64 u2G)) (by kernel_rfl) (cell_blk hbu2 ⟨rfl,trivial⟩ (by kernel_rfl))) ?_
 refine SH 3 [(0,vi u0),(1,lP bu1),(5,.agg [oI u1g0,oS Au1g1 u1g1 cu1g1,oS Au1g2 u1g2 cu1g2,.arr .i64 6 u1g3]),(6,.lf (.v (.int .u64 u2G))),(7,vi u0)] [] ?_
 obtain ⟨v1,c_v1,h⟩ := cl_some h
 refine AC 8 (vb v1) (w55 k hu1g1 hu1g2 hu1g3 c_v1) ?_
 refine SH 5 [(0,vi u0),(1,lP bu1),(9,vb (!v1))] [] ?_
 refine EN ?_
 cases v1 with
 | true =>
  replace h := sp_t h
  refine CF ?_
  refine KS [(0,vi u0),(1,lP bu1)] ?_
  refine SN (SQ (RG ?_))
  refine SS 2 [(0,vi u0),(11,.lf (.v (.pointer (some ⟨bu1,1,none⟩))))] ?_
  refine AT 12 (lS Au1g1 u1g1 cu1g1) (At_ldP (b:=bu1) (off:=1) (m:=1) (v:=(.slice Au1g1 (u1g1.length) cu1g1)) (by kernel_rfl) (cell_blk hbu1 ⟨rfl,⟨rfl,⟨rfl,⟨hu1g3,trivial⟩⟩⟩⟩ (by kernel_rfl))) ?_
  refine SH 4 [(12,lS Au1g1 u1g1 cu1g1),(13,vi u0)] [] ?_
  obtain ⟨g2,h⟩ := gd_some h
  refine AT 14 (.lf (.ep (.slice Au1g1 (u1g1.length) cu1g1) 12 ((u0).toNat) 0)) (At_idxR (z:=u0) (by kernel_rfl) g2 hu1g1) ?_
  refine SH 6 [(15,.lf (.ep (.slice Au1g1 (u1g1.length) cu1g1) 12 ((u0).toNat) 2))] [] ?_
  obtain ⟨x3,e_x3,h⟩ := lt_some h
  refine AT 16 (vi x3) (by rw [e_x3]; exact At_ldR1 (q:=(u0).toNat) (j:=2) (by subst e_x3; kernel_rfl) rfl (toNat_lt g2) hu1g1) ?_
  refine SH 8 [(4,vi x3)] [] ?_
  refine EN (RT ?_)
  obtain rfl := sj h
  exact FT (vi x3) rfl
 | false =>
  replace h := sp_f h
  refine CT ?_
  refine KS [] ?_
  refine SQ (RG ?_)
  refine SS 1 [(4,vi (-1 : Int))] ?_
  refine EN (RT (thenQ_r ?_))
  obtain rfl := sj h
  exact FT (vi (-1 : Int)) rfl
def p76 (k : Nat) (u0_0 : Int) (u0_1 : List (List Int)) (u0_2 : List WT) (u0_3 : List Int) (u1 : Int) : Option Unit :=
 some ()
theorem hf76 : Try.prog.funcs[76]? = some Try.f76 := by kernel_rfl
theorem w76 (k : Nat) {M : Mem} {Au0_1 Au0_2 : Option Addr} {cu0_1 cu0_2 : Nat} {Hu0_2 : Nat → Option Addr} {Cu0_2 : Nat → Nat} {u0_0 u1 : Int} {u0_1 : List (List Int)} {u0_2 : List WT} {u0_3 : List Int} (hu0_1 : SlR M Au0_1 cu0_1 .i64 12 u0_1) (hu0_2 : SlW M 3 Au0_2 cu0_2 Hu0_2 Cu0_2 u0_2) (hu0_3 : u0_3.length = 6) {r} (h : p76 k u0_0 u0_1 u0_2 u0_3 u1 = some r) :
  Fn Try.prog 76 [rval (.agg [oI u0_0,oS Au0_1 u0_1 cu0_1,oS Au0_2 u0_2 cu0_2,.arr .i64 6 u0_3]),rval (.lf (.v (.int .u64 u1)))] M (fun x M' => ∃ (b1 : Nat) (b2 : Nat),x = .lf (.v (.func (.func 122) #[] #[(.pointer (some ⟨b1,0,none⟩)),(.pointer (some ⟨b2,0,none⟩))])) ∧ MB M' b1 [oI u0_0,oS Au0_1 u0_1 cu0_1,oS Au0_2 u0_2 cu0_2,.arr .i64 6 u0_3] ∧ MB M' b2 [.one (.v (.int .u64 u1))]) := by
 unfold p76 at h
 refine FO [.agg [oI u0_0,oS Au0_1 u0_1 cu0_1,oS Au0_2 u0_2 cu0_2,.arr .i64 6 u0_3],.lf (.v (.int .u64 u1))] hf76 ⟨⟨rfl,⟨rfl,⟨rfl,⟨hu0_3,trivial⟩⟩⟩⟩,⟨trivial,trivial⟩⟩ fun w => ?_
 refine SQ0 (RG ?_)
 refine SG 3 (S4 [(2,lO 2),(3,lO 3)] [(2,[oI u0_0,oS Au0_1 u0_1 cu0_1,oS Au0_2 u0_2 cu0_2,.arr .i64 6 u0_3]),(3,[.one (.v (.int .u64 u1))])] [] M) ?_
 refine EN ?_
 refine T_turn (turn_pubH 2 (c:=[oI u0_0,oS Au0_1 u0_1 cu0_1,oS Au0_2 u0_2 cu0_2,.arr .i64 6 u0_3]) (by kernel_rfl) (by kernel_rfl)) ?_
 rintro _ ⟨b3,M4,rfl,-,e_M4,-,hM4⟩
 have fb3 : MB M4 b3 [oI u0_0,oS Au0_1 u0_1 cu0_1,oS Au0_2 u0_2 cu0_2,.arr .i64 6 u0_3] := by rw [e_M4]; exact addM_at _ _ _
 refine KG (S4 [(2,lP b3),(3,lO 3)] [(3,[.one (.v (.int .u64 u1))])] [] M4) ?_
 refine T_turn (turn_pubH 3 (c:=[.one (.v (.int .u64 u1))]) (by kernel_rfl) (by kernel_rfl)) ?_
 rintro _ ⟨b5,M6,rfl,-,e_M6,-,hM6⟩
 have fb5 : MB M6 b5 [.one (.v (.int .u64 u1))] := by rw [e_M6]; exact addM_at _ _ _
 refine KG (S4 [(2,lP b3),(3,lP b5)] [] [] M6) ?_
 refine SQ (RG ?_)
 refine SS 2 [(4,.lf (.v (.func (.func 122) #[] #[(.pointer (some ⟨b3,0,none⟩)),(.pointer (some ⟨b5,0,none⟩))])))] ?_
 refine EN (RT ?_)
 obtain rfl := sj h
 refine FT (.lf (.v (.func (.func 122) #[] #[(.pointer (some ⟨b3,0,none⟩)),(.pointer (some ⟨b5,0,none⟩))]))) ?_
 exact ⟨b3,b5,rfl,(hM6 _ _ fb3),fb5⟩
end Go.Proofs.Ythniebmammmacaa
namespace Go.Proofs.Ythniebmammmacaa
open Go.RowKit
def p75a_l1 (k : Nat) (j6 : List Int → Option (List Int)) (W4 : List Int) : Nat → Int → List Int → Option (List Int)
 | 0,_,_ => none
 | n9 + 1,x7,L8 => lt' (decide (x7 < (W4.length : Int))) fun b10 => sp b10 (gd ((0 : Int) ≤ x7 ∧ x7 < (L8.length : Int)) <| lt' (List.set L8 ((x7).toNat) (1125899906842624 : Int)) fun L12 => lt' (wr .i64 (x7 + (1 : Int))) fun x13 => p75a_l1 k j6 W4 n9 x13 L12) (j6 L8)
def p75a_l2 (k : Nat) (u3y0 : Int) (u3y1 : List (List Int)) (u3y2 : List WT) (u3y3 : List Int) (u3Z : Int) (j19 : List Int → Option (List Int)) (W17 : List Int) : Nat → Int → List Int → Option (List Int)
 | 0,_,_ => none
 | n22 + 1,x20,L21 => lt' (decide (x20 < (W17.length : Int))) fun b23 => sp b23 (cl (p122 k x20 u3y0 u3y1 u3y2 u3y3 u3Z) fun v24 => gd ((0 : Int) ≤ x20 ∧ x20 < (L21.length : Int)) <| lt' (List.set L21 ((x20).toNat) v24) fun L26 => lt' (wr .i64 (x20 + (1 : Int))) fun x27 => p75a_l2 k u3y0 u3y1 u3y2 u3y3 u3Z j19 W17 n22 x27 L26) (j19 L21)
def p75a_l4 (k : Nat) (u0_1 : List (List Int)) (L18 : List Int) (j37 : Bool → Bool → List Int → Option (List Int)) : Nat → Bool → Bool → Int → List Int → Option (List Int)
 | 0,_,_,_,_ => none
 | n42 + 1,b38,b39,x40,L41 => lt' (decide (x40 < (u0_1.length : Int))) fun b43 => sp b43 (jn (fun (b44 : Bool) (b45 : Bool) (L46 : List Int) => lt' (wr .i64 (x40 + (1 : Int))) fun x78 => p75a_l4 k u0_1 L18 j37 n42 b44 b45 x78 L46) fun j47 => jn (fun (b48 : Bool) (b49 : Bool) (L50 : List Int) => j47 b48 b49 L50) fun j51 => gd ((0 : Int) ≤ x40 ∧ x40 < (u0_1.length : Int)) <| lt' (List.getD u0_1 ((x40).toNat) []) fun L53 => gd ((0 : Int) ≤ x40 ∧ x40 < (L18.length : Int)) <| lt' (List.getD L18 ((x40).toNat) 0) fun x55 => lt' (decide (x55 < (0 : Int))) fun b56 => sp b56 (j51 b38 b39 L41) (lt' (List.getD L53 0 0) fun x57 => lt' (List.getD L53 1 0) fun x58 => jn (fun (b59 : Bool) (x60 : Int) (x61 : Int) => gd ((0 : Int) ≤ x60 ∧ x60 < (L41.length : Int)) <| lt' (List.getD L41 ((x60).toNat) 0) fun x64 => gd ((0 : Int) ≤ x40 ∧ x40 < (L18.length : Int)) <| lt' (List.getD L18 ((x40).toNat) 0) fun x66 => lt' (wr .i64 (x64 + x66)) fun x67 => jn (fun (b68 : Bool) => sp b68 (gd ((0 : Int) ≤ x61 ∧ x61 < (L41.length : Int)) <| lt' (List.set L41 ((x61).toNat) x67) fun L77 => j51 b59 true L77) (j51 b59 b39 L41)) fun j69 => gd ((0 : Int) ≤ x60 ∧ x60 < (L41.length : Int)) <| lt' (List.getD L41 ((x60).toNat) 0) fun x71 => lt' (decide (x71 < (1125899906842624 : Int))) fun b72 => sp b72 (gd ((0 : Int) ≤ x61 ∧ x61 < (L41.length : Int)) <| lt' (List.getD L41 ((x61).toNat) 0) fun x74 => lt' (decide (x67 < x74)) fun b75 => j69 b75) (j69 false)) fun j62 => sp b38 (j62 true x58 x57) (j62 false x57 x58))) (j37 b38 b39 L41)
def p75a_l3 (k : Nat) (u0_1 : List (List Int)) (L18 : List Int) (j29 : List Int → Option (List Int)) : Nat → Bool → Bool → List Int → Option (List Int)
 | 0,_,_,_ => none
 | n33 + 1,b30,b31,L32 => sp b31 (jn (fun (b34 : Bool) (b35 : Bool) (L36 : List Int) => p75a_l3 k u0_1 L18 j29 n33 b34 b35 L36) fun j37 => p75a_l4 k u0_1 L18 j37 k b30 false (0 : Int) L32) (j29 L32)
def p75a (k : Nat) (u0_0 : Int) (u0_1 : List (List Int)) (u0_2 : List WT) (u0_3 : List Int) (u1 : Int) (u2 : Bool) (u3y0 : Int) (u3y1 : List (List Int)) (u3y2 : List WT) (u3y3 : List Int) (u3Z : Int) : Option (List Int) :=
 gd ((0 : Int) ≤ u0_0 ∧ 8 * (u0_0).toNat ≤ 281474976710656) <| lt' (List.replicate (u0_0).toNat (0 : Int)) fun W4 => jn (fun (L5 : List Int) => gd ((0 : Int) ≤ u1 ∧ u1 < (L5.length : Int)) <| lt' (List.set L5 ((u1).toNat) (0 : Int)) fun L15 => gd ((0 : Int) ≤ (u0_1.length : Int) ∧ 8 * ((u0_1.length : Int)).toNat ≤ 281474976710656) <| lt' (List.replicate ((u0_1.length : Int)).toNat (0 : Int)) fun W17 => jn (fun (L18 : List Int) => jn (fun (L28 : List Int) => some L28) fun j29 => p75a_l3 k u0_1 L18 j29 k u2 true L15) fun j19 => p75a_l2 k u3y0 u3y1 u3y2 u3y3 u3Z j19 W17 k (0 : Int) W17) fun j6 => p75a_l1 k j6 W4 k (0 : Int) W4
theorem hf75a : Try.prog.funcs[75]? = some Try.f75 := by kernel_rfl
theorem w75a (k : Nat) {M : Mem} {Au0_1 Au0_2 Au3y1 Au3y2 : Option Addr} {cu0_1 cu0_2 cu3y1 cu3y2 bu3C bu3D : Nat} {Hu0_2 Hu3y2 : Nat → Option Addr} {Cu0_2 Cu3y2 : Nat → Nat} {u0_0 u1 u3y0 u3Z : Int} {u0_1 u3y1 : List (List Int)} {u0_2 u3y2 : List WT} {u0_3 u3y3 : List Int} {u2 : Bool} (hu0_1 : SlR M Au0_1 cu0_1 .i64 12 u0_1) (hu0_2 : SlW M 3 Au0_2 cu0_2 Hu0_2 Cu0_2 u0_2) (hu0_3 : u0_3.length = 6) (hu3y1 : SlR M Au3y1 cu3y1 .i64 12 u3y1) (hu3y2 : SlW M 3 Au3y2 cu3y2 Hu3y2 Cu3y2 u3y2) (hu3y3 : u3y3.length = 6) (hbu3C : MB M bu3C [oI u3y0,oS Au3y1 u3y1 cu3y1,oS Au3y2 u3y2 cu3y2,.arr .i64 6 u3y3]) (hbu3D : MB M bu3D [.one (.v (.int .u64 u3Z))]) {r} (h : p75a k u0_0 u0_1 u0_2 u0_3 u1 u2 u3y0 u3y1 u3y2 u3y3 u3Z = some r) :
  Fn Try.prog 75 [rval (.agg [oI u0_0,oS Au0_1 u0_1 cu0_1,oS Au0_2 u0_2 cu0_2,.arr .i64 6 u0_3]),rval (vi u1),rval (vb u2),rval (.lf (.v (.func (.func 122) #[] #[(.pointer (some ⟨bu3C,0,none⟩)),(.pointer (some ⟨bu3D,0,none⟩))])))] M (fun x M' => ∃ (A1 : Option Addr) (c2 : Nat),x = lS A1 r c2 ∧ SlI M' A1 c2 .i64 r) := by
 unfold p75a at h
 refine FO [.agg [oI u0_0,oS Au0_1 u0_1 cu0_1,oS Au0_2 u0_2 cu0_2,.arr .i64 6 u0_3],vi u1,vb u2,.lf (.v (.func (.func 122) #[] #[(.pointer (some ⟨bu3C,0,none⟩)),(.pointer (some ⟨bu3D,0,none⟩))]))] hf75a ⟨⟨rfl,⟨rfl,⟨rfl,⟨hu0_3,trivial⟩⟩⟩⟩,⟨trivial,⟨trivial,⟨trivial,trivial⟩⟩⟩⟩ fun w => ?_
 refine SQ0 (RG ?_)
 refine SG 2 (S4 [(1,vi u1),(2,vb u2),(3,.lf (.v (.func (.func 122) #[] #[(.pointer (some ⟨bu3C,0,none⟩)),(.pointer (some ⟨bu3D,0,none⟩))]))),(4,lO 4)] [(4,[oI u0_0,oS Au0_1 u0_1 cu0_1,oS Au0_2 u0_2 cu0_2,.arr .i64 6 u0_3])] [] M) ?_
 refine EN (SQ (RG ?_))
 refine SS 3 [(1,vi u1),(2,vb u2),(3,.lf (.v (.func (.func 122) #[] #[(.pointer (some ⟨bu3C,0,none⟩)),(.pointer (some ⟨bu3D,0,none⟩))]))),(4,lO 4),(21,vi u0_0)] ?_
 obtain ⟨g3,h⟩ := gd_some h
 obtain ⟨W4,e_W4,h⟩ := lt_some h
 refine TI_of (i:=3) (by kernel_rfl) (TE_makeC (len2:=List.length W4) (d:=22) (e:=2) (sz:=1) (bytes:=8) (zs:=[.int .i64 0]) (cs:=ints .i64 W4) (z:=u0_0) (by subst e_W4;kernel_rfl) (by kernel_rfl) g3.1 g3.2 rfl (rep_ints' e_W4) (by rw [e_W4,List.length_replicate]) ?_)
 refine SG 5 (S4 [(1,vi u1),(2,vb u2),(3,.lf (.v (.func (.func 122) #[] #[(.pointer (some ⟨bu3C,0,none⟩)),(.pointer (some ⟨bu3D,0,none⟩))]))),(4,lO 4),(9,lV 22)] [(4,[oI u0_0,oS Au0_1 u0_1 cu0_1,oS Au0_2 u0_2 cu0_2,.arr .i64 6 u0_3])] [(22,vI 2 1 W4)] M) ?_
 refine EN (SQ (SQ (RG ?_)))
 refine SS 3 [(1,vi u1),(2,vb u2),(3,.lf (.v (.func (.func 122) #[] #[(.pointer (some ⟨bu3C,0,none⟩)),(.pointer (some ⟨bu3D,0,none⟩))]))),(4,lO 4),(9,lV 22),(24,vi (W4.length : Int)),(25,vi (0 : Int))] ?_
 refine EN ?_
 obtain ⟨j6,e_j6,h⟩ := jn_some h
 refine T_bcut (id:=0) (c1:=(sub [1,1,0,1,0] Bd75)) (fun s' => ∃ (L5 : List Int),Sub { σ := [(1,vi u1),(2,vb u2),(3,.lf (.v (.func (.func 122) #[] #[(.pointer (some ⟨bu3C,0,none⟩)),(.pointer (some ⟨bu3D,0,none⟩))]))),(4,lO 4),(9,lV 22)],H := [(4,[oI u0_0,oS Au0_1 u0_1 cu0_1,oS Au0_2 u0_2 cu0_2,.arr .i64 6 u0_3])],V := [(22,vI 2 1 L5)],M := M,ds := [] } s' ∧ j6 L5 = some r) (by kernel_rfl) ?_ ?_
 ·refine T_loop (c1:=(sub [1,1,0,1,0,0] Bd75)) (by kernel_rfl) (fun n9 s' => ∃ (x7 : Int) (L8 : List Int),Sub { σ := [(1,vi u1),(2,vb u2),(3,.lf (.v (.func (.func 122) #[] #[(.pointer (some ⟨bu3C,0,none⟩)),(.pointer (some ⟨bu3D,0,none⟩))]))),(4,lO 4),(9,lV 22),(24,vi (W4.length : Int)),(25,vi x7)],H := [(4,[oI u0_0,oS Au0_1 u0_1 cu0_1,oS Au0_2 u0_2 cu0_2,.arr .i64 6 u0_3])],V := [(22,vI 2 1 L8)],M := M,ds := [] } s' ∧ p75a_l1 k j6 W4 n9 x7 L8 = some r) (k:=k) ⟨(0 : Int),W4,keep_sub (ts:=[1,2,3,4,9,24,25]) (hs:=[4]) (vs:=[22]) (by kernel_rfl),h⟩ ?_
  rintro n9 s' ⟨x7,L8,hsub,h⟩
  cases n9 with
  | zero => rw [p75a_l1] at h;cases h
  | succ n9 =>
   rw [p75a_l1] at h
   refine T_sub hsub ?_
   refine SQ (RG ?_)
   obtain ⟨b10,e_b10,h⟩ := lt_some h
   refine SG 1 (S4 [(1,vi u1),(2,vb u2),(3,.lf (.v (.func (.func 122) #[] #[(.pointer (some ⟨bu3C,0,none⟩)),(.pointer (some ⟨bu3D,0,none⟩))]))),(4,lO 4),(9,lV 22),(24,vi (W4.length : Int)),(25,vi x7),(26,vb b10)] [(4,[oI u0_0,oS Au0_1 u0_1 cu0_1,oS Au0_2 u0_2 cu0_2,.arr .i64 6 u0_3])] [(22,vI 2 1 L8)] M) ?_ (by subst e_b10;kernel_rfl)
   refine EN (SQ ?_)
   cases b10 with
   | true =>
    replace h := sp_t h
    refine CT ?_
    refine KS [(1,vi u1),(2,vb u2),(3,.lf (.v (.func (.func 122) #[] #[(.pointer (some ⟨bu3C,0,none⟩)),(.pointer (some ⟨bu3D,0,none⟩))]))),(4,lO 4),(9,lV 22),(24,vi (W4.length : Int)),(25,vi x7)] ?_
    refine SN (SQ (BK 1 (SQ (RG ?_))))
    refine SS 2 [(1,vi u1),(2,vb u2),(3,.lf (.v (.func (.func 122) #[] #[(.pointer (some ⟨bu3C,0,none⟩)),(.pointer (some ⟨bu3D,0,none⟩))]))),(4,lO 4),(9,lV 22),(10,vi x7),(24,vi (W4.length : Int)),(25,vi x7)] ?_
    refine EN (RG ?_)
    refine SS 2 [(1,vi u1),(2,vb u2),(3,.lf (.v (.func (.func 122) #[] #[(.pointer (some ⟨bu3C,0,none⟩)),(.pointer (some ⟨bu3D,0,none⟩))]))),(4,lO 4),(9,lV 22),(24,vi (W4.length : Int)),(25,vi x7),(28,lV 22),(29,vi x7)] ?_
    obtain ⟨g11,h⟩ := gd_some h
    refine AT 30 (.lf (.vel 22 1 ((x7).toNat) 0)) (At_idxV (z:=x7) (n:=22) (sz:=1) (v:=vI 2 1 L8) (by kernel_rfl) (by kernel_rfl) g11) ?_
    obtain ⟨L12,e_L12,h⟩ := lt_some h
    refine TI_of (i:=3) (by kernel_rfl) (TE_stC (len2:=List.length L12) (m:=1) (n:=22) (sz:=1) (j:=(x7).toNat) (q:=0) (e:=2) (len:=List.length L8) (c:=[oI (1125899906842624 : Int)]) (cs0:=ints .i64 L8) (cs2:=ints .i64 L12) (by subst e_L12; kernel_rfl) (by kernel_rfl) (by subst e_L12; kernel_rfl) (vle (toNat_lt g11)) (by kernel_rfl) (by rw [e_L12]; exact set1_ints (toNat_lt g11)) (by rw [e_L12,List.length_set]) ?_)
    refine SG 4 (S4 [(1,vi u1),(2,vb u2),(3,.lf (.v (.func (.func 122) #[] #[(.pointer (some ⟨bu3C,0,none⟩)),(.pointer (some ⟨bu3D,0,none⟩))]))),(4,lO 4),(9,lV 22),(24,vi (W4.length : Int)),(25,vi x7)] [(4,[oI u0_0,oS Au0_1 u0_1 cu0_1,oS Au0_2 u0_2 cu0_2,.arr .i64 6 u0_3])] [(22,vI 2 1 L12)] M) ?_
    refine E0 (blockQ_n (thenQ_n (RG ?_)))
    obtain ⟨x13,e_x13,h⟩ := lt_some h
    refine SS 2 [(1,vi u1),(2,vb u2),(3,.lf (.v (.func (.func 122) #[] #[(.pointer (some ⟨bu3C,0,none⟩)),(.pointer (some ⟨bu3D,0,none⟩))]))),(4,lO 4),(9,lV 22),(24,vi (W4.length : Int)),(25,vi x13)] ?_ (by subst e_x13;kernel_rfl)
    refine EN ?_
    exact ⟨n9,Nat.lt_succ_self _,x13,L12,keep_sub (ts:=[1,2,3,4,9,24,25]) (hs:=[4]) (vs:=[22]) (by kernel_rfl),h⟩
   | false =>
    replace h := sp_f h
    refine CF ?_
    refine KS [(1,vi u1),(2,vb u2),(3,.lf (.v (.func (.func 122) #[] #[(.pointer (some ⟨bu3C,0,none⟩)),(.pointer (some ⟨bu3D,0,none⟩))]))),(4,lO 4),(9,lV 22)] ?_
    refine XI 0 (thenQ_x (thenQ_x (blockQ_x (thenQ_n ?_))))
    exact ⟨L8,keep_sub (ts:=[1,2,3,4,9]) (hs:=[4]) (vs:=[22]) (by kernel_rfl),h⟩
 ·rintro s' ⟨L5,hsub,h⟩
  subst e_j6
  refine thenQ_n ?_
  refine T_sub hsub ?_
  refine SQ (RG ?_)
  refine SG 2 (S4 [(2,vb u2),(3,.lf (.v (.func (.func 122) #[] #[(.pointer (some ⟨bu3C,0,none⟩)),(.pointer (some ⟨bu3D,0,none⟩))]))),(4,lO 4),(9,lV 22),(32,lV 22),(33,vi u1)] [(4,[oI u0_0,oS Au0_1 u0_1 cu0_1,oS Au0_2 u0_2 cu0_2,.arr .i64 6 u0_3])] [(22,vI 2 1 L5)] M) ?_
  obtain ⟨g14,h⟩ := gd_some h
  refine AT 34 (.lf (.vel 22 1 ((u1).toNat) 0)) (At_idxV (z:=u1) (n:=22) (sz:=1) (v:=vI 2 1 L5) (by kernel_rfl) (by kernel_rfl) g14) ?_
  obtain ⟨L15,e_L15,h⟩ := lt_some h
  refine TI_of (i:=3) (by kernel_rfl) (TE_stC (len2:=List.length L15) (m:=1) (n:=22) (sz:=1) (j:=(u1).toNat) (q:=0) (e:=2) (len:=List.length L5) (c:=[oI (0 : Int)]) (cs0:=ints .i64 L5) (cs2:=ints .i64 L15) (by subst e_L15; kernel_rfl) (by kernel_rfl) (by subst e_L15; kernel_rfl) (vle (toNat_lt g14)) (by kernel_rfl) (by rw [e_L15]; exact set1_ints (toNat_lt g14)) (by rw [e_L15,List.length_set]) ?_)
  refine SG 4 (S4 [(2,vb u2),(3,.lf (.v (.func (.func 122) #[] #[(.pointer (some ⟨bu3C,0,none⟩)),(.pointer (some ⟨bu3D,0,none⟩))]))),(4,lO 4),(9,lV 22)] [(4,[oI u0_0,oS Au0_1 u0_1 cu0_1,oS Au0_2 u0_2 cu0_2,.arr .i64 6 u0_3])] [(22,vI 2 1 L15)] M) ?_
  refine EN (SQ (RG ?_))
  refine SS 4 [(2,vb u2),(3,.lf (.v (.func (.func 122) #[] #[(.pointer (some ⟨bu3C,0,none⟩)),(.pointer (some ⟨bu3D,0,none⟩))]))),(4,lO 4),(9,lV 22),(38,vi (u0_1.length : Int))] ?_
  obtain ⟨g16,h⟩ := gd_some h
  obtain ⟨W17,e_W17,h⟩ := lt_some h
  refine TI_of (i:=4) (by kernel_rfl) (TE_makeC (len2:=List.length W17) (d:=39) (e:=2) (sz:=1) (bytes:=8) (zs:=[.int .i64 0]) (cs:=ints .i64 W17) (z:=(u0_1.length : Int)) (by subst e_W17;kernel_rfl) (by kernel_rfl) g16.1 g16.2 rfl (rep_ints' e_W17) (by rw [e_W17,List.length_replicate]) ?_)
  refine SG 6 (S4 [(2,vb u2),(3,.lf (.v (.func (.func 122) #[] #[(.pointer (some ⟨bu3C,0,none⟩)),(.pointer (some ⟨bu3D,0,none⟩))]))),(4,lO 4),(9,lV 22),(11,lV 39)] [(4,[oI u0_0,oS Au0_1 u0_1 cu0_1,oS Au0_2 u0_2 cu0_2,.arr .i64 6 u0_3])] [(22,vI 2 1 L15),(39,vI 2 1 W17)] M) ?_
  refine EN (SQ (SQ (RG ?_)))
  refine SS 3 [(2,vb u2),(3,.lf (.v (.func (.func 122) #[] #[(.pointer (some ⟨bu3C,0,none⟩)),(.pointer (some ⟨bu3D,0,none⟩))]))),(4,lO 4),(9,lV 22),(11,lV 39),(41,vi (W17.length : Int)),(42,vi (0 : Int))] ?_
  refine EN ?_
  obtain ⟨j19,e_j19,h⟩ := jn_some h
  refine T_bcut (id:=2) (c1:=(sub [1,1,1,1,1,0,1,0] Bd75)) (fun s' => ∃ (L18 : List Int),Sub { σ := [(2,vb u2),(4,lO 4),(9,lV 22),(11,lV 39)],H := [(4,[oI u0_0,oS Au0_1 u0_1 cu0_1,oS Au0_2 u0_2 cu0_2,.arr .i64 6 u0_3])],V := [(22,vI 2 1 L15),(39,vI 2 1 L18)],M := M,ds := [] } s' ∧ j19 L18 = some r) (by kernel_rfl) ?_ ?_
  ·refine T_loop (c1:=(sub [1,1,1,1,1,0,1,0,0] Bd75)) (by kernel_rfl) (fun n22 s' => ∃ (x20 : Int) (L21 : List Int),Sub { σ := [(2,vb u2),(3,.lf (.v (.func (.func 122) #[] #[(.pointer (some ⟨bu3C,0,none⟩)),(.pointer (some ⟨bu3D,0,none⟩))]))),(4,lO 4),(9,lV 22),(11,lV 39),(41,vi (W17.length : Int)),(42,vi x20)],H := [(4,[oI u0_0,oS Au0_1 u0_1 cu0_1,oS Au0_2 u0_2 cu0_2,.arr .i64 6 u0_3])],V := [(22,vI 2 1 L15),(39,vI 2 1 L21)],M := M,ds := [] } s' ∧ p75a_l2 k u3y0 u3y1 u3y2 u3y3 u3Z j19 W17 n22 x20 L21 = some r) (k:=k) ⟨(0 : Int),W17,keep_sub (ts:=[2,3,4,9,11,41,42]) (hs:=[4]) (vs:=[22,39]) (by kernel_rfl),h⟩ ?_
   rintro n22 s' ⟨x20,L21,hsub,h⟩
   cases n22 with
   | zero => rw [p75a_l2] at h;cases h
   | succ n22 =>
    rw [p75a_l2] at h
    refine T_sub hsub ?_
    refine SQ (RG ?_)
    obtain ⟨b23,e_b23,h⟩ := lt_some h
    refine SG 1 (S4 [(2,vb u2),(3,.lf (.v (.func (.func 122) #[] #[(.pointer (some ⟨bu3C,0,none⟩)),(.pointer (some ⟨bu3D,0,none⟩))]))),(4,lO 4),(9,lV 22),(11,lV 39),(41,vi (W17.length : Int)),(42,vi x20),(43,vb b23)] [(4,[oI u0_0,oS Au0_1 u0_1 cu0_1,oS Au0_2 u0_2 cu0_2,.arr .i64 6 u0_3])] [(22,vI 2 1 L15),(39,vI 2 1 L21)] M) ?_ (by subst e_b23;kernel_rfl)
    refine EN (SQ ?_)
    cases b23 with
    | true =>
     replace h := sp_t h
     refine CT ?_
     refine KS [(2,vb u2),(3,.lf (.v (.func (.func 122) #[] #[(.pointer (some ⟨bu3C,0,none⟩)),(.pointer (some ⟨bu3D,0,none⟩))]))),(4,lO 4),(9,lV 22),(11,lV 39),(41,vi (W17.length : Int)),(42,vi x20)] ?_
     refine SN (SQ (BK 3 (SQ (RG ?_))))
     refine SS 2 [(2,vb u2),(3,.lf (.v (.func (.func 122) #[] #[(.pointer (some ⟨bu3C,0,none⟩)),(.pointer (some ⟨bu3D,0,none⟩))]))),(4,lO 4),(9,lV 22),(11,lV 39),(12,vi x20),(41,vi (W17.length : Int)),(42,vi x20)] ?_
     refine EN (RG ?_)
     refine SS 4 [(2,vb u2),(3,.lf (.v (.func (.func 122) #[] #[(.pointer (some ⟨bu3C,0,none⟩)),(.pointer (some ⟨bu3D,0,none⟩))]))),(4,lO 4),(9,lV 22),(11,lV 39),(41,vi (W17.length : Int)),(42,vi x20),(45,lV 39),(46,vi x20),(47,.lf (.v (.func (.func 122) #[] #[(.pointer (some ⟨bu3C,0,none⟩)),(.pointer (some ⟨bu3D,0,none⟩))]))),(48,vi x20)] ?_
     obtain ⟨v24,c_v24,h⟩ := cl_some h
     refine AC 49 (vi v24) (w122 k hu3y1 hu3y2 hu3y3 hbu3C hbu3D c_v24) ?_
     obtain ⟨g25,h⟩ := gd_some h
     refine AT 50 (.lf (.vel 39 1 ((x20).toNat) 0)) (At_idxV (z:=x20) (n:=39) (sz:=1) (v:=vI 2 1 L21) (by kernel_rfl) (by kernel_rfl) g25) ?_
     obtain ⟨L26,e_L26,h⟩ := lt_some h
     refine TI_of (i:=6) (by kernel_rfl) (TE_stC (len2:=List.length L26) (m:=1) (n:=39) (sz:=1) (j:=(x20).toNat) (q:=0) (e:=2) (len:=List.length L21) (c:=[oI v24]) (cs0:=ints .i64 L21) (cs2:=ints .i64 L26) (by subst e_L26; kernel_rfl) (by kernel_rfl) (by subst e_L26; kernel_rfl) (vle (toNat_lt g25)) (by kernel_rfl) (by rw [e_L26]; exact set1_ints (toNat_lt g25)) (by rw [e_L26,List.length_set]) ?_)
     refine SG 7 (S4 [(2,vb u2),(3,.lf (.v (.func (.func 122) #[] #[(.pointer (some ⟨bu3C,0,none⟩)),(.pointer (some ⟨bu3D,0,none⟩))]))),(4,lO 4),(9,lV 22),(11,lV 39),(41,vi (W17.length : Int)),(42,vi x20)] [(4,[oI u0_0,oS Au0_1 u0_1 cu0_1,oS Au0_2 u0_2 cu0_2,.arr .i64 6 u0_3])] [(22,vI 2 1 L15),(39,vI 2 1 L26)] M) ?_
     refine E0 (blockQ_n (thenQ_n (RG ?_)))
     obtain ⟨x27,e_x27,h⟩ := lt_some h
     refine SS 2 [(2,vb u2),(3,.lf (.v (.func (.func 122) #[] #[(.pointer (some ⟨bu3C,0,none⟩)),(.pointer (some ⟨bu3D,0,none⟩))]))),(4,lO 4),(9,lV 22),(11,lV 39),(41,vi (W17.length : Int)),(42,vi x27)] ?_ (by subst e_x27;kernel_rfl)
     refine EN ?_
     exact ⟨n22,Nat.lt_succ_self _,x27,L26,keep_sub (ts:=[2,3,4,9,11,41,42]) (hs:=[4]) (vs:=[22,39]) (by kernel_rfl),h⟩
    | false =>
     replace h := sp_f h
     refine CF ?_
     refine KS [(2,vb u2),(4,lO 4),(9,lV 22),(11,lV 39)] ?_
     refine XI 2 (thenQ_x (thenQ_x (blockQ_x (thenQ_n ?_))))
     exact ⟨L21,keep_sub (ts:=[2,4,9,11]) (hs:=[4]) (vs:=[22,39]) (by kernel_rfl),h⟩
  ·rintro s' ⟨L18,hsub,h⟩
   subst e_j19
   refine thenQ_n ?_
   refine T_sub hsub ?_
   refine SQ (SQ (RG ?_))
   refine SG 1 (S4 [(2,vb u2),(4,lO 4),(9,lV 22),(11,lV 39),(13,vb true)] [(4,[oI u0_0,oS Au0_1 u0_1 cu0_1,oS Au0_2 u0_2 cu0_2,.arr .i64 6 u0_3])] [(22,vI 2 1 L15),(39,vI 2 1 L18)] M) ?_
   refine EN ?_
   obtain ⟨j29,e_j29,h⟩ := jn_some h
   refine T_bcut (id:=4) (c1:=(sub [1,1,1,1,1,1,0,1,0] Bd75)) (fun s' => ∃ (L28 : List Int),Sub { σ := [(9,lV 22)],H := [],V := [(22,vI 2 1 L28)],M := M,ds := [] } s' ∧ j29 L28 = some r) (by kernel_rfl) ?_ ?_
   ·refine T_loop (c1:=(sub [1,1,1,1,1,1,0,1,0,0] Bd75)) (by kernel_rfl) (fun n33 s' => ∃ (b30 : Bool) (b31 : Bool) (L32 : List Int),Sub { σ := [(2,vb b30),(4,lO 4),(9,lV 22),(11,lV 39),(13,vb b31)],H := [(4,[oI u0_0,oS Au0_1 u0_1 cu0_1,oS Au0_2 u0_2 cu0_2,.arr .i64 6 u0_3])],V := [(22,vI 2 1 L32),(39,vI 2 1 L18)],M := M,ds := [] } s' ∧ p75a_l3 k u0_1 L18 j29 n33 b30 b31 L32 = some r) (k:=k) ⟨u2,true,L15,keep_sub (ts:=[2,4,9,11,13]) (hs:=[4]) (vs:=[22,39]) (by kernel_rfl),h⟩ ?_
    rintro n33 s' ⟨b30,b31,L32,hsub,h⟩
    cases n33 with
    | zero => rw [p75a_l3] at h;cases h
    | succ n33 =>
     rw [p75a_l3] at h
     refine T_sub hsub ?_
     refine SQ (SQ (RG ?_))
     refine SG 1 (S4 [(2,vb b30),(4,lO 4),(9,lV 22),(11,lV 39),(52,vb b31)] [(4,[oI u0_0,oS Au0_1 u0_1 cu0_1,oS Au0_2 u0_2 cu0_2,.arr .i64 6 u0_3])] [(22,vI 2 1 L32),(39,vI 2 1 L18)] M) ?_
     refine EN ?_
     cases b31 with
     | true =>
      replace h := sp_t h
      refine CT ?_
      refine KS [(2,vb b30),(4,lO 4),(9,lV 22),(11,lV 39)] ?_
      refine SN (BK 5 ?_)
      refine T_scope (c1:=(sub [1,1,1,1,1,1,0,1,0,0,1,0,0] Bd75)) (by kernel_rfl) ?_
      refine SQ (RG ?_)
      refine SG 1 (S4 [(2,vb b30),(4,lO 4),(9,lV 22),(11,lV 39),(13,vb false)] [(4,[oI u0_0,oS Au0_1 u0_1 cu0_1,oS Au0_2 u0_2 cu0_2,.arr .i64 6 u0_3])] [(22,vI 2 1 L32),(39,vI 2 1 L18)] M) ?_
      refine EN (SQ ?_)
      refine T_label (l:=0) (by kernel_rfl) ?_
      refine thenQ_n (SQ (RG ?_))
      refine SG 5 (S4 [(2,vb b30),(4,lO 4),(9,lV 22),(11,lV 39),(13,vb false),(55,lS Au0_1 u0_1 cu0_1),(56,vi (u0_1.length : Int)),(57,vi (0 : Int))] [(4,[oI u0_0,oS Au0_1 u0_1 cu0_1,oS Au0_2 u0_2 cu0_2,.arr .i64 6 u0_3])] [(22,vI 2 1 L32),(39,vI 2 1 L18)] M) ?_
      refine EN ?_
      obtain ⟨j37,e_j37,h⟩ := jn_some h
      refine T_bcut (id:=6) (c1:=(sub [1,1,1,1,1,1,0,1,0,0,1,0,0,1,1,1,0] Bd75)) (fun s' => ∃ (b34 : Bool) (b35 : Bool) (L36 : List Int),Sub { σ := [(2,vb b34),(4,lO 4),(9,lV 22),(11,lV 39),(13,vb b35)],H := [(4,[oI u0_0,oS Au0_1 u0_1 cu0_1,oS Au0_2 u0_2 cu0_2,.arr .i64 6 u0_3])],V := [(22,vI 2 1 L36),(39,vI 2 1 L18)],M := M,ds := [] } s' ∧ j37 b34 b35 L36 = some r) (by kernel_rfl) ?_ ?_
      ·refine T_loop (c1:=(sub [1,1,1,1,1,1,0,1,0,0,1,0,0,1,1,1,0,0] Bd75)) (by kernel_rfl) (fun n42 s' => ∃ (b38 : Bool) (b39 : Bool) (x40 : Int) (L41 : List Int),Sub { σ := [(2,vb b38),(4,lO 4),(9,lV 22),(11,lV 39),(13,vb b39),(55,lS Au0_1 u0_1 cu0_1),(56,vi (u0_1.length : Int)),(57,vi x40)],H := [(4,[oI u0_0,oS Au0_1 u0_1 cu0_1,oS Au0_2 u0_2 cu0_2,.arr .i64 6 u0_3])],V := [(22,vI 2 1 L41),(39,vI 2 1 L18)],M := M,ds := [] } s' ∧ p75a_l4 k u0_1 L18 j37 n42 b38 b39 x40 L41 = some r) (k:=k) ⟨b30,false,(0 : Int),L32,keep_sub (ts:=[2,4,9,11,13,55,56,57]) (hs:=[4]) (vs:=[22,39]) (by kernel_rfl),h⟩ ?_
       rintro n42 s' ⟨b38,b39,x40,L41,hsub,h⟩
       cases n42 with
       | zero => rw [p75a_l4] at h;cases h
       | succ n42 =>
        rw [p75a_l4] at h
        refine T_sub hsub ?_
        refine SQ (RG ?_)
        obtain ⟨b43,e_b43,h⟩ := lt_some h
        refine SG 1 (S4 [(2,vb b38),(4,lO 4),(9,lV 22),(11,lV 39),(13,vb b39),(55,lS Au0_1 u0_1 cu0_1),(56,vi (u0_1.length : Int)),(57,vi x40),(58,vb b43)] [(4,[oI u0_0,oS Au0_1 u0_1 cu0_1,oS Au0_2 u0_2 cu0_2,.arr .i64 6 u0_3])] [(22,vI 2 1 L41),(39,vI 2 1 L18)] M) ?_ (by subst e_b43;kernel_rfl)
        refine EN (SQ ?_)
        cases b43 with
        | true =>
         replace h := sp_t h
         refine CT ?_
         refine KS [(2,vb b38),(4,lO 4),(9,lV 22),(11,lV 39),(13,vb b39),(55,lS Au0_1 u0_1 cu0_1),(56,vi (u0_1.length : Int)),(57,vi x40)] ?_
         refine SN ?_
         obtain ⟨j47,e_j47,h⟩ := jn_some h
         refine T_cut (c1:=(sub [1,1,1,1,1,1,0,1,0,0,1,0,0,1,1,1,0,0,1,1,0] Bd75)) (c2:=(sub [1,1,1,1,1,1,0,1,0,0,1,0,0,1,1,1,0,0,1,1,1] Bd75)) (fun s' => ∃ (b44 : Bool) (b45 : Bool) (L46 : List Int),Sub { σ := [(2,vb b44),(4,lO 4),(9,lV 22),(11,lV 39),(13,vb b45),(55,lS Au0_1 u0_1 cu0_1),(56,vi (u0_1.length : Int)),(57,vi x40)],H := [(4,[oI u0_0,oS Au0_1 u0_1 cu0_1,oS Au0_2 u0_2 cu0_2,.arr .i64 6 u0_3])],V := [(22,vI 2 1 L46),(39,vI 2 1 L18)],M := M,ds := [] } s' ∧ j47 b44 b45 L46 = some r) (by kernel_rfl) ?_ ?_
         ·obtain ⟨j51,e_j51,h⟩ := jn_some h
          refine T_bcut (id:=7) (c1:=(sub [1,1,1,1,1,1,0,1,0,0,1,0,0,1,1,1,0,0,1,1,0,0] Bd75)) (fun s' => ∃ (b48 : Bool) (b49 : Bool) (L50 : List Int),Sub { σ := [(2,vb b48),(4,lO 4),(9,lV 22),(11,lV 39),(13,vb b49),(55,lS Au0_1 u0_1 cu0_1),(56,vi (u0_1.length : Int)),(57,vi x40)],H := [(4,[oI u0_0,oS Au0_1 u0_1 cu0_1,oS Au0_2 u0_2 cu0_2,.arr .i64 6 u0_3])],V := [(22,vI 2 1 L50),(39,vI 2 1 L18)],M := M,ds := [] } s' ∧ j51 b48 b49 L50 = some r) (by kernel_rfl) ?_ ?_
          ·refine T_seq (c1:=(sub [1,1,1,1,1,1,0,1,0,0,1,0,0,1,1,1,0,0,1,1,0,0,0] Bd75)) (c2:=(sub [1,1,1,1,1,1,0,1,0,0,1,0,0,1,1,1,0,0,1,1,0,0,1] Bd75)) (by kernel_rfl) ?_
           refine RG ?_
           refine SG 1 (S4 [(2,vb b38),(4,lO 4),(9,lV 22),(11,lV 39),(13,vb b39),(55,lS Au0_1 u0_1 cu0_1),(56,vi (u0_1.length : Int)),(57,vi x40),(59,vi x40)] [(4,[oI u0_0,oS Au0_1 u0_1 cu0_1,oS Au0_2 u0_2 cu0_2,.arr .i64 6 u0_3])] [(22,vI 2 1 L41),(39,vI 2 1 L18)] M) ?_
           obtain ⟨g52,h⟩ := gd_some h
           refine AT 60 (.lf (.ep (.slice Au0_1 (u0_1.length) cu0_1) 12 ((x40).toNat) 0)) (At_idxR (z:=x40) (by kernel_rfl) g52 hu0_1) ?_
           obtain ⟨L53,e_L53,h⟩ := lt_some h
           have l_L53 : (L53).length = 12 := by rw [e_L53]; exact SlR_row hu0_1 (toNat_lt g52)
           refine AT 61 (.agg [.arr .i64 12 L53]) (by rw [e_L53]; exact At_ldRow (q:=(x40).toNat) (by subst e_L53; kernel_rfl) (toNat_lt g52) hu0_1) ?_ (hx:=⟨l_L53,trivial⟩)
           refine SH 6 [(2,vb b38),(4,lO 4),(9,lV 22),(11,lV 39),(13,vb b39),(14,vi x40),(15,lO 15),(55,lS Au0_1 u0_1 cu0_1),(56,vi (u0_1.length : Int)),(57,vi x40)] [(4,[oI u0_0,oS Au0_1 u0_1 cu0_1,oS Au0_2 u0_2 cu0_2,.arr .i64 6 u0_3]),(15,[.arr .i64 12 L53])] ?_
           refine EN (SQ (SQ (RG ?_)))
           refine SS 2 [(2,vb b38),(4,lO 4),(9,lV 22),(11,lV 39),(13,vb b39),(14,vi x40),(15,lO 15),(55,lS Au0_1 u0_1 cu0_1),(56,vi (u0_1.length : Int)),(57,vi x40),(62,lV 39),(63,vi x40)] ?_
           obtain ⟨g54,h⟩ := gd_some h
           refine AT 64 (.lf (.vel 39 1 ((x40).toNat) 0)) (At_idxV (z:=x40) (n:=39) (sz:=1) (v:=vI 2 1 L18) (by kernel_rfl) (by kernel_rfl) g54) ?_
           obtain ⟨x55,e_x55,h⟩ := lt_some h
           refine AT 65 (vi x55) (by rw [e_x55]; exact At_ldVI (n:=39) (q:=(x40).toNat) (k:=.i64) (L:=L18) (by subst e_x55; kernel_rfl) (v:=vI 2 1 L18) (by subst e_x55; kernel_rfl) rfl (toNat_lt g54)) ?_
           obtain ⟨b56,e_b56,h⟩ := lt_some h
           refine SH 5 [(2,vb b38),(4,lO 4),(9,lV 22),(11,lV 39),(13,vb b39),(14,vi x40),(15,lO 15),(55,lS Au0_1 u0_1 cu0_1),(56,vi (u0_1.length : Int)),(57,vi x40),(66,vb b56)] [(4,[oI u0_0,oS Au0_1 u0_1 cu0_1,oS Au0_2 u0_2 cu0_2,.arr .i64 6 u0_3]),(15,[.arr .i64 12 L53])] ?_ (by subst e_b56;kernel_rfl)
           refine EN ?_
           cases b56 with
           | true =>
            replace h := sp_t h
            refine CT ?_
            refine KP [(2,vb b38),(4,lO 4),(9,lV 22),(11,lV 39),(13,vb b39),(55,lS Au0_1 u0_1 cu0_1),(56,vi (u0_1.length : Int)),(57,vi x40)] [(4,[oI u0_0,oS Au0_1 u0_1 cu0_1,oS Au0_2 u0_2 cu0_2,.arr .i64 6 u0_3])] [(22,vI 2 1 L41),(39,vI 2 1 L18)] ?_
            refine XI 7 (thenQ_x (blockQ_x (thenQ_n ?_)))
            exact ⟨b38,b39,L41,keep_sub (ts:=[2,4,9,11,13,55,56,57]) (hs:=[4]) (vs:=[22,39]) (by kernel_rfl),h⟩
           | false =>
            replace h := sp_f h
            refine CF ?_
            refine KS [(2,vb b38),(4,lO 4),(9,lV 22),(11,lV 39),(13,vb b39),(14,vi x40),(15,lO 15),(55,lS Au0_1 u0_1 cu0_1),(56,vi (u0_1.length : Int)),(57,vi x40)] ?_
            refine SN (SQ ?_)
            obtain ⟨x57,e_x57,h⟩ := lt_some h
            obtain ⟨x58,e_x58,h⟩ := lt_some h
            refine T_draw' (id:=21) [] [0,0,0,0,0,0] (by kernel_rfl) (by kernel_rfl) (by kernel_rfl) (by kernel_rfl) [(67,lO 15),(68,vi x57),(69,.lf (.own 15 1)),(70,vi x58),(16,vi x57),(17,vi x58)] (by kernel_rfl) (wfs_lf _ (by kernel_rfl)) ?_
            refine Stage_nil (stage_all' [0,1,2,3,4,5] [] (by kernel_rfl) (by subst e_x58 e_x57;kernel_rfl) (by kernel_rfl) trivial) ?_
            refine thenQ_n ?_
            refine KG (S4 [(2,vb b38),(4,lO 4),(9,lV 22),(11,lV 39),(13,vb b39),(14,vi x40),(16,vi x57),(17,vi x58),(55,lS Au0_1 u0_1 cu0_1),(56,vi (u0_1.length : Int)),(57,vi x40)] [(4,[oI u0_0,oS Au0_1 u0_1 cu0_1,oS Au0_2 u0_2 cu0_2,.arr .i64 6 u0_3])] [(22,vI 2 1 L41),(39,vI 2 1 L18)] M) ?_ (by subst e_x58 e_x57;kernel_rfl)
            obtain ⟨j62,e_j62,h⟩ := jn_some h
            refine T_cut (c1:=(sub [1,1,1,1,1,1,0,1,0,0,1,0,0,1,1,1,0,0,1,1,0,0,1,1,1,0] Bd75)) (c2:=(sub [1,1,1,1,1,1,0,1,0,0,1,0,0,1,1,1,0,0,1,1,0,0,1,1,1,1] Bd75)) (fun s' => ∃ (b59 : Bool) (x60 : Int) (x61 : Int),Sub { σ := [(2,vb b59),(4,lO 4),(9,lV 22),(11,lV 39),(13,vb b39),(14,vi x40),(16,vi x60),(17,vi x61),(55,lS Au0_1 u0_1 cu0_1),(56,vi (u0_1.length : Int)),(57,vi x40)],H := [(4,[oI u0_0,oS Au0_1 u0_1 cu0_1,oS Au0_2 u0_2 cu0_2,.arr .i64 6 u0_3])],V := [(22,vI 2 1 L41),(39,vI 2 1 L18)],M := M,ds := [] } s' ∧ j62 b59 x60 x61 = some r) (by kernel_rfl) ?_ ?_
            ·refine T_seq (c1:=(sub [1,1,1,1,1,1,0,1,0,0,1,0,0,1,1,1,0,0,1,1,0,0,1,1,1,0,0] Bd75)) (c2:=(sub [1,1,1,1,1,1,0,1,0,0,1,0,0,1,1,1,0,0,1,1,0,0,1,1,1,0,1] Bd75)) (by kernel_rfl) ?_
             refine RG ?_
             refine SG 1 (S4 [(2,vb b38),(4,lO 4),(9,lV 22),(11,lV 39),(13,vb b39),(14,vi x40),(16,vi x57),(17,vi x58),(55,lS Au0_1 u0_1 cu0_1),(56,vi (u0_1.length : Int)),(57,vi x40),(71,vb b38)] [(4,[oI u0_0,oS Au0_1 u0_1 cu0_1,oS Au0_2 u0_2 cu0_2,.arr .i64 6 u0_3])] [(22,vI 2 1 L41),(39,vI 2 1 L18)] M) ?_
             refine EN ?_
             cases b38 with
             | true =>
              replace h := sp_t h
              refine CT ?_
              refine KS [(2,vb true),(4,lO 4),(9,lV 22),(11,lV 39),(13,vb b39),(14,vi x40),(16,vi x57),(17,vi x58),(55,lS Au0_1 u0_1 cu0_1),(56,vi (u0_1.length : Int)),(57,vi x40)] ?_
              refine RG ?_
              refine SS 4 [(2,vb true),(4,lO 4),(9,lV 22),(11,lV 39),(13,vb b39),(14,vi x40),(16,vi x58),(17,vi x57),(55,lS Au0_1 u0_1 cu0_1),(56,vi (u0_1.length : Int)),(57,vi x40)] ?_
              refine EN ?_
              exact ⟨true,x58,x57,keep_sub (ts:=[2,4,9,11,13,14,16,17,55,56,57]) (hs:=[4]) (vs:=[22,39]) (by kernel_rfl),h⟩
             | false =>
              replace h := sp_f h
              refine CF ?_
              refine KS [(2,vb false),(4,lO 4),(9,lV 22),(11,lV 39),(13,vb b39),(14,vi x40),(16,vi x57),(17,vi x58),(55,lS Au0_1 u0_1 cu0_1),(56,vi (u0_1.length : Int)),(57,vi x40)] ?_
              refine SN ?_
              exact ⟨false,x57,x58,keep_sub (ts:=[2,4,9,11,13,14,16,17,55,56,57]) (hs:=[4]) (vs:=[22,39]) (by kernel_rfl),h⟩
            ·rintro s' ⟨b59,x60,x61,hsub,h⟩
             subst e_j62
             refine T_sub hsub ?_
             refine SQ ?_
             obtain ⟨g63,h⟩ := gd_some h
             obtain ⟨x64,e_x64,h⟩ := lt_some h
             obtain ⟨g65,h⟩ := gd_some h
             obtain ⟨x66,e_x66,h⟩ := lt_some h
             obtain ⟨x67,e_x67,h⟩ := lt_some h
             refine T_draw' (id:=24) [] [0,0,0,0,0,0,0,0,0,0] (by kernel_rfl) (by kernel_rfl) (by kernel_rfl) (by kernel_rfl) [(74,lV 22),(75,vi x60),(76,.lf (.vel 22 1 ((x60).toNat) 0)),(77,vi x64),(78,lV 39),(79,vi x40),(80,.lf (.vel 39 1 ((x40).toNat) 0)),(81,vi x66),(82,vi x67),(18,vi x67)] (by kernel_rfl) (wfs_lf _ (by kernel_rfl)) ?_
             refine Stage_nil (stage_all' [0,1,4,5,8,9] [2,3,6,7] (by kernel_rfl) (by subst_vars; kernel_rfl) (by kernel_rfl) ⟨QF_at (i:=2) (d:=76) (x:=.lf (.vel 22 1 ((x60).toNat) 0)) (show OpAt _ _ _ 2 76 _ from by exact At_idxV (d:=76) (z:=x60) (n:=22) (sz:=1) (v:=vI 2 1 L41) (by subst_vars; kernel_rfl) (by subst_vars; kernel_rfl) g63) (by kernel_rfl) (by subst_vars; kernel_rfl),⟨QF_at (i:=3) (d:=77) (x:=vi x64) (show OpAt _ _ _ 3 77 _ from by rw [e_x64]; exact At_ldVI (d:=77) (n:=22) (q:=(x60).toNat) (k:=.i64) (L:=L41) (by subst_vars; kernel_rfl) (v:=vI 2 1 L41) (by subst_vars; kernel_rfl) rfl (toNat_lt g63)) (by kernel_rfl) (by subst_vars; kernel_rfl),⟨QF_at (i:=6) (d:=80) (x:=.lf (.vel 39 1 ((x40).toNat) 0)) (show OpAt _ _ _ 6 80 _ from by exact At_idxV (d:=80) (z:=x40) (n:=39) (sz:=1) (v:=vI 2 1 L18) (by subst_vars; kernel_rfl) (by subst_vars; kernel_rfl) g65) (by kernel_rfl) (by subst_vars; kernel_rfl),⟨QF_at (i:=7) (d:=81) (x:=vi x66) (show OpAt _ _ _ 7 81 _ from by rw [e_x66]; exact At_ldVI (d:=81) (n:=39) (q:=(x40).toNat) (k:=.i64) (L:=L18) (by subst_vars; kernel_rfl) (v:=vI 2 1 L18) (by subst_vars; kernel_rfl) rfl (toNat_lt g65)) (by kernel_rfl) (by subst_vars; kernel_rfl),trivial⟩⟩⟩⟩) ?_
             refine thenQ_n ?_
             refine KG (S4 [(2,vb b59),(4,lO 4),(9,lV 22),(11,lV 39),(13,vb b39),(16,vi x60),(17,vi x61),(18,vi x67),(55,lS Au0_1 u0_1 cu0_1),(56,vi (u0_1.length : Int)),(57,vi x40)] [(4,[oI u0_0,oS Au0_1 u0_1 cu0_1,oS Au0_2 u0_2 cu0_2,.arr .i64 6 u0_3])] [(22,vI 2 1 L41),(39,vI 2 1 L18)] M) ?_ (by subst_vars;kernel_rfl)
             obtain ⟨j69,e_j69,h⟩ := jn_some h
             refine T_cut (c1:=(sub [1,1,1,1,1,1,0,1,0,0,1,0,0,1,1,1,0,0,1,1,0,0,1,1,1,1,1,0] Bd75)) (c2:=(sub [1,1,1,1,1,1,0,1,0,0,1,0,0,1,1,1,0,0,1,1,0,0,1,1,1,1,1,1] Bd75)) (fun s' => ∃ (b68 : Bool),Sub { σ := [(2,vb b59),(4,lO 4),(9,lV 22),(11,lV 39),(13,vb b39),(17,vi x61),(18,vi x67),(55,lS Au0_1 u0_1 cu0_1),(56,vi (u0_1.length : Int)),(57,vi x40),(95,vb b68)],H := [(4,[oI u0_0,oS Au0_1 u0_1 cu0_1,oS Au0_2 u0_2 cu0_2,.arr .i64 6 u0_3])],V := [(22,vI 2 1 L41),(39,vI 2 1 L18)],M := M,ds := [] } s' ∧ j69 b68 = some r) (by kernel_rfl) ?_ ?_
             ·refine RG ?_
              refine SG 2 (S4 [(2,vb b59),(4,lO 4),(9,lV 22),(11,lV 39),(13,vb b39),(17,vi x61),(18,vi x67),(55,lS Au0_1 u0_1 cu0_1),(56,vi (u0_1.length : Int)),(57,vi x40),(83,lV 22),(84,vi x60)] [(4,[oI u0_0,oS Au0_1 u0_1 cu0_1,oS Au0_2 u0_2 cu0_2,.arr .i64 6 u0_3])] [(22,vI 2 1 L41),(39,vI 2 1 L18)] M) ?_
              obtain ⟨g70,h⟩ := gd_some h
              refine AT 85 (.lf (.vel 22 1 ((x60).toNat) 0)) (At_idxV (z:=x60) (n:=22) (sz:=1) (v:=vI 2 1 L41) (by kernel_rfl) (by kernel_rfl) g70) ?_
              obtain ⟨x71,e_x71,h⟩ := lt_some h
              refine AT 86 (vi x71) (by rw [e_x71]; exact At_ldVI (n:=22) (q:=(x60).toNat) (k:=.i64) (L:=L41) (by subst e_x71; kernel_rfl) (v:=vI 2 1 L41) (by subst e_x71; kernel_rfl) rfl (toNat_lt g70)) ?_
              obtain ⟨b72,e_b72,h⟩ := lt_some h
              refine SH 6 [(2,vb b59),(4,lO 4),(9,lV 22),(11,lV 39),(13,vb b39),(17,vi x61),(18,vi x67),(55,lS Au0_1 u0_1 cu0_1),(56,vi (u0_1.length : Int)),(57,vi x40),(88,vb b72)] [(4,[oI u0_0,oS Au0_1 u0_1 cu0_1,oS Au0_2 u0_2 cu0_2,.arr .i64 6 u0_3])] ?_ (by subst e_b72;kernel_rfl)
              cases b72 with
              | true =>
               replace h := sp_t h
               refine SS 9 [(2,vb b59),(4,lO 4),(9,lV 22),(11,lV 39),(13,vb b39),(17,vi x61),(18,vi x67),(55,lS Au0_1 u0_1 cu0_1),(56,vi (u0_1.length : Int)),(57,vi x40),(88,vb true),(89,vi x67),(90,lV 22),(91,vi x61)] ?_
               obtain ⟨g73,h⟩ := gd_some h
               refine AT 92 (.lf (.vel 22 1 ((x61).toNat) 0)) (At_idxV (z:=x61) (n:=22) (sz:=1) (v:=vI 2 1 L41) (by kernel_rfl) (by kernel_rfl) g73) ?_
               obtain ⟨x74,e_x74,h⟩ := lt_some h
               refine AT 93 (vi x74) (by rw [e_x74]; exact At_ldVI (n:=22) (q:=(x61).toNat) (k:=.i64) (L:=L41) (by subst e_x74; kernel_rfl) (v:=vI 2 1 L41) (by subst e_x74; kernel_rfl) rfl (toNat_lt g73)) ?_
               obtain ⟨b75,e_b75,h⟩ := lt_some h
               refine SH 13 [(2,vb b59),(4,lO 4),(9,lV 22),(11,lV 39),(13,vb b39),(17,vi x61),(18,vi x67),(55,lS Au0_1 u0_1 cu0_1),(56,vi (u0_1.length : Int)),(57,vi x40),(95,vb b75)] [(4,[oI u0_0,oS Au0_1 u0_1 cu0_1,oS Au0_2 u0_2 cu0_2,.arr .i64 6 u0_3])] ?_ (by subst e_b75;kernel_rfl)
               refine EN ?_
               exact ⟨b75,keep_sub (ts:=[2,4,9,11,13,17,18,55,56,57,95]) (hs:=[4]) (vs:=[22,39]) (by kernel_rfl),h⟩
              | false =>
               replace h := sp_f h
               refine SS 13 [(2,vb b59),(4,lO 4),(9,lV 22),(11,lV 39),(13,vb b39),(17,vi x61),(18,vi x67),(55,lS Au0_1 u0_1 cu0_1),(56,vi (u0_1.length : Int)),(57,vi x40),(95,vb false)] ?_
               refine EN ?_
               exact ⟨false,keep_sub (ts:=[2,4,9,11,13,17,18,55,56,57,95]) (hs:=[4]) (vs:=[22,39]) (by kernel_rfl),h⟩
             ·rintro s' ⟨b68,hsub,h⟩
              subst e_j69
              refine T_sub hsub ?_
              cases b68 with
              | true =>
               replace h := sp_t h
               refine CT ?_
               refine KG (S4 [(2,vb b59),(4,lO 4),(9,lV 22),(11,lV 39),(17,vi x61),(18,vi x67),(55,lS Au0_1 u0_1 cu0_1),(56,vi (u0_1.length : Int)),(57,vi x40)] [(4,[oI u0_0,oS Au0_1 u0_1 cu0_1,oS Au0_2 u0_2 cu0_2,.arr .i64 6 u0_3])] [(22,vI 2 1 L41),(39,vI 2 1 L18)] M) ?_
               refine RG ?_
               refine SS 3 [(2,vb b59),(4,lO 4),(9,lV 22),(11,lV 39),(55,lS Au0_1 u0_1 cu0_1),(56,vi (u0_1.length : Int)),(57,vi x40),(96,lV 22),(97,vi x61),(98,vi x67)] ?_
               obtain ⟨g76,h⟩ := gd_some h
               refine AT 99 (.lf (.vel 22 1 ((x61).toNat) 0)) (At_idxV (z:=x61) (n:=22) (sz:=1) (v:=vI 2 1 L41) (by kernel_rfl) (by kernel_rfl) g76) ?_
               obtain ⟨L77,e_L77,h⟩ := lt_some h
               refine TI_of (i:=4) (by kernel_rfl) (TE_stC (len2:=List.length L77) (m:=1) (n:=22) (sz:=1) (j:=(x61).toNat) (q:=0) (e:=2) (len:=List.length L41) (c:=[oI x67]) (cs0:=ints .i64 L41) (cs2:=ints .i64 L77) (by subst e_L77; kernel_rfl) (by kernel_rfl) (by subst e_L77; kernel_rfl) (vle (toNat_lt g76)) (by kernel_rfl) (by rw [e_L77]; exact set1_ints (toNat_lt g76)) (by rw [e_L77,List.length_set]) ?_)
               refine SG 6 (S4 [(2,vb b59),(4,lO 4),(9,lV 22),(11,lV 39),(13,vb true),(55,lS Au0_1 u0_1 cu0_1),(56,vi (u0_1.length : Int)),(57,vi x40)] [(4,[oI u0_0,oS Au0_1 u0_1 cu0_1,oS Au0_2 u0_2 cu0_2,.arr .i64 6 u0_3])] [(22,vI 2 1 L77),(39,vI 2 1 L18)] M) ?_
               refine E0 (blockQ_n (thenQ_n ?_))
               exact ⟨b59,true,L77,keep_sub (ts:=[2,4,9,11,13,55,56,57]) (hs:=[4]) (vs:=[22,39]) (by kernel_rfl),h⟩
              | false =>
               replace h := sp_f h
               refine CF ?_
               refine KG (S4 [(2,vb b59),(4,lO 4),(9,lV 22),(11,lV 39),(13,vb b39),(55,lS Au0_1 u0_1 cu0_1),(56,vi (u0_1.length : Int)),(57,vi x40)] [(4,[oI u0_0,oS Au0_1 u0_1 cu0_1,oS Au0_2 u0_2 cu0_2,.arr .i64 6 u0_3])] [(22,vI 2 1 L41),(39,vI 2 1 L18)] M) ?_
               refine S0 (blockQ_n (thenQ_n ?_))
               exact ⟨b59,b39,L41,keep_sub (ts:=[2,4,9,11,13,55,56,57]) (hs:=[4]) (vs:=[22,39]) (by kernel_rfl),h⟩
          ·rintro s' ⟨b48,b49,L50,hsub,h⟩
           subst e_j51
           refine thenQ_n ?_
           exact ⟨b48,b49,L50,Sub.trans (keep_sub (s:={ σ := [(2,vb b48),(4,lO 4),(9,lV 22),(11,lV 39),(13,vb b49),(55,lS Au0_1 u0_1 cu0_1),(56,vi (u0_1.length : Int)),(57,vi x40)],H := [(4,[oI u0_0,oS Au0_1 u0_1 cu0_1,oS Au0_2 u0_2 cu0_2,.arr .i64 6 u0_3])],V := [(22,vI 2 1 L50),(39,vI 2 1 L18)],M := M,ds := [] }) (ts:=[2,4,9,11,13,55,56,57]) (hs:=[4]) (vs:=[22,39]) (by kernel_rfl)) hsub,h⟩
         ·rintro s' ⟨b44,b45,L46,hsub,h⟩
          subst e_j47
          refine T_sub hsub ?_
          refine RG ?_
          obtain ⟨x78,e_x78,h⟩ := lt_some h
          refine SG 2 (S4 [(2,vb b44),(4,lO 4),(9,lV 22),(11,lV 39),(13,vb b45),(55,lS Au0_1 u0_1 cu0_1),(56,vi (u0_1.length : Int)),(57,vi x78)] [(4,[oI u0_0,oS Au0_1 u0_1 cu0_1,oS Au0_2 u0_2 cu0_2,.arr .i64 6 u0_3])] [(22,vI 2 1 L46),(39,vI 2 1 L18)] M) ?_ (by subst e_x78;kernel_rfl)
          refine EN ?_
          exact ⟨n42,Nat.lt_succ_self _,b44,b45,x78,L46,keep_sub (ts:=[2,4,9,11,13,55,56,57]) (hs:=[4]) (vs:=[22,39]) (by kernel_rfl),h⟩
        | false =>
         replace h := sp_f h
         refine CF ?_
         refine KS [(2,vb b38),(4,lO 4),(9,lV 22),(11,lV 39),(13,vb b39)] ?_
         refine XI 6 (thenQ_x (thenQ_x (blockQ_x (thenQ_n ?_))))
         exact ⟨b38,b39,L41,keep_sub (ts:=[2,4,9,11,13]) (hs:=[4]) (vs:=[22,39]) (by kernel_rfl),h⟩
      ·rintro s' ⟨b34,b35,L36,hsub,h⟩
       subst e_j37
       refine scopeQ_n ?_
       refine blockQ_n (thenQ_n ?_)
       exact ⟨n33,Nat.lt_succ_self _,b34,b35,L36,Sub.trans (keep_sub (s:={ σ := [(2,vb b34),(4,lO 4),(9,lV 22),(11,lV 39),(13,vb b35)],H := [(4,[oI u0_0,oS Au0_1 u0_1 cu0_1,oS Au0_2 u0_2 cu0_2,.arr .i64 6 u0_3])],V := [(22,vI 2 1 L36),(39,vI 2 1 L18)],M := M,ds := [] }) (ts:=[2,4,9,11,13]) (hs:=[4]) (vs:=[22,39]) (by kernel_rfl)) hsub,h⟩
     | false =>
      replace h := sp_f h
      refine CF ?_
      refine KP [(9,lV 22)] [] [(22,vI 2 1 L32)] ?_
      refine XI 4 (thenQ_x (thenQ_x (blockQ_x (thenQ_n ?_))))
      exact ⟨L32,keep_sub (ts:=[9]) (hs:=[]) (vs:=[22]) (by kernel_rfl),h⟩
   ·rintro s' ⟨L28,hsub,h⟩
    subst e_j29
    refine thenQ_n ?_
    refine T_sub hsub ?_
    refine SQ (RG ?_)
    refine SG 2 (S4 [(8,lV 22)] [] [(22,vI 2 1 L28)] M) ?_
    refine EN ?_
    refine T_turn (turn_pubV 22 (v:=vI 2 1 L28) (by kernel_rfl)) ?_
    rintro _ ⟨A79,c80,M81,rfl,hSA79,hcA79,-,hNA79,hM81⟩
    have fA79 : SlI M81 A79 c80 .i64 L28 := ⟨hSA79,hcA79⟩
    refine KG (S4 [(8,lS A79 L28 c80)] [] [] M81) ?_
    refine RT ?_
    obtain rfl := sj h
    refine FT (lS A79 L28 c80) ?_
    exact ⟨A79,c80,rfl,fA79⟩
end Go.Proofs.Ythniebmammmacaa
namespace Go.Proofs.Ythniebmammmacaa
open Go.RowKit
def p74 (k : Nat) (u0 : Int) (u1g0 : Int) (u1g1 : List (List Int)) (u1g2 : List WT) (u1g3 : List Int) (u2G : Int) (u3G : Int) : Option (Int × Bool) :=
 cl (p76 k u1g0 u1g1 u1g2 u1g3 u0) fun v1 => cl (p75a k u1g0 u1g1 u1g2 u1g3 u2G true u1g0 u1g1 u1g2 u1g3 u0) fun v5 => gd ((0 : Int) ≤ u3G ∧ u3G < (v5.length : Int)) <| lt' (List.getD v5 ((u3G).toNat) 0) fun x10 => cl (p77 k u1g0 u1g1 u1g2 u1g3 u0) fun v11 => lt' (wr .i64 (x10 + v11)) fun x12 => lt' (decide (x10 < (1125899906842624 : Int))) fun b13 => some (x12,b13)
theorem hf74 : Try.prog.funcs[74]? = some Try.f74 := by kernel_rfl
theorem w74 (k : Nat) {M : Mem} {Au1g1 Au1g2 : Option Addr} {cu1g1 cu1g2 bu1 bu2 bu3 : Nat} {Hu1g2 : Nat → Option Addr} {Cu1g2 : Nat → Nat} {u0 u1g0 u2G u3G : Int} {u1g1 : List (List Int)} {u1g2 : List WT} {u1g3 : List Int} (hu1g1 : SlR M Au1g1 cu1g1 .i64 12 u1g1) (hu1g2 : SlW M 3 Au1g2 cu1g2 Hu1g2 Cu1g2 u1g2) (hu1g3 : u1g3.length = 6) (hbu1 : MB M bu1 [oI u1g0,oS Au1g1 u1g1 cu1g1,oS Au1g2 u1g2 cu1g2,.arr .i64 6 u1g3]) (hbu2 : MB M bu2 [oI u2G]) (hbu3 : MB M bu3 [oI u3G]) {r} (h : p74 k u0 u1g0 u1g1 u1g2 u1g3 u2G u3G = some r) :
  Fn Try.prog 74 [rval (.lf (.v (.int .u64 u0))),rval (lP bu1),rval (lP bu2),rval (lP bu3)] M (fun x _ => x = .tup [(some (.v (.int .i64 r.1)),[]),(some (.v (.bool r.2)),[])]) := by
 unfold p74 at h
 refine FO [.lf (.v (.int .u64 u0)),lP bu1,lP bu2,lP bu3] hf74 (wfa_lf _ (by kernel_rfl)) fun w => ?_
 refine SQ0 (RG ?_)
 refine SG 2 (S4 [(0,.lf (.v (.int .u64 u0))),(1,lP bu1),(2,lP bu2),(3,lP bu3)] [] [] M) ?_
 refine EN (SQ ?_)
 obtain ⟨v1,c_v1,h⟩ := cl_some h
 obtain ⟨v5,c_v5,h⟩ := cl_some h
 obtain ⟨g9,h⟩ := gd_some h
 obtain ⟨x10,e_x10,h⟩ := lt_some h
 refine T_draw' (id:=1) [4,5] [0,0,0,0,0,0,0,2,2,2] (by kernel_rfl) (by kernel_rfl) (by kernel_rfl) (by kernel_rfl) [(8,.agg [oI u1g0,oS Au1g1 u1g1 cu1g1,oS Au1g2 u1g2 cu1g2,.arr .i64 6 u1g3]),(9,vi u2G),(10,.agg [oI u1g0,oS Au1g1 u1g1 cu1g1,oS Au1g2 u1g2 cu1g2,.arr .i64 6 u1g3]),(11,.lf (.v (.int .u64 u0))),(14,vi u3G)] (by kernel_rfl) ⟨⟨rfl,⟨rfl,⟨rfl,⟨hu1g3,trivial⟩⟩⟩⟩,⟨trivial,⟨⟨rfl,⟨rfl,⟨rfl,⟨hu1g3,trivial⟩⟩⟩⟩,⟨trivial,⟨trivial,trivial⟩⟩⟩⟩⟩ ?_
 refine Stage_te (stage_all' [3] [0,1,2,6] (by kernel_rfl) (by subst e_x10;kernel_rfl) (by kernel_rfl) ⟨QF_at (i:=0) (d:=8) (x:=.agg [oI u1g0,oS Au1g1 u1g1 cu1g1,oS Au1g2 u1g2 cu1g2,.arr .i64 6 u1g3]) (show OpAt _ _ _ 0 8 _ from by exact At_ldPR (d:=8) (b:=bu1) (off:=0) (m:=9) (c:=[oI u1g0,oS Au1g1 u1g1 cu1g1,oS Au1g2 u1g2 cu1g2,.arr .i64 6 u1g3]) (by subst e_x10;kernel_rfl) (by kernel_rfl) (sgCells_length ⟨rfl,⟨rfl,⟨rfl,⟨hu1g3,trivial⟩⟩⟩⟩) (cells_blk (m:=9) hbu1 ⟨rfl,⟨rfl,⟨rfl,⟨hu1g3,trivial⟩⟩⟩⟩ (by kernel_rfl) rfl)) (by kernel_rfl) (by subst e_x10;kernel_rfl),⟨QF_at (i:=1) (d:=9) (x:=vi u2G) (show OpAt _ _ _ 1 9 _ from by exact At_ldP (d:=9) (b:=bu2) (off:=0) (m:=1) (v:=(.int .i64 u2G)) (by subst e_x10;kernel_rfl) (cell_blk hbu2 ⟨rfl,trivial⟩ (by kernel_rfl))) (by kernel_rfl) (by subst e_x10;kernel_rfl),⟨QF_at (i:=2) (d:=10) (x:=.agg [oI u1g0,oS Au1g1 u1g1 cu1g1,oS Au1g2 u1g2 cu1g2,.arr .i64 6 u1g3]) (show OpAt _ _ _ 2 10 _ from by exact At_ldPR (d:=10) (b:=bu1) (off:=0) (m:=9) (c:=[oI u1g0,oS Au1g1 u1g1 cu1g1,oS Au1g2 u1g2 cu1g2,.arr .i64 6 u1g3]) (by subst e_x10;kernel_rfl) (by kernel_rfl) (sgCells_length ⟨rfl,⟨rfl,⟨rfl,⟨hu1g3,trivial⟩⟩⟩⟩) (cells_blk (m:=9) hbu1 ⟨rfl,⟨rfl,⟨rfl,⟨hu1g3,trivial⟩⟩⟩⟩ (by kernel_rfl) rfl)) (by kernel_rfl) (by subst e_x10;kernel_rfl),⟨QF_at (i:=6) (d:=14) (x:=vi u3G) (show OpAt _ _ _ 6 14 _ from by exact At_ldP (d:=14) (b:=bu3) (off:=0) (m:=1) (v:=(.int .i64 u3G)) (by subst e_x10;kernel_rfl) (cell_blk hbu3 ⟨rfl,trivial⟩ (by kernel_rfl))) (by kernel_rfl) (by subst e_x10;kernel_rfl),trivial⟩⟩⟩⟩) (TE_callR (d:=12) (f:=76) (args:=[rval (.agg [oI u1g0,oS Au1g1 u1g1 cu1g1,oS Au1g2 u1g2 cu1g2,.arr .i64 6 u1g3]),rval (.lf (.v (.int .u64 u0)))]) (by subst e_x10;kernel_rfl) (by subst e_x10;kernel_rfl) (w76 k hu1g1 hu1g2 hu1g3 c_v1) ?_) 
 rintro _ M4 _ hM4 _ ⟨b2,b3,rfl,fb2,fb3⟩
 refine TL_nil (stageQ_of [] (by kernel_rfl) trivial ?_)
 refine Stage_te (stage_all' [] [0,1,6] (by kernel_rfl) (by subst e_x10;kernel_rfl) (by kernel_rfl) ⟨QF_at (i:=0) (d:=8) (x:=.agg [oI u1g0,oS Au1g1 u1g1 cu1g1,oS Au1g2 u1g2 cu1g2,.arr .i64 6 u1g3]) (show OpAt _ _ _ 0 8 _ from by exact At_ldPR (d:=8) (b:=bu1) (off:=0) (m:=9) (c:=[oI u1g0,oS Au1g1 u1g1 cu1g1,oS Au1g2 u1g2 cu1g2,.arr .i64 6 u1g3]) (by subst e_x10;kernel_rfl) (by kernel_rfl) (sgCells_length ⟨rfl,⟨rfl,⟨rfl,⟨hu1g3,trivial⟩⟩⟩⟩) (cells_blk (m:=9) (hM4 _ _ hbu1) ⟨rfl,⟨rfl,⟨rfl,⟨hu1g3,trivial⟩⟩⟩⟩ (by kernel_rfl) rfl)) (by kernel_rfl) (by subst e_x10;kernel_rfl),⟨QF_at (i:=1) (d:=9) (x:=vi u2G) (show OpAt _ _ _ 1 9 _ from by exact At_ldP (d:=9) (b:=bu2) (off:=0) (m:=1) (v:=(.int .i64 u2G)) (by subst e_x10;kernel_rfl) (cell_blk (hM4 _ _ hbu2) ⟨rfl,trivial⟩ (by kernel_rfl))) (by kernel_rfl) (by subst e_x10;kernel_rfl),⟨QF_at (i:=6) (d:=14) (x:=vi u3G) (show OpAt _ _ _ 6 14 _ from by exact At_ldP (d:=14) (b:=bu3) (off:=0) (m:=1) (v:=(.int .i64 u3G)) (by subst e_x10;kernel_rfl) (cell_blk (hM4 _ _ hbu3) ⟨rfl,trivial⟩ (by kernel_rfl))) (by kernel_rfl) (by subst e_x10;kernel_rfl),trivial⟩⟩⟩) (TE_callR (d:=13) (f:=75) (args:=[rval (.agg [oI u1g0,oS Au1g1 u1g1 cu1g1,oS Au1g2 u1g2 cu1g2,.arr .i64 6 u1g3]),rval (vi u2G),rval (vb true),rval (.lf (.v (.func (.func 122) #[] #[(.pointer (some ⟨b2,0,none⟩)),(.pointer (some ⟨b3,0,none⟩))])))]) (by subst e_x10;kernel_rfl) (by subst e_x10;kernel_rfl) (w75a k (hu1g1.le hM4) (hu1g2.le hM4) hu1g3 (hu1g1.le hM4) (hu1g2.le hM4) hu1g3 fb2 fb3 c_v5) ?_) 
 rintro _ M8 _ hM8 _ ⟨A6,c7,rfl,fA6⟩
 refine TL_nil (stageQ_of [(15,.lf (.ep (.slice A6 (v5.length) c7) 1 ((u3G).toNat) 0)),(16,vi x10),(7,vi x10)] (by kernel_rfl) ⟨trivial,⟨trivial,⟨trivial,trivial⟩⟩⟩ ?_)
 refine Stage_nil (stage_all' [9] [6,7,8] (by kernel_rfl) (by subst e_x10; kernel_rfl) (by kernel_rfl) ⟨QF_at (i:=6) (d:=14) (x:=vi u3G) (show OpAt _ _ _ 6 14 _ from by exact At_ldP (d:=14) (b:=bu3) (off:=0) (m:=1) (v:=(.int .i64 u3G)) (by subst e_x10; kernel_rfl) (cell_blk (hM8 _ _ (hM4 _ _ hbu3)) ⟨rfl,trivial⟩ (by kernel_rfl))) (by kernel_rfl) (by subst e_x10; kernel_rfl),⟨QF_at (i:=7) (d:=15) (x:=.lf (.ep (.slice A6 (v5.length) c7) 1 ((u3G).toNat) 0)) (show OpAt _ _ _ 7 15 _ from by exact At_idxI (d:=15) (z:=u3G) (by subst e_x10; kernel_rfl) g9 fA6) (by kernel_rfl) (by subst e_x10; kernel_rfl),⟨QF_at (i:=8) (d:=16) (x:=vi x10) (show OpAt _ _ _ 8 16 _ from by rw [e_x10]; exact At_ldI (d:=16) (q:=(u3G).toNat) (by subst e_x10; kernel_rfl) (toNat_lt g9) fA6) (by kernel_rfl) (by subst e_x10; kernel_rfl),trivial⟩⟩⟩) ?_
 refine thenQ_n ?_
 refine KG (S4 [(0,.lf (.v (.int .u64 u0))),(1,lP bu1),(7,vi x10)] [] [] M8) ?_ (by subst e_x10;kernel_rfl)
 refine SQ (RG ?_)
 refine SS 1 [(0,.lf (.v (.int .u64 u0))),(1,lP bu1),(7,vi x10),(17,vi x10)] ?_
 refine AT 18 (.agg [oI u1g0,oS Au1g1 u1g1 cu1g1,oS Au1g2 u1g2 cu1g2,.arr .i64 6 u1g3]) (At_ldPR (b:=bu1) (off:=0) (m:=9) (c:=[oI u1g0,oS Au1g1 u1g1 cu1g1,oS Au1g2 u1g2 cu1g2,.arr .i64 6 u1g3]) (by kernel_rfl) (by kernel_rfl) (sgCells_length ⟨rfl,⟨rfl,⟨rfl,⟨hu1g3,trivial⟩⟩⟩⟩) (cells_blk (m:=9) (hM8 _ _ (hM4 _ _ hbu1)) ⟨rfl,⟨rfl,⟨rfl,⟨hu1g3,trivial⟩⟩⟩⟩ (by kernel_rfl) rfl)) ?_ (hx:=⟨rfl,⟨rfl,⟨rfl,⟨hu1g3,trivial⟩⟩⟩⟩)
 refine SH 3 [(7,vi x10),(17,vi x10),(18,.agg [oI u1g0,oS Au1g1 u1g1 cu1g1,oS Au1g2 u1g2 cu1g2,.arr .i64 6 u1g3]),(19,.lf (.v (.int .u64 u0)))] [] ?_
 obtain ⟨v11,c_v11,h⟩ := cl_some h
 refine AC 20 (vi v11) (w77 k ((hu1g1.le hM4).le hM8) ((hu1g2.le hM4).le hM8) hu1g3 c_v11) ?_
 obtain ⟨x12,e_x12,h⟩ := lt_some h
 obtain ⟨b13,e_b13,h⟩ := lt_some h
 refine SH 9 [(5,vi x12),(6,vb b13)] [] ?_ (by subst e_b13 e_x12;kernel_rfl)
 refine EN (RT ?_)
 obtain rfl := sj h
 exact FT (.tup [(some (.v (.int .i64 x12)),[]),(some (.v (.bool b13)),[])]) rfl
end Go.Proofs.Ythniebmammmacaa
namespace Go.Proofs.Ythniebmammmacaa
open Go.RowKit
def p72a_r1 (k : Nat) (j6 : Int → Int → Bool → Option (Int × Int × Bool)) (u1y0 : Int) (u1y1 : List (List Int)) (u1y2 : List WT) (u1y3 : List Int) (u1Z : Int) (u1X : Int) : List (Int) → Int → Int → Bool → Option (Int × Int × Bool)
 | [],x1,x2,b3 => j6 x1 x2 b3
 | x5::rest4,x1,x2,b3 => cl2 (p74 k x5 u1y0 u1y1 u1y2 u1y3 u1Z u1X) fun v10 v11 => jn (fun (b12 : Bool) (b13 : Bool) => sp b12 (p72a_r1 k j6 u1y0 u1y1 u1y2 u1y3 u1Z u1X rest4 x5 v10 true) (p72a_r1 k j6 u1y0 u1y1 u1y2 u1y3 u1Z u1X rest4 x1 x2 b13)) fun j14 => sp v11 (sp b3 (lt' (decide (v10 < x2)) fun b15 => j14 b15 true) (j14 true false)) (j14 false b3)
def p72a (k : Nat) (u0 : List (Int)) (u1y0 : Int) (u1y1 : List (List Int)) (u1y2 : List WT) (u1y3 : List Int) (u1Z : Int) (u1X : Int) : Option (Int × Int × Bool) :=
 jn (fun (x1 : Int) (x2 : Int) (b3 : Bool) => some (x1,x2,b3)) fun j6 => p72a_r1 k j6 u1y0 u1y1 u1y2 u1y3 u1Z u1X u0 (0 : Int) (0 : Int) false
theorem hf72a : Try.prog.funcs[72]? = some Try.f72 := by kernel_rfl
theorem w72a (k : Nat) {M : Mem} {lbu0 : List Value} {Au1y1 Au1y2 : Option Addr} {cu1y1 cu1y2 bu1C bu1D bu1_c2 : Nat} {Hu1y2 : Nat → Option Addr} {Cu1y2 : Nat → Nat} {u0 : List (Int)} {u1y0 u1Z u1X : Int} {u1y1 : List (List Int)} {u1y2 : List WT} {u1y3 : List Int} (hu0 : IterE enU Try.prog 120 lbu0 M u0) (hu1y1 : SlR M Au1y1 cu1y1 .i64 12 u1y1) (hu1y2 : SlW M 3 Au1y2 cu1y2 Hu1y2 Cu1y2 u1y2) (hu1y3 : u1y3.length = 6) (hbu1C : MB M bu1C [oI u1y0,oS Au1y1 u1y1 cu1y1,oS Au1y2 u1y2 cu1y2,.arr .i64 6 u1y3]) (hbu1D : MB M bu1D [oI u1Z]) (hbu1_c2 : MB M bu1_c2 [oI u1X]) {r} (h : p72a k u0 u1y0 u1y1 u1y2 u1y3 u1Z u1X = some r) :
  Fn Try.prog 72 [rval (.lf (.v (.func (.func 120) #[] (List.toArray lbu0)))),rval (.lf (.v (.func (.func 74) #[] #[(.pointer (some ⟨bu1C,0,none⟩)),(.pointer (some ⟨bu1D,0,none⟩)),(.pointer (some ⟨bu1_c2,0,none⟩))])))] M (fun x _ => x = .tup [(some (.v (.int .u64 r.1)),[]),(some (.v (.int .i64 r.2.1)),[]),(some (.v (.bool r.2.2)),[])]) := by
 unfold p72a at h
 refine FO [.lf (.v (.func (.func 120) #[] (List.toArray lbu0))),.lf (.v (.func (.func 74) #[] #[(.pointer (some ⟨bu1C,0,none⟩)),(.pointer (some ⟨bu1D,0,none⟩)),(.pointer (some ⟨bu1_c2,0,none⟩))]))] hf72a ⟨trivial,⟨trivial,trivial⟩⟩ fun w => ?_
 refine SQ0 (RG ?_)
 refine SG 4 (S4 [(0,.lf (.v (.func (.func 120) #[] (List.toArray lbu0)))),(3,lO 3),(4,lO 4),(5,lO 5),(6,lO 6)] [(3,[.one (.v (.func (.func 74) #[] #[(.pointer (some ⟨bu1C,0,none⟩)),(.pointer (some ⟨bu1D,0,none⟩)),(.pointer (some ⟨bu1_c2,0,none⟩))]))]),(4,[.one (.v (.int .u64 (0 : Int)))]),(5,[oI (0 : Int)]),(6,[.one (.v (.bool false))])] [] M) ?_
 refine EN (SQ (SQ (RG ?_)))
 refine SS 1 [(3,lO 3),(4,lO 4),(5,lO 5),(6,lO 6),(10,.lf (.v (.func (.func 120) #[] (List.toArray lbu0))))] ?_
 refine EN (BK 0 ?_)
 refine KS [(3,lO 3),(4,lO 4),(5,lO 5),(6,lO 6),(10,.lf (.v (.func (.func 120) #[] (List.toArray lbu0))))] ?_
 obtain ⟨j6,e_j6,h⟩ := jn_some h
 refine T_rangeE enU (p:=11) (g:=10) (gf:=120) (lb:=lbu0) (ks:=u0) [3,4,5,6] (assign:=(sub [1,0,1,0,0] Bd72)) (body:=(sub [1,0,1,0,1] Bd72)) (by kernel_rfl) rfl (by kernel_rfl) (by kernel_rfl) (by kernel_rfl) hu0 (enU_ok _) (by kernel_rfl) (by kernel_rfl) (fun (pre : List (Int)) (H : List (Nat × List Sg)) (V : List (Nat × Vc)) (M' : Mem) => ∃ (x1 : Int) (x2 : Int) (b3 : Bool) (rest : List (Int)),pre ++ rest = u0 ∧ H = [(3,[.one (.v (.func (.func 74) #[] #[(.pointer (some ⟨bu1C,0,none⟩)),(.pointer (some ⟨bu1D,0,none⟩)),(.pointer (some ⟨bu1_c2,0,none⟩))]))]),(4,[.one (.v (.int .u64 x1))]),(5,[oI x2]),(6,[.one (.v (.bool b3))])] ∧ V = [] ∧ Mem.le M M' ∧ p72a_r1 k j6 u1y0 u1y1 u1y2 u1y3 u1Z u1X rest x1 x2 b3 = some r) (fun (c : Code) (H : List (Nat × List Sg)) (V : List (Nat × Vc)) (M' : Mem) => False) ⟨(0 : Int),(0 : Int),false,u0,List.nil_append _,rfl,rfl,(Mem.le_refl _),h⟩ ?_ ?_ ?_ ?_
 ·rintro pre H V M' M'' ⟨x1,x2,b3,rest,hks,e1,e2,hM,h⟩ hMM
  exact ⟨x1,x2,b3,rest,hks,e1,e2,(Mem.le_trans hM hMM),h⟩
 ·rintro l O8 bs pr x5 H V M7 ⟨rest4,hrr⟩ ⟨x1,x2,b3,rest0,hks,rfl,rfl,hM7,h⟩
  have hre : rest0 = x5::rest4 := List.append_cancel_left (hks.trans (by rw [← hrr,List.append_assoc]; rfl))
  subst hre
  rw [p72a_r1] at h
  refine RG ?_
  refine SG 1 { σ := [(3,lO 3),(4,lO 4),(5,lO 5),(6,lO 6),(7,.lf (.v (.int .u64 x5))),(10,.lf (.v (.func (.func 120) #[] (List.toArray lbu0))))],H := [(3,[.one (.v (.func (.func 74) #[] #[(.pointer (some ⟨bu1C,0,none⟩)),(.pointer (some ⟨bu1D,0,none⟩)),(.pointer (some ⟨bu1_c2,0,none⟩))]))]),(4,[.one (.v (.int .u64 x1))]),(5,[oI x2]),(6,[.one (.v (.bool b3))])],V := [],M := M7,ds := [],os := O8,ats := tiesOf [3,4,5,6] bs } ?_
  refine E0 ?_
  refine ⟨rfl,rfl,rfl,fun O9 => ?_⟩
  refine BK 1 (SQ (RG ?_))
  refine SG 2 { σ := [(3,lO 3),(4,lO 4),(5,lO 5),(6,lO 6),(7,.lf (.v (.int .u64 x5))),(10,.lf (.v (.func (.func 120) #[] (List.toArray lbu0)))),(13,.lf (.v (.func (.func 74) #[] #[(.pointer (some ⟨bu1C,0,none⟩)),(.pointer (some ⟨bu1D,0,none⟩)),(.pointer (some ⟨bu1_c2,0,none⟩))]))),(14,.lf (.v (.int .u64 x5)))],H := [(3,[.one (.v (.func (.func 74) #[] #[(.pointer (some ⟨bu1C,0,none⟩)),(.pointer (some ⟨bu1D,0,none⟩)),(.pointer (some ⟨bu1_c2,0,none⟩))]))]),(4,[.one (.v (.int .u64 x1))]),(5,[oI x2]),(6,[.one (.v (.bool b3))])],V := [],M := M7,ds := [],os := O9,ats := tiesOf [3,4,5,6] bs } ?_
  obtain ⟨v10,v11,c_v10,h⟩ := cl2_some h
  refine AC 15 (.tup [(some (.v (.int .i64 v10)),[]),(some (.v (.bool v11)),[])]) (w74 k (hu1y1.le hM7) (hu1y2.le hM7) hu1y3 (hM7 _ _ hbu1C) (hM7 _ _ hbu1D) (hM7 _ _ hbu1_c2) c_v10) ?_ (hx:=(by intro y hy; simp only [List.mem_cons,List.mem_nil_iff,or_false] at hy; rcases hy with rfl | rfl <;> exact trivial))
  refine SH 8 [(3,lO 3),(4,lO 4),(5,lO 5),(6,lO 6),(7,.lf (.v (.int .u64 x5))),(8,vi v10),(9,vb v11),(10,.lf (.v (.func (.func 120) #[] (List.toArray lbu0))))] [(3,[.one (.v (.func (.func 74) #[] #[(.pointer (some ⟨bu1C,0,none⟩)),(.pointer (some ⟨bu1D,0,none⟩)),(.pointer (some ⟨bu1_c2,0,none⟩))]))]),(4,[.one (.v (.int .u64 x1))]),(5,[oI x2]),(6,[.one (.v (.bool b3))])] ?_
  refine EN ?_
  obtain ⟨j14,e_j14,h⟩ := jn_some h
  refine T_cut (c1:=(sub [1,0,1,0,1,0,1,0] Bd72)) (c2:=(sub [1,0,1,0,1,0,1,1] Bd72)) (fun s' => ∃ (b12 : Bool) (b13 : Bool),Sub { σ := [(3,lO 3),(4,lO 4),(5,lO 5),(6,lO 6),(7,.lf (.v (.int .u64 x5))),(8,vi v10),(10,.lf (.v (.func (.func 120) #[] (List.toArray lbu0)))),(27,vb b12)],H := [(3,[.one (.v (.func (.func 74) #[] #[(.pointer (some ⟨bu1C,0,none⟩)),(.pointer (some ⟨bu1D,0,none⟩)),(.pointer (some ⟨bu1_c2,0,none⟩))]))]),(4,[.one (.v (.int .u64 x1))]),(5,[oI x2]),(6,[.one (.v (.bool b13))])],V := [],M := M7,ds := [],os := O9,ats := tiesOf [3,4,5,6] bs } s' ∧ j14 b12 b13 = some r) (by kernel_rfl) ?_ ?_
  ·refine RG ?_
   refine SG 2 { σ := [(3,lO 3),(4,lO 4),(5,lO 5),(6,lO 6),(7,.lf (.v (.int .u64 x5))),(8,vi v10),(10,.lf (.v (.func (.func 120) #[] (List.toArray lbu0)))),(19,vb v11)],H := [(3,[.one (.v (.func (.func 74) #[] #[(.pointer (some ⟨bu1C,0,none⟩)),(.pointer (some ⟨bu1D,0,none⟩)),(.pointer (some ⟨bu1_c2,0,none⟩))]))]),(4,[.one (.v (.int .u64 x1))]),(5,[oI x2]),(6,[.one (.v (.bool b3))])],V := [],M := M7,ds := [],os := O9,ats := tiesOf [3,4,5,6] bs } ?_
   cases v11 with
   | true =>
    replace h := sp_t h
    refine SS 5 [(3,lO 3),(4,lO 4),(5,lO 5),(6,lO 6),(7,.lf (.v (.int .u64 x5))),(8,vi v10),(10,.lf (.v (.func (.func 120) #[] (List.toArray lbu0)))),(19,vb true),(22,vb (!b3))] ?_
    cases b3 with
    | true =>
     replace h := sp_t h
     obtain ⟨b15,e_b15,h⟩ := lt_some h
     refine SH 10 [(3,lO 3),(4,lO 4),(5,lO 5),(6,lO 6),(7,.lf (.v (.int .u64 x5))),(8,vi v10),(10,.lf (.v (.func (.func 120) #[] (List.toArray lbu0)))),(27,vb b15)] [(3,[.one (.v (.func (.func 74) #[] #[(.pointer (some ⟨bu1C,0,none⟩)),(.pointer (some ⟨bu1D,0,none⟩)),(.pointer (some ⟨bu1_c2,0,none⟩))]))]),(4,[.one (.v (.int .u64 x1))]),(5,[oI x2]),(6,[.one (.v (.bool true))])] ?_ (by subst e_b15;kernel_rfl)
     refine EN ?_
     exact ⟨b15,true,keep_sub (ts:=[3,4,5,6,7,8,10,27]) (hs:=[3,4,5,6]) (vs:=[]) (by kernel_rfl),h⟩
    | false =>
     replace h := sp_f h
     refine SH 10 [(3,lO 3),(4,lO 4),(5,lO 5),(6,lO 6),(7,.lf (.v (.int .u64 x5))),(8,vi v10),(10,.lf (.v (.func (.func 120) #[] (List.toArray lbu0)))),(27,vb true)] [(3,[.one (.v (.func (.func 74) #[] #[(.pointer (some ⟨bu1C,0,none⟩)),(.pointer (some ⟨bu1D,0,none⟩)),(.pointer (some ⟨bu1_c2,0,none⟩))]))]),(4,[.one (.v (.int .u64 x1))]),(5,[oI x2]),(6,[.one (.v (.bool false))])] ?_
     refine EN ?_
     exact ⟨true,false,keep_sub (ts:=[3,4,5,6,7,8,10,27]) (hs:=[3,4,5,6]) (vs:=[]) (by kernel_rfl),h⟩
   | false =>
    replace h := sp_f h
    refine SS 10 [(3,lO 3),(4,lO 4),(5,lO 5),(6,lO 6),(7,.lf (.v (.int .u64 x5))),(8,vi v10),(10,.lf (.v (.func (.func 120) #[] (List.toArray lbu0)))),(27,vb false)] ?_
    refine EN ?_
    exact ⟨false,b3,keep_sub (ts:=[3,4,5,6,7,8,10,27]) (hs:=[3,4,5,6]) (vs:=[]) (by kernel_rfl),h⟩
  ·rintro s' ⟨b12,b13,hsub,h⟩
   subst e_j14
   refine T_sub hsub ?_
   cases b12 with
   | true =>
    replace h := sp_t h
    refine CT ?_
    refine KG { σ := [(3,lO 3),(4,lO 4),(5,lO 5),(6,lO 6),(7,.lf (.v (.int .u64 x5))),(8,vi v10),(10,.lf (.v (.func (.func 120) #[] (List.toArray lbu0))))],H := [(3,[.one (.v (.func (.func 74) #[] #[(.pointer (some ⟨bu1C,0,none⟩)),(.pointer (some ⟨bu1D,0,none⟩)),(.pointer (some ⟨bu1_c2,0,none⟩))]))]),(4,[.one (.v (.int .u64 x1))]),(5,[oI x2]),(6,[.one (.v (.bool b13))])],V := [],M := M7,ds := [],os := O9,ats := tiesOf [3,4,5,6] bs } ?_
    refine RG ?_
    refine SH 5 [(3,lO 3),(4,lO 4),(5,lO 5),(6,lO 6),(10,.lf (.v (.func (.func 120) #[] (List.toArray lbu0))))] [(3,[.one (.v (.func (.func 74) #[] #[(.pointer (some ⟨bu1C,0,none⟩)),(.pointer (some ⟨bu1D,0,none⟩)),(.pointer (some ⟨bu1_c2,0,none⟩))]))]),(4,[.one (.v (.int .u64 x5))]),(5,[oI v10]),(6,[.one (.v (.bool true))])] ?_
    refine E0 (blockQ_n ?_)
    refine ⟨_,keep_sub (s':={ σ := [],H := [(3,[.one (.v (.func (.func 74) #[] #[(.pointer (some ⟨bu1C,0,none⟩)),(.pointer (some ⟨bu1D,0,none⟩)),(.pointer (some ⟨bu1_c2,0,none⟩))]))]),(4,[.one (.v (.int .u64 x5))]),(5,[oI v10]),(6,[.one (.v (.bool true))])],V := [],M := M7,ds := [],os := O9,ats := tiesOf [3,4,5,6] bs }) (ts:=[]) (hs:=[3,4,5,6]) (vs:=[]) (by kernel_rfl),rfl,rfl,(Mem.le_refl _),?_⟩
    show (fun (pre : List (Int)) (H : List (Nat × List Sg)) (V : List (Nat × Vc)) (M' : Mem) => ∃ (x1 : Int) (x2 : Int) (b3 : Bool) (rest : List (Int)),pre ++ rest = u0 ∧ H = [(3,[.one (.v (.func (.func 74) #[] #[(.pointer (some ⟨bu1C,0,none⟩)),(.pointer (some ⟨bu1D,0,none⟩)),(.pointer (some ⟨bu1_c2,0,none⟩))]))]),(4,[.one (.v (.int .u64 x1))]),(5,[oI x2]),(6,[.one (.v (.bool b3))])] ∧ V = [] ∧ Mem.le M M' ∧ p72a_r1 k j6 u1y0 u1y1 u1y2 u1y3 u1Z u1X rest x1 x2 b3 = some r) (pr ++ [x5]) _ _ _
    exact ⟨x5,v10,true,rest4,by rw [List.append_assoc]; exact hks,rfl,rfl,(Mem.le_trans (Mem.le_refl _) hM7),h⟩
   | false =>
    replace h := sp_f h
    refine CF ?_
    refine KG { σ := [(3,lO 3),(4,lO 4),(5,lO 5),(6,lO 6),(10,.lf (.v (.func (.func 120) #[] (List.toArray lbu0))))],H := [(3,[.one (.v (.func (.func 74) #[] #[(.pointer (some ⟨bu1C,0,none⟩)),(.pointer (some ⟨bu1D,0,none⟩)),(.pointer (some ⟨bu1_c2,0,none⟩))]))]),(4,[.one (.v (.int .u64 x1))]),(5,[oI x2]),(6,[.one (.v (.bool b13))])],V := [],M := M7,ds := [],os := O9,ats := tiesOf [3,4,5,6] bs } ?_
    refine S0 (blockQ_n ?_)
    refine ⟨_,keep_sub (s':={ σ := [],H := [(3,[.one (.v (.func (.func 74) #[] #[(.pointer (some ⟨bu1C,0,none⟩)),(.pointer (some ⟨bu1D,0,none⟩)),(.pointer (some ⟨bu1_c2,0,none⟩))]))]),(4,[.one (.v (.int .u64 x1))]),(5,[oI x2]),(6,[.one (.v (.bool b13))])],V := [],M := M7,ds := [],os := O9,ats := tiesOf [3,4,5,6] bs }) (ts:=[]) (hs:=[3,4,5,6]) (vs:=[]) (by kernel_rfl),rfl,rfl,(Mem.le_refl _),?_⟩
    show (fun (pre : List (Int)) (H : List (Nat × List Sg)) (V : List (Nat × Vc)) (M' : Mem) => ∃ (x1 : Int) (x2 : Int) (b3 : Bool) (rest : List (Int)),pre ++ rest = u0 ∧ H = [(3,[.one (.v (.func (.func 74) #[] #[(.pointer (some ⟨bu1C,0,none⟩)),(.pointer (some ⟨bu1D,0,none⟩)),(.pointer (some ⟨bu1_c2,0,none⟩))]))]),(4,[.one (.v (.int .u64 x1))]),(5,[oI x2]),(6,[.one (.v (.bool b3))])] ∧ V = [] ∧ Mem.le M M' ∧ p72a_r1 k j6 u1y0 u1y1 u1y2 u1y3 u1Z u1X rest x1 x2 b3 = some r) (pr ++ [x5]) _ _ _
    exact ⟨x1,x2,b13,rest4,by rw [List.append_assoc]; exact hks,rfl,rfl,(Mem.le_trans (Mem.le_refl _) hM7),h⟩
 ·rintro D H V M7 ⟨x1,x2,b3,rest0,hks,rfl,rfl,hM7,h⟩
  have hre : rest0 = [] := by have := congrArg List.length hks;simp at this;exact this
  subst hre
  rw [p72a_r1] at h
  subst e_j6
  refine blockQ_n (thenQ_n (SQ ?_))
  refine T_draw' (id:=6) [3,4,5] [0,0,0,0,0,0] (by kernel_rfl) (by kernel_rfl) (by kernel_rfl) (by kernel_rfl) [(30,.lf (.v (.int .u64 x1))),(31,vi x2),(32,vb b3)] (by kernel_rfl) ⟨trivial,⟨trivial,⟨trivial,trivial⟩⟩⟩ ?_
  refine Stage_ex (stage_all' [0,1,2] [] (by kernel_rfl) (by kernel_rfl) (by kernel_rfl) trivial) ({ σ := [(30,.lf (.v (.int .u64 x1))),(31,vi x2),(32,vb b3),(3,lO 3),(4,lO 4),(5,lO 5),(6,lO 6),(10,.lf (.v (.func (.func 120) #[] (List.toArray lbu0))))],H := [(4,[.one (.v (.int .u64 x1))]),(3,[.one (.v (.func (.func 74) #[] #[(.pointer (some ⟨bu1C,0,none⟩)),(.pointer (some ⟨bu1D,0,none⟩)),(.pointer (some ⟨bu1_c2,0,none⟩))]))]),(4,[.one (.v (.int .u64 x1))]),(5,[oI x2]),(6,[.one (.v (.bool b3))])],V := [],M := M7,ds := [D] }) (by kernel_rfl) [] (by kernel_rfl) trivial ?_
  refine Stage_ex (stage_all' [1,2] [] (by kernel_rfl) (by kernel_rfl) (by kernel_rfl) trivial) ({ σ := [(30,.lf (.v (.int .u64 x1))),(31,vi x2),(32,vb b3),(3,lO 3),(4,lO 4),(5,lO 5),(6,lO 6),(10,.lf (.v (.func (.func 120) #[] (List.toArray lbu0))))],H := [(5,[oI x2]),(4,[.one (.v (.int .u64 x1))]),(3,[.one (.v (.func (.func 74) #[] #[(.pointer (some ⟨bu1C,0,none⟩)),(.pointer (some ⟨bu1D,0,none⟩)),(.pointer (some ⟨bu1_c2,0,none⟩))]))]),(4,[.one (.v (.int .u64 x1))]),(5,[oI x2]),(6,[.one (.v (.bool b3))])],V := [],M := M7,ds := [D] }) (by kernel_rfl) [] (by kernel_rfl) trivial ?_
  refine Stage_ex (stage_all' [2] [] (by kernel_rfl) (by kernel_rfl) (by kernel_rfl) trivial) ({ σ := [(30,.lf (.v (.int .u64 x1))),(31,vi x2),(32,vb b3),(3,lO 3),(4,lO 4),(5,lO 5),(6,lO 6),(10,.lf (.v (.func (.func 120) #[] (List.toArray lbu0))))],H := [(6,[.one (.v (.bool b3))]),(5,[oI x2]),(4,[.one (.v (.int .u64 x1))]),(3,[.one (.v (.func (.func 74) #[] #[(.pointer (some ⟨bu1C,0,none⟩)),(.pointer (some ⟨bu1D,0,none⟩)),(.pointer (some ⟨bu1_c2,0,none⟩))]))]),(4,[.one (.v (.int .u64 x1))]),(5,[oI x2]),(6,[.one (.v (.bool b3))])],V := [],M := M7,ds := [D] }) (by kernel_rfl) [] (by kernel_rfl) trivial ?_
  refine Stage_nil (stage_all' [] [] (by kernel_rfl) (by kernel_rfl) (by kernel_rfl) trivial) ?_
  refine thenQ_n ?_
  refine KG { σ := [(4,lO 4),(5,lO 5),(6,lO 6)],H := [(4,[.one (.v (.int .u64 x1))]),(5,[oI x2]),(6,[.one (.v (.bool b3))])],V := [],M := M7,ds := [D] } ?_
  refine RT ?_
  obtain rfl := sj h
  refine fin_retD (.tup [(some (.v (.int .u64 x1)),[]),(some (.v (.int .i64 x2)),[]),(some (.v (.bool b3)),[])]) D (by kernel_rfl) (by kernel_rfl) rfl ?_
  rfl
 ·intro D c H V M' hI
  exact hI.elim
end Go.Proofs.Ythniebmammmacaa
namespace Go.Proofs.Ythniebmammmacaa
open Go.RowKit
def p98 (k : Nat) (u0 : Int) : Option Bool :=
 cl (p64 k u0 (0 : Int) (1073741824 : Int)) fun v1 => some (!v1)
theorem hf98 : Try.prog.funcs[98]? = some Try.f98 := by kernel_rfl
theorem w98 (k : Nat) {M : Mem} {u0 : Int} {r} (h : p98 k u0 = some r) :
  Fn Try.prog 98 [rval (vi u0)] M (fun x _ => x = vb r) := by
 unfold p98 at h
 refine FO [vi u0] hf98 ⟨trivial,trivial⟩ fun w => ?_
 refine SQ0 (RG ?_)
 refine SG 1 (S4 [(0,vi u0)] [] [] M) ?_
 refine EN (SQ (RG ?_))
 refine SS 1 [(3,vi u0)] ?_
 obtain ⟨v1,c_v1,h⟩ := cl_some h
 refine AC 4 (vb v1) (w64 k  c_v1) ?_
 refine SH 4 [(2,vb (!v1))] [] ?_
 refine EN (RT ?_)
 obtain rfl := sj h
 exact FT (vb (!v1)) rfl
def p115a_l1 (k : Nat) (u0 : List Int) (j1 : Option Int) : Nat → Int → Option Int
 | 0,_ => none
 | n3 + 1,x2 => lt' (decide (x2 < (u0.length : Int))) fun b4 => sp b4 (gd ((0 : Int) ≤ x2 ∧ x2 < (u0.length : Int)) <| lt' (List.getD u0 ((x2).toNat) 0) fun x6 => cl (p98 k x6) fun v7 => sp v7 (some x2) (lt' (wr .i64 (x2 + (1 : Int))) fun x8 => p115a_l1 k u0 j1 n3 x8)) (j1)
def p115a (k : Nat) (u0 : List Int) : Option Int :=
 jn (some (-1 : Int)) fun j1 => p115a_l1 k u0 j1 k (0 : Int)
theorem hf115a : Try.prog.funcs[115]? = some Try.f115 := by kernel_rfl
theorem w115a (k : Nat) {M : Mem} {Au0 : Option Addr} {cu0 : Nat} {u0 : List Int} (hu0 : SlI M Au0 cu0 .i64 u0) {r} (h : p115a k u0 = some r) :
  Fn Try.prog 115 [rval (lS Au0 u0 cu0),rval (.lf (.v (.func (.func 98) #[] #[])))] M (fun x _ => x = vi r) := by
 unfold p115a at h
 refine FO [lS Au0 u0 cu0,.lf (.v (.func (.func 98) #[] #[]))] hf115a ⟨trivial,⟨trivial,trivial⟩⟩ fun w => ?_
 refine SQ0 (RG ?_)
 refine SG 1 (S4 [(0,lS Au0 u0 cu0),(1,.lf (.v (.func (.func 98) #[] #[])))] [] [] M) ?_
 refine EN (SQ (SQ (RG ?_)))
 refine SS 3 [(0,lS Au0 u0 cu0),(1,.lf (.v (.func (.func 98) #[] #[]))),(7,vi (u0.length : Int)),(8,vi (0 : Int))] ?_
 refine EN ?_
 obtain ⟨j1,e_j1,h⟩ := jn_some h
 refine T_bcut (id:=0) (c1:=(sub [1,0,1,0] Bd115)) (fun s' => Sub { σ := [],H := [],V := [],M := M,ds := [] } s' ∧ j1 = some r) (by kernel_rfl) ?_ ?_
 ·refine T_loop (c1:=(sub [1,0,1,0,0] Bd115)) (by kernel_rfl) (fun n3 s' => ∃ (x2 : Int),Sub { σ := [(0,lS Au0 u0 cu0),(1,.lf (.v (.func (.func 98) #[] #[]))),(7,vi (u0.length : Int)),(8,vi x2)],H := [],V := [],M := M,ds := [] } s' ∧ p115a_l1 k u0 j1 n3 x2 = some r) (k:=k) ⟨(0 : Int),keep_sub (ts:=[0,1,7,8]) (hs:=[]) (vs:=[]) (by kernel_rfl),h⟩ ?_
  rintro n3 s' ⟨x2,hsub,h⟩
  cases n3 with
  | zero => rw [p115a_l1] at h;cases h
  | succ n3 =>
   rw [p115a_l1] at h
   refine T_sub hsub ?_
   refine SQ (RG ?_)
   obtain ⟨b4,e_b4,h⟩ := lt_some h
   refine SG 1 (S4 [(0,lS Au0 u0 cu0),(1,.lf (.v (.func (.func 98) #[] #[]))),(7,vi (u0.length : Int)),(8,vi x2),(9,vb b4)] [] [] M) ?_ (by subst e_b4;kernel_rfl)
   refine EN (SQ ?_)
   cases b4 with
   | true =>
    replace h := sp_t h
    refine CT ?_
    refine KS [(0,lS Au0 u0 cu0),(1,.lf (.v (.func (.func 98) #[] #[]))),(7,vi (u0.length : Int)),(8,vi x2)] ?_
    refine SN (SQ (BK 1 (SQ (RG ?_))))
    refine SS 2 [(0,lS Au0 u0 cu0),(1,.lf (.v (.func (.func 98) #[] #[]))),(5,vi x2),(7,vi (u0.length : Int)),(8,vi x2)] ?_
    refine EN (SQ (RG ?_))
    refine SS 3 [(0,lS Au0 u0 cu0),(1,.lf (.v (.func (.func 98) #[] #[]))),(5,vi x2),(7,vi (u0.length : Int)),(8,vi x2),(11,.lf (.v (.func (.func 98) #[] #[]))),(12,lS Au0 u0 cu0),(13,vi x2)] ?_
    obtain ⟨g5,h⟩ := gd_some h
    refine AT 14 (.lf (.ep (.slice Au0 (u0.length) cu0) 1 ((x2).toNat) 0)) (At_idxI (z:=x2) (by kernel_rfl) g5 hu0) ?_
    obtain ⟨x6,e_x6,h⟩ := lt_some h
    refine AT 15 (vi x6) (by rw [e_x6]; exact At_ldI (q:=(x2).toNat) (by subst e_x6; kernel_rfl) (toNat_lt g5) hu0) ?_
    obtain ⟨v7,c_v7,h⟩ := cl_some h
    refine AC 16 (vb v7) (w98 k  c_v7) ?_
    refine SH 6 [(0,lS Au0 u0 cu0),(1,.lf (.v (.func (.func 98) #[] #[]))),(5,vi x2),(7,vi (u0.length : Int)),(8,vi x2),(16,vb v7)] [] ?_
    refine EN ?_
    cases v7 with
    | true =>
     replace h := sp_t h
     refine CT ?_
     refine KS [(5,vi x2)] ?_
     refine SQ (RG ?_)
     refine SS 2 [(4,vi x2)] ?_
     refine EN (RT (blockQ_r (thenQ_r (thenQ_r (blockQ_r (thenQ_r (thenQ_r ?_)))))))
     obtain rfl := sj h
     exact FT (vi x2) rfl
    | false =>
     replace h := sp_f h
     refine CF ?_
     refine KS [(0,lS Au0 u0 cu0),(1,.lf (.v (.func (.func 98) #[] #[]))),(7,vi (u0.length : Int)),(8,vi x2)] ?_
     refine S0 (blockQ_n (thenQ_n (RG ?_)))
     obtain ⟨x8,e_x8,h⟩ := lt_some h
     refine SS 2 [(0,lS Au0 u0 cu0),(1,.lf (.v (.func (.func 98) #[] #[]))),(7,vi (u0.length : Int)),(8,vi x8)] ?_ (by subst e_x8;kernel_rfl)
     refine EN ?_
     exact ⟨n3,Nat.lt_succ_self _,x8,keep_sub (ts:=[0,1,7,8]) (hs:=[]) (vs:=[]) (by kernel_rfl),h⟩
   | false =>
    replace h := sp_f h
    refine CF ?_
    refine KS [] ?_
    refine XI 0 (thenQ_x (thenQ_x (blockQ_x (thenQ_n ?_))))
    exact ⟨keep_sub (ts:=[]) (hs:=[]) (vs:=[]) (by kernel_rfl),h⟩
 ·rintro s' ⟨hsub,h⟩
  subst e_j1
  refine thenQ_n ?_
  refine T_sub hsub ?_
  refine SQ (RG ?_)
  refine SG 1 (S4 [(4,vi (-1 : Int))] [] [] M) ?_
  refine EN (RT ?_)
  obtain rfl := sj h
  exact FT (vi (-1 : Int)) rfl
def p62a (k : Nat) (u0 : List Int) : Option Bool :=
 cl (p115a k u0) fun v1 => lt' (decide (v1 ≥ (0 : Int))) fun b2 => some b2
theorem hf62a : Try.prog.funcs[62]? = some Try.f62 := by kernel_rfl
theorem w62a (k : Nat) {M : Mem} {Au0 : Option Addr} {cu0 : Nat} {u0 : List Int} (hu0 : SlI M Au0 cu0 .i64 u0) {r} (h : p62a k u0 = some r) :
  Fn Try.prog 62 [rval (lS Au0 u0 cu0),rval (.lf (.v (.func (.func 98) #[] #[])))] M (fun x _ => x = vb r) := by
 unfold p62a at h
 refine FO [lS Au0 u0 cu0,.lf (.v (.func (.func 98) #[] #[]))] hf62a ⟨trivial,⟨trivial,trivial⟩⟩ fun w => ?_
 refine SQ0 (RG ?_)
 refine SG 1 (S4 [(0,lS Au0 u0 cu0),(1,.lf (.v (.func (.func 98) #[] #[])))] [] [] M) ?_
 refine EN (SQ (RG ?_))
 refine SS 2 [(5,lS Au0 u0 cu0),(6,.lf (.v (.func (.func 98) #[] #[])))] ?_
 obtain ⟨v1,c_v1,h⟩ := cl_some h
 refine AC 7 (vi v1) (w115a k hu0 c_v1) ?_
 obtain ⟨b2,e_b2,h⟩ := lt_some h
 refine SH 5 [(4,vb b2)] [] ?_ (by subst e_b2;kernel_rfl)
 refine EN (RT ?_)
 obtain rfl := sj h
 exact FT (vb b2) rfl
def p39 (k : Nat) (u0 : List Int) : Option Int :=
 cl (p62a k u0) fun v3 => sp v3 (some (2 : Int)) (some (0 : Int))
theorem hf39 : Try.prog.funcs[39]? = some Try.f39 := by kernel_rfl
theorem w39 (k : Nat) {M : Mem} {u0 : List Int} (hu0 : u0.length = 6) {r} (h : p39 k u0 = some r) :
  Fn Try.prog 39 [rval (.agg [.arr .i64 6 u0])] M (fun x _ => x = vi r) := by
 unfold p39 at h
 refine FO [.agg [.arr .i64 6 u0]] hf39 ⟨⟨hu0,trivial⟩,trivial⟩ fun w => ?_
 refine SQ0 (RG ?_)
 refine SG 2 (S4 [(1,lO 1)] [(1,[.arr .i64 6 u0])] [] M) ?_
 refine EN ?_
 refine T_turn (turn_pubH 1 (c:=[.arr .i64 6 u0]) (by kernel_rfl) (by kernel_rfl)) ?_
 rintro _ ⟨b1,M2,rfl,-,e_M2,-,hM2⟩
 have fb1 : MB M2 b1 [.arr .i64 6 u0] := by rw [e_M2]; exact addM_at _ _ _
 refine KG (S4 [(1,lP b1)] [] [] M2) ?_
 refine SQ (SQ (RG ?_))
 refine AT 3 (lS (some ⟨b1,0,none⟩) u0 6) (At_slA (b:=b1) (off:=0) (n:=6) (L:=u0) (by kernel_rfl) hu0) ?_
 obtain ⟨v3,c_v3,h⟩ := cl_some h
 refine AC (args:=[rval (lS (some ⟨b1,0,none⟩) u0 6),rval (.lf (.v (.func (.func 98) #[] #[])))]) 4 (vb v3) (w62a k (SlI_blk fb1 ⟨hu0,trivial⟩ (by kernel_rfl) rfl hu0 rfl) c_v3) ?_
 refine SH 2 [(4,vb v3)] [] ?_
 refine EN ?_
 cases v3 with
 | true =>
  replace h := sp_t h
  refine CT ?_
  refine KS [] ?_
  refine SQ (RG ?_)
  refine SS 1 [(2,vi (2 : Int))] ?_
  refine EN (RT (thenQ_r ?_))
  obtain rfl := sj h
  exact FT (vi (2 : Int)) rfl
 | false =>
  replace h := sp_f h
  refine CF ?_
  refine KS [] ?_
  refine SN (SQ (RG ?_))
  refine SS 1 [(2,vi (0 : Int))] ?_
  refine EN (RT ?_)
  obtain rfl := sj h
  exact FT (vi (0 : Int)) rfl
def p93 (k : Nat) (u0_0 : List Int) (u0_1 : Int) (u0_2 : Int) (u0_3 : Int) : Option Bool :=
 lt' (decide ((u0_0.length : Int) > (16 : Int))) fun b1 => some b1
theorem hf93 : Try.prog.funcs[93]? = some Try.f93 := by kernel_rfl
theorem w93 (k : Nat) {M : Mem} {Au0_0 : Option Addr} {cu0_0 : Nat} {u0_0 : List Int} {u0_1 u0_2 u0_3 : Int} (hu0_0 : SlI M Au0_0 cu0_0 .i64 u0_0) {r} (h : p93 k u0_0 u0_1 u0_2 u0_3 = some r) :
  Fn Try.prog 93 [rval (.agg [oS Au0_0 u0_0 cu0_0,oI u0_1,oI u0_2,oI u0_3])] M (fun x _ => x = vb r) := by
 unfold p93 at h
 refine FO [.agg [oS Au0_0 u0_0 cu0_0,oI u0_1,oI u0_2,oI u0_3]] hf93 ⟨⟨rfl,⟨rfl,⟨rfl,⟨rfl,trivial⟩⟩⟩⟩,trivial⟩ fun w => ?_
 refine SQ0 (RG ?_)
 refine SG 2 (S4 [(1,lO 1)] [(1,[oS Au0_0 u0_0 cu0_0,oI u0_1,oI u0_2,oI u0_3])] [] M) ?_
 refine EN (SQ (RG ?_))
 obtain ⟨b1,e_b1,h⟩ := lt_some h
 refine SH 5 [(2,vb b1)] [] ?_ (by subst e_b1;kernel_rfl)
 refine EN (RT ?_)
 obtain rfl := sj h
 exact FT (vb b1) rfl
def p127a_l1 (k : Nat) (u0 : List WT) (j1 : Option Int) : Nat → Int → Option Int
 | 0,_ => none
 | n3 + 1,x2 => lt' (decide (x2 < (u0.length : Int))) fun b4 => sp b4 (gd ((0 : Int) ≤ x2 ∧ x2 < (u0.length : Int)) <| lt' ((List.getD u0 ((x2).toNat) ([],[])).1) fun L6 => lt' (List.getD (List.getD u0 ((x2).toNat) ([],[])).2 0 0) fun x7 => lt' (List.getD (List.getD u0 ((x2).toNat) ([],[])).2 1 0) fun x8 => lt' (List.getD (List.getD u0 ((x2).toNat) ([],[])).2 2 0) fun x9 => cl (p93 k L6 x7 x8 x9) fun v10 => sp v10 (some x2) (lt' (wr .i64 (x2 + (1 : Int))) fun x11 => p127a_l1 k u0 j1 n3 x11)) (j1)
def p127a (k : Nat) (u0 : List WT) : Option Int :=
 jn (some (-1 : Int)) fun j1 => p127a_l1 k u0 j1 k (0 : Int)
theorem hf127a : Try.prog.funcs[127]? = some Try.f127 := by kernel_rfl
theorem w127a (k : Nat) {M : Mem} {Au0 : Option Addr} {cu0 : Nat} {Hu0 : Nat → Option Addr} {Cu0 : Nat → Nat} {u0 : List WT} (hu0 : SlW M 3 Au0 cu0 Hu0 Cu0 u0) {r} (h : p127a k u0 = some r) :
  Fn Try.prog 127 [rval (lS Au0 u0 cu0),rval (.lf (.v (.func (.func 93) #[] #[])))] M (fun x _ => x = vi r) := by
 unfold p127a at h
 refine FO [lS Au0 u0 cu0,.lf (.v (.func (.func 93) #[] #[]))] hf127a ⟨trivial,⟨trivial,trivial⟩⟩ fun w => ?_
 refine SQ0 (RG ?_)
 refine SG 1 (S4 [(0,lS Au0 u0 cu0),(1,.lf (.v (.func (.func 93) #[] #[])))] [] [] M) ?_
 refine EN (SQ (SQ (RG ?_)))
 refine SS 3 [(0,lS Au0 u0 cu0),(1,.lf (.v (.func (.func 93) #[] #[]))),(7,vi (u0.length : Int)),(8,vi (0 : Int))] ?_
 refine EN ?_
 obtain ⟨j1,e_j1,h⟩ := jn_some h
 refine T_bcut (id:=0) (c1:=(sub [1,0,1,0] Bd127)) (fun s' => Sub { σ := [],H := [],V := [],M := M,ds := [] } s' ∧ j1 = some r) (by kernel_rfl) ?_ ?_
 ·refine T_loop (c1:=(sub [1,0,1,0,0] Bd127)) (by kernel_rfl) (fun n3 s' => ∃ (x2 : Int),Sub { σ := [(0,lS Au0 u0 cu0),(1,.lf (.v (.func (.func 93) #[] #[]))),(7,vi (u0.length : Int)),(8,vi x2)],H := [],V := [],M := M,ds := [] } s' ∧ p127a_l1 k u0 j1 n3 x2 = some r) (k:=k) ⟨(0 : Int),keep_sub (ts:=[0,1,7,8]) (hs:=[]) (vs:=[]) (by kernel_rfl),h⟩ ?_
  rintro n3 s' ⟨x2,hsub,h⟩
  cases n3 with
  | zero => rw [p127a_l1] at h;cases h
  | succ n3 =>
   rw [p127a_l1] at h
   refine T_sub hsub ?_
   refine SQ (RG ?_)
   obtain ⟨b4,e_b4,h⟩ := lt_some h
   refine SG 1 (S4 [(0,lS Au0 u0 cu0),(1,.lf (.v (.func (.func 93) #[] #[]))),(7,vi (u0.length : Int)),(8,vi x2),(9,vb b4)] [] [] M) ?_ (by subst e_b4;kernel_rfl)
   refine EN (SQ ?_)
   cases b4 with
   | true =>
    replace h := sp_t h
    refine CT ?_
    refine KS [(0,lS Au0 u0 cu0),(1,.lf (.v (.func (.func 93) #[] #[]))),(7,vi (u0.length : Int)),(8,vi x2)] ?_
    refine SN (SQ (BK 1 (SQ (RG ?_))))
    refine SS 2 [(0,lS Au0 u0 cu0),(1,.lf (.v (.func (.func 93) #[] #[]))),(5,vi x2),(7,vi (u0.length : Int)),(8,vi x2)] ?_
    refine EN (SQ (RG ?_))
    refine SS 3 [(0,lS Au0 u0 cu0),(1,.lf (.v (.func (.func 93) #[] #[]))),(5,vi x2),(7,vi (u0.length : Int)),(8,vi x2),(11,.lf (.v (.func (.func 93) #[] #[]))),(12,lS Au0 u0 cu0),(13,vi x2)] ?_
    obtain ⟨g5,h⟩ := gd_some h
    refine AT 14 (.lf (.ep (.slice Au0 (u0.length) cu0) 4 ((x2).toNat) 0)) (At_idxSW (m:=3) (z:=x2) (by kernel_rfl) g5 hu0) ?_
    obtain ⟨L6,e_L6,h⟩ := lt_some h
    have f_L6 : SlI M (Hu0 ((x2).toNat)) (Cu0 ((x2).toNat)) .i64 L6 := by rw [e_L6]; exact (hu0).rows _ (toNat_lt g5)
    obtain ⟨x7,e_x7,h⟩ := lt_some h
    obtain ⟨x8,e_x8,h⟩ := lt_some h
    obtain ⟨x9,e_x9,h⟩ := lt_some h
    refine AT 15 (.agg [oS (Hu0 ((x2).toNat)) L6 (Cu0 ((x2).toNat)),oI x7,oI x8,oI x9]) (by rw [e_L6,e_x7,e_x8,e_x9]; exact At_ldSWa (q:=(x2).toNat) (by subst_vars; kernel_rfl) (toNat_lt g5) hu0) ?_ (hx:=⟨rfl,⟨rfl,⟨rfl,⟨rfl,trivial⟩⟩⟩⟩)
    obtain ⟨v10,c_v10,h⟩ := cl_some h
    refine AC 16 (vb v10) (w93 k f_L6 c_v10) ?_
    refine SH 6 [(0,lS Au0 u0 cu0),(1,.lf (.v (.func (.func 93) #[] #[]))),(5,vi x2),(7,vi (u0.length : Int)),(8,vi x2),(16,vb v10)] [] ?_
    refine EN ?_
    cases v10 with
    | true =>
     replace h := sp_t h
     refine CT ?_
     refine KS [(5,vi x2)] ?_
     refine SQ (RG ?_)
     refine SS 2 [(4,vi x2)] ?_
     refine EN (RT (blockQ_r (thenQ_r (thenQ_r (blockQ_r (thenQ_r (thenQ_r ?_)))))))
     obtain rfl := sj h
     exact FT (vi x2) rfl
    | false =>
     replace h := sp_f h
     refine CF ?_
     refine KS [(0,lS Au0 u0 cu0),(1,.lf (.v (.func (.func 93) #[] #[]))),(7,vi (u0.length : Int)),(8,vi x2)] ?_
     refine S0 (blockQ_n (thenQ_n (RG ?_)))
     obtain ⟨x11,e_x11,h⟩ := lt_some h
     refine SS 2 [(0,lS Au0 u0 cu0),(1,.lf (.v (.func (.func 93) #[] #[]))),(7,vi (u0.length : Int)),(8,vi x11)] ?_ (by subst e_x11;kernel_rfl)
     refine EN ?_
     exact ⟨n3,Nat.lt_succ_self _,x11,keep_sub (ts:=[0,1,7,8]) (hs:=[]) (vs:=[]) (by kernel_rfl),h⟩
   | false =>
    replace h := sp_f h
    refine CF ?_
    refine KS [] ?_
    refine XI 0 (thenQ_x (thenQ_x (blockQ_x (thenQ_n ?_))))
    exact ⟨keep_sub (ts:=[]) (hs:=[]) (vs:=[]) (by kernel_rfl),h⟩
 ·rintro s' ⟨hsub,h⟩
  subst e_j1
  refine thenQ_n ?_
  refine T_sub hsub ?_
  refine SQ (RG ?_)
  refine SG 1 (S4 [(4,vi (-1 : Int))] [] [] M) ?_
  refine EN (RT ?_)
  obtain rfl := sj h
  exact FT (vi (-1 : Int)) rfl
def p92a (k : Nat) (u0 : List WT) : Option Bool :=
 cl (p127a k u0) fun v1 => lt' (decide (v1 ≥ (0 : Int))) fun b2 => some b2
theorem hf92a : Try.prog.funcs[92]? = some Try.f92 := by kernel_rfl
theorem w92a (k : Nat) {M : Mem} {Au0 : Option Addr} {cu0 : Nat} {Hu0 : Nat → Option Addr} {Cu0 : Nat → Nat} {u0 : List WT} (hu0 : SlW M 3 Au0 cu0 Hu0 Cu0 u0) {r} (h : p92a k u0 = some r) :
  Fn Try.prog 92 [rval (lS Au0 u0 cu0),rval (.lf (.v (.func (.func 93) #[] #[])))] M (fun x _ => x = vb r) := by
 unfold p92a at h
 refine FO [lS Au0 u0 cu0,.lf (.v (.func (.func 93) #[] #[]))] hf92a ⟨trivial,⟨trivial,trivial⟩⟩ fun w => ?_
 refine SQ0 (RG ?_)
 refine SG 1 (S4 [(0,lS Au0 u0 cu0),(1,.lf (.v (.func (.func 93) #[] #[])))] [] [] M) ?_
 refine EN (SQ (RG ?_))
 refine SS 2 [(5,lS Au0 u0 cu0),(6,.lf (.v (.func (.func 93) #[] #[])))] ?_
 obtain ⟨v1,c_v1,h⟩ := cl_some h
 refine AC 7 (vi v1) (w127a k hu0 c_v1) ?_
 obtain ⟨b2,e_b2,h⟩ := lt_some h
 refine SH 5 [(4,vb b2)] [] ?_ (by subst e_b2;kernel_rfl)
 refine EN (RT ?_)
 obtain rfl := sj h
 exact FT (vb b2) rfl
def p94 (k : Nat) (u0 : Int) (u1g0 : Int) (u1g1 : List (List Int)) (u1g2 : List WT) : Option Bool :=
 jn (fun (b1 : Bool) => some b1) fun j2 => lt' (decide (u0 ≥ (0 : Int))) fun b3 => sp b3 (lt' (decide (u0 < u1g0)) fun b4 => j2 b4) (j2 false)
theorem hf94 : Try.prog.funcs[94]? = some Try.f94 := by kernel_rfl
theorem w94 (k : Nat) {M : Mem} {Au1g1 Au1g2 : Option Addr} {cu1g1 cu1g2 bu1 : Nat} {Hu1g2 : Nat → Option Addr} {Cu1g2 : Nat → Nat} {u0 u1g0 : Int} {u1g1 : List (List Int)} {u1g2 : List WT} (hu1g1 : SlR M Au1g1 cu1g1 .i64 12 u1g1) (hu1g2 : SlW M 3 Au1g2 cu1g2 Hu1g2 Cu1g2 u1g2) (hbu1 : MB M bu1 [oI u1g0,oS Au1g1 u1g1 cu1g1,oS Au1g2 u1g2 cu1g2]) {r} (h : p94 k u0 u1g0 u1g1 u1g2 = some r) :
  Fn Try.prog 94 [rval (vi u0),rval (lP bu1)] M (fun x _ => x = vb r) := by
 unfold p94 at h
 refine FO [vi u0,lP bu1] hf94 ⟨trivial,⟨trivial,trivial⟩⟩ fun w => ?_
 refine SQ0 (RG ?_)
 refine SG 1 (S4 [(0,vi u0),(1,lP bu1)] [] [] M) ?_
 refine EN ?_
 obtain ⟨j2,e_j2,h⟩ := jn_some h
 refine T_cut (c1:=(sub [1,0] Bd94)) (c2:=(sub [1,1] Bd94)) (fun s' => ∃ (b1 : Bool),Sub { σ := [(3,vb b1)],H := [],V := [],M := M,ds := [] } s' ∧ j2 b1 = some r) (by kernel_rfl) ?_ ?_
 ·refine RG ?_
  obtain ⟨b3,e_b3,h⟩ := lt_some h
  refine SG 3 (S4 [(0,vi u0),(1,lP bu1),(6,vb b3)] [] [] M) ?_ (by subst e_b3;kernel_rfl)
  cases b3 with
  | true =>
   replace h := sp_t h
   refine SS 5 [(6,vb true),(7,vi u0),(8,lP bu1)] ?_
   refine AT 9 (vi u1g0) (At_ldP (b:=bu1) (off:=0) (m:=1) (v:=(.int .i64 u1g0)) (by kernel_rfl) (cell_blk hbu1 ⟨rfl,⟨rfl,⟨rfl,trivial⟩⟩⟩ (by kernel_rfl))) ?_
   obtain ⟨b4,e_b4,h⟩ := lt_some h
   refine SH 9 [(3,vb b4)] [] ?_ (by subst e_b4;kernel_rfl)
   refine EN ?_
   exact ⟨b4,keep_sub (ts:=[3]) (hs:=[]) (vs:=[]) (by kernel_rfl),h⟩
  | false =>
   replace h := sp_f h
   refine SS 9 [(3,vb false)] ?_
   refine EN ?_
   exact ⟨false,keep_sub (ts:=[3]) (hs:=[]) (vs:=[]) (by kernel_rfl),h⟩
 ·rintro s' ⟨b1,hsub,h⟩
  subst e_j2
  refine T_sub hsub ?_
  refine RT ?_
  obtain rfl := sj h
  exact FT (vb b1) rfl
def p95 (k : Nat) (u0 : List Int) (u1w0 : Int) (u1w1 : List (List Int)) (u1w2 : List WT) : Option Bool :=
 jn (fun (b1 : Bool) => jn (fun (b16 : Bool) => some b16) fun j17 => lt' (List.getD u0 0 0) fun x18 => cl (p94 k x18 u1w0 u1w1 u1w2) fun v19 => sp v19 (lt' (List.getD u0 1 0) fun x20 => cl (p94 k x20 u1w0 u1w1 u1w2) fun v21 => sp v21 (lt' (List.getD u0 0 0) fun x22 => lt' (List.getD u0 1 0) fun x23 => lt' (x22 == x23) fun b24 => sp b24 (j17 true) (lt' (List.getD u0 2 0) fun x25 => cl (p64 k x25 (1 : Int) (1073741824 : Int)) fun v26 => sp v26 (sp b1 (cl (p39 k (List.take 6 (List.drop 6 u0))) fun v27 => lt' (v27 != (0 : Int)) fun b28 => j17 b28) (j17 true)) (j17 true))) (j17 true)) (j17 true)) fun j2 => lt' (List.getD u0 4 0) fun x3 => lt' (decide (x3 ≥ (0 : Int))) fun b4 => sp b4 (lt' (List.getD u0 4 0) fun x5 => lt' (List.getD u0 5 0) fun x6 => lt' (decide (x5 < x6)) fun b7 => sp b7 (lt' (List.getD u0 5 0) fun x8 => lt' (decide (x8 ≤ (1440 : Int))) fun b9 => sp b9 (lt' (List.getD u0 3 0) fun x10 => lt' (List.getD u0 5 0) fun x11 => lt' (List.getD u0 4 0) fun x12 => lt' (wr .i64 (x11 - x12)) fun x13 => lt' (mn (1440 : Int) x13) fun x14 => cl (p64 k x10 (1 : Int) x14) fun v15 => j2 v15) (j2 false)) (j2 false)) (j2 false)
theorem hf95 : Try.prog.funcs[95]? = some Try.f95 := by kernel_rfl
theorem w95 (k : Nat) {M : Mem} {Au1w1 Au1w2 : Option Addr} {cu1w1 cu1w2 bu1W bu1 : Nat} {Hu1w2 : Nat → Option Addr} {Cu1w2 : Nat → Nat} {u0 : List Int} {u1w0 : Int} {u1w1 : List (List Int)} {u1w2 : List WT} (hu0 : u0.length = 12) (hu1w1 : SlR M Au1w1 cu1w1 .i64 12 u1w1) (hu1w2 : SlW M 3 Au1w2 cu1w2 Hu1w2 Cu1w2 u1w2) (hbu1W : MB M bu1W [oI u1w0,oS Au1w1 u1w1 cu1w1,oS Au1w2 u1w2 cu1w2]) (hbu1 : MB M bu1 [.one (.v (.func (.func 94) #[] #[(.pointer (some ⟨bu1W,0,none⟩))]))]) {r} (h : p95 k u0 u1w0 u1w1 u1w2 = some r) :
  Fn Try.prog 95 [rval (.agg [.arr .i64 12 u0]),rval (lP bu1)] M (fun x _ => x = vb r) := by
 unfold p95 at h
 refine FO [.agg [.arr .i64 12 u0],lP bu1] hf95 ⟨⟨hu0,trivial⟩,⟨trivial,trivial⟩⟩ fun w => ?_
 refine SQ0 (RG ?_)
 refine SG 2 (S4 [(1,lP bu1),(2,lO 2)] [(2,[.arr .i64 12 u0])] [] M) ?_
 refine EN ?_
 obtain ⟨j2,e_j2,h⟩ := jn_some h
 refine T_cut (c1:=(sub [1,0] Bd95)) (c2:=(sub [1,1] Bd95)) (fun s' => ∃ (b1 : Bool),Sub { σ := [(1,lP bu1),(2,lO 2),(4,vb b1)],H := [(2,[.arr .i64 12 u0])],V := [],M := M,ds := [] } s' ∧ j2 b1 = some r) (by kernel_rfl) ?_ ?_
 ·refine RG ?_
  obtain ⟨x3,e_x3,h⟩ := lt_some h
  obtain ⟨b4,e_b4,h⟩ := lt_some h
  refine SG 4 (S4 [(1,lP bu1),(2,lO 2),(8,vb b4)] [(2,[.arr .i64 12 u0])] [] M) ?_ (by subst e_b4 e_x3;kernel_rfl)
  cases b4 with
  | true =>
   replace h := sp_t h
   obtain ⟨x5,e_x5,h⟩ := lt_some h
   obtain ⟨x6,e_x6,h⟩ := lt_some h
   obtain ⟨b7,e_b7,h⟩ := lt_some h
   refine SS 11 [(1,lP bu1),(2,lO 2),(15,vb b7)] ?_ (by subst_vars;kernel_rfl)
   cases b7 with
   | true =>
    replace h := sp_t h
    obtain ⟨x8,e_x8,h⟩ := lt_some h
    obtain ⟨b9,e_b9,h⟩ := lt_some h
    refine SS 16 [(1,lP bu1),(2,lO 2),(20,vb b9)] ?_ (by subst e_b9 e_x8;kernel_rfl)
    cases b9 with
    | true =>
     replace h := sp_t h
     obtain ⟨x10,e_x10,h⟩ := lt_some h
     obtain ⟨x11,e_x11,h⟩ := lt_some h
     obtain ⟨x12,e_x12,h⟩ := lt_some h
     obtain ⟨x13,e_x13,h⟩ := lt_some h
     obtain ⟨x14,e_x14,h⟩ := lt_some h
     refine SS 24 [(1,lP bu1),(2,lO 2),(20,vb true),(22,vi x10),(28,vi x14)] ?_ (by subst_vars;kernel_rfl)
     obtain ⟨v15,c_v15,h⟩ := cl_some h
     refine AC 29 (vb v15) (w64 k  c_v15) ?_
     refine SH 27 [(1,lP bu1),(2,lO 2),(4,vb v15)] [(2,[.arr .i64 12 u0])] ?_
     refine EN ?_
     exact ⟨v15,keep_sub (ts:=[1,2,4]) (hs:=[2]) (vs:=[]) (by kernel_rfl),h⟩
    | false =>
     replace h := sp_f h
     refine SS 27 [(1,lP bu1),(2,lO 2),(4,vb false)] ?_
     refine EN ?_
     exact ⟨false,keep_sub (ts:=[1,2,4]) (hs:=[2]) (vs:=[]) (by kernel_rfl),h⟩
   | false =>
    replace h := sp_f h
    refine SS 27 [(1,lP bu1),(2,lO 2),(4,vb false)] ?_
    refine EN ?_
    exact ⟨false,keep_sub (ts:=[1,2,4]) (hs:=[2]) (vs:=[]) (by kernel_rfl),h⟩
  | false =>
   replace h := sp_f h
   refine SS 27 [(1,lP bu1),(2,lO 2),(4,vb false)] ?_
   refine EN ?_
   exact ⟨false,keep_sub (ts:=[1,2,4]) (hs:=[2]) (vs:=[]) (by kernel_rfl),h⟩
 ·rintro s' ⟨b1,hsub,h⟩
  subst e_j2
  refine T_sub hsub ?_
  obtain ⟨j17,e_j17,h⟩ := jn_some h
  refine T_cut (c1:=(sub [1,1,0] Bd95)) (c2:=(sub [1,1,1] Bd95)) (fun s' => ∃ (b16 : Bool),Sub { σ := [(3,vb b16)],H := [],V := [],M := M,ds := [] } s' ∧ j17 b16 = some r) (by kernel_rfl) ?_ ?_
  ·refine RG ?_
   refine AT 31 (.lf (.v (.func (.func 94) #[] #[(.pointer (some ⟨bu1W,0,none⟩))]))) (At_ldP (b:=bu1) (off:=0) (m:=1) (v:=(.func (.func 94) #[] #[(.pointer (some ⟨bu1W,0,none⟩))])) (by kernel_rfl) (cell_blk hbu1 ⟨rfl,trivial⟩ (by kernel_rfl))) ?_
   obtain ⟨x18,e_x18,h⟩ := lt_some h
   refine SG 3 (S4 [(1,lP bu1),(2,lO 2),(4,vb b1),(31,.lf (.v (.func (.func 94) #[] #[(.pointer (some ⟨bu1W,0,none⟩))]))),(33,vi x18)] [(2,[.arr .i64 12 u0])] [] M) ?_ (by subst e_x18;kernel_rfl)
   obtain ⟨v19,c_v19,h⟩ := cl_some h
   refine AC 34 (vb v19) (w94 k hu1w1 hu1w2 hbu1W c_v19) ?_
   refine SH 6 [(1,lP bu1),(2,lO 2),(4,vb b1),(36,vb (!v19))] [(2,[.arr .i64 12 u0])] ?_
   cases v19 with
   | true =>
    replace h := sp_t h
    refine AT 37 (.lf (.v (.func (.func 94) #[] #[(.pointer (some ⟨bu1W,0,none⟩))]))) (At_ldP (b:=bu1) (off:=0) (m:=1) (v:=(.func (.func 94) #[] #[(.pointer (some ⟨bu1W,0,none⟩))])) (by kernel_rfl) (cell_blk hbu1 ⟨rfl,trivial⟩ (by kernel_rfl))) ?_
    obtain ⟨x20,e_x20,h⟩ := lt_some h
    refine SH 9 [(2,lO 2),(4,vb b1),(36,vb false),(37,.lf (.v (.func (.func 94) #[] #[(.pointer (some ⟨bu1W,0,none⟩))]))),(39,vi x20)] [(2,[.arr .i64 12 u0])] ?_ (by subst e_x20;kernel_rfl)
    obtain ⟨v21,c_v21,h⟩ := cl_some h
    refine AC 40 (vb v21) (w94 k hu1w1 hu1w2 hbu1W c_v21) ?_
    refine SH 13 [(2,lO 2),(4,vb b1),(43,vb (!v21))] [(2,[.arr .i64 12 u0])] ?_
    cases v21 with
    | true =>
     replace h := sp_t h
     obtain ⟨x22,e_x22,h⟩ := lt_some h
     obtain ⟨x23,e_x23,h⟩ := lt_some h
     obtain ⟨b24,e_b24,h⟩ := lt_some h
     refine SS 20 [(2,lO 2),(4,vb b1),(50,vb b24)] ?_ (by subst_vars;kernel_rfl)
     cases b24 with
     | true =>
      replace h := sp_t h
      refine SH 36 [(3,vb true)] [] ?_
      refine EN ?_
      exact ⟨true,keep_sub (ts:=[3]) (hs:=[]) (vs:=[]) (by kernel_rfl),h⟩
     | false =>
      replace h := sp_f h
      obtain ⟨x25,e_x25,h⟩ := lt_some h
      refine SS 22 [(2,lO 2),(4,vb b1),(50,vb false),(52,vi x25)] ?_ (by subst e_x25;kernel_rfl)
      obtain ⟨v26,c_v26,h⟩ := cl_some h
      refine AC 53 (vb v26) (w64 k  c_v26) ?_
      refine SH 26 [(2,lO 2),(4,vb b1),(56,vb (!v26))] [(2,[.arr .i64 12 u0])] ?_
      cases v26 with
      | true =>
       replace h := sp_t h
       refine SS 30 [(2,lO 2),(60,vb (!b1))] ?_
       cases b1 with
       | true =>
        replace h := sp_t h
        refine SH 32 [(60,vb false),(62,.agg [.arr .i64 6 (List.take 6 (List.drop 6 u0))])] [] ?_
        obtain ⟨v27,c_v27,h⟩ := cl_some h
        refine AC (args:=[rval (.agg [.arr .i64 6 (List.take 6 (List.drop 6 u0))])]) 63 (vi v27) (w39 k (len_dt hu0 (Nat.le_of_ble_eq_true rfl)) c_v27) ?_
        obtain ⟨b28,e_b28,h⟩ := lt_some h
        refine SH 36 [(3,vb b28)] [] ?_ (by subst e_b28;kernel_rfl)
        refine EN ?_
        exact ⟨b28,keep_sub (ts:=[3]) (hs:=[]) (vs:=[]) (by kernel_rfl),h⟩
       | false =>
        replace h := sp_f h
        refine SH 36 [(3,vb true)] [] ?_
        refine EN ?_
        exact ⟨true,keep_sub (ts:=[3]) (hs:=[]) (vs:=[]) (by kernel_rfl),h⟩
      | false =>
       replace h := sp_f h
       refine SH 36 [(3,vb true)] [] ?_
       refine EN ?_
       exact ⟨true,keep_sub (ts:=[3]) (hs:=[]) (vs:=[]) (by kernel_rfl),h⟩
    | false =>
     replace h := sp_f h
     refine SH 36 [(3,vb true)] [] ?_
     refine EN ?_
     exact ⟨true,keep_sub (ts:=[3]) (hs:=[]) (vs:=[]) (by kernel_rfl),h⟩
   | false =>
    replace h := sp_f h
    refine SH 36 [(3,vb true)] [] ?_
    refine EN ?_
    exact ⟨true,keep_sub (ts:=[3]) (hs:=[]) (vs:=[]) (by kernel_rfl),h⟩
  ·rintro s' ⟨b16,hsub,h⟩
   subst e_j17
   refine T_sub hsub ?_
   refine RT ?_
   obtain rfl := sj h
   exact FT (vb b16) rfl
def p80c_l1 (k : Nat) (u0 : List (List Int)) (u1q0 : Int) (u1q1 : List (List Int)) (u1q2 : List WT) (j1 : Option Int) : Nat → Int → Option Int
 | 0,_ => none
 | n3 + 1,x2 => lt' (decide (x2 < (u0.length : Int))) fun b4 => sp b4 (gd ((0 : Int) ≤ x2 ∧ x2 < (u0.length : Int)) <| lt' (List.getD u0 ((x2).toNat) []) fun L6 => cl (p95 k L6 u1q0 u1q1 u1q2) fun v7 => sp v7 (some x2) (lt' (wr .i64 (x2 + (1 : Int))) fun x8 => p80c_l1 k u0 u1q0 u1q1 u1q2 j1 n3 x8)) (j1)
def p80c (k : Nat) (u0 : List (List Int)) (u1q0 : Int) (u1q1 : List (List Int)) (u1q2 : List WT) : Option Int :=
 jn (some (-1 : Int)) fun j1 => p80c_l1 k u0 u1q0 u1q1 u1q2 j1 k (0 : Int)
theorem hf80c : Try.prog.funcs[80]? = some Try.f80 := by kernel_rfl
theorem w80c (k : Nat) {M : Mem} {Au0 Au1q1 Au1q2 : Option Addr} {cu0 cu1q1 cu1q2 bu1Q bu1C : Nat} {Hu1q2 : Nat → Option Addr} {Cu1q2 : Nat → Nat} {u0 u1q1 : List (List Int)} {u1q0 : Int} {u1q2 : List WT} (hu0 : SlR M Au0 cu0 .i64 12 u0) (hu1q1 : SlR M Au1q1 cu1q1 .i64 12 u1q1) (hu1q2 : SlW M 3 Au1q2 cu1q2 Hu1q2 Cu1q2 u1q2) (hbu1Q : MB M bu1Q [oI u1q0,oS Au1q1 u1q1 cu1q1,oS Au1q2 u1q2 cu1q2]) (hbu1C : MB M bu1C [.one (.v (.func (.func 94) #[] #[(.pointer (some ⟨bu1Q,0,none⟩))]))]) {r} (h : p80c k u0 u1q0 u1q1 u1q2 = some r) :
  Fn Try.prog 80 [rval (lS Au0 u0 cu0),rval (.lf (.v (.func (.func 95) #[] #[(.pointer (some ⟨bu1C,0,none⟩))])))] M (fun x _ => x = vi r) := by
 unfold p80c at h
 refine FO [lS Au0 u0 cu0,.lf (.v (.func (.func 95) #[] #[(.pointer (some ⟨bu1C,0,none⟩))]))] hf80c ⟨trivial,⟨trivial,trivial⟩⟩ fun w => ?_
 refine SQ0 (RG ?_)
 refine SG 1 (S4 [(0,lS Au0 u0 cu0),(1,.lf (.v (.func (.func 95) #[] #[(.pointer (some ⟨bu1C,0,none⟩))])))] [] [] M) ?_
 refine EN (SQ (SQ (RG ?_)))
 refine SS 3 [(0,lS Au0 u0 cu0),(1,.lf (.v (.func (.func 95) #[] #[(.pointer (some ⟨bu1C,0,none⟩))]))),(7,vi (u0.length : Int)),(8,vi (0 : Int))] ?_
 refine EN ?_
 obtain ⟨j1,e_j1,h⟩ := jn_some h
 refine T_bcut (id:=0) (c1:=(sub [1,0,1,0] Bd80)) (fun s' => Sub { σ := [],H := [],V := [],M := M,ds := [] } s' ∧ j1 = some r) (by kernel_rfl) ?_ ?_
 ·refine T_loop (c1:=(sub [1,0,1,0,0] Bd80)) (by kernel_rfl) (fun n3 s' => ∃ (x2 : Int),Sub { σ := [(0,lS Au0 u0 cu0),(1,.lf (.v (.func (.func 95) #[] #[(.pointer (some ⟨bu1C,0,none⟩))]))),(7,vi (u0.length : Int)),(8,vi x2)],H := [],V := [],M := M,ds := [] } s' ∧ p80c_l1 k u0 u1q0 u1q1 u1q2 j1 n3 x2 = some r) (k:=k) ⟨(0 : Int),keep_sub (ts:=[0,1,7,8]) (hs:=[]) (vs:=[]) (by kernel_rfl),h⟩ ?_
  rintro n3 s' ⟨x2,hsub,h⟩
  cases n3 with
  | zero => rw [p80c_l1] at h;cases h
  | succ n3 =>
   rw [p80c_l1] at h
   refine T_sub hsub ?_
   refine SQ (RG ?_)
   obtain ⟨b4,e_b4,h⟩ := lt_some h
   refine SG 1 (S4 [(0,lS Au0 u0 cu0),(1,.lf (.v (.func (.func 95) #[] #[(.pointer (some ⟨bu1C,0,none⟩))]))),(7,vi (u0.length : Int)),(8,vi x2),(9,vb b4)] [] [] M) ?_ (by subst e_b4;kernel_rfl)
   refine EN (SQ ?_)
   cases b4 with
   | true =>
    replace h := sp_t h
    refine CT ?_
    refine KS [(0,lS Au0 u0 cu0),(1,.lf (.v (.func (.func 95) #[] #[(.pointer (some ⟨bu1C,0,none⟩))]))),(7,vi (u0.length : Int)),(8,vi x2)] ?_
    refine SN (SQ (BK 1 (SQ (RG ?_))))
    refine SS 2 [(0,lS Au0 u0 cu0),(1,.lf (.v (.func (.func 95) #[] #[(.pointer (some ⟨bu1C,0,none⟩))]))),(5,vi x2),(7,vi (u0.length : Int)),(8,vi x2)] ?_
    refine EN (SQ (RG ?_))
    refine SS 3 [(0,lS Au0 u0 cu0),(1,.lf (.v (.func (.func 95) #[] #[(.pointer (some ⟨bu1C,0,none⟩))]))),(5,vi x2),(7,vi (u0.length : Int)),(8,vi x2),(11,.lf (.v (.func (.func 95) #[] #[(.pointer (some ⟨bu1C,0,none⟩))]))),(12,lS Au0 u0 cu0),(13,vi x2)] ?_
    obtain ⟨g5,h⟩ := gd_some h
    refine AT 14 (.lf (.ep (.slice Au0 (u0.length) cu0) 12 ((x2).toNat) 0)) (At_idxR (z:=x2) (by kernel_rfl) g5 hu0) ?_
    obtain ⟨L6,e_L6,h⟩ := lt_some h
    have l_L6 : (L6).length = 12 := by rw [e_L6]; exact SlR_row hu0 (toNat_lt g5)
    refine AT 15 (.agg [.arr .i64 12 L6]) (by rw [e_L6]; exact At_ldRow (q:=(x2).toNat) (by subst e_L6; kernel_rfl) (toNat_lt g5) hu0) ?_ (hx:=⟨l_L6,trivial⟩)
    obtain ⟨v7,c_v7,h⟩ := cl_some h
    refine AC 16 (vb v7) (w95 k l_L6 hu1q1 hu1q2 hbu1Q hbu1C c_v7) ?_
    refine SH 6 [(0,lS Au0 u0 cu0),(1,.lf (.v (.func (.func 95) #[] #[(.pointer (some ⟨bu1C,0,none⟩))]))),(5,vi x2),(7,vi (u0.length : Int)),(8,vi x2),(16,vb v7)] [] ?_
    refine EN ?_
    cases v7 with
    | true =>
     replace h := sp_t h
     refine CT ?_
     refine KS [(5,vi x2)] ?_
     refine SQ (RG ?_)
     refine SS 2 [(4,vi x2)] ?_
     refine EN (RT (blockQ_r (thenQ_r (thenQ_r (blockQ_r (thenQ_r (thenQ_r ?_)))))))
     obtain rfl := sj h
     exact FT (vi x2) rfl
    | false =>
     replace h := sp_f h
     refine CF ?_
     refine KS [(0,lS Au0 u0 cu0),(1,.lf (.v (.func (.func 95) #[] #[(.pointer (some ⟨bu1C,0,none⟩))]))),(7,vi (u0.length : Int)),(8,vi x2)] ?_
     refine S0 (blockQ_n (thenQ_n (RG ?_)))
     obtain ⟨x8,e_x8,h⟩ := lt_some h
     refine SS 2 [(0,lS Au0 u0 cu0),(1,.lf (.v (.func (.func 95) #[] #[(.pointer (some ⟨bu1C,0,none⟩))]))),(7,vi (u0.length : Int)),(8,vi x8)] ?_ (by subst e_x8;kernel_rfl)
     refine EN ?_
     exact ⟨n3,Nat.lt_succ_self _,x8,keep_sub (ts:=[0,1,7,8]) (hs:=[]) (vs:=[]) (by kernel_rfl),h⟩
   | false =>
    replace h := sp_f h
    refine CF ?_
    refine KS [] ?_
    refine XI 0 (thenQ_x (thenQ_x (blockQ_x (thenQ_n ?_))))
    exact ⟨keep_sub (ts:=[]) (hs:=[]) (vs:=[]) (by kernel_rfl),h⟩
 ·rintro s' ⟨hsub,h⟩
  subst e_j1
  refine thenQ_n ?_
  refine T_sub hsub ?_
  refine SQ (RG ?_)
  refine SG 1 (S4 [(4,vi (-1 : Int))] [] [] M) ?_
  refine EN (RT ?_)
  obtain rfl := sj h
  exact FT (vi (-1 : Int)) rfl
def p97a (k : Nat) (u0 : List (List Int)) (u1q0 : Int) (u1q1 : List (List Int)) (u1q2 : List WT) : Option Bool :=
 cl (p80c k u0 u1q0 u1q1 u1q2) fun v1 => lt' (decide (v1 ≥ (0 : Int))) fun b2 => some b2
theorem hf97a : Try.prog.funcs[97]? = some Try.f97 := by kernel_rfl
theorem w97a (k : Nat) {M : Mem} {Au0 Au1q1 Au1q2 : Option Addr} {cu0 cu1q1 cu1q2 bu1Q bu1C : Nat} {Hu1q2 : Nat → Option Addr} {Cu1q2 : Nat → Nat} {u0 u1q1 : List (List Int)} {u1q0 : Int} {u1q2 : List WT} (hu0 : SlR M Au0 cu0 .i64 12 u0) (hu1q1 : SlR M Au1q1 cu1q1 .i64 12 u1q1) (hu1q2 : SlW M 3 Au1q2 cu1q2 Hu1q2 Cu1q2 u1q2) (hbu1Q : MB M bu1Q [oI u1q0,oS Au1q1 u1q1 cu1q1,oS Au1q2 u1q2 cu1q2]) (hbu1C : MB M bu1C [.one (.v (.func (.func 94) #[] #[(.pointer (some ⟨bu1Q,0,none⟩))]))]) {r} (h : p97a k u0 u1q0 u1q1 u1q2 = some r) :
  Fn Try.prog 97 [rval (lS Au0 u0 cu0),rval (.lf (.v (.func (.func 95) #[] #[(.pointer (some ⟨bu1C,0,none⟩))])))] M (fun x _ => x = vb r) := by
 unfold p97a at h
 refine FO [lS Au0 u0 cu0,.lf (.v (.func (.func 95) #[] #[(.pointer (some ⟨bu1C,0,none⟩))]))] hf97a ⟨trivial,⟨trivial,trivial⟩⟩ fun w => ?_
 refine SQ0 (RG ?_)
 refine SG 1 (S4 [(0,lS Au0 u0 cu0),(1,.lf (.v (.func (.func 95) #[] #[(.pointer (some ⟨bu1C,0,none⟩))])))] [] [] M) ?_
 refine EN (SQ (RG ?_))
 refine SS 2 [(5,lS Au0 u0 cu0),(6,.lf (.v (.func (.func 95) #[] #[(.pointer (some ⟨bu1C,0,none⟩))])))] ?_
 obtain ⟨v1,c_v1,h⟩ := cl_some h
 refine AC 7 (vi v1) (w80c k hu0 hu1q1 hu1q2 hbu1Q hbu1C c_v1) ?_
 obtain ⟨b2,e_b2,h⟩ := lt_some h
 refine SH 5 [(4,vb b2)] [] ?_ (by subst e_b2;kernel_rfl)
 refine EN (RT ?_)
 obtain rfl := sj h
 exact FT (vb b2) rfl
def p96 (k : Nat) (u0_0 : List Int) (u0_1 : Int) (u0_2 : Int) (u0_3 : Int) (u1g0 : Int) (u1g1 : List (List Int)) (u1g2 : List WT) : Option Bool :=
 jn (fun (b1 : Bool) => some b1) fun j2 => lt' ((u0_0.length : Int) == (0 : Int)) fun b3 => sp b3 (j2 true) (cl (p69 k u0_0 (u1g1.length : Int)) fun v4 => sp v4 (lt' (decide (u0_1 < (0 : Int))) fun b5 => sp b5 (j2 true) (lt' (decide (u0_1 > (5 : Int))) fun b6 => sp b6 (j2 true) (cl (p64 k u0_2 (0 : Int) (1073741824 : Int)) fun v7 => sp v7 (cl (p64 k u0_3 (1 : Int) (1073741824 : Int)) fun v8 => j2 (!v8)) (j2 true)))) (j2 true))
theorem hf96 : Try.prog.funcs[96]? = some Try.f96 := by kernel_rfl
theorem w96 (k : Nat) {M : Mem} {Au0_0 Au1g1 Au1g2 : Option Addr} {cu0_0 cu1g1 cu1g2 bu1 : Nat} {Hu1g2 : Nat → Option Addr} {Cu1g2 : Nat → Nat} {u0_0 : List Int} {u0_1 u0_2 u0_3 u1g0 : Int} {u1g1 : List (List Int)} {u1g2 : List WT} (hu0_0 : SlI M Au0_0 cu0_0 .i64 u0_0) (hu1g1 : SlR M Au1g1 cu1g1 .i64 12 u1g1) (hu1g2 : SlW M 3 Au1g2 cu1g2 Hu1g2 Cu1g2 u1g2) (hbu1 : MB M bu1 [oI u1g0,oS Au1g1 u1g1 cu1g1,oS Au1g2 u1g2 cu1g2]) {r} (h : p96 k u0_0 u0_1 u0_2 u0_3 u1g0 u1g1 u1g2 = some r) :
  Fn Try.prog 96 [rval (.agg [oS Au0_0 u0_0 cu0_0,oI u0_1,oI u0_2,oI u0_3]),rval (lP bu1)] M (fun x _ => x = vb r) := by
 unfold p96 at h
 refine FO [.agg [oS Au0_0 u0_0 cu0_0,oI u0_1,oI u0_2,oI u0_3],lP bu1] hf96 ⟨⟨rfl,⟨rfl,⟨rfl,⟨rfl,trivial⟩⟩⟩⟩,⟨trivial,trivial⟩⟩ fun w => ?_
 refine SQ0 (RG ?_)
 refine SG 2 (S4 [(1,lP bu1),(2,lO 2)] [(2,[oS Au0_0 u0_0 cu0_0,oI u0_1,oI u0_2,oI u0_3])] [] M) ?_
 refine EN ?_
 obtain ⟨j2,e_j2,h⟩ := jn_some h
 refine T_cut (c1:=(sub [1,0] Bd96)) (c2:=(sub [1,1] Bd96)) (fun s' => ∃ (b1 : Bool),Sub { σ := [(3,vb b1)],H := [],V := [],M := M,ds := [] } s' ∧ j2 b1 = some r) (by kernel_rfl) ?_ ?_
 ·refine RG ?_
  obtain ⟨b3,e_b3,h⟩ := lt_some h
  refine SG 5 (S4 [(1,lP bu1),(2,lO 2),(8,vb b3)] [(2,[oS Au0_0 u0_0 cu0_0,oI u0_1,oI u0_2,oI u0_3])] [] M) ?_ (by subst e_b3;kernel_rfl)
  cases b3 with
  | true =>
   replace h := sp_t h
   refine SH 36 [(3,vb true)] [] ?_
   refine EN ?_
   exact ⟨true,keep_sub (ts:=[3]) (hs:=[]) (vs:=[]) (by kernel_rfl),h⟩
  | false =>
   replace h := sp_f h
   refine SS 8 [(2,lO 2),(8,vb false),(10,lS Au0_0 u0_0 cu0_0),(11,.lf (.v (.pointer (some ⟨bu1,1,none⟩))))] ?_
   refine AT 12 (lS Au1g1 u1g1 cu1g1) (At_ldP (b:=bu1) (off:=1) (m:=1) (v:=(.slice Au1g1 (u1g1.length) cu1g1)) (by kernel_rfl) (cell_blk hbu1 ⟨rfl,⟨rfl,⟨rfl,trivial⟩⟩⟩ (by kernel_rfl))) ?_
   refine SH 10 [(2,lO 2),(8,vb false),(10,lS Au0_0 u0_0 cu0_0),(13,vi (u1g1.length : Int))] [(2,[oS Au0_0 u0_0 cu0_0,oI u0_1,oI u0_2,oI u0_3])] ?_
   obtain ⟨v4,c_v4,h⟩ := cl_some h
   refine AC 14 (vb v4) (w69 k hu0_0 c_v4) ?_
   refine SH 14 [(2,lO 2),(17,vb (!v4))] [(2,[oS Au0_0 u0_0 cu0_0,oI u0_1,oI u0_2,oI u0_3])] ?_
   cases v4 with
   | true =>
    replace h := sp_t h
    obtain ⟨b5,e_b5,h⟩ := lt_some h
    refine SS 19 [(2,lO 2),(22,vb b5)] ?_ (by subst e_b5;kernel_rfl)
    cases b5 with
    | true =>
     replace h := sp_t h
     refine SH 36 [(3,vb true)] [] ?_
     refine EN ?_
     exact ⟨true,keep_sub (ts:=[3]) (hs:=[]) (vs:=[]) (by kernel_rfl),h⟩
    | false =>
     replace h := sp_f h
     obtain ⟨b6,e_b6,h⟩ := lt_some h
     refine SS 24 [(2,lO 2),(27,vb b6)] ?_ (by subst e_b6;kernel_rfl)
     cases b6 with
     | true =>
      replace h := sp_t h
      refine SH 36 [(3,vb true)] [] ?_
      refine EN ?_
      exact ⟨true,keep_sub (ts:=[3]) (hs:=[]) (vs:=[]) (by kernel_rfl),h⟩
     | false =>
      replace h := sp_f h
      refine SS 26 [(2,lO 2),(27,vb false),(29,vi u0_2)] ?_
      obtain ⟨v7,c_v7,h⟩ := cl_some h
      refine AC 30 (vb v7) (w64 k  c_v7) ?_
      refine SH 30 [(2,lO 2),(33,vb (!v7))] [(2,[oS Au0_0 u0_0 cu0_0,oI u0_1,oI u0_2,oI u0_3])] ?_
      cases v7 with
      | true =>
       replace h := sp_t h
       refine SH 32 [(33,vb false),(35,vi u0_3)] [] ?_
       obtain ⟨v8,c_v8,h⟩ := cl_some h
       refine AC 36 (vb v8) (w64 k  c_v8) ?_
       refine SH 36 [(3,vb (!v8))] [] ?_
       refine EN ?_
       exact ⟨(!v8),keep_sub (ts:=[3]) (hs:=[]) (vs:=[]) (by kernel_rfl),h⟩
      | false =>
       replace h := sp_f h
       refine SH 36 [(3,vb true)] [] ?_
       refine EN ?_
       exact ⟨true,keep_sub (ts:=[3]) (hs:=[]) (vs:=[]) (by kernel_rfl),h⟩
   | false =>
    replace h := sp_f h
    refine SH 36 [(3,vb true)] [] ?_
    refine EN ?_
    exact ⟨true,keep_sub (ts:=[3]) (hs:=[]) (vs:=[]) (by kernel_rfl),h⟩
 ·rintro s' ⟨b1,hsub,h⟩
  subst e_j2
  refine T_sub hsub ?_
  refine RT ?_
  obtain rfl := sj h
  exact FT (vb b1) rfl
def p127b_l1 (k : Nat) (u0 : List WT) (u1y0 : Int) (u1y1 : List (List Int)) (u1y2 : List WT) (j1 : Option Int) : Nat → Int → Option Int
 | 0,_ => none
 | n3 + 1,x2 => lt' (decide (x2 < (u0.length : Int))) fun b4 => sp b4 (gd ((0 : Int) ≤ x2 ∧ x2 < (u0.length : Int)) <| lt' ((List.getD u0 ((x2).toNat) ([],[])).1) fun L6 => lt' (List.getD (List.getD u0 ((x2).toNat) ([],[])).2 0 0) fun x7 => lt' (List.getD (List.getD u0 ((x2).toNat) ([],[])).2 1 0) fun x8 => lt' (List.getD (List.getD u0 ((x2).toNat) ([],[])).2 2 0) fun x9 => cl (p96 k L6 x7 x8 x9 u1y0 u1y1 u1y2) fun v10 => sp v10 (some x2) (lt' (wr .i64 (x2 + (1 : Int))) fun x11 => p127b_l1 k u0 u1y0 u1y1 u1y2 j1 n3 x11)) (j1)
def p127b (k : Nat) (u0 : List WT) (u1y0 : Int) (u1y1 : List (List Int)) (u1y2 : List WT) : Option Int :=
 jn (some (-1 : Int)) fun j1 => p127b_l1 k u0 u1y0 u1y1 u1y2 j1 k (0 : Int)
theorem hf127b : Try.prog.funcs[127]? = some Try.f127 := by kernel_rfl
theorem w127b (k : Nat) {M : Mem} {Au0 Au1y1 Au1y2 : Option Addr} {cu0 cu1y1 cu1y2 bu1C : Nat} {Hu0 Hu1y2 : Nat → Option Addr} {Cu0 Cu1y2 : Nat → Nat} {u0 u1y2 : List WT} {u1y0 : Int} {u1y1 : List (List Int)} (hu0 : SlW M 3 Au0 cu0 Hu0 Cu0 u0) (hu1y1 : SlR M Au1y1 cu1y1 .i64 12 u1y1) (hu1y2 : SlW M 3 Au1y2 cu1y2 Hu1y2 Cu1y2 u1y2) (hbu1C : MB M bu1C [oI u1y0,oS Au1y1 u1y1 cu1y1,oS Au1y2 u1y2 cu1y2]) {r} (h : p127b k u0 u1y0 u1y1 u1y2 = some r) :
  Fn Try.prog 127 [rval (lS Au0 u0 cu0),rval (.lf (.v (.func (.func 96) #[] #[(.pointer (some ⟨bu1C,0,none⟩))])))] M (fun x _ => x = vi r) := by
 unfold p127b at h
 refine FO [lS Au0 u0 cu0,.lf (.v (.func (.func 96) #[] #[(.pointer (some ⟨bu1C,0,none⟩))]))] hf127b ⟨trivial,⟨trivial,trivial⟩⟩ fun w => ?_
 refine SQ0 (RG ?_)
 refine SG 1 (S4 [(0,lS Au0 u0 cu0),(1,.lf (.v (.func (.func 96) #[] #[(.pointer (some ⟨bu1C,0,none⟩))])))] [] [] M) ?_
 refine EN (SQ (SQ (RG ?_)))
 refine SS 3 [(0,lS Au0 u0 cu0),(1,.lf (.v (.func (.func 96) #[] #[(.pointer (some ⟨bu1C,0,none⟩))]))),(7,vi (u0.length : Int)),(8,vi (0 : Int))] ?_
 refine EN ?_
 obtain ⟨j1,e_j1,h⟩ := jn_some h
 refine T_bcut (id:=0) (c1:=(sub [1,0,1,0] Bd127)) (fun s' => Sub { σ := [],H := [],V := [],M := M,ds := [] } s' ∧ j1 = some r) (by kernel_rfl) ?_ ?_
 ·refine T_loop (c1:=(sub [1,0,1,0,0] Bd127)) (by kernel_rfl) (fun n3 s' => ∃ (x2 : Int),Sub { σ := [(0,lS Au0 u0 cu0),(1,.lf (.v (.func (.func 96) #[] #[(.pointer (some ⟨bu1C,0,none⟩))]))),(7,vi (u0.length : Int)),(8,vi x2)],H := [],V := [],M := M,ds := [] } s' ∧ p127b_l1 k u0 u1y0 u1y1 u1y2 j1 n3 x2 = some r) (k:=k) ⟨(0 : Int),keep_sub (ts:=[0,1,7,8]) (hs:=[]) (vs:=[]) (by kernel_rfl),h⟩ ?_
  rintro n3 s' ⟨x2,hsub,h⟩
  cases n3 with
  | zero => rw [p127b_l1] at h;cases h
  | succ n3 =>
   rw [p127b_l1] at h
   refine T_sub hsub ?_
   refine SQ (RG ?_)
   obtain ⟨b4,e_b4,h⟩ := lt_some h
   refine SG 1 (S4 [(0,lS Au0 u0 cu0),(1,.lf (.v (.func (.func 96) #[] #[(.pointer (some ⟨bu1C,0,none⟩))]))),(7,vi (u0.length : Int)),(8,vi x2),(9,vb b4)] [] [] M) ?_ (by subst e_b4;kernel_rfl)
   refine EN (SQ ?_)
   cases b4 with
   | true =>
    replace h := sp_t h
    refine CT ?_
    refine KS [(0,lS Au0 u0 cu0),(1,.lf (.v (.func (.func 96) #[] #[(.pointer (some ⟨bu1C,0,none⟩))]))),(7,vi (u0.length : Int)),(8,vi x2)] ?_
    refine SN (SQ (BK 1 (SQ (RG ?_))))
    refine SS 2 [(0,lS Au0 u0 cu0),(1,.lf (.v (.func (.func 96) #[] #[(.pointer (some ⟨bu1C,0,none⟩))]))),(5,vi x2),(7,vi (u0.length : Int)),(8,vi x2)] ?_
    refine EN (SQ (RG ?_))
    refine SS 3 [(0,lS Au0 u0 cu0),(1,.lf (.v (.func (.func 96) #[] #[(.pointer (some ⟨bu1C,0,none⟩))]))),(5,vi x2),(7,vi (u0.length : Int)),(8,vi x2),(11,.lf (.v (.func (.func 96) #[] #[(.pointer (some ⟨bu1C,0,none⟩))]))),(12,lS Au0 u0 cu0),(13,vi x2)] ?_
    obtain ⟨g5,h⟩ := gd_some h
    refine AT 14 (.lf (.ep (.slice Au0 (u0.length) cu0) 4 ((x2).toNat) 0)) (At_idxSW (m:=3) (z:=x2) (by kernel_rfl) g5 hu0) ?_
    obtain ⟨L6,e_L6,h⟩ := lt_some h
    have f_L6 : SlI M (Hu0 ((x2).toNat)) (Cu0 ((x2).toNat)) .i64 L6 := by rw [e_L6]; exact (hu0).rows _ (toNat_lt g5)
    obtain ⟨x7,e_x7,h⟩ := lt_some h
    obtain ⟨x8,e_x8,h⟩ := lt_some h
    obtain ⟨x9,e_x9,h⟩ := lt_some h
    refine AT 15 (.agg [oS (Hu0 ((x2).toNat)) L6 (Cu0 ((x2).toNat)),oI x7,oI x8,oI x9]) (by rw [e_L6,e_x7,e_x8,e_x9]; exact At_ldSWa (q:=(x2).toNat) (by subst_vars; kernel_rfl) (toNat_lt g5) hu0) ?_ (hx:=⟨rfl,⟨rfl,⟨rfl,⟨rfl,trivial⟩⟩⟩⟩)
    obtain ⟨v10,c_v10,h⟩ := cl_some h
    refine AC 16 (vb v10) (w96 k f_L6 hu1y1 hu1y2 hbu1C c_v10) ?_
    refine SH 6 [(0,lS Au0 u0 cu0),(1,.lf (.v (.func (.func 96) #[] #[(.pointer (some ⟨bu1C,0,none⟩))]))),(5,vi x2),(7,vi (u0.length : Int)),(8,vi x2),(16,vb v10)] [] ?_
    refine EN ?_
    cases v10 with
    | true =>
     replace h := sp_t h
     refine CT ?_
     refine KS [(5,vi x2)] ?_
     refine SQ (RG ?_)
     refine SS 2 [(4,vi x2)] ?_
     refine EN (RT (blockQ_r (thenQ_r (thenQ_r (blockQ_r (thenQ_r (thenQ_r ?_)))))))
     obtain rfl := sj h
     exact FT (vi x2) rfl
    | false =>
     replace h := sp_f h
     refine CF ?_
     refine KS [(0,lS Au0 u0 cu0),(1,.lf (.v (.func (.func 96) #[] #[(.pointer (some ⟨bu1C,0,none⟩))]))),(7,vi (u0.length : Int)),(8,vi x2)] ?_
     refine S0 (blockQ_n (thenQ_n (RG ?_)))
     obtain ⟨x11,e_x11,h⟩ := lt_some h
     refine SS 2 [(0,lS Au0 u0 cu0),(1,.lf (.v (.func (.func 96) #[] #[(.pointer (some ⟨bu1C,0,none⟩))]))),(7,vi (u0.length : Int)),(8,vi x11)] ?_ (by subst e_x11;kernel_rfl)
     refine EN ?_
     exact ⟨n3,Nat.lt_succ_self _,x11,keep_sub (ts:=[0,1,7,8]) (hs:=[]) (vs:=[]) (by kernel_rfl),h⟩
   | false =>
    replace h := sp_f h
    refine CF ?_
    refine KS [] ?_
    refine XI 0 (thenQ_x (thenQ_x (blockQ_x (thenQ_n ?_))))
    exact ⟨keep_sub (ts:=[]) (hs:=[]) (vs:=[]) (by kernel_rfl),h⟩
 ·rintro s' ⟨hsub,h⟩
  subst e_j1
  refine thenQ_n ?_
  refine T_sub hsub ?_
  refine SQ (RG ?_)
  refine SG 1 (S4 [(4,vi (-1 : Int))] [] [] M) ?_
  refine EN (RT ?_)
  obtain rfl := sj h
  exact FT (vi (-1 : Int)) rfl
def p92b (k : Nat) (u0 : List WT) (u1y0 : Int) (u1y1 : List (List Int)) (u1y2 : List WT) : Option Bool :=
 cl (p127b k u0 u1y0 u1y1 u1y2) fun v1 => lt' (decide (v1 ≥ (0 : Int))) fun b2 => some b2
theorem hf92b : Try.prog.funcs[92]? = some Try.f92 := by kernel_rfl
theorem w92b (k : Nat) {M : Mem} {Au0 Au1y1 Au1y2 : Option Addr} {cu0 cu1y1 cu1y2 bu1C : Nat} {Hu0 Hu1y2 : Nat → Option Addr} {Cu0 Cu1y2 : Nat → Nat} {u0 u1y2 : List WT} {u1y0 : Int} {u1y1 : List (List Int)} (hu0 : SlW M 3 Au0 cu0 Hu0 Cu0 u0) (hu1y1 : SlR M Au1y1 cu1y1 .i64 12 u1y1) (hu1y2 : SlW M 3 Au1y2 cu1y2 Hu1y2 Cu1y2 u1y2) (hbu1C : MB M bu1C [oI u1y0,oS Au1y1 u1y1 cu1y1,oS Au1y2 u1y2 cu1y2]) {r} (h : p92b k u0 u1y0 u1y1 u1y2 = some r) :
  Fn Try.prog 92 [rval (lS Au0 u0 cu0),rval (.lf (.v (.func (.func 96) #[] #[(.pointer (some ⟨bu1C,0,none⟩))])))] M (fun x _ => x = vb r) := by
 unfold p92b at h
 refine FO [lS Au0 u0 cu0,.lf (.v (.func (.func 96) #[] #[(.pointer (some ⟨bu1C,0,none⟩))]))] hf92b ⟨trivial,⟨trivial,trivial⟩⟩ fun w => ?_
 refine SQ0 (RG ?_)
 refine SG 1 (S4 [(0,lS Au0 u0 cu0),(1,.lf (.v (.func (.func 96) #[] #[(.pointer (some ⟨bu1C,0,none⟩))])))] [] [] M) ?_
 refine EN (SQ (RG ?_))
 refine SS 2 [(5,lS Au0 u0 cu0),(6,.lf (.v (.func (.func 96) #[] #[(.pointer (some ⟨bu1C,0,none⟩))])))] ?_
 obtain ⟨v1,c_v1,h⟩ := cl_some h
 refine AC 7 (vi v1) (w127b k hu0 hu1y1 hu1y2 hbu1C c_v1) ?_
 obtain ⟨b2,e_b2,h⟩ := lt_some h
 refine SH 5 [(4,vb b2)] [] ?_ (by subst e_b2;kernel_rfl)
 refine EN (RT ?_)
 obtain rfl := sj h
 exact FT (vb b2) rfl
end Go.Proofs.Ythniebmammmacaa
namespace Go.Proofs.Ythniebmammmacaa
open Go.RowKit
def p38 (k : Nat) (u0_0 : Int) (u0_1 : List (List Int)) (u0_2 : List WT) : Option Int :=
 jn (fun (b3 : Bool) => sp b3 (some (6 : Int)) (jn (fun (b10 : Bool) => sp b10 (some (2 : Int)) (some (0 : Int))) fun j11 => lt' (decide (u0_0 < (1 : Int))) fun b12 => sp b12 (j11 true) (lt' (decide (u0_0 > (64 : Int))) fun b13 => sp b13 (j11 true) (cl (p97a k u0_1 u0_0 u0_1 u0_2) fun v14 => sp v14 (j11 true) (cl (p92b k u0_2 u0_0 u0_1 u0_2) fun v15 => j11 v15))))) fun j4 => lt' (decide ((u0_1.length : Int) > (256 : Int))) fun b5 => sp b5 (j4 true) (lt' (decide ((u0_2.length : Int) > (10 : Int))) fun b6 => sp b6 (j4 true) (cl (p92a k u0_2) fun v7 => j4 v7))
theorem hf38 : Try.prog.funcs[38]? = some Try.f38 := by kernel_rfl
theorem w38 (k : Nat) {M : Mem} {Au0_1 Au0_2 : Option Addr} {cu0_1 cu0_2 : Nat} {Hu0_2 : Nat → Option Addr} {Cu0_2 : Nat → Nat} {u0_0 : Int} {u0_1 : List (List Int)} {u0_2 : List WT} (hu0_1 : SlR M Au0_1 cu0_1 .i64 12 u0_1) (hu0_2 : SlW M 3 Au0_2 cu0_2 Hu0_2 Cu0_2 u0_2) {r} (h : p38 k u0_0 u0_1 u0_2 = some r) :
  Fn Try.prog 38 [rval (.agg [oI u0_0,oS Au0_1 u0_1 cu0_1,oS Au0_2 u0_2 cu0_2])] M (fun x _ => x = vi r) := by
 unfold p38 at h
 refine FO [.agg [oI u0_0,oS Au0_1 u0_1 cu0_1,oS Au0_2 u0_2 cu0_2]] hf38 ⟨⟨rfl,⟨rfl,⟨rfl,trivial⟩⟩⟩,trivial⟩ fun w => ?_
 refine SQ0 (RG ?_)
 refine SG 2 (S4 [(1,lO 1)] [(1,[oI u0_0,oS Au0_1 u0_1 cu0_1,oS Au0_2 u0_2 cu0_2])] [] M) ?_
 refine EN ?_
 refine T_turn (turn_pubH 1 (c:=[oI u0_0,oS Au0_1 u0_1 cu0_1,oS Au0_2 u0_2 cu0_2]) (by kernel_rfl) (by kernel_rfl)) ?_
 rintro _ ⟨b1,M2,rfl,-,e_M2,-,hM2⟩
 have fb1 : MB M2 b1 [oI u0_0,oS Au0_1 u0_1 cu0_1,oS Au0_2 u0_2 cu0_2] := by rw [e_M2]; exact addM_at _ _ _
 refine KG (S4 [(1,lP b1)] [] [] M2) ?_
 refine SQ ?_
 obtain ⟨j4,e_j4,h⟩ := jn_some h
 refine T_cut (c1:=(sub [1,0,0] Bd38)) (c2:=(sub [1,0,1] Bd38)) (fun s' => ∃ (b3 : Bool),Sub { σ := [(1,lP b1),(20,vb b3)],H := [],V := [],M := M2,ds := [] } s' ∧ j4 b3 = some r) (by kernel_rfl) ?_ ?_
 ·refine RG ?_
  refine SG 1 (S4 [(1,lP b1),(6,.lf (.v (.pointer (some ⟨b1,1,none⟩))))] [] [] M2) ?_
  refine AT 7 (lS Au0_1 u0_1 cu0_1) (At_ldP (b:=b1) (off:=1) (m:=1) (v:=(.slice Au0_1 (u0_1.length) cu0_1)) (by kernel_rfl) (cell_blk fb1 ⟨rfl,⟨rfl,⟨rfl,trivial⟩⟩⟩ (by kernel_rfl))) ?_
  obtain ⟨b5,e_b5,h⟩ := lt_some h
  refine SH 5 [(1,lP b1),(10,vb b5)] [] ?_ (by subst e_b5;kernel_rfl)
  cases b5 with
  | true =>
   replace h := sp_t h
   refine SS 15 [(1,lP b1),(20,vb true)] ?_
   refine EN ?_
   exact ⟨true,keep_sub (ts:=[1,20]) (hs:=[]) (vs:=[]) (by kernel_rfl),h⟩
  | false =>
   replace h := sp_f h
   refine SS 6 [(1,lP b1),(10,vb false),(11,.lf (.v (.pointer (some ⟨b1,2,none⟩))))] ?_
   refine AT 12 (lS Au0_2 u0_2 cu0_2) (At_ldP (b:=b1) (off:=2) (m:=1) (v:=(.slice Au0_2 (u0_2.length) cu0_2)) (by kernel_rfl) (cell_blk fb1 ⟨rfl,⟨rfl,⟨rfl,trivial⟩⟩⟩ (by kernel_rfl))) ?_
   obtain ⟨b6,e_b6,h⟩ := lt_some h
   refine SH 11 [(1,lP b1),(16,vb b6)] [] ?_ (by subst e_b6;kernel_rfl)
   cases b6 with
   | true =>
    replace h := sp_t h
    refine SS 15 [(1,lP b1),(20,vb true)] ?_
    refine EN ?_
    exact ⟨true,keep_sub (ts:=[1,20]) (hs:=[]) (vs:=[]) (by kernel_rfl),h⟩
   | false =>
    replace h := sp_f h
    refine SS 12 [(1,lP b1),(16,vb false),(17,.lf (.v (.pointer (some ⟨b1,2,none⟩))))] ?_
    refine AT 18 (lS Au0_2 u0_2 cu0_2) (At_ldP (b:=b1) (off:=2) (m:=1) (v:=(.slice Au0_2 (u0_2.length) cu0_2)) (by kernel_rfl) (cell_blk fb1 ⟨rfl,⟨rfl,⟨rfl,trivial⟩⟩⟩ (by kernel_rfl))) ?_
    obtain ⟨v7,c_v7,h⟩ := cl_some h
    refine AC 19 (vb v7) (w92a k (hu0_2.le hM2) c_v7) ?_
    refine SH 15 [(1,lP b1),(20,vb v7)] [] ?_
    refine EN ?_
    exact ⟨v7,keep_sub (ts:=[1,20]) (hs:=[]) (vs:=[]) (by kernel_rfl),h⟩
 ·rintro s' ⟨b3,hsub,h⟩
  subst e_j4
  refine T_sub hsub ?_
  cases b3 with
  | true =>
   replace h := sp_t h
   refine CT ?_
   refine KG (S4 [] [] [] M2) ?_
   refine SQ (RG ?_)
   refine SS 1 [(2,vi (6 : Int))] ?_
   refine EN (RT (thenQ_r ?_))
   obtain rfl := sj h
   exact FT (vi (6 : Int)) rfl
  | false =>
   replace h := sp_f h
   refine CF ?_
   refine KG (S4 [(1,lP b1)] [] [] M2) ?_
   refine SN (SQ (RG ?_))
   refine SH 3 [(1,lP b1),(3,lO 3)] [(3,[.one (.v (.func (.func 94) #[] #[(.pointer (some ⟨b1,0,none⟩))]))])] ?_
   refine EN ?_
   refine T_turn (turn_pubH 3 (c:=[.one (.v (.func (.func 94) #[] #[(.pointer (some ⟨b1,0,none⟩))]))]) (by kernel_rfl) (by kernel_rfl)) ?_
   rintro _ ⟨b8,M9,rfl,-,e_M9,-,hM9⟩
   have fb8 : MB M9 b8 [.one (.v (.func (.func 94) #[] #[(.pointer (some ⟨b1,0,none⟩))]))] := by rw [e_M9]; exact addM_at _ _ _
   refine KG (S4 [(1,lP b1),(3,lP b8)] [] [] M9) ?_
   refine SQ (RG ?_)
   refine SS 2 [(1,lP b1),(4,.lf (.v (.func (.func 95) #[] #[(.pointer (some ⟨b8,0,none⟩))])))] ?_
   refine EN (SQ (RG ?_))
   refine SS 2 [(1,lP b1),(4,.lf (.v (.func (.func 95) #[] #[(.pointer (some ⟨b8,0,none⟩))]))),(5,.lf (.v (.func (.func 96) #[] #[(.pointer (some ⟨b1,0,none⟩))])))] ?_
   refine EN (SQ ?_)
   obtain ⟨j11,e_j11,h⟩ := jn_some h
   refine T_cut (c1:=(sub [1,1,1,1,1,0,0] Bd38)) (c2:=(sub [1,1,1,1,1,0,1] Bd38)) (fun s' => ∃ (b10 : Bool),Sub { σ := [(43,vb b10)],H := [],V := [],M := M9,ds := [] } s' ∧ j11 b10 = some r) (by kernel_rfl) ?_ ?_
   ·refine RG ?_
    refine SG 1 (S4 [(1,lP b1),(4,.lf (.v (.func (.func 95) #[] #[(.pointer (some ⟨b8,0,none⟩))]))),(5,.lf (.v (.func (.func 96) #[] #[(.pointer (some ⟨b1,0,none⟩))]))),(24,lP b1)] [] [] M9) ?_
    refine AT 25 (vi u0_0) (At_ldP (b:=b1) (off:=0) (m:=1) (v:=(.int .i64 u0_0)) (by kernel_rfl) (cell_blk (hM9 _ _ fb1) ⟨rfl,⟨rfl,⟨rfl,trivial⟩⟩⟩ (by kernel_rfl))) ?_
    obtain ⟨b12,e_b12,h⟩ := lt_some h
    refine SH 4 [(1,lP b1),(4,.lf (.v (.func (.func 95) #[] #[(.pointer (some ⟨b8,0,none⟩))]))),(5,.lf (.v (.func (.func 96) #[] #[(.pointer (some ⟨b1,0,none⟩))]))),(27,vb b12)] [] ?_ (by subst e_b12;kernel_rfl)
    cases b12 with
    | true =>
     replace h := sp_t h
     refine SS 20 [(43,vb true)] ?_
     refine EN ?_
     exact ⟨true,keep_sub (ts:=[43]) (hs:=[]) (vs:=[]) (by kernel_rfl),h⟩
    | false =>
     replace h := sp_f h
     refine SS 5 [(1,lP b1),(4,.lf (.v (.func (.func 95) #[] #[(.pointer (some ⟨b8,0,none⟩))]))),(5,.lf (.v (.func (.func 96) #[] #[(.pointer (some ⟨b1,0,none⟩))]))),(27,vb false),(28,lP b1)] ?_
     refine AT 29 (vi u0_0) (At_ldP (b:=b1) (off:=0) (m:=1) (v:=(.int .i64 u0_0)) (by kernel_rfl) (cell_blk (hM9 _ _ fb1) ⟨rfl,⟨rfl,⟨rfl,trivial⟩⟩⟩ (by kernel_rfl))) ?_
     obtain ⟨b13,e_b13,h⟩ := lt_some h
     refine SH 9 [(1,lP b1),(4,.lf (.v (.func (.func 95) #[] #[(.pointer (some ⟨b8,0,none⟩))]))),(5,.lf (.v (.func (.func 96) #[] #[(.pointer (some ⟨b1,0,none⟩))]))),(32,vb b13)] [] ?_ (by subst e_b13;kernel_rfl)
     cases b13 with
     | true =>
      replace h := sp_t h
      refine SS 20 [(43,vb true)] ?_
      refine EN ?_
      exact ⟨true,keep_sub (ts:=[43]) (hs:=[]) (vs:=[]) (by kernel_rfl),h⟩
     | false =>
      replace h := sp_f h
      refine SS 10 [(1,lP b1),(4,.lf (.v (.func (.func 95) #[] #[(.pointer (some ⟨b8,0,none⟩))]))),(5,.lf (.v (.func (.func 96) #[] #[(.pointer (some ⟨b1,0,none⟩))]))),(32,vb false),(33,.lf (.v (.pointer (some ⟨b1,1,none⟩))))] ?_
      refine AT 34 (lS Au0_1 u0_1 cu0_1) (At_ldP (b:=b1) (off:=1) (m:=1) (v:=(.slice Au0_1 (u0_1.length) cu0_1)) (by kernel_rfl) (cell_blk (hM9 _ _ fb1) ⟨rfl,⟨rfl,⟨rfl,trivial⟩⟩⟩ (by kernel_rfl))) ?_
      refine SH 12 [(1,lP b1),(5,.lf (.v (.func (.func 96) #[] #[(.pointer (some ⟨b1,0,none⟩))]))),(32,vb false),(34,lS Au0_1 u0_1 cu0_1),(35,.lf (.v (.func (.func 95) #[] #[(.pointer (some ⟨b8,0,none⟩))])))] [] ?_
      obtain ⟨v14,c_v14,h⟩ := cl_some h
      refine AC 36 (vb v14) (w97a k ((hu0_1.le hM2).le hM9) ((hu0_1.le hM2).le hM9) ((hu0_2.le hM2).le hM9) (hM9 _ _ fb1) fb8 c_v14) ?_
      refine SH 15 [(1,lP b1),(5,.lf (.v (.func (.func 96) #[] #[(.pointer (some ⟨b1,0,none⟩))]))),(38,vb v14)] [] ?_
      cases v14 with
      | true =>
       replace h := sp_t h
       refine SS 20 [(43,vb true)] ?_
       refine EN ?_
       exact ⟨true,keep_sub (ts:=[43]) (hs:=[]) (vs:=[]) (by kernel_rfl),h⟩
      | false =>
       replace h := sp_f h
       refine SS 16 [(5,.lf (.v (.func (.func 96) #[] #[(.pointer (some ⟨b1,0,none⟩))]))),(38,vb false),(39,.lf (.v (.pointer (some ⟨b1,2,none⟩))))] ?_
       refine AT 40 (lS Au0_2 u0_2 cu0_2) (At_ldP (b:=b1) (off:=2) (m:=1) (v:=(.slice Au0_2 (u0_2.length) cu0_2)) (by kernel_rfl) (cell_blk (hM9 _ _ fb1) ⟨rfl,⟨rfl,⟨rfl,trivial⟩⟩⟩ (by kernel_rfl))) ?_
       refine SH 18 [(38,vb false),(40,lS Au0_2 u0_2 cu0_2),(41,.lf (.v (.func (.func 96) #[] #[(.pointer (some ⟨b1,0,none⟩))])))] [] ?_
       obtain ⟨v15,c_v15,h⟩ := cl_some h
       refine AC 42 (vb v15) (w92b k ((hu0_2.le hM2).le hM9) ((hu0_1.le hM2).le hM9) ((hu0_2.le hM2).le hM9) (hM9 _ _ fb1) c_v15) ?_
       refine SH 20 [(43,vb v15)] [] ?_
       refine EN ?_
       exact ⟨v15,keep_sub (ts:=[43]) (hs:=[]) (vs:=[]) (by kernel_rfl),h⟩
   ·rintro s' ⟨b10,hsub,h⟩
    subst e_j11
    refine T_sub hsub ?_
    cases b10 with
    | true =>
     replace h := sp_t h
     refine CT ?_
     refine KG (S4 [] [] [] M9) ?_
     refine SQ (RG ?_)
     refine SS 1 [(2,vi (2 : Int))] ?_
     refine EN (RT (thenQ_r ?_))
     obtain rfl := sj h
     exact FT (vi (2 : Int)) rfl
    | false =>
     replace h := sp_f h
     refine CF ?_
     refine KG (S4 [] [] [] M9) ?_
     refine SN (SQ (RG ?_))
     refine SS 1 [(2,vi (0 : Int))] ?_
     refine EN (RT ?_)
     obtain rfl := sj h
     exact FT (vi (0 : Int)) rfl
def p117 (k : Nat) (u0 : Int) (u1g0 : Int) (u1g1 : List (List Int)) (u1g2 : List WT) : Option Bool :=
 jn (fun (b1 : Bool) => some b1) fun j2 => lt' (decide (u0 < (0 : Int))) fun b3 => sp b3 (j2 true) (lt' (decide (u0 ≥ u1g0)) fun b4 => j2 b4)
theorem hf117 : Try.prog.funcs[117]? = some Try.f117 := by kernel_rfl
theorem w117 (k : Nat) {M : Mem} {Au1g1 Au1g2 : Option Addr} {cu1g1 cu1g2 bu1 : Nat} {Hu1g2 : Nat → Option Addr} {Cu1g2 : Nat → Nat} {u0 u1g0 : Int} {u1g1 : List (List Int)} {u1g2 : List WT} (hu1g1 : SlR M Au1g1 cu1g1 .i64 12 u1g1) (hu1g2 : SlW M 3 Au1g2 cu1g2 Hu1g2 Cu1g2 u1g2) (hbu1 : MB M bu1 [oI u1g0,oS Au1g1 u1g1 cu1g1,oS Au1g2 u1g2 cu1g2]) {r} (h : p117 k u0 u1g0 u1g1 u1g2 = some r) :
  Fn Try.prog 117 [rval (vi u0),rval (lP bu1)] M (fun x _ => x = vb r) := by
 unfold p117 at h
 refine FO [vi u0,lP bu1] hf117 ⟨trivial,⟨trivial,trivial⟩⟩ fun w => ?_
 refine SQ0 (RG ?_)
 refine SG 1 (S4 [(0,vi u0),(1,lP bu1)] [] [] M) ?_
 refine EN ?_
 obtain ⟨j2,e_j2,h⟩ := jn_some h
 refine T_cut (c1:=(sub [1,0] Bd117)) (c2:=(sub [1,1] Bd117)) (fun s' => ∃ (b1 : Bool),Sub { σ := [(3,vb b1)],H := [],V := [],M := M,ds := [] } s' ∧ j2 b1 = some r) (by kernel_rfl) ?_ ?_
 ·refine RG ?_
  obtain ⟨b3,e_b3,h⟩ := lt_some h
  refine SG 3 (S4 [(0,vi u0),(1,lP bu1),(6,vb b3)] [] [] M) ?_ (by subst e_b3;kernel_rfl)
  cases b3 with
  | true =>
   replace h := sp_t h
   refine SS 9 [(3,vb true)] ?_
   refine EN ?_
   exact ⟨true,keep_sub (ts:=[3]) (hs:=[]) (vs:=[]) (by kernel_rfl),h⟩
  | false =>
   replace h := sp_f h
   refine SS 5 [(6,vb false),(7,vi u0),(8,lP bu1)] ?_
   refine AT 9 (vi u1g0) (At_ldP (b:=bu1) (off:=0) (m:=1) (v:=(.int .i64 u1g0)) (by kernel_rfl) (cell_blk hbu1 ⟨rfl,⟨rfl,⟨rfl,trivial⟩⟩⟩ (by kernel_rfl))) ?_
   obtain ⟨b4,e_b4,h⟩ := lt_some h
   refine SH 9 [(3,vb b4)] [] ?_ (by subst e_b4;kernel_rfl)
   refine EN ?_
   exact ⟨b4,keep_sub (ts:=[3]) (hs:=[]) (vs:=[]) (by kernel_rfl),h⟩
 ·rintro s' ⟨b1,hsub,h⟩
  subst e_j2
  refine T_sub hsub ?_
  refine RT ?_
  obtain rfl := sj h
  exact FT (vb b1) rfl
def p125a_l1 (k : Nat) (u0 : List Int) (u1y0 : Int) (u1y1 : List (List Int)) (u1y2 : List WT) (j1 : Option Int) : Nat → Int → Option Int
 | 0,_ => none
 | n3 + 1,x2 => lt' (decide (x2 < (u0.length : Int))) fun b4 => sp b4 (gd ((0 : Int) ≤ x2 ∧ x2 < (u0.length : Int)) <| lt' (List.getD u0 ((x2).toNat) 0) fun x6 => cl (p117 k x6 u1y0 u1y1 u1y2) fun v7 => sp v7 (some x2) (lt' (wr .i64 (x2 + (1 : Int))) fun x8 => p125a_l1 k u0 u1y0 u1y1 u1y2 j1 n3 x8)) (j1)
def p125a (k : Nat) (u0 : List Int) (u1y0 : Int) (u1y1 : List (List Int)) (u1y2 : List WT) : Option Int :=
 jn (some (-1 : Int)) fun j1 => p125a_l1 k u0 u1y0 u1y1 u1y2 j1 k (0 : Int)
theorem hf125a : Try.prog.funcs[125]? = some Try.f125 := by kernel_rfl
theorem w125a (k : Nat) {M : Mem} {Au0 Au1y1 Au1y2 : Option Addr} {cu0 cu1y1 cu1y2 bu1C : Nat} {Hu1y2 : Nat → Option Addr} {Cu1y2 : Nat → Nat} {u0 : List Int} {u1y0 : Int} {u1y1 : List (List Int)} {u1y2 : List WT} (hu0 : SlI M Au0 cu0 .i64 u0) (hu1y1 : SlR M Au1y1 cu1y1 .i64 12 u1y1) (hu1y2 : SlW M 3 Au1y2 cu1y2 Hu1y2 Cu1y2 u1y2) (hbu1C : MB M bu1C [oI u1y0,oS Au1y1 u1y1 cu1y1,oS Au1y2 u1y2 cu1y2]) {r} (h : p125a k u0 u1y0 u1y1 u1y2 = some r) :
  Fn Try.prog 125 [rval (lS Au0 u0 cu0),rval (.lf (.v (.func (.func 117) #[] #[(.pointer (some ⟨bu1C,0,none⟩))])))] M (fun x _ => x = vi r) := by
 unfold p125a at h
 refine FO [lS Au0 u0 cu0,.lf (.v (.func (.func 117) #[] #[(.pointer (some ⟨bu1C,0,none⟩))]))] hf125a ⟨trivial,⟨trivial,trivial⟩⟩ fun w => ?_
 refine SQ0 (RG ?_)
 refine SG 1 (S4 [(0,lS Au0 u0 cu0),(1,.lf (.v (.func (.func 117) #[] #[(.pointer (some ⟨bu1C,0,none⟩))])))] [] [] M) ?_
 refine EN (SQ (SQ (RG ?_)))
 refine SS 3 [(0,lS Au0 u0 cu0),(1,.lf (.v (.func (.func 117) #[] #[(.pointer (some ⟨bu1C,0,none⟩))]))),(7,vi (u0.length : Int)),(8,vi (0 : Int))] ?_
 refine EN ?_
 obtain ⟨j1,e_j1,h⟩ := jn_some h
 refine T_bcut (id:=0) (c1:=(sub [1,0,1,0] Bd125)) (fun s' => Sub { σ := [],H := [],V := [],M := M,ds := [] } s' ∧ j1 = some r) (by kernel_rfl) ?_ ?_
 ·refine T_loop (c1:=(sub [1,0,1,0,0] Bd125)) (by kernel_rfl) (fun n3 s' => ∃ (x2 : Int),Sub { σ := [(0,lS Au0 u0 cu0),(1,.lf (.v (.func (.func 117) #[] #[(.pointer (some ⟨bu1C,0,none⟩))]))),(7,vi (u0.length : Int)),(8,vi x2)],H := [],V := [],M := M,ds := [] } s' ∧ p125a_l1 k u0 u1y0 u1y1 u1y2 j1 n3 x2 = some r) (k:=k) ⟨(0 : Int),keep_sub (ts:=[0,1,7,8]) (hs:=[]) (vs:=[]) (by kernel_rfl),h⟩ ?_
  rintro n3 s' ⟨x2,hsub,h⟩
  cases n3 with
  | zero => rw [p125a_l1] at h;cases h
  | succ n3 =>
   rw [p125a_l1] at h
   refine T_sub hsub ?_
   refine SQ (RG ?_)
   obtain ⟨b4,e_b4,h⟩ := lt_some h
   refine SG 1 (S4 [(0,lS Au0 u0 cu0),(1,.lf (.v (.func (.func 117) #[] #[(.pointer (some ⟨bu1C,0,none⟩))]))),(7,vi (u0.length : Int)),(8,vi x2),(9,vb b4)] [] [] M) ?_ (by subst e_b4;kernel_rfl)
   refine EN (SQ ?_)
   cases b4 with
   | true =>
    replace h := sp_t h
    refine CT ?_
    refine KS [(0,lS Au0 u0 cu0),(1,.lf (.v (.func (.func 117) #[] #[(.pointer (some ⟨bu1C,0,none⟩))]))),(7,vi (u0.length : Int)),(8,vi x2)] ?_
    refine SN (SQ (BK 1 (SQ (RG ?_))))
    refine SS 2 [(0,lS Au0 u0 cu0),(1,.lf (.v (.func (.func 117) #[] #[(.pointer (some ⟨bu1C,0,none⟩))]))),(5,vi x2),(7,vi (u0.length : Int)),(8,vi x2)] ?_
    refine EN (SQ (RG ?_))
    refine SS 3 [(0,lS Au0 u0 cu0),(1,.lf (.v (.func (.func 117) #[] #[(.pointer (some ⟨bu1C,0,none⟩))]))),(5,vi x2),(7,vi (u0.length : Int)),(8,vi x2),(11,.lf (.v (.func (.func 117) #[] #[(.pointer (some ⟨bu1C,0,none⟩))]))),(12,lS Au0 u0 cu0),(13,vi x2)] ?_
    obtain ⟨g5,h⟩ := gd_some h
    refine AT 14 (.lf (.ep (.slice Au0 (u0.length) cu0) 1 ((x2).toNat) 0)) (At_idxI (z:=x2) (by kernel_rfl) g5 hu0) ?_
    obtain ⟨x6,e_x6,h⟩ := lt_some h
    refine AT 15 (vi x6) (by rw [e_x6]; exact At_ldI (q:=(x2).toNat) (by subst e_x6; kernel_rfl) (toNat_lt g5) hu0) ?_
    obtain ⟨v7,c_v7,h⟩ := cl_some h
    refine AC 16 (vb v7) (w117 k hu1y1 hu1y2 hbu1C c_v7) ?_
    refine SH 6 [(0,lS Au0 u0 cu0),(1,.lf (.v (.func (.func 117) #[] #[(.pointer (some ⟨bu1C,0,none⟩))]))),(5,vi x2),(7,vi (u0.length : Int)),(8,vi x2),(16,vb v7)] [] ?_
    refine EN ?_
    cases v7 with
    | true =>
     replace h := sp_t h
     refine CT ?_
     refine KS [(5,vi x2)] ?_
     refine SQ (RG ?_)
     refine SS 2 [(4,vi x2)] ?_
     refine EN (RT (blockQ_r (thenQ_r (thenQ_r (blockQ_r (thenQ_r (thenQ_r ?_)))))))
     obtain rfl := sj h
     exact FT (vi x2) rfl
    | false =>
     replace h := sp_f h
     refine CF ?_
     refine KS [(0,lS Au0 u0 cu0),(1,.lf (.v (.func (.func 117) #[] #[(.pointer (some ⟨bu1C,0,none⟩))]))),(7,vi (u0.length : Int)),(8,vi x2)] ?_
     refine S0 (blockQ_n (thenQ_n (RG ?_)))
     obtain ⟨x8,e_x8,h⟩ := lt_some h
     refine SS 2 [(0,lS Au0 u0 cu0),(1,.lf (.v (.func (.func 117) #[] #[(.pointer (some ⟨bu1C,0,none⟩))]))),(7,vi (u0.length : Int)),(8,vi x8)] ?_ (by subst e_x8;kernel_rfl)
     refine EN ?_
     exact ⟨n3,Nat.lt_succ_self _,x8,keep_sub (ts:=[0,1,7,8]) (hs:=[]) (vs:=[]) (by kernel_rfl),h⟩
   | false =>
    replace h := sp_f h
    refine CF ?_
    refine KS [] ?_
    refine XI 0 (thenQ_x (thenQ_x (blockQ_x (thenQ_n ?_))))
    exact ⟨keep_sub (ts:=[]) (hs:=[]) (vs:=[]) (by kernel_rfl),h⟩
 ·rintro s' ⟨hsub,h⟩
  subst e_j1
  refine thenQ_n ?_
  refine T_sub hsub ?_
  refine SQ (RG ?_)
  refine SG 1 (S4 [(4,vi (-1 : Int))] [] [] M) ?_
  refine EN (RT ?_)
  obtain rfl := sj h
  exact FT (vi (-1 : Int)) rfl
def p85a (k : Nat) (u0 : List Int) (u1y0 : Int) (u1y1 : List (List Int)) (u1y2 : List WT) : Option Bool :=
 cl (p125a k u0 u1y0 u1y1 u1y2) fun v1 => lt' (decide (v1 ≥ (0 : Int))) fun b2 => some b2
theorem hf85a : Try.prog.funcs[85]? = some Try.f85 := by kernel_rfl
theorem w85a (k : Nat) {M : Mem} {Au0 Au1y1 Au1y2 : Option Addr} {cu0 cu1y1 cu1y2 bu1C : Nat} {Hu1y2 : Nat → Option Addr} {Cu1y2 : Nat → Nat} {u0 : List Int} {u1y0 : Int} {u1y1 : List (List Int)} {u1y2 : List WT} (hu0 : SlI M Au0 cu0 .i64 u0) (hu1y1 : SlR M Au1y1 cu1y1 .i64 12 u1y1) (hu1y2 : SlW M 3 Au1y2 cu1y2 Hu1y2 Cu1y2 u1y2) (hbu1C : MB M bu1C [oI u1y0,oS Au1y1 u1y1 cu1y1,oS Au1y2 u1y2 cu1y2]) {r} (h : p85a k u0 u1y0 u1y1 u1y2 = some r) :
  Fn Try.prog 85 [rval (lS Au0 u0 cu0),rval (.lf (.v (.func (.func 117) #[] #[(.pointer (some ⟨bu1C,0,none⟩))])))] M (fun x _ => x = vb r) := by
 unfold p85a at h
 refine FO [lS Au0 u0 cu0,.lf (.v (.func (.func 117) #[] #[(.pointer (some ⟨bu1C,0,none⟩))]))] hf85a ⟨trivial,⟨trivial,trivial⟩⟩ fun w => ?_
 refine SQ0 (RG ?_)
 refine SG 1 (S4 [(0,lS Au0 u0 cu0),(1,.lf (.v (.func (.func 117) #[] #[(.pointer (some ⟨bu1C,0,none⟩))])))] [] [] M) ?_
 refine EN (SQ (RG ?_))
 refine SS 2 [(5,lS Au0 u0 cu0),(6,.lf (.v (.func (.func 117) #[] #[(.pointer (some ⟨bu1C,0,none⟩))])))] ?_
 obtain ⟨v1,c_v1,h⟩ := cl_some h
 refine AC 7 (vi v1) (w125a k hu0 hu1y1 hu1y2 hbu1C c_v1) ?_
 obtain ⟨b2,e_b2,h⟩ := lt_some h
 refine SH 5 [(4,vb b2)] [] ?_ (by subst e_b2;kernel_rfl)
 refine EN (RT ?_)
 obtain rfl := sj h
 exact FT (vb b2) rfl
def p67 (k : Nat) (u0_0 : Int) (u0_1 : List (List Int)) (u0_2 : List WT) (u1 : List Int) : Option Int :=
 cl (p85a k u1 u0_0 u0_1 u0_2) fun v3 => sp v3 (some (3 : Int)) (some (0 : Int))
theorem hf67 : Try.prog.funcs[67]? = some Try.f67 := by kernel_rfl
theorem w67 (k : Nat) {M : Mem} {Au0_1 Au0_2 Au1 : Option Addr} {cu0_1 cu0_2 cu1 : Nat} {Hu0_2 : Nat → Option Addr} {Cu0_2 : Nat → Nat} {u0_0 : Int} {u0_1 : List (List Int)} {u0_2 : List WT} {u1 : List Int} (hu0_1 : SlR M Au0_1 cu0_1 .i64 12 u0_1) (hu0_2 : SlW M 3 Au0_2 cu0_2 Hu0_2 Cu0_2 u0_2) (hu1 : SlI M Au1 cu1 .i64 u1) {r} (h : p67 k u0_0 u0_1 u0_2 u1 = some r) :
  Fn Try.prog 67 [rval (.agg [oI u0_0,oS Au0_1 u0_1 cu0_1,oS Au0_2 u0_2 cu0_2]),rval (lS Au1 u1 cu1)] M (fun x _ => x = vi r) := by
 unfold p67 at h
 refine FO [.agg [oI u0_0,oS Au0_1 u0_1 cu0_1,oS Au0_2 u0_2 cu0_2],lS Au1 u1 cu1] hf67 ⟨⟨rfl,⟨rfl,⟨rfl,trivial⟩⟩⟩,⟨trivial,trivial⟩⟩ fun w => ?_
 refine SQ0 (RG ?_)
 refine SG 2 (S4 [(1,lS Au1 u1 cu1),(2,lO 2)] [(2,[oI u0_0,oS Au0_1 u0_1 cu0_1,oS Au0_2 u0_2 cu0_2])] [] M) ?_
 refine EN ?_
 refine T_turn (turn_pubH 2 (c:=[oI u0_0,oS Au0_1 u0_1 cu0_1,oS Au0_2 u0_2 cu0_2]) (by kernel_rfl) (by kernel_rfl)) ?_
 rintro _ ⟨b1,M2,rfl,-,e_M2,-,hM2⟩
 have fb1 : MB M2 b1 [oI u0_0,oS Au0_1 u0_1 cu0_1,oS Au0_2 u0_2 cu0_2] := by rw [e_M2]; exact addM_at _ _ _
 refine KG (S4 [(1,lS Au1 u1 cu1),(2,lP b1)] [] [] M2) ?_
 refine SQ (SQ (RG ?_))
 refine SS 2 [(5,lS Au1 u1 cu1),(6,.lf (.v (.func (.func 117) #[] #[(.pointer (some ⟨b1,0,none⟩))])))] ?_
 obtain ⟨v3,c_v3,h⟩ := cl_some h
 refine AC 7 (vb v3) (w85a k (hu1.le hM2) (hu0_1.le hM2) (hu0_2.le hM2) fb1 c_v3) ?_
 refine SH 3 [(7,vb v3)] [] ?_
 refine EN ?_
 cases v3 with
 | true =>
  replace h := sp_t h
  refine CT ?_
  refine KS [] ?_
  refine SQ (RG ?_)
  refine SS 1 [(4,vi (3 : Int))] ?_
  refine EN (RT (thenQ_r ?_))
  obtain rfl := sj h
  exact FT (vi (3 : Int)) rfl
 | false =>
  replace h := sp_f h
  refine CF ?_
  refine KS [] ?_
  refine SN (SQ (RG ?_))
  refine SS 1 [(4,vi (0 : Int))] ?_
  refine EN (RT ?_)
  obtain rfl := sj h
  exact FT (vi (0 : Int)) rfl
def p116 (k : Nat) (u0 : Int) (u1g0 : Int) (u1g1 : List (List Int)) (u1g2 : List WT) : Option Bool :=
 jn (fun (b1 : Bool) => some b1) fun j2 => lt' (decide (u0 < (0 : Int))) fun b3 => sp b3 (j2 true) (lt' (decide (u0 ≥ (u1g1.length : Int))) fun b4 => j2 b4)
theorem hf116 : Try.prog.funcs[116]? = some Try.f116 := by kernel_rfl
theorem w116 (k : Nat) {M : Mem} {Au1g1 Au1g2 : Option Addr} {cu1g1 cu1g2 bu1 : Nat} {Hu1g2 : Nat → Option Addr} {Cu1g2 : Nat → Nat} {u0 u1g0 : Int} {u1g1 : List (List Int)} {u1g2 : List WT} (hu1g1 : SlR M Au1g1 cu1g1 .i64 12 u1g1) (hu1g2 : SlW M 3 Au1g2 cu1g2 Hu1g2 Cu1g2 u1g2) (hbu1 : MB M bu1 [oI u1g0,oS Au1g1 u1g1 cu1g1,oS Au1g2 u1g2 cu1g2]) {r} (h : p116 k u0 u1g0 u1g1 u1g2 = some r) :
  Fn Try.prog 116 [rval (vi u0),rval (lP bu1)] M (fun x _ => x = vb r) := by
 unfold p116 at h
 refine FO [vi u0,lP bu1] hf116 ⟨trivial,⟨trivial,trivial⟩⟩ fun w => ?_
 refine SQ0 (RG ?_)
 refine SG 1 (S4 [(0,vi u0),(1,lP bu1)] [] [] M) ?_
 refine EN ?_
 obtain ⟨j2,e_j2,h⟩ := jn_some h
 refine T_cut (c1:=(sub [1,0] Bd116)) (c2:=(sub [1,1] Bd116)) (fun s' => ∃ (b1 : Bool),Sub { σ := [(3,vb b1)],H := [],V := [],M := M,ds := [] } s' ∧ j2 b1 = some r) (by kernel_rfl) ?_ ?_
 ·refine RG ?_
  obtain ⟨b3,e_b3,h⟩ := lt_some h
  refine SG 3 (S4 [(0,vi u0),(1,lP bu1),(6,vb b3)] [] [] M) ?_ (by subst e_b3;kernel_rfl)
  cases b3 with
  | true =>
   replace h := sp_t h
   refine SS 10 [(3,vb true)] ?_
   refine EN ?_
   exact ⟨true,keep_sub (ts:=[3]) (hs:=[]) (vs:=[]) (by kernel_rfl),h⟩
  | false =>
   replace h := sp_f h
   refine SS 5 [(6,vb false),(7,vi u0),(8,.lf (.v (.pointer (some ⟨bu1,1,none⟩))))] ?_
   refine AT 9 (lS Au1g1 u1g1 cu1g1) (At_ldP (b:=bu1) (off:=1) (m:=1) (v:=(.slice Au1g1 (u1g1.length) cu1g1)) (by kernel_rfl) (cell_blk hbu1 ⟨rfl,⟨rfl,⟨rfl,trivial⟩⟩⟩ (by kernel_rfl))) ?_
   obtain ⟨b4,e_b4,h⟩ := lt_some h
   refine SH 10 [(3,vb b4)] [] ?_ (by subst e_b4;kernel_rfl)
   refine EN ?_
   exact ⟨b4,keep_sub (ts:=[3]) (hs:=[]) (vs:=[]) (by kernel_rfl),h⟩
 ·rintro s' ⟨b1,hsub,h⟩
  subst e_j2
  refine T_sub hsub ?_
  refine RT ?_
  obtain rfl := sj h
  exact FT (vb b1) rfl
def p125b_l1 (k : Nat) (u0 : List Int) (u1y0 : Int) (u1y1 : List (List Int)) (u1y2 : List WT) (j1 : Option Int) : Nat → Int → Option Int
 | 0,_ => none
 | n3 + 1,x2 => lt' (decide (x2 < (u0.length : Int))) fun b4 => sp b4 (gd ((0 : Int) ≤ x2 ∧ x2 < (u0.length : Int)) <| lt' (List.getD u0 ((x2).toNat) 0) fun x6 => cl (p116 k x6 u1y0 u1y1 u1y2) fun v7 => sp v7 (some x2) (lt' (wr .i64 (x2 + (1 : Int))) fun x8 => p125b_l1 k u0 u1y0 u1y1 u1y2 j1 n3 x8)) (j1)
def p125b (k : Nat) (u0 : List Int) (u1y0 : Int) (u1y1 : List (List Int)) (u1y2 : List WT) : Option Int :=
 jn (some (-1 : Int)) fun j1 => p125b_l1 k u0 u1y0 u1y1 u1y2 j1 k (0 : Int)
theorem hf125b : Try.prog.funcs[125]? = some Try.f125 := by kernel_rfl
theorem w125b (k : Nat) {M : Mem} {Au0 Au1y1 Au1y2 : Option Addr} {cu0 cu1y1 cu1y2 bu1C : Nat} {Hu1y2 : Nat → Option Addr} {Cu1y2 : Nat → Nat} {u0 : List Int} {u1y0 : Int} {u1y1 : List (List Int)} {u1y2 : List WT} (hu0 : SlI M Au0 cu0 .i64 u0) (hu1y1 : SlR M Au1y1 cu1y1 .i64 12 u1y1) (hu1y2 : SlW M 3 Au1y2 cu1y2 Hu1y2 Cu1y2 u1y2) (hbu1C : MB M bu1C [oI u1y0,oS Au1y1 u1y1 cu1y1,oS Au1y2 u1y2 cu1y2]) {r} (h : p125b k u0 u1y0 u1y1 u1y2 = some r) :
  Fn Try.prog 125 [rval (lS Au0 u0 cu0),rval (.lf (.v (.func (.func 116) #[] #[(.pointer (some ⟨bu1C,0,none⟩))])))] M (fun x _ => x = vi r) := by
 unfold p125b at h
 refine FO [lS Au0 u0 cu0,.lf (.v (.func (.func 116) #[] #[(.pointer (some ⟨bu1C,0,none⟩))]))] hf125b ⟨trivial,⟨trivial,trivial⟩⟩ fun w => ?_
 refine SQ0 (RG ?_)
 refine SG 1 (S4 [(0,lS Au0 u0 cu0),(1,.lf (.v (.func (.func 116) #[] #[(.pointer (some ⟨bu1C,0,none⟩))])))] [] [] M) ?_
 refine EN (SQ (SQ (RG ?_)))
 refine SS 3 [(0,lS Au0 u0 cu0),(1,.lf (.v (.func (.func 116) #[] #[(.pointer (some ⟨bu1C,0,none⟩))]))),(7,vi (u0.length : Int)),(8,vi (0 : Int))] ?_
 refine EN ?_
 obtain ⟨j1,e_j1,h⟩ := jn_some h
 refine T_bcut (id:=0) (c1:=(sub [1,0,1,0] Bd125)) (fun s' => Sub { σ := [],H := [],V := [],M := M,ds := [] } s' ∧ j1 = some r) (by kernel_rfl) ?_ ?_
 ·refine T_loop (c1:=(sub [1,0,1,0,0] Bd125)) (by kernel_rfl) (fun n3 s' => ∃ (x2 : Int),Sub { σ := [(0,lS Au0 u0 cu0),(1,.lf (.v (.func (.func 116) #[] #[(.pointer (some ⟨bu1C,0,none⟩))]))),(7,vi (u0.length : Int)),(8,vi x2)],H := [],V := [],M := M,ds := [] } s' ∧ p125b_l1 k u0 u1y0 u1y1 u1y2 j1 n3 x2 = some r) (k:=k) ⟨(0 : Int),keep_sub (ts:=[0,1,7,8]) (hs:=[]) (vs:=[]) (by kernel_rfl),h⟩ ?_
  rintro n3 s' ⟨x2,hsub,h⟩
  cases n3 with
  | zero => rw [p125b_l1] at h;cases h
  | succ n3 =>
   rw [p125b_l1] at h
   refine T_sub hsub ?_
   refine SQ (RG ?_)
   obtain ⟨b4,e_b4,h⟩ := lt_some h
   refine SG 1 (S4 [(0,lS Au0 u0 cu0),(1,.lf (.v (.func (.func 116) #[] #[(.pointer (some ⟨bu1C,0,none⟩))]))),(7,vi (u0.length : Int)),(8,vi x2),(9,vb b4)] [] [] M) ?_ (by subst e_b4;kernel_rfl)
   refine EN (SQ ?_)
   cases b4 with
   | true =>
    replace h := sp_t h
    refine CT ?_
    refine KS [(0,lS Au0 u0 cu0),(1,.lf (.v (.func (.func 116) #[] #[(.pointer (some ⟨bu1C,0,none⟩))]))),(7,vi (u0.length : Int)),(8,vi x2)] ?_
    refine SN (SQ (BK 1 (SQ (RG ?_))))
    refine SS 2 [(0,lS Au0 u0 cu0),(1,.lf (.v (.func (.func 116) #[] #[(.pointer (some ⟨bu1C,0,none⟩))]))),(5,vi x2),(7,vi (u0.length : Int)),(8,vi x2)] ?_
    refine EN (SQ (RG ?_))
    refine SS 3 [(0,lS Au0 u0 cu0),(1,.lf (.v (.func (.func 116) #[] #[(.pointer (some ⟨bu1C,0,none⟩))]))),(5,vi x2),(7,vi (u0.length : Int)),(8,vi x2),(11,.lf (.v (.func (.func 116) #[] #[(.pointer (some ⟨bu1C,0,none⟩))]))),(12,lS Au0 u0 cu0),(13,vi x2)] ?_
    obtain ⟨g5,h⟩ := gd_some h
    refine AT 14 (.lf (.ep (.slice Au0 (u0.length) cu0) 1 ((x2).toNat) 0)) (At_idxI (z:=x2) (by kernel_rfl) g5 hu0) ?_
    obtain ⟨x6,e_x6,h⟩ := lt_some h
    refine AT 15 (vi x6) (by rw [e_x6]; exact At_ldI (q:=(x2).toNat) (by subst e_x6; kernel_rfl) (toNat_lt g5) hu0) ?_
    obtain ⟨v7,c_v7,h⟩ := cl_some h
    refine AC 16 (vb v7) (w116 k hu1y1 hu1y2 hbu1C c_v7) ?_
    refine SH 6 [(0,lS Au0 u0 cu0),(1,.lf (.v (.func (.func 116) #[] #[(.pointer (some ⟨bu1C,0,none⟩))]))),(5,vi x2),(7,vi (u0.length : Int)),(8,vi x2),(16,vb v7)] [] ?_
    refine EN ?_
    cases v7 with
    | true =>
     replace h := sp_t h
     refine CT ?_
     refine KS [(5,vi x2)] ?_
     refine SQ (RG ?_)
     refine SS 2 [(4,vi x2)] ?_
     refine EN (RT (blockQ_r (thenQ_r (thenQ_r (blockQ_r (thenQ_r (thenQ_r ?_)))))))
     obtain rfl := sj h
     exact FT (vi x2) rfl
    | false =>
     replace h := sp_f h
     refine CF ?_
     refine KS [(0,lS Au0 u0 cu0),(1,.lf (.v (.func (.func 116) #[] #[(.pointer (some ⟨bu1C,0,none⟩))]))),(7,vi (u0.length : Int)),(8,vi x2)] ?_
     refine S0 (blockQ_n (thenQ_n (RG ?_)))
     obtain ⟨x8,e_x8,h⟩ := lt_some h
     refine SS 2 [(0,lS Au0 u0 cu0),(1,.lf (.v (.func (.func 116) #[] #[(.pointer (some ⟨bu1C,0,none⟩))]))),(7,vi (u0.length : Int)),(8,vi x8)] ?_ (by subst e_x8;kernel_rfl)
     refine EN ?_
     exact ⟨n3,Nat.lt_succ_self _,x8,keep_sub (ts:=[0,1,7,8]) (hs:=[]) (vs:=[]) (by kernel_rfl),h⟩
   | false =>
    replace h := sp_f h
    refine CF ?_
    refine KS [] ?_
    refine XI 0 (thenQ_x (thenQ_x (blockQ_x (thenQ_n ?_))))
    exact ⟨keep_sub (ts:=[]) (hs:=[]) (vs:=[]) (by kernel_rfl),h⟩
 ·rintro s' ⟨hsub,h⟩
  subst e_j1
  refine thenQ_n ?_
  refine T_sub hsub ?_
  refine SQ (RG ?_)
  refine SG 1 (S4 [(4,vi (-1 : Int))] [] [] M) ?_
  refine EN (RT ?_)
  obtain rfl := sj h
  exact FT (vi (-1 : Int)) rfl
def p85b (k : Nat) (u0 : List Int) (u1y0 : Int) (u1y1 : List (List Int)) (u1y2 : List WT) : Option Bool :=
 cl (p125b k u0 u1y0 u1y1 u1y2) fun v1 => lt' (decide (v1 ≥ (0 : Int))) fun b2 => some b2
theorem hf85b : Try.prog.funcs[85]? = some Try.f85 := by kernel_rfl
theorem w85b (k : Nat) {M : Mem} {Au0 Au1y1 Au1y2 : Option Addr} {cu0 cu1y1 cu1y2 bu1C : Nat} {Hu1y2 : Nat → Option Addr} {Cu1y2 : Nat → Nat} {u0 : List Int} {u1y0 : Int} {u1y1 : List (List Int)} {u1y2 : List WT} (hu0 : SlI M Au0 cu0 .i64 u0) (hu1y1 : SlR M Au1y1 cu1y1 .i64 12 u1y1) (hu1y2 : SlW M 3 Au1y2 cu1y2 Hu1y2 Cu1y2 u1y2) (hbu1C : MB M bu1C [oI u1y0,oS Au1y1 u1y1 cu1y1,oS Au1y2 u1y2 cu1y2]) {r} (h : p85b k u0 u1y0 u1y1 u1y2 = some r) :
  Fn Try.prog 85 [rval (lS Au0 u0 cu0),rval (.lf (.v (.func (.func 116) #[] #[(.pointer (some ⟨bu1C,0,none⟩))])))] M (fun x _ => x = vb r) := by
 unfold p85b at h
 refine FO [lS Au0 u0 cu0,.lf (.v (.func (.func 116) #[] #[(.pointer (some ⟨bu1C,0,none⟩))]))] hf85b ⟨trivial,⟨trivial,trivial⟩⟩ fun w => ?_
 refine SQ0 (RG ?_)
 refine SG 1 (S4 [(0,lS Au0 u0 cu0),(1,.lf (.v (.func (.func 116) #[] #[(.pointer (some ⟨bu1C,0,none⟩))])))] [] [] M) ?_
 refine EN (SQ (RG ?_))
 refine SS 2 [(5,lS Au0 u0 cu0),(6,.lf (.v (.func (.func 116) #[] #[(.pointer (some ⟨bu1C,0,none⟩))])))] ?_
 obtain ⟨v1,c_v1,h⟩ := cl_some h
 refine AC 7 (vi v1) (w125b k hu0 hu1y1 hu1y2 hbu1C c_v1) ?_
 obtain ⟨b2,e_b2,h⟩ := lt_some h
 refine SH 5 [(4,vb b2)] [] ?_ (by subst e_b2;kernel_rfl)
 refine EN (RT ?_)
 obtain rfl := sj h
 exact FT (vb b2) rfl
def p66 (k : Nat) (u0_0 : Int) (u0_1 : List (List Int)) (u0_2 : List WT) (u1 : List Int) : Option Int :=
 lt' (decide ((u1.length : Int) > (256 : Int))) fun b3 => sp b3 (some (6 : Int)) (cl (p85b k u1 u0_0 u0_1 u0_2) fun v4 => sp v4 (some (3 : Int)) (some (0 : Int)))
theorem hf66 : Try.prog.funcs[66]? = some Try.f66 := by kernel_rfl
theorem w66 (k : Nat) {M : Mem} {Au0_1 Au0_2 Au1 : Option Addr} {cu0_1 cu0_2 cu1 : Nat} {Hu0_2 : Nat → Option Addr} {Cu0_2 : Nat → Nat} {u0_0 : Int} {u0_1 : List (List Int)} {u0_2 : List WT} {u1 : List Int} (hu0_1 : SlR M Au0_1 cu0_1 .i64 12 u0_1) (hu0_2 : SlW M 3 Au0_2 cu0_2 Hu0_2 Cu0_2 u0_2) (hu1 : SlI M Au1 cu1 .i64 u1) {r} (h : p66 k u0_0 u0_1 u0_2 u1 = some r) :
  Fn Try.prog 66 [rval (.agg [oI u0_0,oS Au0_1 u0_1 cu0_1,oS Au0_2 u0_2 cu0_2]),rval (lS Au1 u1 cu1)] M (fun x _ => x = vi r) := by
 unfold p66 at h
 refine FO [.agg [oI u0_0,oS Au0_1 u0_1 cu0_1,oS Au0_2 u0_2 cu0_2],lS Au1 u1 cu1] hf66 ⟨⟨rfl,⟨rfl,⟨rfl,trivial⟩⟩⟩,⟨trivial,trivial⟩⟩ fun w => ?_
 refine SQ0 (RG ?_)
 refine SG 2 (S4 [(1,lS Au1 u1 cu1),(2,lO 2)] [(2,[oI u0_0,oS Au0_1 u0_1 cu0_1,oS Au0_2 u0_2 cu0_2])] [] M) ?_
 refine EN ?_
 refine T_turn (turn_pubH 2 (c:=[oI u0_0,oS Au0_1 u0_1 cu0_1,oS Au0_2 u0_2 cu0_2]) (by kernel_rfl) (by kernel_rfl)) ?_
 rintro _ ⟨b1,M2,rfl,-,e_M2,-,hM2⟩
 have fb1 : MB M2 b1 [oI u0_0,oS Au0_1 u0_1 cu0_1,oS Au0_2 u0_2 cu0_2] := by rw [e_M2]; exact addM_at _ _ _
 refine KG (S4 [(1,lS Au1 u1 cu1),(2,lP b1)] [] [] M2) ?_
 refine SQ (SQ (RG ?_))
 obtain ⟨b3,e_b3,h⟩ := lt_some h
 refine SS 3 [(1,lS Au1 u1 cu1),(2,lP b1),(7,vb b3)] ?_ (by subst e_b3;kernel_rfl)
 refine EN ?_
 cases b3 with
 | true =>
  replace h := sp_t h
  refine CT ?_
  refine KS [] ?_
  refine SQ (RG ?_)
  refine SS 1 [(4,vi (6 : Int))] ?_
  refine EN (RT (thenQ_r ?_))
  obtain rfl := sj h
  exact FT (vi (6 : Int)) rfl
 | false =>
  replace h := sp_f h
  refine CF ?_
  refine KS [(1,lS Au1 u1 cu1),(2,lP b1)] ?_
  refine SN (SQ (SQ (RG ?_)))
  refine SS 2 [(8,lS Au1 u1 cu1),(9,.lf (.v (.func (.func 116) #[] #[(.pointer (some ⟨b1,0,none⟩))])))] ?_
  obtain ⟨v4,c_v4,h⟩ := cl_some h
  refine AC 10 (vb v4) (w85b k (hu1.le hM2) (hu0_1.le hM2) (hu0_2.le hM2) fb1 c_v4) ?_
  refine SH 3 [(10,vb v4)] [] ?_
  refine EN ?_
  cases v4 with
  | true =>
   replace h := sp_t h
   refine CT ?_
   refine KS [] ?_
   refine SQ (RG ?_)
   refine SS 1 [(4,vi (3 : Int))] ?_
   refine EN (RT (thenQ_r ?_))
   obtain rfl := sj h
   exact FT (vi (3 : Int)) rfl
  | false =>
   replace h := sp_f h
   refine CF ?_
   refine KS [] ?_
   refine SN (SQ (RG ?_))
   refine SS 1 [(4,vi (0 : Int))] ?_
   refine EN (RT ?_)
   obtain rfl := sj h
   exact FT (vi (0 : Int)) rfl
end Go.Proofs.Ythniebmammmacaa
