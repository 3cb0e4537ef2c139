/- Lemmas and walks for the law RoadCauses (part 3). No condition: every theorem names its own hypotheses. -/
import Derived.Test.YthniebmammmacaaK2
import Derived.Test.YthniebmammmacaaProg
set_option linter.unusedVariables false
set_option linter.unusedSimpArgs false
set_option maxHeartbeats 4000000
namespace Go.Proofs.Ythniebmammmacaa
open Go.RowKit
@[reducible] noncomputable def vi (x : Int) : SV := .lf (.v (.int .i64 x))
@[reducible] noncomputable def vb (x : Bool) : SV := .lf (.v (.bool x))
@[reducible] noncomputable def Bd8 : Code := bodyOf Try.f8
@[reducible] noncomputable def Bd13 : Code := bodyOf Try.f13
@[reducible] noncomputable def Bd14 : Code := bodyOf Try.f14
@[reducible] noncomputable def Bd17 : Code := bodyOf Try.f17
@[reducible] noncomputable def Bd24 : Code := bodyOf Try.f24
@[reducible] noncomputable def Bd25 : Code := bodyOf Try.f25
@[reducible] noncomputable def Bd26 : Code := bodyOf Try.f26
@[reducible] noncomputable def Bd28 : Code := bodyOf Try.f28
@[reducible] noncomputable def Bd29 : Code := bodyOf Try.f29
@[reducible] noncomputable def Bd38 : Code := bodyOf Try.f38
@[reducible] noncomputable def Bd40 : Code := bodyOf Try.f40
@[reducible] noncomputable def Bd41 : Code := bodyOf Try.f41
@[reducible] noncomputable def Bd42 : Code := bodyOf Try.f42
@[reducible] noncomputable def Bd43 : Code := bodyOf Try.f43
@[reducible] noncomputable def Bd51 : Code := bodyOf Try.f51
@[reducible] noncomputable def Bd53 : Code := bodyOf Try.f53
@[reducible] noncomputable def Bd55 : Code := bodyOf Try.f55
@[reducible] noncomputable def Bd56 : Code := bodyOf Try.f56
@[reducible] noncomputable def Bd59 : Code := bodyOf Try.f59
@[reducible] noncomputable def Bd61 : Code := bodyOf Try.f61
@[reducible] noncomputable def Bd64 : Code := bodyOf Try.f64
@[reducible] noncomputable def Bd65 : Code := bodyOf Try.f65
@[reducible] noncomputable def Bd69 : Code := bodyOf Try.f69
@[reducible] noncomputable def Bd70 : Code := bodyOf Try.f70
@[reducible] noncomputable def Bd72 : Code := bodyOf Try.f72
@[reducible] noncomputable def Bd75 : Code := bodyOf Try.f75
@[reducible] noncomputable def Bd77 : Code := bodyOf Try.f77
@[reducible] noncomputable def Bd80 : Code := bodyOf Try.f80
@[reducible] noncomputable def Bd81 : Code := bodyOf Try.f81
@[reducible] noncomputable def Bd82 : Code := bodyOf Try.f82
@[reducible] noncomputable def Bd83 : Code := bodyOf Try.f83
@[reducible] noncomputable def Bd87 : Code := bodyOf Try.f87
@[reducible] noncomputable def Bd90 : Code := bodyOf Try.f90
@[reducible] noncomputable def Bd91 : Code := bodyOf Try.f91
@[reducible] noncomputable def Bd94 : Code := bodyOf Try.f94
@[reducible] noncomputable def Bd95 : Code := bodyOf Try.f95
@[reducible] noncomputable def Bd96 : Code := bodyOf Try.f96
@[reducible] noncomputable def Bd99 : Code := bodyOf Try.f99
@[reducible] noncomputable def Bd100 : Code := bodyOf Try.f100
@[reducible] noncomputable def Bd101 : Code := bodyOf Try.f101
@[reducible] noncomputable def Bd115 : Code := bodyOf Try.f115
@[reducible] noncomputable def Bd116 : Code := bodyOf Try.f116
@[reducible] noncomputable def Bd117 : Code := bodyOf Try.f117
@[reducible] noncomputable def Bd118 : Code := bodyOf Try.f118
@[reducible] noncomputable def Bd119 : Code := bodyOf Try.f119
@[reducible] noncomputable def Bd123 : Code := bodyOf Try.f123
@[reducible] noncomputable def Bd124 : Code := bodyOf Try.f124
@[reducible] noncomputable def Bd125 : Code := bodyOf Try.f125
@[reducible] noncomputable def Bd126 : Code := bodyOf Try.f126
@[reducible] noncomputable def Bd127 : Code := bodyOf Try.f127
@[reducible] noncomputable def Bd142 : Code := bodyOf Try.f142
def p64 (k : Nat) (u0 : Int) (u1 : Int) (u2 : Int) : Option Bool :=
 jn (fun (b1 : Bool) => some b1) fun j2 => lt' (decide (u1 ≤ u0)) fun b3 => sp b3 (lt' (decide (u0 ≤ u2)) fun b4 => j2 b4) (j2 false)
theorem hf64 : Try.prog.funcs[64]? = some Try.f64 := by kernel_rfl
theorem w64 (k : Nat) {M : Mem} {u0 u1 u2 : Int} {r} (h : p64 k u0 u1 u2 = some r) :
  Fn Try.prog 64 [rval (vi u0),rval (vi u1),rval (vi u2)] M (fun x _ => x = vb r) := by
 unfold p64 at h
 refine FO [vi u0,vi u1,vi u2] hf64 ⟨trivial,⟨trivial,⟨trivial,trivial⟩⟩⟩ fun w => ?_
 refine SQ0 (RG ?_)
 refine SG 1 (S4 [(0,vi u0),(1,vi u1),(2,vi u2)] [] [] M) ?_
 refine EN ?_
 obtain ⟨j2,e_j2,h⟩ := jn_some h
 refine T_cut (c1:=(sub [1,0] Bd64)) (c2:=(sub [1,1] Bd64)) (fun s' => ∃ (b1 : Bool),Sub { σ := [(6,vb b1)],H := [],V := [],M := M,ds := [] } s' ∧ j2 b1 = some r) (by kernel_rfl) ?_ ?_
 ·refine RG ?_
  obtain ⟨b3,e_b3,h⟩ := lt_some h
  refine SG 4 (S4 [(0,vi u0),(2,vi u2),(10,vb b3)] [] [] M) ?_ (by subst e_b3;kernel_rfl)
  cases b3 with
  | true =>
   replace h := sp_t h
   obtain ⟨b4,e_b4,h⟩ := lt_some h
   refine SS 9 [(6,vb b4)] ?_ (by subst e_b4;kernel_rfl)
   refine EN ?_
   exact ⟨b4,keep_sub (ts:=[6]) (hs:=[]) (vs:=[]) (by kernel_rfl),h⟩
  | false =>
   replace h := sp_f h
   refine SS 9 [(6,vb false)] ?_
   refine EN ?_
   exact ⟨false,keep_sub (ts:=[6]) (hs:=[]) (vs:=[]) (by kernel_rfl),h⟩
 ·rintro s' ⟨b1,hsub,h⟩
  subst e_j2
  refine T_sub hsub ?_
  refine RT ?_
  obtain rfl := sj h
  exact FT (vb b1) rfl
def p65 (k : Nat) (u0 : Int) (u1 : Int) (u2 : Int) : Option Bool :=
 jn (fun (b1 : Bool) => some b1) fun j2 => lt' (decide (u0 ≥ u1)) fun b3 => sp b3 (lt' (decide (u0 ≤ u2)) fun b4 => j2 b4) (j2 false)
theorem hf65 : Try.prog.funcs[65]? = some Try.f65 := by kernel_rfl
theorem w65 (k : Nat) {M : Mem} {u0 u1 u2 : Int} {r} (h : p65 k u0 u1 u2 = some r) :
  Fn Try.prog 65 [rval (vi u0),rval (vi u1),rval (vi u2)] M (fun x _ => x = vb r) := by
 unfold p65 at h
 refine FO [vi u0,vi u1,vi u2] hf65 ⟨trivial,⟨trivial,⟨trivial,trivial⟩⟩⟩ fun w => ?_
 refine SQ0 (RG ?_)
 refine SG 1 (S4 [(0,vi u0),(1,vi u1),(2,vi u2)] [] [] M) ?_
 refine EN ?_
 obtain ⟨j2,e_j2,h⟩ := jn_some h
 refine T_cut (c1:=(sub [1,0] Bd65)) (c2:=(sub [1,1] Bd65)) (fun s' => ∃ (b1 : Bool),Sub { σ := [(6,vb b1)],H := [],V := [],M := M,ds := [] } s' ∧ j2 b1 = some r) (by kernel_rfl) ?_ ?_
 ·refine RG ?_
  obtain ⟨b3,e_b3,h⟩ := lt_some h
  refine SG 4 (S4 [(0,vi u0),(2,vi u2),(10,vb b3)] [] [] M) ?_ (by subst e_b3;kernel_rfl)
  cases b3 with
  | true =>
   replace h := sp_t h
   obtain ⟨b4,e_b4,h⟩ := lt_some h
   refine SS 9 [(6,vb b4)] ?_ (by subst e_b4;kernel_rfl)
   refine EN ?_
   exact ⟨b4,keep_sub (ts:=[6]) (hs:=[]) (vs:=[]) (by kernel_rfl),h⟩
  | false =>
   replace h := sp_f h
   refine SS 9 [(6,vb false)] ?_
   refine EN ?_
   exact ⟨false,keep_sub (ts:=[6]) (hs:=[]) (vs:=[]) (by kernel_rfl),h⟩
 ·rintro s' ⟨b1,hsub,h⟩
  subst e_j2
  refine T_sub hsub ?_
  refine RT ?_
  obtain rfl := sj h
  exact FT (vb b1) rfl
def p61 (k : Nat) (u0 : List Int) (u1 : Int) : Option Int :=
 lt' (Int.tmod u1 (1440 : Int)) fun x1 => jn (fun (x2 : Int) => jn (fun (x9 : Int) => lt' (List.getD u0 3 0) fun x19 => lt' (wr .i64 (x9 + x19)) fun x20 => some x20) fun j10 => lt' (List.getD u0 5 0) fun x11 => lt' (List.getD u0 3 0) fun x12 => lt' (wr .i64 (x11 - x12)) fun x13 => lt' (decide (x1 > x13)) fun b14 => sp b14 (lt' (wr .i64 (x2 + (1440 : Int))) fun x15 => lt' (List.getD u0 4 0) fun x16 => lt' (wr .i64 (x15 + x16)) fun x17 => lt' (wr .i64 (x17 - x1)) fun x18 => j10 x18) (j10 x2)) fun j3 => lt' (List.getD u0 4 0) fun x4 => lt' (decide (x1 < x4)) fun b5 => sp b5 (lt' (List.getD u0 4 0) fun x6 => lt' (wr .i64 (u1 + x6)) fun x7 => lt' (wr .i64 (x7 - x1)) fun x8 => j3 x8) (j3 u1)
theorem hf61 : Try.prog.funcs[61]? = some Try.f61 := by kernel_rfl
theorem w61 (k : Nat) {M : Mem} {u0 : List Int} {u1 : Int} (hu0 : u0.length = 12) {r} (h : p61 k u0 u1 = some r) :
  Fn Try.prog 61 [rval (.agg [.arr .i64 12 u0]),rval (vi u1)] M (fun x _ => x = vi r) := by
 unfold p61 at h
 refine FO [.agg [.arr .i64 12 u0],vi u1] hf61 ⟨⟨hu0,trivial⟩,⟨trivial,trivial⟩⟩ fun w => ?_
 refine SQ0 (RG ?_)
 refine SG 2 (S4 [(1,vi u1),(2,lO 2)] [(2,[.arr .i64 12 u0])] [] M) ?_
 refine EN (SQ (RG ?_))
 obtain ⟨x1,e_x1,h⟩ := lt_some h
 refine SS 3 [(1,vi u1),(2,lO 2),(5,vi x1)] ?_ (by subst e_x1;kernel_rfl)
 refine EN ?_
 obtain ⟨j3,e_j3,h⟩ := jn_some h
 refine T_cut (c1:=(sub [1,1,0] Bd61)) (c2:=(sub [1,1,1] Bd61)) (fun s' => ∃ (x2 : Int),Sub { σ := [(1,vi x2),(2,lO 2),(5,vi x1)],H := [(2,[.arr .i64 12 u0])],V := [],M := M,ds := [] } s' ∧ j3 x2 = some r) (by kernel_rfl) ?_ ?_
 ·refine T_seq (c1:=(sub [1,1,0,0] Bd61)) (c2:=(sub [1,1,0,1] Bd61)) (by kernel_rfl) ?_
  refine RG ?_
  obtain ⟨x4,e_x4,h⟩ := lt_some h
  obtain ⟨b5,e_b5,h⟩ := lt_some h
  refine SG 4 (S4 [(1,vi u1),(2,lO 2),(5,vi x1),(11,vb b5)] [(2,[.arr .i64 12 u0])] [] M) ?_ (by subst e_b5 e_x4;kernel_rfl)
  refine EN ?_
  cases b5 with
  | true =>
   replace h := sp_t h
   refine CT ?_
   refine KS [(1,vi u1),(2,lO 2),(5,vi x1)] ?_
   refine RG ?_
   obtain ⟨x6,e_x6,h⟩ := lt_some h
   obtain ⟨x7,e_x7,h⟩ := lt_some h
   obtain ⟨x8,e_x8,h⟩ := lt_some h
   refine SS 7 [(1,vi x8),(2,lO 2),(5,vi x1)] ?_ (by subst_vars;kernel_rfl)
   refine EN ?_
   exact ⟨x8,keep_sub (ts:=[1,2,5]) (hs:=[2]) (vs:=[]) (by kernel_rfl),h⟩
  | false =>
   replace h := sp_f h
   refine CF ?_
   refine KS [(1,vi u1),(2,lO 2),(5,vi x1)] ?_
   refine SN ?_
   exact ⟨u1,keep_sub (ts:=[1,2,5]) (hs:=[2]) (vs:=[]) (by kernel_rfl),h⟩
 ·rintro s' ⟨x2,hsub,h⟩
  subst e_j3
  refine T_sub hsub ?_
  obtain ⟨j10,e_j10,h⟩ := jn_some h
  refine T_cut (c1:=(sub [1,1,1,0] Bd61)) (c2:=(sub [1,1,1,1] Bd61)) (fun s' => ∃ (x9 : Int),Sub { σ := [(1,vi x9),(2,lO 2)],H := [(2,[.arr .i64 12 u0])],V := [],M := M,ds := [] } s' ∧ j10 x9 = some r) (by kernel_rfl) ?_ ?_
  ·refine T_seq (c1:=(sub [1,1,1,0,0] Bd61)) (c2:=(sub [1,1,1,0,1] Bd61)) (by kernel_rfl) ?_
   refine RG ?_
   obtain ⟨x11,e_x11,h⟩ := lt_some h
   obtain ⟨x12,e_x12,h⟩ := lt_some h
   obtain ⟨x13,e_x13,h⟩ := lt_some h
   obtain ⟨b14,e_b14,h⟩ := lt_some h
   refine SG 7 (S4 [(1,vi x2),(2,lO 2),(5,vi x1),(24,vb b14)] [(2,[.arr .i64 12 u0])] [] M) ?_ (by subst_vars;kernel_rfl)
   refine EN ?_
   cases b14 with
   | true =>
    replace h := sp_t h
    refine CT ?_
    refine KS [(1,vi x2),(2,lO 2),(5,vi x1)] ?_
    refine RG ?_
    obtain ⟨x15,e_x15,h⟩ := lt_some h
    obtain ⟨x16,e_x16,h⟩ := lt_some h
    obtain ⟨x17,e_x17,h⟩ := lt_some h
    obtain ⟨x18,e_x18,h⟩ := lt_some h
    refine SS 8 [(1,vi x18),(2,lO 2)] ?_ (by subst_vars;kernel_rfl)
    refine EN ?_
    exact ⟨x18,keep_sub (ts:=[1,2]) (hs:=[2]) (vs:=[]) (by kernel_rfl),h⟩
   | false =>
    replace h := sp_f h
    refine CF ?_
    refine KS [(1,vi x2),(2,lO 2)] ?_
    refine SN ?_
    exact ⟨x2,keep_sub (ts:=[1,2]) (hs:=[2]) (vs:=[]) (by kernel_rfl),h⟩
  ·rintro s' ⟨x9,hsub,h⟩
   subst e_j10
   refine T_sub hsub ?_
   refine SQ (RG ?_)
   obtain ⟨x19,e_x19,h⟩ := lt_some h
   obtain ⟨x20,e_x20,h⟩ := lt_some h
   refine SG 5 (S4 [(4,vi x20)] [] [] M) ?_ (by subst e_x20 e_x19;kernel_rfl)
   refine EN (RT ?_)
   obtain rfl := sj h
   exact FT (vi x20) rfl
def p56 (k : Nat) (u0 : List Int) (u1 : Int) : Option Int :=
 lt' (Int.tmod u1 (1440 : Int)) fun x1 => jn (fun (x2 : Int) => lt' (List.getD u0 3 0) fun x17 => lt' (wr .i64 (x2 + x17)) fun x18 => some x18) fun j3 => lt' (List.getD u0 4 0) fun x4 => lt' (decide (x1 < x4)) fun b5 => sp b5 (lt' (List.getD u0 4 0) fun x6 => lt' (wr .i64 (x6 - x1)) fun x7 => lt' (wr .i64 (u1 + x7)) fun x8 => j3 x8) (lt' (List.getD u0 5 0) fun x9 => lt' (List.getD u0 3 0) fun x10 => lt' (wr .i64 (x9 - x10)) fun x11 => lt' (decide (x1 > x11)) fun b12 => sp b12 (lt' (wr .i64 ((1440 : Int) - x1)) fun x13 => lt' (List.getD u0 4 0) fun x14 => lt' (wr .i64 (x13 + x14)) fun x15 => lt' (wr .i64 (u1 + x15)) fun x16 => j3 x16) (j3 u1))
theorem hf56 : Try.prog.funcs[56]? = some Try.f56 := by kernel_rfl
theorem w56 (k : Nat) {M : Mem} {u0 : List Int} {u1 : Int} (hu0 : u0.length = 12) {r} (h : p56 k u0 u1 = some r) :
  Fn Try.prog 56 [rval (.agg [.arr .i64 12 u0]),rval (vi u1)] M (fun x _ => x = vi r) := by
 unfold p56 at h
 refine FO [.agg [.arr .i64 12 u0],vi u1] hf56 ⟨⟨hu0,trivial⟩,⟨trivial,trivial⟩⟩ fun w => ?_
 refine SQ0 (RG ?_)
 refine SG 2 (S4 [(1,vi u1),(2,lO 2)] [(2,[.arr .i64 12 u0])] [] M) ?_
 refine EN (SQ (RG ?_))
 obtain ⟨x1,e_x1,h⟩ := lt_some h
 refine SS 3 [(1,vi u1),(2,lO 2),(5,vi x1)] ?_ (by subst e_x1;kernel_rfl)
 refine EN ?_
 obtain ⟨j3,e_j3,h⟩ := jn_some h
 refine T_cut (c1:=(sub [1,1,0] Bd56)) (c2:=(sub [1,1,1] Bd56)) (fun s' => ∃ (x2 : Int),Sub { σ := [(1,vi x2),(2,lO 2)],H := [(2,[.arr .i64 12 u0])],V := [],M := M,ds := [] } s' ∧ j3 x2 = some r) (by kernel_rfl) ?_ ?_
 ·refine BK 0 ?_
  refine SQ (RG ?_)
  obtain ⟨x4,e_x4,h⟩ := lt_some h
  obtain ⟨b5,e_b5,h⟩ := lt_some h
  refine SG 5 (S4 [(1,vi u1),(2,lO 2),(5,vi x1),(8,vb b5)] [(2,[.arr .i64 12 u0])] [] M) ?_ (by subst e_b5 e_x4;kernel_rfl)
  refine EN ?_
  cases b5 with
  | true =>
   replace h := sp_t h
   refine CT ?_
   refine KS [(1,vi u1),(2,lO 2),(5,vi x1)] ?_
   refine RG ?_
   obtain ⟨x6,e_x6,h⟩ := lt_some h
   obtain ⟨x7,e_x7,h⟩ := lt_some h
   obtain ⟨x8,e_x8,h⟩ := lt_some h
   refine SS 7 [(1,vi x8),(2,lO 2)] ?_ (by subst_vars;kernel_rfl)
   refine E0 (blockQ_n (thenQ_n ?_))
   exact ⟨x8,keep_sub (ts:=[1,2]) (hs:=[2]) (vs:=[]) (by kernel_rfl),h⟩
  | false =>
   replace h := sp_f h
   refine CF ?_
   refine KS [(1,vi u1),(2,lO 2),(5,vi x1)] ?_
   refine SQ (RG ?_)
   obtain ⟨x9,e_x9,h⟩ := lt_some h
   obtain ⟨x10,e_x10,h⟩ := lt_some h
   obtain ⟨x11,e_x11,h⟩ := lt_some h
   obtain ⟨b12,e_b12,h⟩ := lt_some h
   refine SS 8 [(1,vi u1),(2,lO 2),(5,vi x1),(19,vb b12)] ?_ (by subst_vars;kernel_rfl)
   refine EN ?_
   cases b12 with
   | true =>
    replace h := sp_t h
    refine CT ?_
    refine KS [(1,vi u1),(2,lO 2),(5,vi x1)] ?_
    refine RG ?_
    obtain ⟨x13,e_x13,h⟩ := lt_some h
    obtain ⟨x14,e_x14,h⟩ := lt_some h
    obtain ⟨x15,e_x15,h⟩ := lt_some h
    obtain ⟨x16,e_x16,h⟩ := lt_some h
    refine SS 8 [(1,vi x16),(2,lO 2)] ?_ (by subst_vars;kernel_rfl)
    refine E0 (blockQ_n (thenQ_n ?_))
    exact ⟨x16,keep_sub (ts:=[1,2]) (hs:=[2]) (vs:=[]) (by kernel_rfl),h⟩
   | false =>
    replace h := sp_f h
    refine CF ?_
    refine KS [(1,vi u1),(2,lO 2)] ?_
    refine S0 (blockQ_n (thenQ_n ?_))
    exact ⟨u1,keep_sub (ts:=[1,2]) (hs:=[2]) (vs:=[]) (by kernel_rfl),h⟩
 ·rintro s' ⟨x2,hsub,h⟩
  subst e_j3
  refine T_sub hsub ?_
  refine SQ (RG ?_)
  obtain ⟨x17,e_x17,h⟩ := lt_some h
  obtain ⟨x18,e_x18,h⟩ := lt_some h
  refine SG 5 (S4 [(4,vi x18)] [] [] M) ?_ (by subst e_x18 e_x17;kernel_rfl)
  refine EN (RT ?_)
  obtain rfl := sj h
  exact FT (vi x18) rfl
def p59_l1 (k : Nat) (u0 : List Int) (u1 : Int) (j1 : Option Bool) : Nat → Int → Option Bool
 | 0,_ => none
 | n3 + 1,x2 => lt' (decide (x2 < (u0.length : Int))) fun b4 => sp b4 (gd ((0 : Int) ≤ x2 ∧ x2 < (u0.length : Int)) <| lt' (List.getD u0 ((x2).toNat) 0) fun x6 => lt' (x6 == u1) fun b7 => sp b7 (some true) (lt' (wr .i64 (x2 + (1 : Int))) fun x8 => p59_l1 k u0 u1 j1 n3 x8)) (j1)
def p59 (k : Nat) (u0 : List Int) (u1 : Int) : Option Bool :=
 jn (some false) fun j1 => p59_l1 k u0 u1 j1 k (0 : Int)
theorem hf59 : Try.prog.funcs[59]? = some Try.f59 := by kernel_rfl
theorem w59 (k : Nat) {M : Mem} {Au0 : Option Addr} {cu0 : Nat} {u0 : List Int} {u1 : Int} (hu0 : SlI M Au0 cu0 .i64 u0) {r} (h : p59 k u0 u1 = some r) :
  Fn Try.prog 59 [rval (lS Au0 u0 cu0),rval (vi u1)] M (fun x _ => x = vb r) := by
 unfold p59 at h
 refine FO [lS Au0 u0 cu0,vi u1] hf59 ⟨trivial,⟨trivial,trivial⟩⟩ fun w => ?_
 refine SQ0 (RG ?_)
 refine SG 1 (S4 [(0,lS Au0 u0 cu0),(1,vi u1)] [] [] M) ?_
 refine EN (SQ (SQ (RG ?_)))
 refine SS 1 [(0,lS Au0 u0 cu0),(1,vi u1),(5,vi (0 : Int))] ?_
 refine EN ?_
 obtain ⟨j1,e_j1,h⟩ := jn_some h
 refine T_bcut (id:=0) (c1:=(sub [1,0,1,0] Bd59)) (fun s' => Sub { σ := [],H := [],V := [],M := M,ds := [] } s' ∧ j1 = some r) (by kernel_rfl) ?_ ?_
 ·refine T_loop (c1:=(sub [1,0,1,0,0] Bd59)) (by kernel_rfl) (fun n3 s' => ∃ (x2 : Int),Sub { σ := [(0,lS Au0 u0 cu0),(1,vi u1),(5,vi x2)],H := [],V := [],M := M,ds := [] } s' ∧ p59_l1 k u0 u1 j1 n3 x2 = some r) (k:=k) ⟨(0 : Int),keep_sub (ts:=[0,1,5]) (hs:=[]) (vs:=[]) (by kernel_rfl),h⟩ ?_
  rintro n3 s' ⟨x2,hsub,h⟩
  cases n3 with
  | zero => rw [p59_l1] at h;cases h
  | succ n3 =>
   rw [p59_l1] at h
   refine T_sub hsub ?_
   refine SQ (SQ (RG ?_))
   obtain ⟨b4,e_b4,h⟩ := lt_some h
   refine SG 4 (S4 [(0,lS Au0 u0 cu0),(1,vi u1),(5,vi x2),(9,vb b4)] [] [] M) ?_ (by subst e_b4;kernel_rfl)
   refine EN ?_
   cases b4 with
   | true =>
    replace h := sp_t h
    refine CT ?_
    refine KS [(0,lS Au0 u0 cu0),(1,vi u1),(5,vi x2)] ?_
    refine SN (SQ (BK 1 (SQ (RG ?_))))
    refine SS 2 [(0,lS Au0 u0 cu0),(1,vi u1),(5,vi x2),(12,lS Au0 u0 cu0),(13,vi x2)] ?_
    obtain ⟨g5,h⟩ := gd_some h
    refine AT 14 (.lf (.ep (.slice Au0 (u0.length) cu0) 1 ((x2).toNat) 0)) (At_idxI (z:=x2) (by kernel_rfl) g5 hu0) ?_
    obtain ⟨x6,e_x6,h⟩ := lt_some h
    refine AT 15 (vi x6) (by rw [e_x6]; exact At_ldI (q:=(x2).toNat) (by subst e_x6; kernel_rfl) (toNat_lt g5) hu0) ?_
    obtain ⟨b7,e_b7,h⟩ := lt_some h
    refine SH 6 [(0,lS Au0 u0 cu0),(1,vi u1),(5,vi x2),(17,vb b7)] [] ?_ (by subst e_b7;kernel_rfl)
    refine EN ?_
    cases b7 with
    | true =>
     replace h := sp_t h
     refine CT ?_
     refine KS [] ?_
     refine SQ (RG ?_)
     refine SS 1 [(4,vb true)] ?_
     refine EN (RT (blockQ_r (thenQ_r (thenQ_r (blockQ_r (thenQ_r (thenQ_r ?_)))))))
     obtain rfl := sj h
     exact FT (vb true) rfl
    | false =>
     replace h := sp_f h
     refine CF ?_
     refine KS [(0,lS Au0 u0 cu0),(1,vi u1),(5,vi x2)] ?_
     refine S0 (blockQ_n (thenQ_n (RG ?_)))
     obtain ⟨x8,e_x8,h⟩ := lt_some h
     refine SS 3 [(0,lS Au0 u0 cu0),(1,vi u1),(5,vi x8)] ?_ (by subst e_x8;kernel_rfl)
     refine EN ?_
     exact ⟨n3,Nat.lt_succ_self _,x8,keep_sub (ts:=[0,1,5]) (hs:=[]) (vs:=[]) (by kernel_rfl),h⟩
   | false =>
    replace h := sp_f h
    refine CF ?_
    refine KS [] ?_
    refine XI 0 (thenQ_x (thenQ_x (blockQ_x (thenQ_n ?_))))
    exact ⟨keep_sub (ts:=[]) (hs:=[]) (vs:=[]) (by kernel_rfl),h⟩
 ·rintro s' ⟨hsub,h⟩
  subst e_j1
  refine thenQ_n ?_
  refine T_sub hsub ?_
  refine SQ (RG ?_)
  refine SG 1 (S4 [(4,vb false)] [] [] M) ?_
  refine EN (RT ?_)
  obtain rfl := sj h
  exact FT (vb false) rfl
def p69_l1 (k : Nat) (u0 : List Int) (u1 : Int) (j1 : Option Bool) : Nat → Int → Int → Option Bool
 | 0,_,_ => none
 | n4 + 1,x2,x3 => lt' (decide (x3 < (u0.length : Int))) fun b5 => sp b5 (gd ((0 : Int) ≤ x3 ∧ x3 < (u0.length : Int)) <| lt' (List.getD u0 ((x3).toNat) 0) fun x7 => jn (fun (b8 : Bool) => sp b8 (some false) (lt' (wr .i64 (x3 + (1 : Int))) fun x12 => p69_l1 k u0 u1 j1 n4 x7 x12)) fun j9 => lt' (decide (x7 ≤ x2)) fun b10 => sp b10 (j9 true) (lt' (decide (x7 ≥ u1)) fun b11 => j9 b11)) (j1)
def p69 (k : Nat) (u0 : List Int) (u1 : Int) : Option Bool :=
 jn (some true) fun j1 => p69_l1 k u0 u1 j1 k (-1 : Int) (0 : Int)
theorem hf69 : Try.prog.funcs[69]? = some Try.f69 := by kernel_rfl
theorem w69 (k : Nat) {M : Mem} {Au0 : Option Addr} {cu0 : Nat} {u0 : List Int} {u1 : Int} (hu0 : SlI M Au0 cu0 .i64 u0) {r} (h : p69 k u0 u1 = some r) :
  Fn Try.prog 69 [rval (lS Au0 u0 cu0),rval (vi u1)] M (fun x _ => x = vb r) := by
 unfold p69 at h
 refine FO [lS Au0 u0 cu0,vi u1] hf69 ⟨trivial,⟨trivial,trivial⟩⟩ fun w => ?_
 refine SQ0 (RG ?_)
 refine SG 1 (S4 [(0,lS Au0 u0 cu0),(1,vi u1)] [] [] M) ?_
 refine EN (SQ (RG ?_))
 refine SS 1 [(0,lS Au0 u0 cu0),(1,vi u1),(5,vi (-1 : Int))] ?_
 refine EN (SQ (SQ (RG ?_)))
 refine SS 3 [(1,vi u1),(5,vi (-1 : Int)),(8,lS Au0 u0 cu0),(9,vi (u0.length : Int)),(10,vi (0 : Int))] ?_
 refine EN ?_
 obtain ⟨j1,e_j1,h⟩ := jn_some h
 refine T_bcut (id:=0) (c1:=(sub [1,1,0,1,0] Bd69)) (fun s' => Sub { σ := [],H := [],V := [],M := M,ds := [] } s' ∧ j1 = some r) (by kernel_rfl) ?_ ?_
 ·refine T_loop (c1:=(sub [1,1,0,1,0,0] Bd69)) (by kernel_rfl) (fun n4 s' => ∃ (x2 : Int) (x3 : Int),Sub { σ := [(1,vi u1),(5,vi x2),(8,lS Au0 u0 cu0),(9,vi (u0.length : Int)),(10,vi x3)],H := [],V := [],M := M,ds := [] } s' ∧ p69_l1 k u0 u1 j1 n4 x2 x3 = some r) (k:=k) ⟨(-1 : Int),(0 : Int),keep_sub (ts:=[1,5,8,9,10]) (hs:=[]) (vs:=[]) (by kernel_rfl),h⟩ ?_
  rintro n4 s' ⟨x2,x3,hsub,h⟩
  cases n4 with
  | zero => rw [p69_l1] at h;cases h
  | succ n4 =>
   rw [p69_l1] at h
   refine T_sub hsub ?_
   refine SQ (RG ?_)
   obtain ⟨b5,e_b5,h⟩ := lt_some h
   refine SG 1 (S4 [(1,vi u1),(5,vi x2),(8,lS Au0 u0 cu0),(9,vi (u0.length : Int)),(10,vi x3),(11,vb b5)] [] [] M) ?_ (by subst e_b5;kernel_rfl)
   refine EN (SQ ?_)
   cases b5 with
   | true =>
    replace h := sp_t h
    refine CT ?_
    refine KS [(1,vi u1),(5,vi x2),(8,lS Au0 u0 cu0),(9,vi (u0.length : Int)),(10,vi x3)] ?_
    refine SN (SQ (BK 1 (SQ (RG ?_))))
    obtain ⟨g6,h⟩ := gd_some h
    refine AT 12 (.lf (.ep (.slice Au0 (u0.length) cu0) 1 ((x3).toNat) 0)) (At_idxI (z:=x3) (by kernel_rfl) g6 hu0) ?_
    obtain ⟨x7,e_x7,h⟩ := lt_some h
    refine AT 13 (vi x7) (by rw [e_x7]; exact At_ldI (q:=(x3).toNat) (by subst e_x7; kernel_rfl) (toNat_lt g6) hu0) ?_
    refine SH 3 [(1,vi u1),(5,vi x2),(7,vi x7),(8,lS Au0 u0 cu0),(9,vi (u0.length : Int)),(10,vi x3)] [] ?_
    refine EN (SQ ?_)
    obtain ⟨j9,e_j9,h⟩ := jn_some h
    refine T_cut (c1:=(sub [1,1,0,1,0,0,1,1,0,0,1,0,0] Bd69)) (c2:=(sub [1,1,0,1,0,0,1,1,0,0,1,0,1] Bd69)) (fun s' => ∃ (b8 : Bool),Sub { σ := [(1,vi u1),(7,vi x7),(8,lS Au0 u0 cu0),(9,vi (u0.length : Int)),(10,vi x3),(21,vb b8)],H := [],V := [],M := M,ds := [] } s' ∧ j9 b8 = some r) (by kernel_rfl) ?_ ?_
    ·refine RG ?_
     obtain ⟨b10,e_b10,h⟩ := lt_some h
     refine SG 4 (S4 [(1,vi u1),(7,vi x7),(8,lS Au0 u0 cu0),(9,vi (u0.length : Int)),(10,vi x3),(17,vb b10)] [] [] M) ?_ (by subst e_b10;kernel_rfl)
     cases b10 with
     | true =>
      replace h := sp_t h
      refine SS 8 [(1,vi u1),(7,vi x7),(8,lS Au0 u0 cu0),(9,vi (u0.length : Int)),(10,vi x3),(21,vb true)] ?_
      refine EN ?_
      exact ⟨true,keep_sub (ts:=[1,7,8,9,10,21]) (hs:=[]) (vs:=[]) (by kernel_rfl),h⟩
     | false =>
      replace h := sp_f h
      obtain ⟨b11,e_b11,h⟩ := lt_some h
      refine SS 8 [(1,vi u1),(7,vi x7),(8,lS Au0 u0 cu0),(9,vi (u0.length : Int)),(10,vi x3),(21,vb b11)] ?_ (by subst e_b11;kernel_rfl)
      refine EN ?_
      exact ⟨b11,keep_sub (ts:=[1,7,8,9,10,21]) (hs:=[]) (vs:=[]) (by kernel_rfl),h⟩
    ·rintro s' ⟨b8,hsub,h⟩
     subst e_j9
     refine T_sub hsub ?_
     cases b8 with
     | true =>
      replace h := sp_t h
      refine CT ?_
      refine KG (S4 [] [] [] M) ?_
      refine SQ (RG ?_)
      refine SS 1 [(4,vb false)] ?_
      refine EN (RT (thenQ_r (blockQ_r (thenQ_r (thenQ_r (blockQ_r (thenQ_r (thenQ_r ?_))))))))
      obtain rfl := sj h
      exact FT (vb false) rfl
     | false =>
      replace h := sp_f h
      refine CF ?_
      refine KG (S4 [(1,vi u1),(7,vi x7),(8,lS Au0 u0 cu0),(9,vi (u0.length : Int)),(10,vi x3)] [] [] M) ?_
      refine SN (RG ?_)
      refine SS 2 [(1,vi u1),(5,vi x7),(8,lS Au0 u0 cu0),(9,vi (u0.length : Int)),(10,vi x3)] ?_
      refine E0 (blockQ_n (thenQ_n (RG ?_)))
      obtain ⟨x12,e_x12,h⟩ := lt_some h
      refine SS 2 [(1,vi u1),(5,vi x7),(8,lS Au0 u0 cu0),(9,vi (u0.length : Int)),(10,vi x12)] ?_ (by subst e_x12;kernel_rfl)
      refine EN ?_
      exact ⟨n4,Nat.lt_succ_self _,x7,x12,keep_sub (ts:=[1,5,8,9,10]) (hs:=[]) (vs:=[]) (by kernel_rfl),h⟩
   | false =>
    replace h := sp_f h
    refine CF ?_
    refine KS [] ?_
    refine XI 0 (thenQ_x (thenQ_x (blockQ_x (thenQ_n ?_))))
    exact ⟨keep_sub (ts:=[]) (hs:=[]) (vs:=[]) (by kernel_rfl),h⟩
 ·rintro s' ⟨hsub,h⟩
  subst e_j1
  refine thenQ_n ?_
  refine T_sub hsub ?_
  refine SQ (RG ?_)
  refine SG 1 (S4 [(4,vb true)] [] [] M) ?_
  refine EN (RT ?_)
  obtain rfl := sj h
  exact FT (vb true) rfl
def p83_l1 (k : Nat) (u0 : List Int) (u1 : Int) (j1 : Option Bool) : Nat → Int → Option Bool
 | 0,_ => none
 | n3 + 1,x2 => lt' (decide (x2 < (u0.length : Int))) fun b4 => sp b4 (jn (fun (b5 : Bool) => sp b5 (some false) (lt' (wr .i64 (x2 + (1 : Int))) fun x20 => p83_l1 k u0 u1 j1 n3 x20)) fun j6 => gd ((0 : Int) ≤ x2 ∧ x2 < (u0.length : Int)) <| lt' (List.getD u0 ((x2).toNat) 0) fun x8 => lt' (decide (x8 < (0 : Int))) fun b9 => sp b9 (j6 true) (gd ((0 : Int) ≤ x2 ∧ x2 < (u0.length : Int)) <| lt' (List.getD u0 ((x2).toNat) 0) fun x11 => lt' (decide (x11 ≥ u1)) fun b12 => sp b12 (j6 true) (lt' (decide (x2 > (0 : Int))) fun b13 => sp b13 (gd ((0 : Int) ≤ x2 ∧ x2 < (u0.length : Int)) <| lt' (List.getD u0 ((x2).toNat) 0) fun x15 => lt' (wr .i64 (x2 - (1 : Int))) fun x16 => gd ((0 : Int) ≤ x16 ∧ x16 < (u0.length : Int)) <| lt' (List.getD u0 ((x16).toNat) 0) fun x18 => lt' (decide (x15 ≤ x18)) fun b19 => j6 b19) (j6 false)))) (j1)
def p83 (k : Nat) (u0 : List Int) (u1 : Int) : Option Bool :=
 jn (some true) fun j1 => p83_l1 k u0 u1 j1 k (0 : Int)
theorem hf83 : Try.prog.funcs[83]? = some Try.f83 := by kernel_rfl
theorem w83 (k : Nat) {M : Mem} {Au0 : Option Addr} {cu0 : Nat} {u0 : List Int} {u1 : Int} (hu0 : SlI M Au0 cu0 .i64 u0) {r} (h : p83 k u0 u1 = some r) :
  Fn Try.prog 83 [rval (lS Au0 u0 cu0),rval (vi u1)] M (fun x _ => x = vb r) := by
 unfold p83 at h
 refine FO [lS Au0 u0 cu0,vi u1] hf83 ⟨trivial,⟨trivial,trivial⟩⟩ fun w => ?_
 refine SQ0 (RG ?_)
 refine SG 1 (S4 [(0,lS Au0 u0 cu0),(1,vi u1)] [] [] M) ?_
 refine EN (SQ (SQ (RG ?_)))
 refine SS 1 [(0,lS Au0 u0 cu0),(1,vi u1),(5,vi (0 : Int))] ?_
 refine EN ?_
 obtain ⟨j1,e_j1,h⟩ := jn_some h
 refine T_bcut (id:=0) (c1:=(sub [1,0,1,0] Bd83)) (fun s' => Sub { σ := [],H := [],V := [],M := M,ds := [] } s' ∧ j1 = some r) (by kernel_rfl) ?_ ?_
 ·refine T_loop (c1:=(sub [1,0,1,0,0] Bd83)) (by kernel_rfl) (fun n3 s' => ∃ (x2 : Int),Sub { σ := [(0,lS Au0 u0 cu0),(1,vi u1),(5,vi x2)],H := [],V := [],M := M,ds := [] } s' ∧ p83_l1 k u0 u1 j1 n3 x2 = some r) (k:=k) ⟨(0 : Int),keep_sub (ts:=[0,1,5]) (hs:=[]) (vs:=[]) (by kernel_rfl),h⟩ ?_
  rintro n3 s' ⟨x2,hsub,h⟩
  cases n3 with
  | zero => rw [p83_l1] at h;cases h
  | succ n3 =>
   rw [p83_l1] at h
   refine T_sub hsub ?_
   refine SQ (SQ (RG ?_))
   obtain ⟨b4,e_b4,h⟩ := lt_some h
   refine SG 4 (S4 [(0,lS Au0 u0 cu0),(1,vi u1),(5,vi x2),(9,vb b4)] [] [] M) ?_ (by subst e_b4;kernel_rfl)
   refine EN ?_
   cases b4 with
   | true =>
    replace h := sp_t h
    refine CT ?_
    refine KS [(0,lS Au0 u0 cu0),(1,vi u1),(5,vi x2)] ?_
    refine SN (SQ (BK 1 ?_))
    obtain ⟨j6,e_j6,h⟩ := jn_some h
    refine T_cut (c1:=(sub [1,0,1,0,0,1,0,0,0] Bd83)) (c2:=(sub [1,0,1,0,0,1,0,0,1] Bd83)) (fun s' => ∃ (b5 : Bool),Sub { σ := [(0,lS Au0 u0 cu0),(1,vi u1),(5,vi x2),(40,vb b5)],H := [],V := [],M := M,ds := [] } s' ∧ j6 b5 = some r) (by kernel_rfl) ?_ ?_
    ·obtain ⟨g7,h⟩ := gd_some h
     obtain ⟨x8,e_x8,h⟩ := lt_some h
     obtain ⟨b9,e_b9,h⟩ := lt_some h
     cases b9 with
     | true =>
      replace h := sp_t h
      refine T_draw' (id:=4) [] [0,0,0,0,0,0,0,0,0,0,0,0,0,0,0,0,0,0,0,0,0,0,0,0,0,0,0,0,0] (by kernel_rfl) (by kernel_rfl) (by kernel_rfl) (by kernel_rfl) ((12,lS Au0 u0 cu0)::(13,vi x2)::(14,.lf (.ep (.slice Au0 (u0.length) cu0) 1 ((x2).toNat) 0))::(15,vi x8)::(16,vb true)::(17,vb true)::(18,.tup [])::(19,.tup [])::(20,.tup [])::(21,.tup [])::(22,.tup [])::(23,.tup [])::(24,vb true)::(25,vb true)::(26,.tup [])::(27,.tup [])::(28,.tup [])::(29,.tup [])::(30,.tup [])::(31,.tup [])::(32,.tup [])::(33,.tup [])::(34,.tup [])::(35,.tup [])::(36,.tup [])::(37,.tup [])::(38,.tup [])::(39,.tup [])::(40,vb true)::[]) (by kernel_rfl) ⟨trivial,⟨trivial,⟨trivial,⟨trivial,⟨trivial,⟨trivial,⟨(by intro y hy;cases hy),⟨(by intro y hy;cases hy),⟨(by intro y hy;cases hy),⟨(by intro y hy;cases hy),⟨(by intro y hy;cases hy),⟨(by intro y hy;cases hy),⟨trivial,⟨trivial,⟨(by intro y hy;cases hy),⟨(by intro y hy;cases hy),⟨(by intro y hy;cases hy),⟨(by intro y hy;cases hy),⟨(by intro y hy;cases hy),⟨(by intro y hy;cases hy),⟨(by intro y hy;cases hy),⟨(by intro y hy;cases hy),⟨(by intro y hy;cases hy),⟨(by intro y hy;cases hy),⟨(by intro y hy;cases hy),⟨(by intro y hy;cases hy),⟨(by intro y hy;cases hy),⟨(by intro y hy;cases hy),⟨trivial,trivial⟩⟩⟩⟩⟩⟩⟩⟩⟩⟩⟩⟩⟩⟩⟩⟩⟩⟩⟩⟩⟩⟩⟩⟩⟩⟩⟩⟩⟩ ?_
      refine Stage_nil (stage_all' [0,1,5,6,7,8,9,10,11,12,13,14,15,16,17,18,19,20,21,22,23,24,25,26,27,28] [2,3,4] (by kernel_rfl) (by subst e_x8; kernel_rfl) (by kernel_rfl) ⟨QF_at (i:=2) (d:=14) (x:=.lf (.ep (.slice Au0 (u0.length) cu0) 1 ((x2).toNat) 0)) (show OpAt _ _ _ 2 14 _ from by exact At_idxI (d:=14) (z:=x2) (by subst e_x8; kernel_rfl) g7 hu0) (by kernel_rfl) (by subst e_x8; kernel_rfl),⟨QF_at (i:=3) (d:=15) (x:=vi x8) (show OpAt _ _ _ 3 15 _ from by rw [e_x8]; exact At_ldI (d:=15) (q:=(x2).toNat) (by subst e_x8; kernel_rfl) (toNat_lt g7) hu0) (by kernel_rfl) (by subst e_x8; kernel_rfl),⟨QF_at (i:=4) (d:=16) (x:=vb true) (show OpAt _ _ _ 4 16 _ from by exact At_bin (d:=16) (b:=.lss) (u:=.int .i64 x8) (v:=.int .i64 (0 : Int)) (w':=.bool true) (by subst e_x8; kernel_rfl) (by rw [show exBin .lss (.int .i64 x8) (.int .i64 (0 : Int)) = some (.bool (decide (x8 < (0 : Int)))) from by kernel_rfl,← e_b9])) (by kernel_rfl) (by subst e_x8; kernel_rfl),trivial⟩⟩⟩) ?_
      refine thenQ_n ?_
      exact ⟨true,keep_sub (ts:=[0,1,5,40]) (hs:=[]) (vs:=[]) (by subst e_x8;kernel_rfl),h⟩
     | false =>
      replace h := sp_f h
      obtain ⟨g10,h⟩ := gd_some h
      obtain ⟨x11,e_x11,h⟩ := lt_some h
      obtain ⟨b12,e_b12,h⟩ := lt_some h
      cases b12 with
      | true =>
       replace h := sp_t h
       refine T_draw' (id:=4) [] [0,0,0,0,0,0,0,0,0,0,0,0,0,0,0,0,0,0,0,0,0,0,0,0,0,0,0,0,0] (by kernel_rfl) (by kernel_rfl) (by kernel_rfl) (by kernel_rfl) ((12,lS Au0 u0 cu0)::(13,vi x2)::(14,.lf (.ep (.slice Au0 (u0.length) cu0) 1 ((x2).toNat) 0))::(15,vi x8)::(16,vb false)::(17,vb false)::(18,lS Au0 u0 cu0)::(19,vi x2)::(20,.lf (.ep (.slice Au0 (u0.length) cu0) 1 ((x2).toNat) 0))::(21,vi x11)::(22,vi u1)::(23,vb true)::(24,vb true)::(25,vb true)::(26,.tup [])::(27,.tup [])::(28,.tup [])::(29,.tup [])::(30,.tup [])::(31,.tup [])::(32,.tup [])::(33,.tup [])::(34,.tup [])::(35,.tup [])::(36,.tup [])::(37,.tup [])::(38,.tup [])::(39,.tup [])::(40,vb true)::[]) (by kernel_rfl) ⟨trivial,⟨trivial,⟨trivial,⟨trivial,⟨trivial,⟨trivial,⟨trivial,⟨trivial,⟨trivial,⟨trivial,⟨trivial,⟨trivial,⟨trivial,⟨trivial,⟨(by intro y hy;cases hy),⟨(by intro y hy;cases hy),⟨(by intro y hy;cases hy),⟨(by intro y hy;cases hy),⟨(by intro y hy;cases hy),⟨(by intro y hy;cases hy),⟨(by intro y hy;cases hy),⟨(by intro y hy;cases hy),⟨(by intro y hy;cases hy),⟨(by intro y hy;cases hy),⟨(by intro y hy;cases hy),⟨(by intro y hy;cases hy),⟨(by intro y hy;cases hy),⟨(by intro y hy;cases hy),⟨trivial,trivial⟩⟩⟩⟩⟩⟩⟩⟩⟩⟩⟩⟩⟩⟩⟩⟩⟩⟩⟩⟩⟩⟩⟩⟩⟩⟩⟩⟩⟩ ?_
       refine Stage_nil (stage_all' [0,1,5,6,7,10,12,13,14,15,16,17,18,19,20,21,22,23,24,25,26,27,28] [2,3,4,8,9,11] (by kernel_rfl) (by subst e_x11 e_x8; kernel_rfl) (by kernel_rfl) ⟨QF_at (i:=2) (d:=14) (x:=.lf (.ep (.slice Au0 (u0.length) cu0) 1 ((x2).toNat) 0)) (show OpAt _ _ _ 2 14 _ from by exact At_idxI (d:=14) (z:=x2) (by subst e_x11 e_x8; kernel_rfl) g7 hu0) (by kernel_rfl) (by subst e_x11 e_x8; kernel_rfl),⟨QF_at (i:=3) (d:=15) (x:=vi x8) (show OpAt _ _ _ 3 15 _ from by rw [e_x8]; exact At_ldI (d:=15) (q:=(x2).toNat) (by subst e_x11 e_x8; kernel_rfl) (toNat_lt g7) hu0) (by kernel_rfl) (by subst e_x11 e_x8; kernel_rfl),⟨QF_at (i:=4) (d:=16) (x:=vb false) (show OpAt _ _ _ 4 16 _ from by exact At_bin (d:=16) (b:=.lss) (u:=.int .i64 x8) (v:=.int .i64 (0 : Int)) (w':=.bool false) (by subst e_x11 e_x8; kernel_rfl) (by rw [show exBin .lss (.int .i64 x8) (.int .i64 (0 : Int)) = some (.bool (decide (x8 < (0 : Int)))) from by kernel_rfl,← e_b9])) (by kernel_rfl) (by subst e_x11 e_x8; kernel_rfl),⟨QF_at (i:=8) (d:=20) (x:=.lf (.ep (.slice Au0 (u0.length) cu0) 1 ((x2).toNat) 0)) (show OpAt _ _ _ 8 20 _ from by exact At_idxI (d:=20) (z:=x2) (by subst e_x11 e_x8; kernel_rfl) g10 hu0) (by kernel_rfl) (by subst e_x11 e_x8; kernel_rfl),⟨QF_at (i:=9) (d:=21) (x:=vi x11) (show OpAt _ _ _ 9 21 _ from by rw [e_x11]; exact At_ldI (d:=21) (q:=(x2).toNat) (by subst e_x11 e_x8; kernel_rfl) (toNat_lt g10) hu0) (by kernel_rfl) (by subst e_x11 e_x8; kernel_rfl),⟨QF_at (i:=11) (d:=23) (x:=vb true) (show OpAt _ _ _ 11 23 _ from by exact At_bin (d:=23) (b:=.geq) (u:=.int .i64 x11) (v:=.int .i64 u1) (w':=.bool true) (by subst e_x11 e_x8; kernel_rfl) (by rw [show exBin .geq (.int .i64 x11) (.int .i64 u1) = some (.bool (decide (x11 ≥ u1))) from by kernel_rfl,← e_b12])) (by kernel_rfl) (by subst e_x11 e_x8; kernel_rfl),trivial⟩⟩⟩⟩⟩⟩) ?_
       refine thenQ_n ?_
       exact ⟨true,keep_sub (ts:=[0,1,5,40]) (hs:=[]) (vs:=[]) (by subst e_x11 e_x8;kernel_rfl),h⟩
      | false =>
       replace h := sp_f h
       obtain ⟨b13,e_b13,h⟩ := lt_some h
       cases b13 with
       | true =>
        replace h := sp_t h
        obtain ⟨g14,h⟩ := gd_some h
        obtain ⟨x15,e_x15,h⟩ := lt_some h
        obtain ⟨x16,e_x16,h⟩ := lt_some h
        obtain ⟨g17,h⟩ := gd_some h
        obtain ⟨x18,e_x18,h⟩ := lt_some h
        obtain ⟨b19,e_b19,h⟩ := lt_some h
        refine T_draw' (id:=4) [] [0,0,0,0,0,0,0,0,0,0,0,0,0,0,0,0,0,0,0,0,0,0,0,0,0,0,0,0,0] (by kernel_rfl) (by kernel_rfl) (by kernel_rfl) (by kernel_rfl) ((12,lS Au0 u0 cu0)::(13,vi x2)::(14,.lf (.ep (.slice Au0 (u0.length) cu0) 1 ((x2).toNat) 0))::(15,vi x8)::(16,vb false)::(17,vb false)::(18,lS Au0 u0 cu0)::(19,vi x2)::(20,.lf (.ep (.slice Au0 (u0.length) cu0) 1 ((x2).toNat) 0))::(21,vi x11)::(22,vi u1)::(23,vb false)::(24,vb false)::(25,vb false)::(26,vi x2)::(27,vb true)::(28,vb true)::(29,lS Au0 u0 cu0)::(30,vi x2)::(31,.lf (.ep (.slice Au0 (u0.length) cu0) 1 ((x2).toNat) 0))::(32,vi x15)::(33,lS Au0 u0 cu0)::(34,vi x2)::(35,vi x16)::(36,.lf (.ep (.slice Au0 (u0.length) cu0) 1 ((x16).toNat) 0))::(37,vi x18)::(38,vb b19)::(39,vb b19)::(40,vb b19)::[]) (by kernel_rfl) (wfs_lf _ (by kernel_rfl)) ?_
        refine Stage_nil (stage_all' [0,1,5,6,7,10,12,13,14,16,17,18,21,22,23,26,27,28] [2,3,4,8,9,11,15,19,20,24,25] (by kernel_rfl) (by subst_vars; kernel_rfl) (by kernel_rfl) ⟨QF_at (i:=2) (d:=14) (x:=.lf (.ep (.slice Au0 (u0.length) cu0) 1 ((x2).toNat) 0)) (show OpAt _ _ _ 2 14 _ from by exact At_idxI (d:=14) (z:=x2) (by subst_vars; kernel_rfl) g7 hu0) (by kernel_rfl) (by subst_vars; kernel_rfl),⟨QF_at (i:=3) (d:=15) (x:=vi x8) (show OpAt _ _ _ 3 15 _ from by rw [e_x8]; exact At_ldI (d:=15) (q:=(x2).toNat) (by subst_vars; kernel_rfl) (toNat_lt g7) hu0) (by kernel_rfl) (by subst_vars; kernel_rfl),⟨QF_at (i:=4) (d:=16) (x:=vb false) (show OpAt _ _ _ 4 16 _ from by exact At_bin (d:=16) (b:=.lss) (u:=.int .i64 x8) (v:=.int .i64 (0 : Int)) (w':=.bool false) (by subst_vars; kernel_rfl) (by rw [show exBin .lss (.int .i64 x8) (.int .i64 (0 : Int)) = some (.bool (decide (x8 < (0 : Int)))) from by kernel_rfl,← e_b9])) (by kernel_rfl) (by subst_vars; kernel_rfl),⟨QF_at (i:=8) (d:=20) (x:=.lf (.ep (.slice Au0 (u0.length) cu0) 1 ((x2).toNat) 0)) (show OpAt _ _ _ 8 20 _ from by exact At_idxI (d:=20) (z:=x2) (by subst_vars; kernel_rfl) g10 hu0) (by kernel_rfl) (by subst_vars; kernel_rfl),⟨QF_at (i:=9) (d:=21) (x:=vi x11) (show OpAt _ _ _ 9 21 _ from by rw [e_x11]; exact At_ldI (d:=21) (q:=(x2).toNat) (by subst_vars; kernel_rfl) (toNat_lt g10) hu0) (by kernel_rfl) (by subst_vars; kernel_rfl),⟨QF_at (i:=11) (d:=23) (x:=vb false) (show OpAt _ _ _ 11 23 _ from by exact At_bin (d:=23) (b:=.geq) (u:=.int .i64 x11) (v:=.int .i64 u1) (w':=.bool false) (by subst_vars; kernel_rfl) (by rw [show exBin .geq (.int .i64 x11) (.int .i64 u1) = some (.bool (decide (x11 ≥ u1))) from by kernel_rfl,← e_b12])) (by kernel_rfl) (by subst_vars; kernel_rfl),⟨QF_at (i:=15) (d:=27) (x:=vb true) (show OpAt _ _ _ 15 27 _ from by exact At_bin (d:=27) (b:=.gtr) (u:=.int .i64 x2) (v:=.int .i64 (0 : Int)) (w':=.bool true) (by subst_vars; kernel_rfl) (by rw [show exBin .gtr (.int .i64 x2) (.int .i64 (0 : Int)) = some (.bool (decide (x2 > (0 : Int)))) from by kernel_rfl,← e_b13])) (by kernel_rfl) (by subst_vars; kernel_rfl),⟨QF_at (i:=19) (d:=31) (x:=.lf (.ep (.slice Au0 (u0.length) cu0) 1 ((x2).toNat) 0)) (show OpAt _ _ _ 19 31 _ from by exact At_idxI (d:=31) (z:=x2) (by subst_vars; kernel_rfl) g14 hu0) (by kernel_rfl) (by subst_vars; kernel_rfl),⟨QF_at (i:=20) (d:=32) (x:=vi x15) (show OpAt _ _ _ 20 32 _ from by rw [e_x15]; exact At_ldI (d:=32) (q:=(x2).toNat) (by subst_vars; kernel_rfl) (toNat_lt g14) hu0) (by kernel_rfl) (by subst_vars; kernel_rfl),⟨QF_at (i:=24) (d:=36) (x:=.lf (.ep (.slice Au0 (u0.length) cu0) 1 ((x16).toNat) 0)) (show OpAt _ _ _ 24 36 _ from by exact At_idxI (d:=36) (z:=x16) (by subst_vars; kernel_rfl) g17 hu0) (by kernel_rfl) (by subst_vars; kernel_rfl),⟨QF_at (i:=25) (d:=37) (x:=vi x18) (show OpAt _ _ _ 25 37 _ from by rw [e_x18]; exact At_ldI (d:=37) (q:=(x16).toNat) (by subst_vars; kernel_rfl) (toNat_lt g17) hu0) (by kernel_rfl) (by subst_vars; kernel_rfl),trivial⟩⟩⟩⟩⟩⟩⟩⟩⟩⟩⟩) ?_
        refine thenQ_n ?_
        exact ⟨b19,keep_sub (ts:=[0,1,5,40]) (hs:=[]) (vs:=[]) (by subst_vars;kernel_rfl),h⟩
       | false =>
        replace h := sp_f h
        refine T_draw' (id:=4) [] [0,0,0,0,0,0,0,0,0,0,0,0,0,0,0,0,0,0,0,0,0,0,0,0,0,0,0,0,0] (by kernel_rfl) (by kernel_rfl) (by kernel_rfl) (by kernel_rfl) ((12,lS Au0 u0 cu0)::(13,vi x2)::(14,.lf (.ep (.slice Au0 (u0.length) cu0) 1 ((x2).toNat) 0))::(15,vi x8)::(16,vb false)::(17,vb false)::(18,lS Au0 u0 cu0)::(19,vi x2)::(20,.lf (.ep (.slice Au0 (u0.length) cu0) 1 ((x2).toNat) 0))::(21,vi x11)::(22,vi u1)::(23,vb false)::(24,vb false)::(25,vb false)::(26,vi x2)::(27,vb false)::(28,vb false)::(29,.tup [])::(30,.tup [])::(31,.tup [])::(32,.tup [])::(33,.tup [])::(34,.tup [])::(35,.tup [])::(36,.tup [])::(37,.tup [])::(38,.tup [])::(39,vb false)::(40,vb false)::[]) (by kernel_rfl) ⟨trivial,⟨trivial,⟨trivial,⟨trivial,⟨trivial,⟨trivial,⟨trivial,⟨trivial,⟨trivial,⟨trivial,⟨trivial,⟨trivial,⟨trivial,⟨trivial,⟨trivial,⟨trivial,⟨trivial,⟨(by intro y hy;cases hy),⟨(by intro y hy;cases hy),⟨(by intro y hy;cases hy),⟨(by intro y hy;cases hy),⟨(by intro y hy;cases hy),⟨(by intro y hy;cases hy),⟨(by intro y hy;cases hy),⟨(by intro y hy;cases hy),⟨(by intro y hy;cases hy),⟨(by intro y hy;cases hy),⟨trivial,⟨trivial,trivial⟩⟩⟩⟩⟩⟩⟩⟩⟩⟩⟩⟩⟩⟩⟩⟩⟩⟩⟩⟩⟩⟩⟩⟩⟩⟩⟩⟩⟩ ?_
        refine Stage_nil (stage_all' [0,1,5,6,7,10,12,13,14,16,17,18,19,20,21,22,23,24,25,26,27,28] [2,3,4,8,9,11,15] (by kernel_rfl) (by subst e_x11 e_x8; kernel_rfl) (by kernel_rfl) ⟨QF_at (i:=2) (d:=14) (x:=.lf (.ep (.slice Au0 (u0.length) cu0) 1 ((x2).toNat) 0)) (show OpAt _ _ _ 2 14 _ from by exact At_idxI (d:=14) (z:=x2) (by subst e_x11 e_x8; kernel_rfl) g7 hu0) (by kernel_rfl) (by subst e_x11 e_x8; kernel_rfl),⟨QF_at (i:=3) (d:=15) (x:=vi x8) (show OpAt _ _ _ 3 15 _ from by rw [e_x8]; exact At_ldI (d:=15) (q:=(x2).toNat) (by subst e_x11 e_x8; kernel_rfl) (toNat_lt g7) hu0) (by kernel_rfl) (by subst e_x11 e_x8; kernel_rfl),⟨QF_at (i:=4) (d:=16) (x:=vb false) (show OpAt _ _ _ 4 16 _ from by exact At_bin (d:=16) (b:=.lss) (u:=.int .i64 x8) (v:=.int .i64 (0 : Int)) (w':=.bool false) (by subst e_x11 e_x8; kernel_rfl) (by rw [show exBin .lss (.int .i64 x8) (.int .i64 (0 : Int)) = some (.bool (decide (x8 < (0 : Int)))) from by kernel_rfl,← e_b9])) (by kernel_rfl) (by subst e_x11 e_x8; kernel_rfl),⟨QF_at (i:=8) (d:=20) (x:=.lf (.ep (.slice Au0 (u0.length) cu0) 1 ((x2).toNat) 0)) (show OpAt _ _ _ 8 20 _ from by exact At_idxI (d:=20) (z:=x2) (by subst e_x11 e_x8; kernel_rfl) g10 hu0) (by kernel_rfl) (by subst e_x11 e_x8; kernel_rfl),⟨QF_at (i:=9) (d:=21) (x:=vi x11) (show OpAt _ _ _ 9 21 _ from by rw [e_x11]; exact At_ldI (d:=21) (q:=(x2).toNat) (by subst e_x11 e_x8; kernel_rfl) (toNat_lt g10) hu0) (by kernel_rfl) (by subst e_x11 e_x8; kernel_rfl),⟨QF_at (i:=11) (d:=23) (x:=vb false) (show OpAt _ _ _ 11 23 _ from by exact At_bin (d:=23) (b:=.geq) (u:=.int .i64 x11) (v:=.int .i64 u1) (w':=.bool false) (by subst e_x11 e_x8; kernel_rfl) (by rw [show exBin .geq (.int .i64 x11) (.int .i64 u1) = some (.bool (decide (x11 ≥ u1))) from by kernel_rfl,← e_b12])) (by kernel_rfl) (by subst e_x11 e_x8; kernel_rfl),⟨QF_at (i:=15) (d:=27) (x:=vb false) (show OpAt _ _ _ 15 27 _ from by exact At_bin (d:=27) (b:=.gtr) (u:=.int .i64 x2) (v:=.int .i64 (0 : Int)) (w':=.bool false) (by subst e_x11 e_x8; kernel_rfl) (by rw [show exBin .gtr (.int .i64 x2) (.int .i64 (0 : Int)) = some (.bool (decide (x2 > (0 : Int)))) from by kernel_rfl,← e_b13])) (by kernel_rfl) (by subst e_x11 e_x8; kernel_rfl),trivial⟩⟩⟩⟩⟩⟩⟩) ?_
        refine thenQ_n ?_
        exact ⟨false,keep_sub (ts:=[0,1,5,40]) (hs:=[]) (vs:=[]) (by subst e_x11 e_x8;kernel_rfl),h⟩
    ·rintro s' ⟨b5,hsub,h⟩
     subst e_j6
     refine T_sub hsub ?_
     cases b5 with
     | true =>
      replace h := sp_t h
      refine CT ?_
      refine KG (S4 [] [] [] M) ?_
      refine SQ (RG ?_)
      refine SS 1 [(4,vb false)] ?_
      refine EN (RT (blockQ_r (thenQ_r (thenQ_r (blockQ_r (thenQ_r (thenQ_r ?_)))))))
      obtain rfl := sj h
      exact FT (vb false) rfl
     | false =>
      replace h := sp_f h
      refine CF ?_
      refine KG (S4 [(0,lS Au0 u0 cu0),(1,vi u1),(5,vi x2)] [] [] M) ?_
      refine S0 (blockQ_n (thenQ_n (RG ?_)))
      obtain ⟨x20,e_x20,h⟩ := lt_some h
      refine SS 3 [(0,lS Au0 u0 cu0),(1,vi u1),(5,vi x20)] ?_ (by subst e_x20;kernel_rfl)
      refine EN ?_
      exact ⟨n3,Nat.lt_succ_self _,x20,keep_sub (ts:=[0,1,5]) (hs:=[]) (vs:=[]) (by kernel_rfl),h⟩
   | false =>
    replace h := sp_f h
    refine CF ?_
    refine KS [] ?_
    refine XI 0 (thenQ_x (thenQ_x (blockQ_x (thenQ_n ?_))))
    exact ⟨keep_sub (ts:=[]) (hs:=[]) (vs:=[]) (by kernel_rfl),h⟩
 ·rintro s' ⟨hsub,h⟩
  subst e_j1
  refine thenQ_n ?_
  refine T_sub hsub ?_
  refine SQ (RG ?_)
  refine SG 1 (S4 [(4,vb true)] [] [] M) ?_
  refine EN (RT ?_)
  obtain rfl := sj h
  exact FT (vb true) rfl
def p53_l1 (k : Nat) (u0 : List Int) (j2 : Int → Option Int) : Nat → Int → Int → Option Int
 | 0,_,_ => none
 | n5 + 1,x3,x4 => lt' (decide (x4 < (u0.length : Int))) fun b6 => sp b6 (gd ((0 : Int) ≤ x4 ∧ x4 < (u0.length : Int)) <| lt' (List.getD u0 ((x4).toNat) 0) fun x8 => gd (0 ≤ x8) <| lt' (wr .u64 ((1 : Int) * 2 ^ (min (x8).toNat (IntKind.bits .u64)))) fun x10 => lt' (wr .u64 (bor .u64 x3 x10)) fun x11 => lt' (wr .i64 (x4 + (1 : Int))) fun x12 => p53_l1 k u0 j2 n5 x11 x12) (j2 x3)
def p53 (k : Nat) (u0 : List Int) : Option Int :=
 jn (fun (x1 : Int) => some x1) fun j2 => p53_l1 k u0 j2 k (0 : Int) (0 : Int)
theorem hf53 : Try.prog.funcs[53]? = some Try.f53 := by kernel_rfl
theorem w53 (k : Nat) {M : Mem} {Au0 : Option Addr} {cu0 : Nat} {u0 : List Int} (hu0 : SlI M Au0 cu0 .i64 u0) {r} (h : p53 k u0 = some r) :
  Fn Try.prog 53 [rval (lS Au0 u0 cu0)] M (fun x _ => x = .lf (.v (.int .u64 r))) := by
 unfold p53 at h
 refine FO [lS Au0 u0 cu0] hf53 ⟨trivial,trivial⟩ fun w => ?_
 refine SQ0 (RG ?_)
 refine SG 1 (S4 [(0,lS Au0 u0 cu0)] [] [] M) ?_
 refine EN (SQ (RG ?_))
 refine SS 1 [(0,lS Au0 u0 cu0),(3,.lf (.v (.int .u64 (0 : Int))))] ?_
 refine EN (SQ (SQ (RG ?_)))
 refine SS 3 [(3,.lf (.v (.int .u64 (0 : Int)))),(6,lS Au0 u0 cu0),(7,vi (u0.length : Int)),(8,vi (0 : Int))] ?_
 refine EN ?_
 obtain ⟨j2,e_j2,h⟩ := jn_some h
 refine T_bcut (id:=0) (c1:=(sub [1,1,0,1,0] Bd53)) (fun s' => ∃ (x1 : Int),Sub { σ := [(3,.lf (.v (.int .u64 x1)))],H := [],V := [],M := M,ds := [] } s' ∧ j2 x1 = some r) (by kernel_rfl) ?_ ?_
 ·refine T_loop (c1:=(sub [1,1,0,1,0,0] Bd53)) (by kernel_rfl) (fun n5 s' => ∃ (x3 : Int) (x4 : Int),Sub { σ := [(3,.lf (.v (.int .u64 x3))),(6,lS Au0 u0 cu0),(7,vi (u0.length : Int)),(8,vi x4)],H := [],V := [],M := M,ds := [] } s' ∧ p53_l1 k u0 j2 n5 x3 x4 = some r) (k:=k) ⟨(0 : Int),(0 : Int),keep_sub (ts:=[3,6,7,8]) (hs:=[]) (vs:=[]) (by kernel_rfl),h⟩ ?_
  rintro n5 s' ⟨x3,x4,hsub,h⟩
  cases n5 with
  | zero => rw [p53_l1] at h;cases h
  | succ n5 =>
   rw [p53_l1] at h
   refine T_sub hsub ?_
   refine SQ (RG ?_)
   obtain ⟨b6,e_b6,h⟩ := lt_some h
   refine SG 1 (S4 [(3,.lf (.v (.int .u64 x3))),(6,lS Au0 u0 cu0),(7,vi (u0.length : Int)),(8,vi x4),(9,vb b6)] [] [] M) ?_ (by subst e_b6;kernel_rfl)
   refine EN (SQ ?_)
   cases b6 with
   | true =>
    replace h := sp_t h
    refine CT ?_
    refine KS [(3,.lf (.v (.int .u64 x3))),(6,lS Au0 u0 cu0),(7,vi (u0.length : Int)),(8,vi x4)] ?_
    refine SN (SQ (BK 1 (SQ (RG ?_))))
    obtain ⟨g7,h⟩ := gd_some h
    refine AT 10 (.lf (.ep (.slice Au0 (u0.length) cu0) 1 ((x4).toNat) 0)) (At_idxI (z:=x4) (by kernel_rfl) g7 hu0) ?_
    obtain ⟨x8,e_x8,h⟩ := lt_some h
    refine AT 11 (vi x8) (by rw [e_x8]; exact At_ldI (q:=(x4).toNat) (by subst e_x8; kernel_rfl) (toNat_lt g7) hu0) ?_
    refine SH 3 [(3,.lf (.v (.int .u64 x3))),(5,vi x8),(6,lS Au0 u0 cu0),(7,vi (u0.length : Int)),(8,vi x4)] [] ?_
    refine EN (RG ?_)
    refine SS 2 [(6,lS Au0 u0 cu0),(7,vi (u0.length : Int)),(8,vi x4),(12,.lf (.v (.int .u64 x3))),(13,vi x8)] ?_
    obtain ⟨g9,h⟩ := gd_some h
    obtain ⟨x10,e_x10,h⟩ := lt_some h
    refine AT 14 (.lf (.v (.int .u64 x10))) (by rw [e_x10]; exact At_shl (k:=.u64) (k':=.i64) (m:=(1 : Int)) (n:=x8) (by subst e_x10; kernel_rfl) g9) ?_
    obtain ⟨x11,e_x11,h⟩ := lt_some h
    refine SH 5 [(3,.lf (.v (.int .u64 x11))),(6,lS Au0 u0 cu0),(7,vi (u0.length : Int)),(8,vi x4)] [] ?_ (by subst e_x11;kernel_rfl)
    refine E0 (blockQ_n (thenQ_n (RG ?_)))
    obtain ⟨x12,e_x12,h⟩ := lt_some h
    refine SS 2 [(3,.lf (.v (.int .u64 x11))),(6,lS Au0 u0 cu0),(7,vi (u0.length : Int)),(8,vi x12)] ?_ (by subst e_x12;kernel_rfl)
    refine EN ?_
    exact ⟨n5,Nat.lt_succ_self _,x11,x12,keep_sub (ts:=[3,6,7,8]) (hs:=[]) (vs:=[]) (by kernel_rfl),h⟩
   | false =>
    replace h := sp_f h
    refine CF ?_
    refine KS [(3,.lf (.v (.int .u64 x3)))] ?_
    refine XI 0 (thenQ_x (thenQ_x (blockQ_x (thenQ_n ?_))))
    exact ⟨x3,keep_sub (ts:=[3]) (hs:=[]) (vs:=[]) (by kernel_rfl),h⟩
 ·rintro s' ⟨x1,hsub,h⟩
  subst e_j2
  refine thenQ_n ?_
  refine T_sub hsub ?_
  refine SQ (RG ?_)
  refine SG 2 (S4 [(2,.lf (.v (.int .u64 x1)))] [] [] M) ?_
  refine EN (RT ?_)
  obtain rfl := sj h
  exact FT (.lf (.v (.int .u64 x1))) rfl
def p40_l1 (k : Nat) (u0 : List Int) (j1 : Option Int) : Nat → Int → Option Int
 | 0,_ => none
 | n3 + 1,x2 => lt' (decide (x2 < (6 : Int))) fun b4 => sp b4 (gd ((0 : Int) ≤ x2 ∧ x2 < ((6 : Nat) : Int)) <| lt' (List.getD u0 (0 + (x2).toNat * 1) 0) fun x6 => cl (p65 k x6 (0 : Int) (1073741824 : Int)) fun v7 => sp v7 (lt' (wr .i64 (x2 + (1 : Int))) fun x8 => p40_l1 k u0 j1 n3 x8) (some (2 : Int))) (j1)
def p40 (k : Nat) (u0 : List Int) : Option Int :=
 jn (some (0 : Int)) fun j1 => p40_l1 k u0 j1 k (0 : Int)
theorem hf40 : Try.prog.funcs[40]? = some Try.f40 := by kernel_rfl
theorem w40 (k : Nat) {M : Mem} {u0 : List Int} (hu0 : u0.length = 6) {r} (h : p40 k u0 = some r) :
  Fn Try.prog 40 [rval (.agg [.arr .i64 6 u0])] M (fun x _ => x = vi r) := by
 unfold p40 at h
 refine FO [.agg [.arr .i64 6 u0]] hf40 ⟨⟨hu0,trivial⟩,trivial⟩ fun w => ?_
 refine SQ0 (RG ?_)
 refine SG 2 (S4 [(1,lO 1)] [(1,[.arr .i64 6 u0])] [] M) ?_
 refine EN (SQ (SQ (RG ?_)))
 refine SS 1 [(1,lO 1),(3,vi (0 : Int))] ?_
 refine EN ?_
 obtain ⟨j1,e_j1,h⟩ := jn_some h
 refine T_bcut (id:=0) (c1:=(sub [1,0,1,0] Bd40)) (fun s' => Sub { σ := [],H := [],V := [],M := M,ds := [] } s' ∧ j1 = some r) (by kernel_rfl) ?_ ?_
 ·refine T_loop (c1:=(sub [1,0,1,0,0] Bd40)) (by kernel_rfl) (fun n3 s' => ∃ (x2 : Int),Sub { σ := [(1,lO 1),(3,vi x2)],H := [(1,[.arr .i64 6 u0])],V := [],M := M,ds := [] } s' ∧ p40_l1 k u0 j1 n3 x2 = some r) (k:=k) ⟨(0 : Int),keep_sub (ts:=[1,3]) (hs:=[1]) (vs:=[]) (by kernel_rfl),h⟩ ?_
  rintro n3 s' ⟨x2,hsub,h⟩
  cases n3 with
  | zero => rw [p40_l1] at h;cases h
  | succ n3 =>
   rw [p40_l1] at h
   refine T_sub hsub ?_
   refine SQ (SQ (RG ?_))
   obtain ⟨b4,e_b4,h⟩ := lt_some h
   refine SG 2 (S4 [(1,lO 1),(3,vi x2),(5,vb b4)] [(1,[.arr .i64 6 u0])] [] M) ?_ (by subst e_b4;kernel_rfl)
   refine EN ?_
   cases b4 with
   | true =>
    replace h := sp_t h
    refine CT ?_
    refine KS [(1,lO 1),(3,vi x2)] ?_
    refine SN (SQ (BK 1 (SQ (RG ?_))))
    refine SS 1 [(1,lO 1),(3,vi x2),(8,vi x2)] ?_
    obtain ⟨g5,h⟩ := gd_some h
    refine AT 9 (.lf (.oel 1 (0 + (x2).toNat * 1))) (At_idxO (z:=x2) (b:=1) (off:=0) (sz:=1) (n:=6) (by kernel_rfl) g5) ?_
    obtain ⟨x6,e_x6,h⟩ := lt_some h
    refine AT 10 (vi x6) (by rw [e_x6]; exact At_ldO1 (b:=1) (off:=0 + (x2).toNat * 1) (base:=0) (q:=0 + (x2).toNat * 1) (n:=6) (k:=.i64) (L:=u0) (by subst e_x6; kernel_rfl) (by subst e_x6; kernel_rfl) (by omega) (by omega)) ?_
    obtain ⟨v7,c_v7,h⟩ := cl_some h
    refine AC 11 (vb v7) (w65 k  c_v7) ?_
    refine SH 5 [(1,lO 1),(3,vi x2),(12,vb (!v7))] [(1,[.arr .i64 6 u0])] ?_
    refine EN ?_
    cases v7 with
    | true =>
     replace h := sp_t h
     refine CF ?_
     refine KS [(1,lO 1),(3,vi x2)] ?_
     refine S0 (blockQ_n (thenQ_n (RG ?_)))
     obtain ⟨x8,e_x8,h⟩ := lt_some h
     refine SS 3 [(1,lO 1),(3,vi x8)] ?_ (by subst e_x8;kernel_rfl)
     refine EN ?_
     exact ⟨n3,Nat.lt_succ_self _,x8,keep_sub (ts:=[1,3]) (hs:=[1]) (vs:=[]) (by kernel_rfl),h⟩
    | false =>
     replace h := sp_f h
     refine CT ?_
     refine KP [] [] [] ?_
     refine SQ (RG ?_)
     refine SS 1 [(2,vi (2 : Int))] ?_
     refine EN (RT (blockQ_r (thenQ_r (thenQ_r (blockQ_r (thenQ_r (thenQ_r ?_)))))))
     obtain rfl := sj h
     exact FT (vi (2 : Int)) rfl
   | false =>
    replace h := sp_f h
    refine CF ?_
    refine KP [] [] [] ?_
    refine XI 0 (thenQ_x (thenQ_x (blockQ_x (thenQ_n ?_))))
    exact ⟨keep_sub (ts:=[]) (hs:=[]) (vs:=[]) (by kernel_rfl),h⟩
 ·rintro s' ⟨hsub,h⟩
  subst e_j1
  refine thenQ_n ?_
  refine T_sub hsub ?_
  refine SQ (RG ?_)
  refine SG 1 (S4 [(2,vi (0 : Int))] [] [] M) ?_
  refine EN (RT ?_)
  obtain rfl := sj h
  exact FT (vi (0 : Int)) rfl
end Go.Proofs.Ythniebmammmacaa
namespace Go.Proofs.Ythniebmammmacaa
open Go.RowKit
def p99 (k : Nat) (u0_0 : Int) (u0_1 : List (List Int)) (u0_2 : List WT) (u1 : Int) : Option Bool :=
 jn (fun (b1 : Bool) => some b1) fun j2 => lt' (decide (u1 ≥ (0 : Int))) fun b3 => sp b3 (lt' (decide (u1 < u0_0)) fun b4 => j2 b4) (j2 false)
theorem hf99 : Try.prog.funcs[99]? = some Try.f99 := by kernel_rfl
theorem w99 (k : Nat) {M : Mem} {Au0_1 Au0_2 : Option Addr} {cu0_1 cu0_2 : Nat} {Hu0_2 : Nat → Option Addr} {Cu0_2 : Nat → Nat} {u0_0 u1 : Int} {u0_1 : List (List Int)} {u0_2 : List WT} (hu0_1 : SlR M Au0_1 cu0_1 .i64 12 u0_1) (hu0_2 : SlW M 3 Au0_2 cu0_2 Hu0_2 Cu0_2 u0_2) {r} (h : p99 k u0_0 u0_1 u0_2 u1 = some r) :
  Fn Try.prog 99 [rval (.agg [oI u0_0,oS Au0_1 u0_1 cu0_1,oS Au0_2 u0_2 cu0_2]),rval (vi u1)] M (fun x _ => x = vb r) := by
 unfold p99 at h
 refine FO [.agg [oI u0_0,oS Au0_1 u0_1 cu0_1,oS Au0_2 u0_2 cu0_2],vi u1] hf99 ⟨⟨rfl,⟨rfl,⟨rfl,trivial⟩⟩⟩,⟨trivial,trivial⟩⟩ fun w => ?_
 refine SQ0 (RG ?_)
 refine SG 2 (S4 [(1,vi u1),(2,lO 2)] [(2,[oI u0_0,oS Au0_1 u0_1 cu0_1,oS Au0_2 u0_2 cu0_2])] [] M) ?_
 refine EN ?_
 obtain ⟨j2,e_j2,h⟩ := jn_some h
 refine T_cut (c1:=(sub [1,0] Bd99)) (c2:=(sub [1,1] Bd99)) (fun s' => ∃ (b1 : Bool),Sub { σ := [(4,vb b1)],H := [],V := [],M := M,ds := [] } s' ∧ j2 b1 = some r) (by kernel_rfl) ?_ ?_
 ·refine RG ?_
  obtain ⟨b3,e_b3,h⟩ := lt_some h
  refine SG 3 (S4 [(1,vi u1),(2,lO 2),(7,vb b3)] [(2,[oI u0_0,oS Au0_1 u0_1 cu0_1,oS Au0_2 u0_2 cu0_2])] [] M) ?_ (by subst e_b3;kernel_rfl)
  cases b3 with
  | true =>
   replace h := sp_t h
   obtain ⟨b4,e_b4,h⟩ := lt_some h
   refine SH 9 [(4,vb b4)] [] ?_ (by subst e_b4;kernel_rfl)
   refine EN ?_
   exact ⟨b4,keep_sub (ts:=[4]) (hs:=[]) (vs:=[]) (by kernel_rfl),h⟩
  | false =>
   replace h := sp_f h
   refine SH 9 [(4,vb false)] [] ?_
   refine EN ?_
   exact ⟨false,keep_sub (ts:=[4]) (hs:=[]) (vs:=[]) (by kernel_rfl),h⟩
 ·rintro s' ⟨b1,hsub,h⟩
  subst e_j2
  refine T_sub hsub ?_
  refine RT ?_
  obtain rfl := sj h
  exact FT (vb b1) rfl
def p101_l1 (k : Nat) (u0_2 : List WT) (u1 : List Int) (j2 : Int → Option Int) : Nat → Int → Int → Option Int
 | 0,_,_ => none
 | n5 + 1,x3,x4 => lt' (decide (x4 < (u1.length : Int))) fun b6 => sp b6 (gd ((0 : Int) ≤ x4 ∧ x4 < (u1.length : Int)) <| lt' (List.getD u1 ((x4).toNat) 0) fun x8 => gd ((0 : Int) ≤ x8 ∧ x8 < (u0_2.length : Int)) <| lt' (List.getD (List.getD u0_2 ((x8).toNat) ([],[])).2 2 0) fun x10 => lt' (wr .i64 (x3 + x10)) fun x11 => lt' (wr .i64 (x4 + (1 : Int))) fun x12 => p101_l1 k u0_2 u1 j2 n5 x11 x12) (j2 x3)
def p101 (k : Nat) (u0_0 : Int) (u0_1 : List (List Int)) (u0_2 : List WT) (u1 : List Int) : Option Int :=
 jn (fun (x1 : Int) => some x1) fun j2 => p101_l1 k u0_2 u1 j2 k (0 : Int) (0 : Int)
theorem hf101 : Try.prog.funcs[101]? = some Try.f101 := by kernel_rfl
theorem w101 (k : Nat) {M : Mem} {Au0_1 Au0_2 Au1 : Option Addr} {cu0_1 cu0_2 cu1 : Nat} {Hu0_2 : Nat → Option Addr} {Cu0_2 : Nat → Nat} {u0_0 : Int} {u0_1 : List (List Int)} {u0_2 : List WT} {u1 : List Int} (hu0_1 : SlR M Au0_1 cu0_1 .i64 12 u0_1) (hu0_2 : SlW M 3 Au0_2 cu0_2 Hu0_2 Cu0_2 u0_2) (hu1 : SlI M Au1 cu1 .i64 u1) {r} (h : p101 k u0_0 u0_1 u0_2 u1 = some r) :
  Fn Try.prog 101 [rval (.agg [oI u0_0,oS Au0_1 u0_1 cu0_1,oS Au0_2 u0_2 cu0_2]),rval (lS Au1 u1 cu1)] M (fun x _ => x = vi r) := by
 unfold p101 at h
 refine FO [.agg [oI u0_0,oS Au0_1 u0_1 cu0_1,oS Au0_2 u0_2 cu0_2],lS Au1 u1 cu1] hf101 ⟨⟨rfl,⟨rfl,⟨rfl,trivial⟩⟩⟩,⟨trivial,trivial⟩⟩ fun w => ?_
 refine SQ0 (RG ?_)
 refine SG 2 (S4 [(1,lS Au1 u1 cu1),(2,lO 2)] [(2,[oI u0_0,oS Au0_1 u0_1 cu0_1,oS Au0_2 u0_2 cu0_2])] [] M) ?_
 refine EN (SQ (RG ?_))
 refine SS 1 [(1,lS Au1 u1 cu1),(2,lO 2),(5,vi (0 : Int))] ?_
 refine EN (SQ (SQ (RG ?_)))
 refine SS 1 [(1,lS Au1 u1 cu1),(2,lO 2),(5,vi (0 : Int)),(6,vi (0 : Int))] ?_
 refine EN ?_
 obtain ⟨j2,e_j2,h⟩ := jn_some h
 refine T_bcut (id:=0) (c1:=(sub [1,1,0,1,0] Bd101)) (fun s' => ∃ (x1 : Int),Sub { σ := [(5,vi x1)],H := [],V := [],M := M,ds := [] } s' ∧ j2 x1 = some r) (by kernel_rfl) ?_ ?_
 ·refine T_loop (c1:=(sub [1,1,0,1,0,0] Bd101)) (by kernel_rfl) (fun n5 s' => ∃ (x3 : Int) (x4 : Int),Sub { σ := [(1,lS Au1 u1 cu1),(2,lO 2),(5,vi x3),(6,vi x4)],H := [(2,[oI u0_0,oS Au0_1 u0_1 cu0_1,oS Au0_2 u0_2 cu0_2])],V := [],M := M,ds := [] } s' ∧ p101_l1 k u0_2 u1 j2 n5 x3 x4 = some r) (k:=k) ⟨(0 : Int),(0 : Int),keep_sub (ts:=[1,2,5,6]) (hs:=[2]) (vs:=[]) (by kernel_rfl),h⟩ ?_
  rintro n5 s' ⟨x3,x4,hsub,h⟩
  cases n5 with
  | zero => rw [p101_l1] at h;cases h
  | succ n5 =>
   rw [p101_l1] at h
   refine T_sub hsub ?_
   refine SQ (SQ (RG ?_))
   obtain ⟨b6,e_b6,h⟩ := lt_some h
   refine SG 4 (S4 [(1,lS Au1 u1 cu1),(2,lO 2),(5,vi x3),(6,vi x4),(10,vb b6)] [(2,[oI u0_0,oS Au0_1 u0_1 cu0_1,oS Au0_2 u0_2 cu0_2])] [] M) ?_ (by subst e_b6;kernel_rfl)
   refine EN ?_
   cases b6 with
   | true =>
    replace h := sp_t h
    refine CT ?_
    refine KS [(1,lS Au1 u1 cu1),(2,lO 2),(5,vi x3),(6,vi x4)] ?_
    refine SN (SQ (BK 1 ?_))
    obtain ⟨g7,h⟩ := gd_some h
    obtain ⟨x8,e_x8,h⟩ := lt_some h
    obtain ⟨g9,h⟩ := gd_some h
    obtain ⟨x10,e_x10,h⟩ := lt_some h
    obtain ⟨x11,e_x11,h⟩ := lt_some h
    refine T_draw' (id:=5) [11] [0,0,0,0,0,0,0,0,0,0,0,0] (by kernel_rfl) (by kernel_rfl) (by kernel_rfl) (by kernel_rfl) [(13,vi x3),(14,.lf (.own 2 2)),(15,lS Au0_2 u0_2 cu0_2),(16,lS Au1 u1 cu1),(17,vi x4),(18,.lf (.ep (.slice Au1 (u1.length) cu1) 1 ((x4).toNat) 0)),(19,vi x8),(20,.lf (.ep (.slice Au0_2 (u0_2.length) cu0_2) 4 ((x8).toNat) 0)),(21,.lf (.ep (.slice Au0_2 (u0_2.length) cu0_2) 4 ((x8).toNat) 3)),(22,vi x10),(23,vi x11)] (by kernel_rfl) (wfs_lf _ (by kernel_rfl)) ?_
    refine Stage_ex (stage_all' [0,1,2,3,4,8,10] [5,6,7,9] (by kernel_rfl) (by subst_vars; kernel_rfl) (by kernel_rfl) ⟨QF_at (i:=5) (d:=18) (x:=.lf (.ep (.slice Au1 (u1.length) cu1) 1 ((x4).toNat) 0)) (show OpAt _ _ _ 5 18 _ from by exact At_idxI (d:=18) (z:=x4) (by subst_vars; kernel_rfl) g7 hu1) (by kernel_rfl) (by subst_vars; kernel_rfl),⟨QF_at (i:=6) (d:=19) (x:=vi x8) (show OpAt _ _ _ 6 19 _ from by rw [e_x8]; exact At_ldI (d:=19) (q:=(x4).toNat) (by subst_vars; kernel_rfl) (toNat_lt g7) hu1) (by kernel_rfl) (by subst_vars; kernel_rfl),⟨QF_at (i:=7) (d:=20) (x:=.lf (.ep (.slice Au0_2 (u0_2.length) cu0_2) 4 ((x8).toNat) 0)) (show OpAt _ _ _ 7 20 _ from by exact At_idxSW (m:=3) (d:=20) (z:=x8) (by subst_vars; kernel_rfl) g9 hu0_2) (by kernel_rfl) (by subst_vars; kernel_rfl),⟨QF_at (i:=9) (d:=22) (x:=vi x10) (show OpAt _ _ _ 9 22 _ from by rw [e_x10]; exact At_ldSWi (m:=3) (d:=22) (q:=(x8).toNat) (j:=2) (by subst_vars; kernel_rfl) (by kernel_rfl) (toNat_lt g9) hu0_2) (by kernel_rfl) (by subst_vars; kernel_rfl),trivial⟩⟩⟩⟩) ({ σ := [(5,vi x11),(13,vi x3),(14,.lf (.own 2 2)),(15,lS Au0_2 u0_2 cu0_2),(16,lS Au1 u1 cu1),(17,vi x4),(18,.lf (.ep (.slice Au1 (u1.length) cu1) 1 ((x4).toNat) 0)),(19,vi x8),(20,.lf (.ep (.slice Au0_2 (u0_2.length) cu0_2) 4 ((x8).toNat) 0)),(21,.lf (.ep (.slice Au0_2 (u0_2.length) cu0_2) 4 ((x8).toNat) 3)),(22,vi x10),(23,vi x11),(1,lS Au1 u1 cu1),(2,lO 2),(5,vi x3),(6,vi x4)],H := [(2,[oI u0_0,oS Au0_1 u0_1 cu0_1,oS Au0_2 u0_2 cu0_2])],V := [],M := M,ds := [] }) (by subst_vars; kernel_rfl) [] (by kernel_rfl) trivial ?_
    refine Stage_nil (stage_all' [] [] (by kernel_rfl) (by subst_vars;kernel_rfl) (by kernel_rfl) trivial) ?_
    refine blockQ_n (thenQ_n ?_)
    refine KG (S4 [(1,lS Au1 u1 cu1),(2,lO 2),(5,vi x11),(6,vi x4)] [(2,[oI u0_0,oS Au0_1 u0_1 cu0_1,oS Au0_2 u0_2 cu0_2])] [] M) ?_ (by subst_vars;kernel_rfl)
    refine RG ?_
    obtain ⟨x12,e_x12,h⟩ := lt_some h
    refine SS 3 [(1,lS Au1 u1 cu1),(2,lO 2),(5,vi x11),(6,vi x12)] ?_ (by subst e_x12;kernel_rfl)
    refine EN ?_
    exact ⟨n5,Nat.lt_succ_self _,x11,x12,keep_sub (ts:=[1,2,5,6]) (hs:=[2]) (vs:=[]) (by kernel_rfl),h⟩
   | false =>
    replace h := sp_f h
    refine CF ?_
    refine KP [(5,vi x3)] [] [] ?_
    refine XI 0 (thenQ_x (thenQ_x (blockQ_x (thenQ_n ?_))))
    exact ⟨x3,keep_sub (ts:=[5]) (hs:=[]) (vs:=[]) (by kernel_rfl),h⟩
 ·rintro s' ⟨x1,hsub,h⟩
  subst e_j2
  refine thenQ_n ?_
  refine T_sub hsub ?_
  refine SQ (RG ?_)
  refine SG 2 (S4 [(4,vi x1)] [] [] M) ?_
  refine EN (RT ?_)
  obtain rfl := sj h
  exact FT (vi x1) rfl
def p90_l1 (k : Nat) (u0_1 : List (List Int)) (u1 : List Int) (j2 : Option Int) : Nat → Int → Option Int
 | 0,_ => none
 | n4 + 1,x3 => lt' (decide (x3 < (u1.length : Int))) fun b5 => sp b5 (jn (fun (b6 : Bool) => sp b6 (some (3 : Int)) (lt' (wr .i64 (x3 + (1 : Int))) fun x14 => p90_l1 k u0_1 u1 j2 n4 x14)) fun j7 => gd ((0 : Int) ≤ x3 ∧ x3 < (u1.length : Int)) <| lt' (List.getD u1 ((x3).toNat) 0) fun x9 => lt' (decide (x9 < (0 : Int))) fun b10 => sp b10 (j7 true) (gd ((0 : Int) ≤ x3 ∧ x3 < (u1.length : Int)) <| lt' (List.getD u1 ((x3).toNat) 0) fun x12 => lt' (decide (x12 ≥ (u0_1.length : Int))) fun b13 => j7 b13)) (j2)
def p90 (k : Nat) (u0_0 : Int) (u0_1 : List (List Int)) (u0_2 : List WT) (u1 : List Int) : Option Int :=
 lt' (decide ((u1.length : Int) > (256 : Int))) fun b1 => sp b1 (some (6 : Int)) (jn (some (0 : Int)) fun j2 => p90_l1 k u0_1 u1 j2 k (0 : Int))
theorem hf90 : Try.prog.funcs[90]? = some Try.f90 := by kernel_rfl
theorem w90 (k : Nat) {M : Mem} {Au0_1 Au0_2 Au1 : Option Addr} {cu0_1 cu0_2 cu1 : Nat} {Hu0_2 : Nat → Option Addr} {Cu0_2 : Nat → Nat} {u0_0 : Int} {u0_1 : List (List Int)} {u0_2 : List WT} {u1 : List Int} (hu0_1 : SlR M Au0_1 cu0_1 .i64 12 u0_1) (hu0_2 : SlW M 3 Au0_2 cu0_2 Hu0_2 Cu0_2 u0_2) (hu1 : SlI M Au1 cu1 .i64 u1) {r} (h : p90 k u0_0 u0_1 u0_2 u1 = some r) :
  Fn Try.prog 90 [rval (.agg [oI u0_0,oS Au0_1 u0_1 cu0_1,oS Au0_2 u0_2 cu0_2]),rval (lS Au1 u1 cu1)] M (fun x _ => x = vi r) := by
 unfold p90 at h
 refine FO [.agg [oI u0_0,oS Au0_1 u0_1 cu0_1,oS Au0_2 u0_2 cu0_2],lS Au1 u1 cu1] hf90 ⟨⟨rfl,⟨rfl,⟨rfl,trivial⟩⟩⟩,⟨trivial,trivial⟩⟩ fun w => ?_
 refine SQ0 (RG ?_)
 refine SG 2 (S4 [(1,lS Au1 u1 cu1),(2,lO 2)] [(2,[oI u0_0,oS Au0_1 u0_1 cu0_1,oS Au0_2 u0_2 cu0_2])] [] M) ?_
 refine EN (SQ (SQ (RG ?_)))
 obtain ⟨b1,e_b1,h⟩ := lt_some h
 refine SS 3 [(1,lS Au1 u1 cu1),(2,lO 2),(8,vb b1)] ?_ (by subst e_b1;kernel_rfl)
 refine EN ?_
 cases b1 with
 | true =>
  replace h := sp_t h
  refine CT ?_
  refine KP [] [] [] ?_
  refine SQ (RG ?_)
  refine SS 1 [(4,vi (6 : Int))] ?_
  refine EN (RT (thenQ_r ?_))
  obtain rfl := sj h
  exact FT (vi (6 : Int)) rfl
 | false =>
  replace h := sp_f h
  refine CF ?_
  refine KS [(1,lS Au1 u1 cu1),(2,lO 2)] ?_
  refine SN (SQ (SQ (RG ?_)))
  refine SS 1 [(1,lS Au1 u1 cu1),(2,lO 2),(5,vi (0 : Int))] ?_
  refine EN ?_
  obtain ⟨j2,e_j2,h⟩ := jn_some h
  refine T_bcut (id:=0) (c1:=(sub [1,1,0,1,0] Bd90)) (fun s' => Sub { σ := [],H := [],V := [],M := M,ds := [] } s' ∧ j2 = some r) (by kernel_rfl) ?_ ?_
  ·refine T_loop (c1:=(sub [1,1,0,1,0,0] Bd90)) (by kernel_rfl) (fun n4 s' => ∃ (x3 : Int),Sub { σ := [(1,lS Au1 u1 cu1),(2,lO 2),(5,vi x3)],H := [(2,[oI u0_0,oS Au0_1 u0_1 cu0_1,oS Au0_2 u0_2 cu0_2])],V := [],M := M,ds := [] } s' ∧ p90_l1 k u0_1 u1 j2 n4 x3 = some r) (k:=k) ⟨(0 : Int),keep_sub (ts:=[1,2,5]) (hs:=[2]) (vs:=[]) (by kernel_rfl),h⟩ ?_
   rintro n4 s' ⟨x3,hsub,h⟩
   cases n4 with
   | zero => rw [p90_l1] at h;cases h
   | succ n4 =>
    rw [p90_l1] at h
    refine T_sub hsub ?_
    refine SQ (SQ (RG ?_))
    obtain ⟨b5,e_b5,h⟩ := lt_some h
    refine SG 4 (S4 [(1,lS Au1 u1 cu1),(2,lO 2),(5,vi x3),(12,vb b5)] [(2,[oI u0_0,oS Au0_1 u0_1 cu0_1,oS Au0_2 u0_2 cu0_2])] [] M) ?_ (by subst e_b5;kernel_rfl)
    refine EN ?_
    cases b5 with
    | true =>
     replace h := sp_t h
     refine CT ?_
     refine KS [(1,lS Au1 u1 cu1),(2,lO 2),(5,vi x3)] ?_
     refine SN (SQ (BK 1 ?_))
     obtain ⟨j7,e_j7,h⟩ := jn_some h
     refine T_cut (c1:=(sub [1,1,0,1,0,0,1,0,0,0] Bd90)) (c2:=(sub [1,1,0,1,0,0,1,0,0,1] Bd90)) (fun s' => ∃ (b6 : Bool),Sub { σ := [(1,lS Au1 u1 cu1),(2,lO 2),(5,vi x3),(29,vb b6)],H := [(2,[oI u0_0,oS Au0_1 u0_1 cu0_1,oS Au0_2 u0_2 cu0_2])],V := [],M := M,ds := [] } s' ∧ j7 b6 = some r) (by kernel_rfl) ?_ ?_
     ·obtain ⟨g8,h⟩ := gd_some h
      obtain ⟨x9,e_x9,h⟩ := lt_some h
      obtain ⟨b10,e_b10,h⟩ := lt_some h
      cases b10 with
      | true =>
       replace h := sp_t h
       refine T_draw' (id:=6) [] [0,0,0,0,0,0,0,0,0,0,0,0,0,0,0] (by kernel_rfl) (by kernel_rfl) (by kernel_rfl) (by kernel_rfl) [(15,lS Au1 u1 cu1),(16,vi x3),(17,.lf (.ep (.slice Au1 (u1.length) cu1) 1 ((x3).toNat) 0)),(18,vi x9),(19,vb true),(20,vb true),(21,.tup []),(22,.tup []),(23,.tup []),(24,.tup []),(25,.tup []),(26,.tup []),(27,.tup []),(28,.tup []),(29,vb true)] (by kernel_rfl) ⟨trivial,⟨trivial,⟨trivial,⟨trivial,⟨trivial,⟨trivial,⟨(by intro y hy;cases hy),⟨(by intro y hy;cases hy),⟨(by intro y hy;cases hy),⟨(by intro y hy;cases hy),⟨(by intro y hy;cases hy),⟨(by intro y hy;cases hy),⟨(by intro y hy;cases hy),⟨(by intro y hy;cases hy),⟨trivial,trivial⟩⟩⟩⟩⟩⟩⟩⟩⟩⟩⟩⟩⟩⟩⟩ ?_
       refine Stage_nil (stage_all' [0,1,5,6,7,8,9,10,11,12,13,14] [2,3,4] (by kernel_rfl) (by subst e_x9; kernel_rfl) (by kernel_rfl) ⟨QF_at (i:=2) (d:=17) (x:=.lf (.ep (.slice Au1 (u1.length) cu1) 1 ((x3).toNat) 0)) (show OpAt _ _ _ 2 17 _ from by exact At_idxI (d:=17) (z:=x3) (by subst e_x9; kernel_rfl) g8 hu1) (by kernel_rfl) (by subst e_x9; kernel_rfl),⟨QF_at (i:=3) (d:=18) (x:=vi x9) (show OpAt _ _ _ 3 18 _ from by rw [e_x9]; exact At_ldI (d:=18) (q:=(x3).toNat) (by subst e_x9; kernel_rfl) (toNat_lt g8) hu1) (by kernel_rfl) (by subst e_x9; kernel_rfl),⟨QF_at (i:=4) (d:=19) (x:=vb true) (show OpAt _ _ _ 4 19 _ from by exact At_bin (d:=19) (b:=.lss) (u:=.int .i64 x9) (v:=.int .i64 (0 : Int)) (w':=.bool true) (by subst e_x9; kernel_rfl) (by rw [show exBin .lss (.int .i64 x9) (.int .i64 (0 : Int)) = some (.bool (decide (x9 < (0 : Int)))) from by kernel_rfl,← e_b10])) (by kernel_rfl) (by subst e_x9; kernel_rfl),trivial⟩⟩⟩) ?_
       refine thenQ_n ?_
       exact ⟨true,keep_sub (ts:=[1,2,5,29]) (hs:=[2]) (vs:=[]) (by subst e_x9;kernel_rfl),h⟩
      | false =>
       replace h := sp_f h
       obtain ⟨g11,h⟩ := gd_some h
       obtain ⟨x12,e_x12,h⟩ := lt_some h
       obtain ⟨b13,e_b13,h⟩ := lt_some h
       refine T_draw' (id:=6) [] [0,0,0,0,0,0,0,0,0,0,0,0,0,0,0] (by kernel_rfl) (by kernel_rfl) (by kernel_rfl) (by kernel_rfl) [(15,lS Au1 u1 cu1),(16,vi x3),(17,.lf (.ep (.slice Au1 (u1.length) cu1) 1 ((x3).toNat) 0)),(18,vi x9),(19,vb false),(20,vb false),(21,lS Au1 u1 cu1),(22,vi x3),(23,.lf (.ep (.slice Au1 (u1.length) cu1) 1 ((x3).toNat) 0)),(24,vi x12),(25,.lf (.own 2 1)),(26,lS Au0_1 u0_1 cu0_1),(27,vi (u0_1.length : Int)),(28,vb b13),(29,vb b13)] (by kernel_rfl) (wfs_lf _ (by kernel_rfl)) ?_
       refine Stage_nil (stage_all' [0,1,5,6,7,10,11,12,13,14] [2,3,4,8,9] (by kernel_rfl) (by subst_vars; kernel_rfl) (by kernel_rfl) ⟨QF_at (i:=2) (d:=17) (x:=.lf (.ep (.slice Au1 (u1.length) cu1) 1 ((x3).toNat) 0)) (show OpAt _ _ _ 2 17 _ from by exact At_idxI (d:=17) (z:=x3) (by subst_vars; kernel_rfl) g8 hu1) (by kernel_rfl) (by subst_vars; kernel_rfl),⟨QF_at (i:=3) (d:=18) (x:=vi x9) (show OpAt _ _ _ 3 18 _ from by rw [e_x9]; exact At_ldI (d:=18) (q:=(x3).toNat) (by subst_vars; kernel_rfl) (toNat_lt g8) hu1) (by kernel_rfl) (by subst_vars; kernel_rfl),⟨QF_at (i:=4) (d:=19) (x:=vb false) (show OpAt _ _ _ 4 19 _ from by exact At_bin (d:=19) (b:=.lss) (u:=.int .i64 x9) (v:=.int .i64 (0 : Int)) (w':=.bool false) (by subst_vars; kernel_rfl) (by rw [show exBin .lss (.int .i64 x9) (.int .i64 (0 : Int)) = some (.bool (decide (x9 < (0 : Int)))) from by kernel_rfl,← e_b10])) (by kernel_rfl) (by subst_vars; kernel_rfl),⟨QF_at (i:=8) (d:=23) (x:=.lf (.ep (.slice Au1 (u1.length) cu1) 1 ((x3).toNat) 0)) (show OpAt _ _ _ 8 23 _ from by exact At_idxI (d:=23) (z:=x3) (by subst_vars; kernel_rfl) g11 hu1) (by kernel_rfl) (by subst_vars; kernel_rfl),⟨QF_at (i:=9) (d:=24) (x:=vi x12) (show OpAt _ _ _ 9 24 _ from by rw [e_x12]; exact At_ldI (d:=24) (q:=(x3).toNat) (by subst_vars; kernel_rfl) (toNat_lt g11) hu1) (by kernel_rfl) (by subst_vars; kernel_rfl),trivial⟩⟩⟩⟩⟩) ?_
       refine thenQ_n ?_
       exact ⟨b13,keep_sub (ts:=[1,2,5,29]) (hs:=[2]) (vs:=[]) (by subst_vars;kernel_rfl),h⟩
     ·rintro s' ⟨b6,hsub,h⟩
      subst e_j7
      refine T_sub hsub ?_
      cases b6 with
      | true =>
       replace h := sp_t h
       refine CT ?_
       refine KG (S4 [] [] [] M) ?_
       refine SQ (RG ?_)
       refine SS 1 [(4,vi (3 : Int))] ?_
       refine EN (RT (blockQ_r (thenQ_r (thenQ_r (blockQ_r (thenQ_r (thenQ_r ?_)))))))
       obtain rfl := sj h
       exact FT (vi (3 : Int)) rfl
      | false =>
       replace h := sp_f h
       refine CF ?_
       refine KG (S4 [(1,lS Au1 u1 cu1),(2,lO 2),(5,vi x3)] [(2,[oI u0_0,oS Au0_1 u0_1 cu0_1,oS Au0_2 u0_2 cu0_2])] [] M) ?_
       refine S0 (blockQ_n (thenQ_n (RG ?_)))
       obtain ⟨x14,e_x14,h⟩ := lt_some h
       refine SS 3 [(1,lS Au1 u1 cu1),(2,lO 2),(5,vi x14)] ?_ (by subst e_x14;kernel_rfl)
       refine EN ?_
       exact ⟨n4,Nat.lt_succ_self _,x14,keep_sub (ts:=[1,2,5]) (hs:=[2]) (vs:=[]) (by kernel_rfl),h⟩
    | false =>
     replace h := sp_f h
     refine CF ?_
     refine KP [] [] [] ?_
     refine XI 0 (thenQ_x (thenQ_x (blockQ_x (thenQ_n ?_))))
     exact ⟨keep_sub (ts:=[]) (hs:=[]) (vs:=[]) (by kernel_rfl),h⟩
  ·rintro s' ⟨hsub,h⟩
   subst e_j2
   refine thenQ_n ?_
   refine T_sub hsub ?_
   refine SQ (RG ?_)
   refine SG 1 (S4 [(4,vi (0 : Int))] [] [] M) ?_
   refine EN (RT ?_)
   obtain rfl := sj h
   exact FT (vi (0 : Int)) rfl
def p126_l1 (k : Nat) (u0_2 : List WT) (u1 : List Int) (u2 : Int) (u3 : Int) (j5 : Int → Option Int) : Nat → Int → Int → Option Int
 | 0,_,_ => none
 | n8 + 1,x6,x7 => lt' (decide (x7 < (u1.length : Int))) fun b9 => sp b9 (jn (fun (x10 : Int) => lt' (wr .i64 (x7 + (1 : Int))) fun x24 => p126_l1 k u0_2 u1 u2 u3 j5 n8 x10 x24) fun j11 => gd ((0 : Int) ≤ x7 ∧ x7 < (u1.length : Int)) <| lt' (List.getD u1 ((x7).toNat) 0) fun x13 => gd ((0 : Int) ≤ x13 ∧ x13 < (u0_2.length : Int)) <| lt' ((List.getD u0_2 ((x13).toNat) ([],[])).1) fun L15 => lt' (List.getD (List.getD u0_2 ((x13).toNat) ([],[])).2 0 0) fun x16 => lt' (List.getD (List.getD u0_2 ((x13).toNat) ([],[])).2 1 0) fun x17 => lt' (List.getD (List.getD u0_2 ((x13).toNat) ([],[])).2 2 0) fun x18 => jn (fun (b19 : Bool) => sp b19 (lt' (mx x6 x17) fun x23 => j11 x23) (j11 x6)) fun j20 => lt' (x16 == u3) fun b21 => sp b21 (cl (p59 k L15 u2) fun v22 => j20 v22) (j20 false)) (j5 x6)
def p126 (k : Nat) (u0_0 : Int) (u0_1 : List (List Int)) (u0_2 : List WT) (u1 : List Int) (u2 : Int) (u3 : Int) : Option Int :=
 gd ((0 : Int) ≤ u2 ∧ u2 < (u0_1.length : Int)) <| gd ((0 : Int) ≤ u3 ∧ u3 < ((6 : Nat) : Int)) <| lt' (List.getD (List.getD u0_1 ((u2).toNat) []) (6 + (u3).toNat * 1) 0) fun x3 => jn (fun (x4 : Int) => some x4) fun j5 => p126_l1 k u0_2 u1 u2 u3 j5 k x3 (0 : Int)
theorem hf126 : Try.prog.funcs[126]? = some Try.f126 := by kernel_rfl
theorem w126 (k : Nat) {M : Mem} {Au0_1 Au0_2 Au1 : Option Addr} {cu0_1 cu0_2 cu1 : Nat} {Hu0_2 : Nat → Option Addr} {Cu0_2 : Nat → Nat} {u0_0 u2 u3 : Int} {u0_1 : List (List Int)} {u0_2 : List WT} {u1 : List Int} (hu0_1 : SlR M Au0_1 cu0_1 .i64 12 u0_1) (hu0_2 : SlW M 3 Au0_2 cu0_2 Hu0_2 Cu0_2 u0_2) (hu1 : SlI M Au1 cu1 .i64 u1) {r} (h : p126 k u0_0 u0_1 u0_2 u1 u2 u3 = some r) :
  Fn Try.prog 126 [rval (.agg [oI u0_0,oS Au0_1 u0_1 cu0_1,oS Au0_2 u0_2 cu0_2]),rval (lS Au1 u1 cu1),rval (vi u2),rval (vi u3)] M (fun x _ => x = vi r) := by
 unfold p126 at h
 refine FO [.agg [oI u0_0,oS Au0_1 u0_1 cu0_1,oS Au0_2 u0_2 cu0_2],lS Au1 u1 cu1,vi u2,vi u3] hf126 ⟨⟨rfl,⟨rfl,⟨rfl,trivial⟩⟩⟩,⟨trivial,⟨trivial,⟨trivial,trivial⟩⟩⟩⟩ fun w => ?_
 refine SQ0 (RG ?_)
 refine SG 2 (S4 [(1,lS Au1 u1 cu1),(2,vi u2),(3,vi u3),(4,lO 4)] [(4,[oI u0_0,oS Au0_1 u0_1 cu0_1,oS Au0_2 u0_2 cu0_2])] [] M) ?_
 refine EN (SQ (RG ?_))
 refine SS 4 [(1,lS Au1 u1 cu1),(2,vi u2),(3,vi u3),(4,lO 4),(13,lS Au0_1 u0_1 cu0_1),(14,vi u2),(15,vi u3)] ?_
 obtain ⟨g1,h⟩ := gd_some h
 refine AT 16 (.lf (.ep (.slice Au0_1 (u0_1.length) cu0_1) 12 ((u2).toNat) 0)) (At_idxR (z:=u2) (by kernel_rfl) g1 hu0_1) ?_
 refine SH 6 [(1,lS Au1 u1 cu1),(2,vi u2),(3,vi u3),(4,lO 4),(15,vi u3),(17,.lf (.ep (.slice Au0_1 (u0_1.length) cu0_1) 12 ((u2).toNat) 6))] [(4,[oI u0_0,oS Au0_1 u0_1 cu0_1,oS Au0_2 u0_2 cu0_2])] ?_
 obtain ⟨g2,h⟩ := gd_some h
 refine AT 18 (.lf (.ep (.slice Au0_1 (u0_1.length) cu0_1) 12 ((u2).toNat) (6 + (u3).toNat * 1))) (At_idxE (z:=u3) (A:=(.slice Au0_1 (u0_1.length) cu0_1)) (sz:=12) (q:=(u2).toNat) (j:=6) (es:=1) (n:=6) (by kernel_rfl) g2) ?_
 obtain ⟨x3,e_x3,h⟩ := lt_some h
 refine AT 19 (vi x3) (by rw [e_x3]; exact At_ldR1' (q:=(u2).toNat) (j:=6 + (u3).toNat * 1) (by subst e_x3; kernel_rfl) (by omega) (toNat_lt g1) hu0_1) ?_
 refine SH 9 [(1,lS Au1 u1 cu1),(2,vi u2),(3,vi u3),(4,lO 4),(9,vi x3)] [(4,[oI u0_0,oS Au0_1 u0_1 cu0_1,oS Au0_2 u0_2 cu0_2])] ?_
 refine EN (SQ (SQ (RG ?_)))
 refine SS 1 [(1,lS Au1 u1 cu1),(2,vi u2),(3,vi u3),(4,lO 4),(9,vi x3),(10,vi (0 : Int))] ?_
 refine EN ?_
 obtain ⟨j5,e_j5,h⟩ := jn_some h
 refine T_bcut (id:=0) (c1:=(sub [1,1,0,1,0] Bd126)) (fun s' => ∃ (x4 : Int),Sub { σ := [(9,vi x4)],H := [],V := [],M := M,ds := [] } s' ∧ j5 x4 = some r) (by kernel_rfl) ?_ ?_
 ·refine T_loop (c1:=(sub [1,1,0,1,0,0] Bd126)) (by kernel_rfl) (fun n8 s' => ∃ (x6 : Int) (x7 : Int),Sub { σ := [(1,lS Au1 u1 cu1),(2,vi u2),(3,vi u3),(4,lO 4),(9,vi x6),(10,vi x7)],H := [(4,[oI u0_0,oS Au0_1 u0_1 cu0_1,oS Au0_2 u0_2 cu0_2])],V := [],M := M,ds := [] } s' ∧ p126_l1 k u0_2 u1 u2 u3 j5 n8 x6 x7 = some r) (k:=k) ⟨x3,(0 : Int),keep_sub (ts:=[1,2,3,4,9,10]) (hs:=[4]) (vs:=[]) (by kernel_rfl),h⟩ ?_
  rintro n8 s' ⟨x6,x7,hsub,h⟩
  cases n8 with
  | zero => rw [p126_l1] at h;cases h
  | succ n8 =>
   rw [p126_l1] at h
   refine T_sub hsub ?_
   refine SQ (SQ (RG ?_))
   obtain ⟨b9,e_b9,h⟩ := lt_some h
   refine SG 4 (S4 [(1,lS Au1 u1 cu1),(2,vi u2),(3,vi u3),(4,lO 4),(9,vi x6),(10,vi x7),(23,vb b9)] [(4,[oI u0_0,oS Au0_1 u0_1 cu0_1,oS Au0_2 u0_2 cu0_2])] [] M) ?_ (by subst e_b9;kernel_rfl)
   refine EN ?_
   cases b9 with
   | true =>
    replace h := sp_t h
    refine CT ?_
    refine KS [(1,lS Au1 u1 cu1),(2,vi u2),(3,vi u3),(4,lO 4),(9,vi x6),(10,vi x7)] ?_
    refine SN ?_
    obtain ⟨j11,e_j11,h⟩ := jn_some h
    refine T_cut (c1:=(sub [1,1,0,1,0,0,1,0] Bd126)) (c2:=(sub [1,1,0,1,0,0,1,1] Bd126)) (fun s' => ∃ (x10 : Int),Sub { σ := [(1,lS Au1 u1 cu1),(2,vi u2),(3,vi u3),(4,lO 4),(9,vi x10),(10,vi x7)],H := [(4,[oI u0_0,oS Au0_1 u0_1 cu0_1,oS Au0_2 u0_2 cu0_2])],V := [],M := M,ds := [] } s' ∧ j11 x10 = some r) (by kernel_rfl) ?_ ?_
    ·refine BK 1 ?_
     refine SQ ?_
     obtain ⟨g12,h⟩ := gd_some h
     obtain ⟨x13,e_x13,h⟩ := lt_some h
     obtain ⟨g14,h⟩ := gd_some h
     obtain ⟨L15,e_L15,h⟩ := lt_some h
     have f_L15 : SlI M (Hu0_2 ((x13).toNat)) (Cu0_2 ((x13).toNat)) .i64 L15 := by rw [e_L15]; exact (hu0_2).rows _ (toNat_lt g14)
     obtain ⟨x16,e_x16,h⟩ := lt_some h
     obtain ⟨x17,e_x17,h⟩ := lt_some h
     obtain ⟨x18,e_x18,h⟩ := lt_some h
     refine T_draw' (id:=5) [8,9] [0,0,0,0,0,0,0,0,0,0] (by kernel_rfl) (by kernel_rfl) (by kernel_rfl) (by kernel_rfl) [(26,.lf (.own 4 2)),(27,lS Au0_2 u0_2 cu0_2),(28,lS Au1 u1 cu1),(29,vi x7),(30,.lf (.ep (.slice Au1 (u1.length) cu1) 1 ((x7).toNat) 0)),(31,vi x13),(32,.lf (.ep (.slice Au0_2 (u0_2.length) cu0_2) 4 ((x13).toNat) 0)),(33,.agg [oS (Hu0_2 ((x13).toNat)) L15 (Cu0_2 ((x13).toNat)),oI x16,oI x17,oI x18])] (by kernel_rfl) ⟨trivial,⟨trivial,⟨trivial,⟨trivial,⟨trivial,⟨trivial,⟨trivial,⟨⟨rfl,⟨rfl,⟨rfl,⟨rfl,trivial⟩⟩⟩⟩,trivial⟩⟩⟩⟩⟩⟩⟩⟩ ?_
     refine Stage_ex (stage_all' [0,1,2,3] [4,5,6,7] (by kernel_rfl) (by subst_vars; kernel_rfl) (by kernel_rfl) ⟨QF_at (i:=4) (d:=30) (x:=.lf (.ep (.slice Au1 (u1.length) cu1) 1 ((x7).toNat) 0)) (show OpAt _ _ _ 4 30 _ from by exact At_idxI (d:=30) (z:=x7) (by subst_vars; kernel_rfl) g12 hu1) (by kernel_rfl) (by subst_vars; kernel_rfl),⟨QF_at (i:=5) (d:=31) (x:=vi x13) (show OpAt _ _ _ 5 31 _ from by rw [e_x13]; exact At_ldI (d:=31) (q:=(x7).toNat) (by subst_vars; kernel_rfl) (toNat_lt g12) hu1) (by kernel_rfl) (by subst_vars; kernel_rfl),⟨QF_at (i:=6) (d:=32) (x:=.lf (.ep (.slice Au0_2 (u0_2.length) cu0_2) 4 ((x13).toNat) 0)) (show OpAt _ _ _ 6 32 _ from by exact At_idxSW (m:=3) (d:=32) (z:=x13) (by subst_vars; kernel_rfl) g14 hu0_2) (by kernel_rfl) (by subst_vars; kernel_rfl),⟨QF_at (i:=7) (d:=33) (x:=.agg [oS (Hu0_2 ((x13).toNat)) L15 (Cu0_2 ((x13).toNat)),oI x16,oI x17,oI x18]) (show OpAt _ _ _ 7 33 _ from by exact by rw [e_L15,e_x16,e_x17,e_x18]; exact At_ldSWa (d:=33) (q:=(x13).toNat) (by subst_vars; kernel_rfl) (toNat_lt g14) hu0_2) (by kernel_rfl) (by subst_vars; kernel_rfl),trivial⟩⟩⟩⟩) ({ σ := [(11,lO 11),(26,.lf (.own 4 2)),(27,lS Au0_2 u0_2 cu0_2),(28,lS Au1 u1 cu1),(29,vi x7),(30,.lf (.ep (.slice Au1 (u1.length) cu1) 1 ((x7).toNat) 0)),(31,vi x13),(32,.lf (.ep (.slice Au0_2 (u0_2.length) cu0_2) 4 ((x13).toNat) 0)),(33,.agg [oS (Hu0_2 ((x13).toNat)) L15 (Cu0_2 ((x13).toNat)),oI x16,oI x17,oI x18]),(1,lS Au1 u1 cu1),(2,vi u2),(3,vi u3),(4,lO 4),(9,vi x6),(10,vi x7)],H := [(11,[oS none ([] : List Int) 0,oI (0 : Int),oI (0 : Int),oI (0 : Int)]),(4,[oI u0_0,oS Au0_1 u0_1 cu0_1,oS Au0_2 u0_2 cu0_2])],V := [],M := M,ds := [] }) (by subst_vars; kernel_rfl) [] (by kernel_rfl) trivial ?_
     refine Stage_ex (stage_all' [0,1,2,3] [4,5,6,7] (by kernel_rfl) (by subst_vars; kernel_rfl) (by kernel_rfl) ⟨QF_at (i:=4) (d:=30) (x:=.lf (.ep (.slice Au1 (u1.length) cu1) 1 ((x7).toNat) 0)) (show OpAt _ _ _ 4 30 _ from by exact At_idxI (d:=30) (z:=x7) (by subst_vars; kernel_rfl) g12 hu1) (by kernel_rfl) (by subst_vars; kernel_rfl),⟨QF_at (i:=5) (d:=31) (x:=vi x13) (show OpAt _ _ _ 5 31 _ from by rw [e_x13]; exact At_ldI (d:=31) (q:=(x7).toNat) (by subst_vars; kernel_rfl) (toNat_lt g12) hu1) (by kernel_rfl) (by subst_vars; kernel_rfl),⟨QF_at (i:=6) (d:=32) (x:=.lf (.ep (.slice Au0_2 (u0_2.length) cu0_2) 4 ((x13).toNat) 0)) (show OpAt _ _ _ 6 32 _ from by exact At_idxSW (m:=3) (d:=32) (z:=x13) (by subst_vars; kernel_rfl) g14 hu0_2) (by kernel_rfl) (by subst_vars; kernel_rfl),⟨QF_at (i:=7) (d:=33) (x:=.agg [oS (Hu0_2 ((x13).toNat)) L15 (Cu0_2 ((x13).toNat)),oI x16,oI x17,oI x18]) (show OpAt _ _ _ 7 33 _ from by exact by rw [e_L15,e_x16,e_x17,e_x18]; exact At_ldSWa (d:=33) (q:=(x13).toNat) (by subst_vars; kernel_rfl) (toNat_lt g14) hu0_2) (by kernel_rfl) (by subst_vars; kernel_rfl),trivial⟩⟩⟩⟩) ({ σ := [(11,lO 11),(26,.lf (.own 4 2)),(27,lS Au0_2 u0_2 cu0_2),(28,lS Au1 u1 cu1),(29,vi x7),(30,.lf (.ep (.slice Au1 (u1.length) cu1) 1 ((x7).toNat) 0)),(31,vi x13),(32,.lf (.ep (.slice Au0_2 (u0_2.length) cu0_2) 4 ((x13).toNat) 0)),(33,.agg [oS (Hu0_2 ((x13).toNat)) L15 (Cu0_2 ((x13).toNat)),oI x16,oI x17,oI x18]),(1,lS Au1 u1 cu1),(2,vi u2),(3,vi u3),(4,lO 4),(9,vi x6),(10,vi x7)],H := [(11,[oS (Hu0_2 ((x13).toNat)) L15 (Cu0_2 ((x13).toNat)),oI x16,oI x17,oI x18]),(11,[oS none ([] : List Int) 0,oI (0 : Int),oI (0 : Int),oI (0 : Int)]),(4,[oI u0_0,oS Au0_1 u0_1 cu0_1,oS Au0_2 u0_2 cu0_2])],V := [],M := M,ds := [] }) (by subst_vars; kernel_rfl) [] (by kernel_rfl) trivial ?_
     refine Stage_nil (stage_all' [] [] (by kernel_rfl) (by subst_vars;kernel_rfl) (by kernel_rfl) trivial) ?_
     refine thenQ_n ?_
     refine KG (S4 [(1,lS Au1 u1 cu1),(2,vi u2),(3,vi u3),(4,lO 4),(9,vi x6),(10,vi x7),(11,lO 11)] [(4,[oI u0_0,oS Au0_1 u0_1 cu0_1,oS Au0_2 u0_2 cu0_2]),(11,[oS (Hu0_2 ((x13).toNat)) L15 (Cu0_2 ((x13).toNat)),oI x16,oI x17,oI x18])] [] M) ?_ (by subst_vars;kernel_rfl)
     obtain ⟨j20,e_j20,h⟩ := jn_some h
     refine T_cut (c1:=(sub [1,1,0,1,0,0,1,0,0,1,0] Bd126)) (c2:=(sub [1,1,0,1,0,0,1,0,0,1,1] Bd126)) (fun s' => ∃ (b19 : Bool),Sub { σ := [(1,lS Au1 u1 cu1),(2,vi u2),(3,vi u3),(4,lO 4),(9,vi x6),(10,vi x7),(11,lO 11),(43,vb b19)],H := [(4,[oI u0_0,oS Au0_1 u0_1 cu0_1,oS Au0_2 u0_2 cu0_2]),(11,[oS (Hu0_2 ((x13).toNat)) L15 (Cu0_2 ((x13).toNat)),oI x16,oI x17,oI x18])],V := [],M := M,ds := [] } s' ∧ j20 b19 = some r) (by kernel_rfl) ?_ ?_
     ·refine RG ?_
      obtain ⟨b21,e_b21,h⟩ := lt_some h
      refine SG 5 (S4 [(1,lS Au1 u1 cu1),(2,vi u2),(3,vi u3),(4,lO 4),(9,vi x6),(10,vi x7),(11,lO 11),(38,vb b21)] [(4,[oI u0_0,oS Au0_1 u0_1 cu0_1,oS Au0_2 u0_2 cu0_2]),(11,[oS (Hu0_2 ((x13).toNat)) L15 (Cu0_2 ((x13).toNat)),oI x16,oI x17,oI x18])] [] M) ?_ (by subst e_b21;kernel_rfl)
      cases b21 with
      | true =>
       replace h := sp_t h
       refine SS 8 [(1,lS Au1 u1 cu1),(2,vi u2),(3,vi u3),(4,lO 4),(9,vi x6),(10,vi x7),(11,lO 11),(38,vb true),(40,lS (Hu0_2 ((x13).toNat)) L15 (Cu0_2 ((x13).toNat))),(41,vi u2)] ?_
       obtain ⟨v22,c_v22,h⟩ := cl_some h
       refine AC 42 (vb v22) (w59 k f_L15 c_v22) ?_
       refine SH 10 [(1,lS Au1 u1 cu1),(2,vi u2),(3,vi u3),(4,lO 4),(9,vi x6),(10,vi x7),(11,lO 11),(43,vb v22)] [(4,[oI u0_0,oS Au0_1 u0_1 cu0_1,oS Au0_2 u0_2 cu0_2]),(11,[oS (Hu0_2 ((x13).toNat)) L15 (Cu0_2 ((x13).toNat)),oI x16,oI x17,oI x18])] ?_
       refine EN ?_
       exact ⟨v22,keep_sub (ts:=[1,2,3,4,9,10,11,43]) (hs:=[4,11]) (vs:=[]) (by kernel_rfl),h⟩
      | false =>
       replace h := sp_f h
       refine SS 10 [(1,lS Au1 u1 cu1),(2,vi u2),(3,vi u3),(4,lO 4),(9,vi x6),(10,vi x7),(11,lO 11),(43,vb false)] ?_
       refine EN ?_
       exact ⟨false,keep_sub (ts:=[1,2,3,4,9,10,11,43]) (hs:=[4,11]) (vs:=[]) (by kernel_rfl),h⟩
     ·rintro s' ⟨b19,hsub,h⟩
      subst e_j20
      refine T_sub hsub ?_
      cases b19 with
      | true =>
       replace h := sp_t h
       refine CT ?_
       refine KG (S4 [(1,lS Au1 u1 cu1),(2,vi u2),(3,vi u3),(4,lO 4),(9,vi x6),(10,vi x7),(11,lO 11)] [(4,[oI u0_0,oS Au0_1 u0_1 cu0_1,oS Au0_2 u0_2 cu0_2]),(11,[oS (Hu0_2 ((x13).toNat)) L15 (Cu0_2 ((x13).toNat)),oI x16,oI x17,oI x18])] [] M) ?_
       refine RG ?_
       obtain ⟨x23,e_x23,h⟩ := lt_some h
       refine SH 5 [(1,lS Au1 u1 cu1),(2,vi u2),(3,vi u3),(4,lO 4),(9,vi x23),(10,vi x7)] [(4,[oI u0_0,oS Au0_1 u0_1 cu0_1,oS Au0_2 u0_2 cu0_2])] ?_ (by subst e_x23;kernel_rfl)
       refine E0 (blockQ_n (thenQ_n ?_))
       exact ⟨x23,keep_sub (ts:=[1,2,3,4,9,10]) (hs:=[4]) (vs:=[]) (by kernel_rfl),h⟩
      | false =>
       replace h := sp_f h
       refine CF ?_
       refine KG (S4 [(1,lS Au1 u1 cu1),(2,vi u2),(3,vi u3),(4,lO 4),(9,vi x6),(10,vi x7)] [(4,[oI u0_0,oS Au0_1 u0_1 cu0_1,oS Au0_2 u0_2 cu0_2])] [] M) ?_
       refine S0 (blockQ_n (thenQ_n ?_))
       exact ⟨x6,keep_sub (ts:=[1,2,3,4,9,10]) (hs:=[4]) (vs:=[]) (by kernel_rfl),h⟩
    ·rintro s' ⟨x10,hsub,h⟩
     subst e_j11
     refine T_sub hsub ?_
     refine RG ?_
     obtain ⟨x24,e_x24,h⟩ := lt_some h
     refine SG 3 (S4 [(1,lS Au1 u1 cu1),(2,vi u2),(3,vi u3),(4,lO 4),(9,vi x10),(10,vi x24)] [(4,[oI u0_0,oS Au0_1 u0_1 cu0_1,oS Au0_2 u0_2 cu0_2])] [] M) ?_ (by subst e_x24;kernel_rfl)
     refine EN ?_
     exact ⟨n8,Nat.lt_succ_self _,x10,x24,keep_sub (ts:=[1,2,3,4,9,10]) (hs:=[4]) (vs:=[]) (by kernel_rfl),h⟩
   | false =>
    replace h := sp_f h
    refine CF ?_
    refine KP [(9,vi x6)] [] [] ?_
    refine XI 0 (thenQ_x (thenQ_x (blockQ_x (thenQ_n ?_))))
    exact ⟨x6,keep_sub (ts:=[9]) (hs:=[]) (vs:=[]) (by kernel_rfl),h⟩
 ·rintro s' ⟨x4,hsub,h⟩
  subst e_j5
  refine thenQ_n ?_
  refine T_sub hsub ?_
  refine SQ (RG ?_)
  refine SG 2 (S4 [(8,vi x4)] [] [] M) ?_
  refine EN (RT ?_)
  obtain rfl := sj h
  exact FT (vi x4) rfl
def p17_l1 (k : Nat) (u0 : List Int) (u1 : List Int) (j2 : Option Bool) : Nat → Int → Option Bool
 | 0,_ => none
 | n4 + 1,x3 => lt' (decide (x3 < (u0.length : Int))) fun b5 => sp b5 (gd ((0 : Int) ≤ x3 ∧ x3 < (u0.length : Int)) <| lt' (List.getD u0 ((x3).toNat) 0) fun x7 => gd ((0 : Int) ≤ x3 ∧ x3 < (u1.length : Int)) <| lt' (List.getD u1 ((x3).toNat) 0) fun x9 => lt' (x7 != x9) fun b10 => sp b10 (some false) (lt' (wr .i64 (x3 + (1 : Int))) fun x11 => p17_l1 k u0 u1 j2 n4 x11)) (j2)
def p17 (k : Nat) (u0 : List Int) (u1 : List Int) : Option Bool :=
 lt' ((u0.length : Int) != (u1.length : Int)) fun b1 => sp b1 (some false) (jn (some true) fun j2 => p17_l1 k u0 u1 j2 k (0 : Int))
theorem hf17 : Try.prog.funcs[17]? = some Try.f17 := by kernel_rfl
theorem w17 (k : Nat) {M : Mem} {Au0 Au1 : Option Addr} {cu0 cu1 : Nat} {u0 u1 : List Int} (hu0 : SlI M Au0 cu0 .i64 u0) (hu1 : SlI M Au1 cu1 .i64 u1) {r} (h : p17 k u0 u1 = some r) :
  Fn Try.prog 17 [rval (lS Au0 u0 cu0),rval (lS Au1 u1 cu1)] M (fun x _ => x = vb r) := by
 unfold p17 at h
 refine FO [lS Au0 u0 cu0,lS Au1 u1 cu1] hf17 ⟨trivial,⟨trivial,trivial⟩⟩ fun w => ?_
 refine SQ0 (RG ?_)
 refine SG 1 (S4 [(0,lS Au0 u0 cu0),(1,lS Au1 u1 cu1)] [] [] M) ?_
 refine EN (SQ (SQ (RG ?_)))
 obtain ⟨b1,e_b1,h⟩ := lt_some h
 refine SS 5 [(0,lS Au0 u0 cu0),(1,lS Au1 u1 cu1),(10,vb b1)] ?_ (by subst e_b1;kernel_rfl)
 refine EN ?_
 cases b1 with
 | true =>
  replace h := sp_t h
  refine CT ?_
  refine KS [] ?_
  refine SQ (RG ?_)
  refine SS 1 [(4,vb false)] ?_
  refine EN (RT (thenQ_r ?_))
  obtain rfl := sj h
  exact FT (vb false) rfl
 | false =>
  replace h := sp_f h
  refine CF ?_
  refine KS [(0,lS Au0 u0 cu0),(1,lS Au1 u1 cu1)] ?_
  refine SN (SQ (SQ (RG ?_)))
  refine SS 1 [(0,lS Au0 u0 cu0),(1,lS Au1 u1 cu1),(5,vi (0 : Int))] ?_
  refine EN ?_
  obtain ⟨j2,e_j2,h⟩ := jn_some h
  refine T_bcut (id:=0) (c1:=(sub [1,1,0,1,0] Bd17)) (fun s' => Sub { σ := [],H := [],V := [],M := M,ds := [] } s' ∧ j2 = some r) (by kernel_rfl) ?_ ?_
  ·refine T_loop (c1:=(sub [1,1,0,1,0,0] Bd17)) (by kernel_rfl) (fun n4 s' => ∃ (x3 : Int),Sub { σ := [(0,lS Au0 u0 cu0),(1,lS Au1 u1 cu1),(5,vi x3)],H := [],V := [],M := M,ds := [] } s' ∧ p17_l1 k u0 u1 j2 n4 x3 = some r) (k:=k) ⟨(0 : Int),keep_sub (ts:=[0,1,5]) (hs:=[]) (vs:=[]) (by kernel_rfl),h⟩ ?_
   rintro n4 s' ⟨x3,hsub,h⟩
   cases n4 with
   | zero => rw [p17_l1] at h;cases h
   | succ n4 =>
    rw [p17_l1] at h
    refine T_sub hsub ?_
    refine SQ (SQ (RG ?_))
    obtain ⟨b5,e_b5,h⟩ := lt_some h
    refine SG 4 (S4 [(0,lS Au0 u0 cu0),(1,lS Au1 u1 cu1),(5,vi x3),(14,vb b5)] [] [] M) ?_ (by subst e_b5;kernel_rfl)
    refine EN ?_
    cases b5 with
    | true =>
     replace h := sp_t h
     refine CT ?_
     refine KS [(0,lS Au0 u0 cu0),(1,lS Au1 u1 cu1),(5,vi x3)] ?_
     refine SN (SQ (BK 1 (SQ ?_)))
     obtain ⟨g6,h⟩ := gd_some h
     obtain ⟨x7,e_x7,h⟩ := lt_some h
     obtain ⟨g8,h⟩ := gd_some h
     obtain ⟨x9,e_x9,h⟩ := lt_some h
     obtain ⟨b10,e_b10,h⟩ := lt_some h
     refine T_draw' (id:=6) [] [0,0,0,0,0,0,0,0,0] (by kernel_rfl) (by kernel_rfl) (by kernel_rfl) (by kernel_rfl) [(17,lS Au0 u0 cu0),(18,vi x3),(19,.lf (.ep (.slice Au0 (u0.length) cu0) 1 ((x3).toNat) 0)),(20,vi x7),(21,lS Au1 u1 cu1),(22,vi x3),(23,.lf (.ep (.slice Au1 (u1.length) cu1) 1 ((x3).toNat) 0)),(24,vi x9),(25,vb b10)] (by kernel_rfl) (wfs_lf _ (by kernel_rfl)) ?_
     refine Stage_nil (stage_all' [0,1,4,5,8] [2,3,6,7] (by kernel_rfl) (by subst_vars; kernel_rfl) (by kernel_rfl) ⟨QF_at (i:=2) (d:=19) (x:=.lf (.ep (.slice Au0 (u0.length) cu0) 1 ((x3).toNat) 0)) (show OpAt _ _ _ 2 19 _ from by exact At_idxI (d:=19) (z:=x3) (by subst_vars; kernel_rfl) g6 hu0) (by kernel_rfl) (by subst_vars; kernel_rfl),⟨QF_at (i:=3) (d:=20) (x:=vi x7) (show OpAt _ _ _ 3 20 _ from by rw [e_x7]; exact At_ldI (d:=20) (q:=(x3).toNat) (by subst_vars; kernel_rfl) (toNat_lt g6) hu0) (by kernel_rfl) (by subst_vars; kernel_rfl),⟨QF_at (i:=6) (d:=23) (x:=.lf (.ep (.slice Au1 (u1.length) cu1) 1 ((x3).toNat) 0)) (show OpAt _ _ _ 6 23 _ from by exact At_idxI (d:=23) (z:=x3) (by subst_vars; kernel_rfl) g8 hu1) (by kernel_rfl) (by subst_vars; kernel_rfl),⟨QF_at (i:=7) (d:=24) (x:=vi x9) (show OpAt _ _ _ 7 24 _ from by rw [e_x9]; exact At_ldI (d:=24) (q:=(x3).toNat) (by subst_vars; kernel_rfl) (toNat_lt g8) hu1) (by kernel_rfl) (by subst_vars; kernel_rfl),trivial⟩⟩⟩⟩) ?_
     refine thenQ_n ?_
     refine KG (S4 [(0,lS Au0 u0 cu0),(1,lS Au1 u1 cu1),(5,vi x3),(25,vb b10)] [] [] M) ?_ (by subst_vars;kernel_rfl)
     cases b10 with
     | true =>
      replace h := sp_t h
      refine CT ?_
      refine KS [] ?_
      refine SQ (RG ?_)
      refine SS 1 [(4,vb false)] ?_
      refine EN (RT (blockQ_r (thenQ_r (thenQ_r (blockQ_r (thenQ_r (thenQ_r ?_)))))))
      obtain rfl := sj h
      exact FT (vb false) rfl
     | false =>
      replace h := sp_f h
      refine CF ?_
      refine KS [(0,lS Au0 u0 cu0),(1,lS Au1 u1 cu1),(5,vi x3)] ?_
      refine S0 (blockQ_n (thenQ_n (RG ?_)))
      obtain ⟨x11,e_x11,h⟩ := lt_some h
      refine SS 3 [(0,lS Au0 u0 cu0),(1,lS Au1 u1 cu1),(5,vi x11)] ?_ (by subst e_x11;kernel_rfl)
      refine EN ?_
      exact ⟨n4,Nat.lt_succ_self _,x11,keep_sub (ts:=[0,1,5]) (hs:=[]) (vs:=[]) (by kernel_rfl),h⟩
    | false =>
     replace h := sp_f h
     refine CF ?_
     refine KS [] ?_
     refine XI 0 (thenQ_x (thenQ_x (blockQ_x (thenQ_n ?_))))
     exact ⟨keep_sub (ts:=[]) (hs:=[]) (vs:=[]) (by kernel_rfl),h⟩
  ·rintro s' ⟨hsub,h⟩
   subst e_j2
   refine thenQ_n ?_
   refine T_sub hsub ?_
   refine SQ (RG ?_)
   refine SG 1 (S4 [(4,vb true)] [] [] M) ?_
   refine EN (RT ?_)
   obtain rfl := sj h
   exact FT (vb true) rfl
end Go.Proofs.Ythniebmammmacaa
namespace Go.Proofs.Ythniebmammmacaa
open Go.RowKit
def p91_l2 (k : Nat) (u0_0 : Int) (u0_1 : List (List Int)) (u0_2 : List WT) (u1 : List Int) (u2 : List Int) (u3 : List Int) (x6 : Int) (j11 : List (List Int) → Option (List (List Int))) : Nat → Int → List (List Int) → Option (List (List Int))
 | 0,_,_ => none
 | n14 + 1,x12,R13 => lt' (decide (x12 < (6 : Int))) fun b15 => sp b15 (jn (fun (R16 : List (List Int)) => lt' (wr .i64 (x12 + (1 : Int))) fun x30 => p91_l2 k u0_0 u0_1 u0_2 u1 u2 u3 x6 j11 n14 x30 R16) fun j17 => gd ((0 : Int) ≤ x6 ∧ x6 < (u3.length : Int)) <| lt' (List.getD u3 ((x6).toNat) 0) fun x19 => cl (p126 k u0_0 u0_1 u0_2 u2 x19 x12) fun v20 => gd ((0 : Int) ≤ x12 ∧ x12 < ((6 : Nat) : Int)) <| lt' (List.getD u1 (0 + (x12).toNat * 1) 0) fun x22 => lt' (decide (x22 > v20)) fun b23 => sp b23 (gd ((0 : Int) ≤ x6 ∧ x6 < (u3.length : Int)) <| lt' (List.getD u3 ((x6).toNat) 0) fun x25 => gd ((0 : Int) ≤ x12 ∧ x12 < ((6 : Nat) : Int)) <| lt' (List.getD u1 (0 + (x12).toNat * 1) 0) fun x27 => gd ((R13.length + List.length ([[x25,x12,v20,x27]])) * 32 ≤ 140737488355328) <| lt' (R13 ++ ([[x25,x12,v20,x27]])) fun W29 => j17 W29) (j17 R13)) (j11 R13)
def p91_l1 (k : Nat) (u0_0 : Int) (u0_1 : List (List Int)) (u0_2 : List WT) (u1 : List Int) (u2 : List Int) (u3 : List Int) (j5 : List (List Int) → Option (List (List Int))) : Nat → Int → List (List Int) → Option (List (List Int))
 | 0,_,_ => none
 | n8 + 1,x6,R7 => lt' (decide (x6 < (u3.length : Int))) fun b9 => sp b9 (jn (fun (R10 : List (List Int)) => lt' (wr .i64 (x6 + (1 : Int))) fun x31 => p91_l1 k u0_0 u0_1 u0_2 u1 u2 u3 j5 n8 x31 R10) fun j11 => p91_l2 k u0_0 u0_1 u0_2 u1 u2 u3 x6 j11 k (0 : Int) R7) (j5 R7)
def p91 (k : Nat) (u0_0 : Int) (u0_1 : List (List Int)) (u0_2 : List WT) (u1 : List Int) (u2 : List Int) (u3 : List Int) : Option (List (List Int)) :=
 jn (fun (R4 : List (List Int)) => some R4) fun j5 => p91_l1 k u0_0 u0_1 u0_2 u1 u2 u3 j5 k (0 : Int) ([] : List (List Int))
theorem hf91 : Try.prog.funcs[91]? = some Try.f91 := by kernel_rfl
theorem w91 (k : Nat) {M : Mem} {Au0_1 Au0_2 Au2 Au3 : Option Addr} {cu0_1 cu0_2 cu2 cu3 : Nat} {Hu0_2 : Nat → Option Addr} {Cu0_2 : Nat → Nat} {u0_0 : Int} {u0_1 : List (List Int)} {u0_2 : List WT} {u1 u2 u3 : List Int} (hu0_1 : SlR M Au0_1 cu0_1 .i64 12 u0_1) (hu0_2 : SlW M 3 Au0_2 cu0_2 Hu0_2 Cu0_2 u0_2) (hu1 : u1.length = 6) (hu2 : SlI M Au2 cu2 .i64 u2) (hu3 : SlI M Au3 cu3 .i64 u3) {r} (h : p91 k u0_0 u0_1 u0_2 u1 u2 u3 = some r) :
  Fn Try.prog 91 [rval (.agg [oI u0_0,oS Au0_1 u0_1 cu0_1,oS Au0_2 u0_2 cu0_2]),rval (.agg [.arr .i64 6 u1]),rval (lS Au2 u2 cu2),rval (lS Au3 u3 cu3)] M (fun x M' => ∃ (A1 : Option Addr) (c2 : Nat),x = lS A1 r c2 ∧ SlR M' A1 c2 .i64 4 r) := by
 unfold p91 at h
 refine FO [.agg [oI u0_0,oS Au0_1 u0_1 cu0_1,oS Au0_2 u0_2 cu0_2],.agg [.arr .i64 6 u1],lS Au2 u2 cu2,lS Au3 u3 cu3] hf91 ⟨⟨rfl,⟨rfl,⟨rfl,trivial⟩⟩⟩,⟨⟨hu1,trivial⟩,⟨trivial,⟨trivial,trivial⟩⟩⟩⟩ fun w => ?_
 refine SQ0 (RG ?_)
 refine SG 3 (S4 [(2,lS Au2 u2 cu2),(3,lS Au3 u3 cu3),(4,lO 4),(5,lO 5)] [(4,[oI u0_0,oS Au0_1 u0_1 cu0_1,oS Au0_2 u0_2 cu0_2]),(5,[.arr .i64 6 u1])] [] M) ?_
 refine EN (SQ (RG ?_))
 refine SS 1 [(2,lS Au2 u2 cu2),(3,lS Au3 u3 cu3),(4,lO 4),(5,lO 5),(9,lS none ([] : List (List Int)) 0)] ?_
 refine EN ?_
 refine T_turn (turn_nil 5003 73 4 [(2,lS Au2 u2 cu2),(3,lS Au3 u3 cu3),(4,lO 4),(5,lO 5),(9,lV 5003)] [(4,[oI u0_0,oS Au0_1 u0_1 cu0_1,oS Au0_2 u0_2 cu0_2]),(5,[.arr .i64 6 u1])] (by kernel_rfl) (by kernel_rfl) (by kernel_rfl)) ?_
 rintro _ rfl
 refine KG (S4 [(2,lS Au2 u2 cu2),(3,lS Au3 u3 cu3),(4,lO 4),(5,lO 5),(9,lV 5003)] [(4,[oI u0_0,oS Au0_1 u0_1 cu0_1,oS Au0_2 u0_2 cu0_2]),(5,[.arr .i64 6 u1])] [(5003,⟨73,4,List.length ([] : List (List Int)),rowsC .i64 ([] : List (List Int))⟩)] M) ?_
 refine SQ (SQ (RG ?_))
 refine SS 1 [(2,lS Au2 u2 cu2),(3,lS Au3 u3 cu3),(4,lO 4),(5,lO 5),(9,lV 5003),(10,vi (0 : Int))] ?_
 refine EN ?_
 obtain ⟨j5,e_j5,h⟩ := jn_some h
 refine T_bcut (id:=0) (c1:=(sub [1,1,0,1,0] Bd91)) (fun s' => ∃ (R4 : List (List Int)),Sub { σ := [(9,lV 5003)],H := [],V := [(5003,⟨73,4,List.length R4,rowsC .i64 R4⟩)],M := M,ds := [] } s' ∧ (∀ r ∈ R4,r.length = 4) ∧ j5 R4 = some r) (by kernel_rfl) ?_ ?_
 ·refine T_loop (c1:=(sub [1,1,0,1,0,0] Bd91)) (by kernel_rfl) (fun n8 s' => ∃ (x6 : Int) (R7 : List (List Int)),Sub { σ := [(2,lS Au2 u2 cu2),(3,lS Au3 u3 cu3),(4,lO 4),(5,lO 5),(9,lV 5003),(10,vi x6)],H := [(4,[oI u0_0,oS Au0_1 u0_1 cu0_1,oS Au0_2 u0_2 cu0_2]),(5,[.arr .i64 6 u1])],V := [(5003,⟨73,4,List.length R7,rowsC .i64 R7⟩)],M := M,ds := [] } s' ∧ (∀ r ∈ R7,r.length = 4) ∧ p91_l1 k u0_0 u0_1 u0_2 u1 u2 u3 j5 n8 x6 R7 = some r) (k:=k) ⟨(0 : Int),([] : List (List Int)),keep_sub (ts:=[2,3,4,5,9,10]) (hs:=[4,5]) (vs:=[5003]) (by kernel_rfl),rows_nil,h⟩ ?_
  rintro n8 s' ⟨x6,R7,hsub,r_R7,h⟩
  cases n8 with
  | zero => rw [p91_l1] at h;cases h
  | succ n8 =>
   rw [p91_l1] at h
   refine T_sub hsub ?_
   refine SQ (SQ (RG ?_))
   obtain ⟨b9,e_b9,h⟩ := lt_some h
   refine SG 4 (S4 [(2,lS Au2 u2 cu2),(3,lS Au3 u3 cu3),(4,lO 4),(5,lO 5),(9,lV 5003),(10,vi x6),(16,vb b9)] [(4,[oI u0_0,oS Au0_1 u0_1 cu0_1,oS Au0_2 u0_2 cu0_2]),(5,[.arr .i64 6 u1])] [(5003,⟨73,4,List.length R7,rowsC .i64 R7⟩)] M) ?_ (by subst e_b9;kernel_rfl)
   refine EN ?_
   cases b9 with
   | true =>
    replace h := sp_t h
    refine CT ?_
    refine KS [(2,lS Au2 u2 cu2),(3,lS Au3 u3 cu3),(4,lO 4),(5,lO 5),(9,lV 5003),(10,vi x6)] ?_
    refine SN (SQ (BK 1 (SQ (RG ?_))))
    refine SS 1 [(2,lS Au2 u2 cu2),(3,lS Au3 u3 cu3),(4,lO 4),(5,lO 5),(9,lV 5003),(10,vi x6),(11,vi (0 : Int))] ?_
    refine EN ?_
    obtain ⟨j11,e_j11,h⟩ := jn_some h
    refine T_bcut (id:=2) (c1:=(sub [1,1,0,1,0,0,1,0,0,1,0] Bd91)) (fun s' => ∃ (R10 : List (List Int)),Sub { σ := [(2,lS Au2 u2 cu2),(3,lS Au3 u3 cu3),(4,lO 4),(5,lO 5),(9,lV 5003),(10,vi x6)],H := [(4,[oI u0_0,oS Au0_1 u0_1 cu0_1,oS Au0_2 u0_2 cu0_2]),(5,[.arr .i64 6 u1])],V := [(5003,⟨73,4,List.length R10,rowsC .i64 R10⟩)],M := M,ds := [] } s' ∧ (∀ r ∈ R10,r.length = 4) ∧ j11 R10 = some r) (by kernel_rfl) ?_ ?_
    ·refine T_loop (c1:=(sub [1,1,0,1,0,0,1,0,0,1,0,0] Bd91)) (by kernel_rfl) (fun n14 s' => ∃ (x12 : Int) (R13 : List (List Int)),Sub { σ := [(2,lS Au2 u2 cu2),(3,lS Au3 u3 cu3),(4,lO 4),(5,lO 5),(9,lV 5003),(10,vi x6),(11,vi x12)],H := [(4,[oI u0_0,oS Au0_1 u0_1 cu0_1,oS Au0_2 u0_2 cu0_2]),(5,[.arr .i64 6 u1])],V := [(5003,⟨73,4,List.length R13,rowsC .i64 R13⟩)],M := M,ds := [] } s' ∧ (∀ r ∈ R13,r.length = 4) ∧ p91_l2 k u0_0 u0_1 u0_2 u1 u2 u3 x6 j11 n14 x12 R13 = some r) (k:=k) ⟨(0 : Int),R7,keep_sub (ts:=[2,3,4,5,9,10,11]) (hs:=[4,5]) (vs:=[5003]) (by kernel_rfl),r_R7,h⟩ ?_
     rintro n14 s' ⟨x12,R13,hsub,r_R13,h⟩
     cases n14 with
     | zero => rw [p91_l2] at h;cases h
     | succ n14 =>
      rw [p91_l2] at h
      refine T_sub hsub ?_
      refine SQ (SQ (RG ?_))
      obtain ⟨b15,e_b15,h⟩ := lt_some h
      refine SG 2 (S4 [(2,lS Au2 u2 cu2),(3,lS Au3 u3 cu3),(4,lO 4),(5,lO 5),(9,lV 5003),(10,vi x6),(11,vi x12),(20,vb b15)] [(4,[oI u0_0,oS Au0_1 u0_1 cu0_1,oS Au0_2 u0_2 cu0_2]),(5,[.arr .i64 6 u1])] [(5003,⟨73,4,List.length R13,rowsC .i64 R13⟩)] M) ?_ (by subst e_b15;kernel_rfl)
      refine EN ?_
      cases b15 with
      | true =>
       replace h := sp_t h
       refine CT ?_
       refine KS [(2,lS Au2 u2 cu2),(3,lS Au3 u3 cu3),(4,lO 4),(5,lO 5),(9,lV 5003),(10,vi x6),(11,vi x12)] ?_
       refine SN ?_
       obtain ⟨j17,e_j17,h⟩ := jn_some h
       refine T_cut (c1:=(sub [1,1,0,1,0,0,1,0,0,1,0,0,1,0] Bd91)) (c2:=(sub [1,1,0,1,0,0,1,0,0,1,0,0,1,1] Bd91)) (fun s' => ∃ (R16 : List (List Int)),Sub { σ := [(2,lS Au2 u2 cu2),(3,lS Au3 u3 cu3),(4,lO 4),(5,lO 5),(9,lV 48),(10,vi x6),(11,vi x12)],H := [(4,[oI u0_0,oS Au0_1 u0_1 cu0_1,oS Au0_2 u0_2 cu0_2]),(5,[.arr .i64 6 u1])],V := [(48,⟨73,4,List.length R16,rowsC .i64 R16⟩)],M := M,ds := [] } s' ∧ (∀ r ∈ R16,r.length = 4) ∧ j17 R16 = some r) (by kernel_rfl) ?_ ?_
       ·refine BK 3 ?_
        refine SQ ?_
        obtain ⟨g18,h⟩ := gd_some h
        obtain ⟨x19,e_x19,h⟩ := lt_some h
        obtain ⟨v20,c_v20,h⟩ := cl_some h
        refine T_draw' (id:=8) [] [0,0,0,0,0,0,0,0,0] (by kernel_rfl) (by kernel_rfl) (by kernel_rfl) (by kernel_rfl) [(23,.agg [oI u0_0,oS Au0_1 u0_1 cu0_1,oS Au0_2 u0_2 cu0_2]),(24,lS Au2 u2 cu2),(25,lS Au3 u3 cu3),(26,vi x6),(27,.lf (.ep (.slice Au3 (u3.length) cu3) 1 ((x6).toNat) 0)),(28,vi x19),(29,vi x12),(30,vi v20),(12,vi v20)] (by kernel_rfl) ⟨⟨rfl,⟨rfl,⟨rfl,trivial⟩⟩⟩,⟨trivial,⟨trivial,⟨trivial,⟨trivial,⟨trivial,⟨trivial,⟨trivial,⟨trivial,trivial⟩⟩⟩⟩⟩⟩⟩⟩⟩ ?_
        refine Stage_nil (stage_all' [0,1,2,3,6,8] [4,5,7] (by kernel_rfl) (by subst e_x19; kernel_rfl) (by kernel_rfl) ⟨QF_at (i:=4) (d:=27) (x:=.lf (.ep (.slice Au3 (u3.length) cu3) 1 ((x6).toNat) 0)) (show OpAt _ _ _ 4 27 _ from by exact At_idxI (d:=27) (z:=x6) (by subst e_x19; kernel_rfl) g18 hu3) (by kernel_rfl) (by subst e_x19; kernel_rfl),⟨QF_at (i:=5) (d:=28) (x:=vi x19) (show OpAt _ _ _ 5 28 _ from by rw [e_x19]; exact At_ldI (d:=28) (q:=(x6).toNat) (by subst e_x19; kernel_rfl) (toNat_lt g18) hu3) (by kernel_rfl) (by subst e_x19; kernel_rfl),⟨QF_at (i:=7) (d:=30) (x:=vi v20) (show OpAt _ _ _ 7 30 _ from by exact At_call (d:=30) (f:=126) (args:=[rval (.agg [oI u0_0,oS Au0_1 u0_1 cu0_1,oS Au0_2 u0_2 cu0_2]),rval (lS Au2 u2 cu2),rval (vi x19),rval (vi x12)]) (x:=vi v20) (by subst e_x19; kernel_rfl) (w126 k hu0_1 hu0_2 hu2 c_v20)) (by kernel_rfl) (by subst e_x19; kernel_rfl),trivial⟩⟩⟩) ?_
        refine thenQ_n ?_
        refine KG (S4 [(2,lS Au2 u2 cu2),(3,lS Au3 u3 cu3),(4,lO 4),(5,lO 5),(9,lV 5003),(10,vi x6),(11,vi x12),(12,vi v20)] [(4,[oI u0_0,oS Au0_1 u0_1 cu0_1,oS Au0_2 u0_2 cu0_2]),(5,[.arr .i64 6 u1])] [(5003,⟨73,4,List.length R13,rowsC .i64 R13⟩)] M) ?_ (by subst e_x19;kernel_rfl)
        refine SQ (RG ?_)
        refine SS 1 [(2,lS Au2 u2 cu2),(3,lS Au3 u3 cu3),(4,lO 4),(5,lO 5),(9,lV 5003),(10,vi x6),(11,vi x12),(12,vi v20),(31,vi x12)] ?_
        obtain ⟨g21,h⟩ := gd_some h
        refine AT 32 (.lf (.oel 5 (0 + (x12).toNat * 1))) (At_idxO (z:=x12) (b:=5) (off:=0) (sz:=1) (n:=6) (by kernel_rfl) g21) ?_
        obtain ⟨x22,e_x22,h⟩ := lt_some h
        refine AT 33 (vi x22) (by rw [e_x22]; exact At_ldO1 (b:=5) (off:=0 + (x12).toNat * 1) (base:=0) (q:=0 + (x12).toNat * 1) (n:=6) (k:=.i64) (L:=u1) (by subst e_x22; kernel_rfl) (by subst e_x22; kernel_rfl) (by omega) (by omega)) ?_
        obtain ⟨b23,e_b23,h⟩ := lt_some h
        refine SH 5 [(2,lS Au2 u2 cu2),(3,lS Au3 u3 cu3),(4,lO 4),(5,lO 5),(9,lV 5003),(10,vi x6),(11,vi x12),(12,vi v20),(35,vb b23)] [(4,[oI u0_0,oS Au0_1 u0_1 cu0_1,oS Au0_2 u0_2 cu0_2]),(5,[.arr .i64 6 u1])] ?_ (by subst e_b23;kernel_rfl)
        refine EN ?_
        cases b23 with
        | true =>
         replace h := sp_t h
         refine CT ?_
         refine KS [(2,lS Au2 u2 cu2),(3,lS Au3 u3 cu3),(4,lO 4),(5,lO 5),(9,lV 5003),(10,vi x6),(11,vi x12),(12,vi v20)] ?_
         obtain ⟨g24,h⟩ := gd_some h
         obtain ⟨x25,e_x25,h⟩ := lt_some h
         obtain ⟨g26,h⟩ := gd_some h
         obtain ⟨x27,e_x27,h⟩ := lt_some h
         obtain ⟨g28,h⟩ := gd_some h
         obtain ⟨W29,e_W29,h⟩ := lt_some h
         have r_W29 : ∀ r ∈ W29,r.length = 4 := by rw [e_W29]; exact rows_app r_R13 (rows_cons rfl rows_nil)
         refine T_draw' (id:=10) [11,12,13] [0,0,0,0,0,0,0,0,0,0,0,0,0,0] (by kernel_rfl) (by kernel_rfl) (by kernel_rfl) (by kernel_rfl) [(36,lV 5003),(37,lS Au3 u3 cu3),(38,vi x6),(39,.lf (.ep (.slice Au3 (u3.length) cu3) 1 ((x6).toNat) 0)),(40,vi x25),(41,vi x12),(42,vi v20),(43,vi x12),(44,.lf (.oel 5 (0 + (x12).toNat * 1))),(45,vi x27),(46,.agg [.arr .i64 4 [x25,x12,v20,x27]])] (by kernel_rfl) ⟨trivial,⟨trivial,⟨trivial,⟨trivial,⟨trivial,⟨trivial,⟨trivial,⟨trivial,⟨trivial,⟨trivial,⟨⟨rfl,trivial⟩,trivial⟩⟩⟩⟩⟩⟩⟩⟩⟩⟩⟩ ?_
         refine Stage_te (stage_all' [0,1,2,5,6,7,10] [3,4,8,9] (by kernel_rfl) (by subst_vars; kernel_rfl) (by kernel_rfl) ⟨QF_at (i:=3) (d:=39) (x:=.lf (.ep (.slice Au3 (u3.length) cu3) 1 ((x6).toNat) 0)) (show OpAt _ _ _ 3 39 _ from by exact At_idxI (d:=39) (z:=x6) (by subst_vars; kernel_rfl) g24 hu3) (by kernel_rfl) (by subst_vars; kernel_rfl),⟨QF_at (i:=4) (d:=40) (x:=vi x25) (show OpAt _ _ _ 4 40 _ from by rw [e_x25]; exact At_ldI (d:=40) (q:=(x6).toNat) (by subst_vars; kernel_rfl) (toNat_lt g24) hu3) (by kernel_rfl) (by subst_vars; kernel_rfl),⟨QF_at (i:=8) (d:=44) (x:=.lf (.oel 5 (0 + (x12).toNat * 1))) (show OpAt _ _ _ 8 44 _ from by exact At_idxO (d:=44) (z:=x12) (b:=5) (off:=0) (sz:=1) (n:=6) (by subst_vars; kernel_rfl) g26) (by kernel_rfl) (by subst_vars; kernel_rfl),⟨QF_at (i:=9) (d:=45) (x:=vi x27) (show OpAt _ _ _ 9 45 _ from by rw [e_x27]; exact At_ldO1 (d:=45) (b:=5) (off:=0 + (x12).toNat * 1) (base:=0) (q:=0 + (x12).toNat * 1) (n:=6) (k:=.i64) (L:=u1) (by subst_vars; kernel_rfl) (by subst_vars; kernel_rfl) (by omega) (by omega)) (by kernel_rfl) (by subst_vars; kernel_rfl),trivial⟩⟩⟩⟩) (TE_litC (d:=47) (e:=73) (sz:=4) (len:=1) (cs:=rowsC .i64 ([[x25,x12,v20,x27]])) (by subst_vars; kernel_rfl) (by kernel_rfl) (by kernel_rfl) ?_) 
         refine TL_nil (stageQ_of [] (by kernel_rfl) trivial ?_)
         refine Stage_te (stage_all' [0] [] (by kernel_rfl) (by subst_vars;kernel_rfl) (by kernel_rfl) trivial) (TE_appC (d:=48) (e:=73) (sz:=4) (bytes:=32) (n:=5003) (x:=(.tmp 47)) (len:=List.length R13) (cs0:=rowsC .i64 R13) (cs2:=rowsC .i64 W29) (by subst_vars;kernel_rfl) (by kernel_rfl) (by subst_vars;kernel_rfl) (vecR_src (n:=47) (e:=73) (k:=.i64) (m:=4) (R:=[[x25,x12,v20,x27]]) (by subst_vars;kernel_rfl) (by subst_vars;kernel_rfl) (rows_cons rfl rows_nil)) g28 rfl (len_app_eq e_W29) (rowsC_app_eq e_W29) ?_) 
         refine TL_nil (stageQ_of [] (by kernel_rfl) trivial ?_)
         refine Stage_ex (stage_all' [] [] (by kernel_rfl) (by subst_vars;kernel_rfl) (by kernel_rfl) trivial) ({ σ := [(9,lV 48),(48,lV 48),(47,lV 47),(36,lV 5003),(37,lS Au3 u3 cu3),(38,vi x6),(39,.lf (.ep (.slice Au3 (u3.length) cu3) 1 ((x6).toNat) 0)),(40,vi x25),(41,vi x12),(42,vi v20),(43,vi x12),(44,.lf (.oel 5 (0 + (x12).toNat * 1))),(45,vi x27),(46,.agg [.arr .i64 4 [x25,x12,v20,x27]]),(2,lS Au2 u2 cu2),(3,lS Au3 u3 cu3),(4,lO 4),(5,lO 5),(9,lV 5003),(10,vi x6),(11,vi x12),(12,vi v20)],H := [(4,[oI u0_0,oS Au0_1 u0_1 cu0_1,oS Au0_2 u0_2 cu0_2]),(5,[.arr .i64 6 u1])],V := [(48,⟨73,4,List.length W29,rowsC .i64 W29⟩),(47,⟨73,4,List.length ([[x25,x12,v20,x27]]),rowsC .i64 ([[x25,x12,v20,x27]])⟩)],M := M,ds := [] }) (by subst_vars;kernel_rfl) [] (by kernel_rfl) trivial ?_
         refine Stage_nil (stage_all' [] [] (by kernel_rfl) (by subst_vars;kernel_rfl) (by kernel_rfl) trivial) ?_
         refine blockQ_n (thenQ_n ?_)
         exact ⟨W29,keep_sub (ts:=[2,3,4,5,9,10,11]) (hs:=[4,5]) (vs:=[48]) (by subst_vars;kernel_rfl),r_W29,h⟩
        | false =>
         replace h := sp_f h
         refine CF ?_
         refine KS [(2,lS Au2 u2 cu2),(3,lS Au3 u3 cu3),(4,lO 4),(5,lO 5),(9,lV 5003),(10,vi x6),(11,vi x12)] ?_
         refine S0 (blockQ_n (thenQ_n ?_))
         exact ⟨R13,Sub.trans (keep_sub (ts:=[2,3,4,5,9,10,11]) (hs:=[4,5]) (vs:=[48]) (by kernel_rfl)) (Sub.trans (ren_sub 5003 48 (s':={ σ := [(2,lS Au2 u2 cu2),(3,lS Au3 u3 cu3),(4,lO 4),(5,lO 5),(9,lV 48),(10,vi x6),(11,vi x12)],H := [(4,[oI u0_0,oS Au0_1 u0_1 cu0_1,oS Au0_2 u0_2 cu0_2]),(5,[.arr .i64 6 u1])],V := [(48,⟨73,4,List.length R13,rowsC .i64 R13⟩)],M := M,ds := [] }) (by kernel_rfl) (by kernel_rfl)) (keep_sub (s':={ σ := [(2,lS Au2 u2 cu2),(3,lS Au3 u3 cu3),(4,lO 4),(5,lO 5),(9,lV 5003),(10,vi x6),(11,vi x12)],H := [(4,[oI u0_0,oS Au0_1 u0_1 cu0_1,oS Au0_2 u0_2 cu0_2]),(5,[.arr .i64 6 u1])],V := [(5003,⟨73,4,List.length R13,rowsC .i64 R13⟩)],M := M,ds := [] }) (ts:=[2,3,4,5,9,10,11]) (hs:=[4,5]) (vs:=[5003]) (by kernel_rfl))),r_R13,h⟩
       ·rintro s' ⟨R16,hsub,r_R16,h⟩
        subst e_j17
        refine T_sub hsub ?_
        refine RG ?_
        obtain ⟨x30,e_x30,h⟩ := lt_some h
        refine SG 3 (S4 [(2,lS Au2 u2 cu2),(3,lS Au3 u3 cu3),(4,lO 4),(5,lO 5),(9,lV 48),(10,vi x6),(11,vi x30)] [(4,[oI u0_0,oS Au0_1 u0_1 cu0_1,oS Au0_2 u0_2 cu0_2]),(5,[.arr .i64 6 u1])] [(48,⟨73,4,List.length R16,rowsC .i64 R16⟩)] M) ?_ (by subst e_x30;kernel_rfl)
        refine EN ?_
        exact ⟨n14,Nat.lt_succ_self _,x30,R16,Sub.trans (keep_sub (ts:=[2,3,4,5,9,10,11]) (hs:=[4,5]) (vs:=[5003]) (by kernel_rfl)) (Sub.trans (ren_sub 48 5003 (s':={ σ := [(2,lS Au2 u2 cu2),(3,lS Au3 u3 cu3),(4,lO 4),(5,lO 5),(9,lV 5003),(10,vi x6),(11,vi x30)],H := [(4,[oI u0_0,oS Au0_1 u0_1 cu0_1,oS Au0_2 u0_2 cu0_2]),(5,[.arr .i64 6 u1])],V := [(5003,⟨73,4,List.length R16,rowsC .i64 R16⟩)],M := M,ds := [] }) (by kernel_rfl) (by kernel_rfl)) (keep_sub (s':={ σ := [(2,lS Au2 u2 cu2),(3,lS Au3 u3 cu3),(4,lO 4),(5,lO 5),(9,lV 48),(10,vi x6),(11,vi x30)],H := [(4,[oI u0_0,oS Au0_1 u0_1 cu0_1,oS Au0_2 u0_2 cu0_2]),(5,[.arr .i64 6 u1])],V := [(48,⟨73,4,List.length R16,rowsC .i64 R16⟩)],M := M,ds := [] }) (ts:=[2,3,4,5,9,10,11]) (hs:=[4,5]) (vs:=[48]) (by kernel_rfl))),r_R16,h⟩
      | false =>
       replace h := sp_f h
       refine CF ?_
       refine KS [(2,lS Au2 u2 cu2),(3,lS Au3 u3 cu3),(4,lO 4),(5,lO 5),(9,lV 5003),(10,vi x6)] ?_
       refine XI 2 (thenQ_x (thenQ_x (blockQ_x (thenQ_n ?_))))
       exact ⟨R13,keep_sub (ts:=[2,3,4,5,9,10]) (hs:=[4,5]) (vs:=[5003]) (by kernel_rfl),r_R13,h⟩
    ·rintro s' ⟨R10,hsub,r_R10,h⟩
     subst e_j11
     refine blockQ_n (thenQ_n ?_)
     refine T_sub hsub ?_
     refine RG ?_
     obtain ⟨x31,e_x31,h⟩ := lt_some h
     refine SG 3 (S4 [(2,lS Au2 u2 cu2),(3,lS Au3 u3 cu3),(4,lO 4),(5,lO 5),(9,lV 5003),(10,vi x31)] [(4,[oI u0_0,oS Au0_1 u0_1 cu0_1,oS Au0_2 u0_2 cu0_2]),(5,[.arr .i64 6 u1])] [(5003,⟨73,4,List.length R10,rowsC .i64 R10⟩)] M) ?_ (by subst e_x31;kernel_rfl)
     refine EN ?_
     exact ⟨n8,Nat.lt_succ_self _,x31,R10,keep_sub (ts:=[2,3,4,5,9,10]) (hs:=[4,5]) (vs:=[5003]) (by kernel_rfl),r_R10,h⟩
   | false =>
    replace h := sp_f h
    refine CF ?_
    refine KP [(9,lV 5003)] [] [(5003,⟨73,4,List.length R7,rowsC .i64 R7⟩)] ?_
    refine XI 0 (thenQ_x (thenQ_x (blockQ_x (thenQ_n ?_))))
    exact ⟨R7,keep_sub (ts:=[9]) (hs:=[]) (vs:=[5003]) (by kernel_rfl),r_R7,h⟩
 ·rintro s' ⟨R4,hsub,r_R4,h⟩
  subst e_j5
  refine thenQ_n ?_
  refine T_sub hsub ?_
  refine SQ (RG ?_)
  refine SG 2 (S4 [(8,lV 5003)] [] [(5003,⟨73,4,List.length R4,rowsC .i64 R4⟩)] M) ?_
  refine EN ?_
  refine T_turn (turn_pubV 5003 (v:=⟨73,4,List.length R4,rowsC .i64 R4⟩) (by kernel_rfl)) ?_
  rintro _ ⟨A32,c33,M34,rfl,hSA32,hcA32,-,hNA32,hM34⟩
  have fA32 : SlR M34 A32 c33 .i64 4 R4 := ⟨r_R4,hSA32,hcA32⟩
  refine KG (S4 [(8,lS A32 R4 c33)] [] [] M34) ?_
  refine RT ?_
  obtain rfl := sj h
  refine FT (lS A32 R4 c33) ?_
  exact ⟨A32,c33,rfl,fA32⟩
def p29_l1 (k : Nat) (u0_2 : List WT) (j5 : Option Int) : Nat → Int → Option Int
 | 0,_ => none
 | n7 + 1,x6 => lt' (decide (x6 < (u0_2.length : Int))) fun b8 => sp b8 (gd ((0 : Int) ≤ x6 ∧ x6 < (u0_2.length : Int)) <| lt' ((List.getD u0_2 ((x6).toNat) ([],[])).1) fun L10 => lt' (decide ((L10.length : Int) > (16 : Int))) fun b11 => sp b11 (some (6 : Int)) (lt' (wr .i64 (x6 + (1 : Int))) fun x12 => p29_l1 k u0_2 j5 n7 x12)) (j5)
def p29_l2 (k : Nat) (u0_0 : Int) (u0_1 : List (List Int)) (j17 : Option Int) : Nat → Int → Option Int
 | 0,_ => none
 | n19 + 1,x18 => lt' (decide (x18 < (u0_1.length : Int))) fun b20 => sp b20 (gd ((0 : Int) ≤ x18 ∧ x18 < (u0_1.length : Int)) <| lt' (List.getD u0_1 ((x18).toNat) []) fun L22 => jn (fun (b23 : Bool) => sp b23 (some (2 : Int)) (lt' (wr .i64 (x18 + (1 : Int))) fun x54 => p29_l2 k u0_0 u0_1 j17 n19 x54)) fun j24 => lt' (List.getD L22 0 0) fun x25 => lt' (decide (x25 < (0 : Int))) fun b26 => sp b26 (j24 true) (lt' (List.getD L22 0 0) fun x27 => lt' (decide (x27 ≥ u0_0)) fun b28 => sp b28 (j24 true) (lt' (List.getD L22 1 0) fun x29 => lt' (decide (x29 < (0 : Int))) fun b30 => sp b30 (j24 true) (lt' (List.getD L22 1 0) fun x31 => lt' (decide (x31 ≥ u0_0)) fun b32 => sp b32 (j24 true) (lt' (List.getD L22 0 0) fun x33 => lt' (List.getD L22 1 0) fun x34 => lt' (x33 == x34) fun b35 => sp b35 (j24 true) (lt' (List.getD L22 2 0) fun x36 => cl (p65 k x36 (1 : Int) (1073741824 : Int)) fun v37 => sp v37 (lt' (List.getD L22 3 0) fun x38 => cl (p65 k x38 (1 : Int) (1440 : Int)) fun v39 => sp v39 (lt' (List.getD L22 4 0) fun x40 => lt' (decide (x40 < (0 : Int))) fun b41 => sp b41 (j24 true) (lt' (List.getD L22 4 0) fun x42 => lt' (List.getD L22 5 0) fun x43 => lt' (decide (x42 ≥ x43)) fun b44 => sp b44 (j24 true) (lt' (List.getD L22 5 0) fun x45 => lt' (decide (x45 > (1440 : Int))) fun b46 => sp b46 (j24 true) (lt' (List.getD L22 5 0) fun x47 => lt' (List.getD L22 4 0) fun x48 => lt' (wr .i64 (x47 - x48)) fun x49 => lt' (List.getD L22 3 0) fun x50 => lt' (decide (x49 < x50)) fun b51 => sp b51 (j24 true) (cl (p40 k (List.take 6 (List.drop 6 L22))) fun v52 => lt' (v52 != (0 : Int)) fun b53 => j24 b53))))) (j24 true)) (j24 true))))))) (j17)
def p29_l3 (k : Nat) (u0_1 : List (List Int)) (u0_2 : List WT) (j55 : Option Int) : Nat → Int → Option Int
 | 0,_ => none
 | n57 + 1,x56 => lt' (decide (x56 < (u0_2.length : Int))) fun b58 => sp b58 (gd ((0 : Int) ≤ x56 ∧ x56 < (u0_2.length : Int)) <| lt' ((List.getD u0_2 ((x56).toNat) ([],[])).1) fun L60 => lt' (List.getD (List.getD u0_2 ((x56).toNat) ([],[])).2 0 0) fun x61 => lt' (List.getD (List.getD u0_2 ((x56).toNat) ([],[])).2 1 0) fun x62 => lt' (List.getD (List.getD u0_2 ((x56).toNat) ([],[])).2 2 0) fun x63 => jn (fun (b64 : Bool) => sp b64 (some (2 : Int)) (lt' (wr .i64 (x56 + (1 : Int))) fun x72 => p29_l3 k u0_1 u0_2 j55 n57 x72)) fun j65 => lt' (decide ((L60.length : Int) < (1 : Int))) fun b66 => sp b66 (j65 true) (lt' (decide (x61 < (0 : Int))) fun b67 => sp b67 (j65 true) (lt' (decide (x61 > (5 : Int))) fun b68 => sp b68 (j65 true) (cl (p65 k x62 (0 : Int) (1073741824 : Int)) fun v69 => sp v69 (cl (p65 k x63 (1 : Int) (1073741824 : Int)) fun v70 => sp v70 (cl (p83 k L60 (u0_1.length : Int)) fun v71 => j65 (!v71)) (j65 true)) (j65 true))))) (j55)
def p29 (k : Nat) (u0_0 : Int) (u0_1 : List (List Int)) (u0_2 : List WT) : Option Int :=
 jn (fun (b1 : Bool) => sp b1 (some (6 : Int)) (jn (jn (fun (b13 : Bool) => sp b13 (some (2 : Int)) (jn (jn (some (0 : Int)) fun j55 => p29_l3 k u0_1 u0_2 j55 k (0 : Int)) fun j17 => p29_l2 k u0_0 u0_1 j17 k (0 : Int))) fun j14 => lt' (decide (u0_0 < (1 : Int))) fun b15 => sp b15 (j14 true) (lt' (decide (u0_0 > (64 : Int))) fun b16 => j14 b16)) fun j5 => p29_l1 k u0_2 j5 k (0 : Int))) fun j2 => lt' (decide ((u0_1.length : Int) > (256 : Int))) fun b3 => sp b3 (j2 true) (lt' (decide ((u0_2.length : Int) > (10 : Int))) fun b4 => j2 b4)
theorem hf29 : Try.prog.funcs[29]? = some Try.f29 := by kernel_rfl
theorem w29 (k : Nat) {M : Mem} {Au0_1 Au0_2 : Option Addr} {cu0_1 cu0_2 : Nat} {Hu0_2 : Nat → Option Addr} {Cu0_2 : Nat → Nat} {u0_0 : Int} {u0_1 : List (List Int)} {u0_2 : List WT} (hu0_1 : SlR M Au0_1 cu0_1 .i64 12 u0_1) (hu0_2 : SlW M 3 Au0_2 cu0_2 Hu0_2 Cu0_2 u0_2) {r} (h : p29 k u0_0 u0_1 u0_2 = some r) :
  Fn Try.prog 29 [rval (.agg [oI u0_0,oS Au0_1 u0_1 cu0_1,oS Au0_2 u0_2 cu0_2])] M (fun x _ => x = vi r) := by
 unfold p29 at h
 refine FO [.agg [oI u0_0,oS Au0_1 u0_1 cu0_1,oS Au0_2 u0_2 cu0_2]] hf29 ⟨⟨rfl,⟨rfl,⟨rfl,trivial⟩⟩⟩,trivial⟩ fun w => ?_
 refine SQ0 (RG ?_)
 refine SG 2 (S4 [(1,lO 1)] [(1,[oI u0_0,oS Au0_1 u0_1 cu0_1,oS Au0_2 u0_2 cu0_2])] [] M) ?_
 refine EN (SQ ?_)
 obtain ⟨j2,e_j2,h⟩ := jn_some h
 refine T_cut (c1:=(sub [1,0,0] Bd29)) (c2:=(sub [1,0,1] Bd29)) (fun s' => ∃ (b1 : Bool),Sub { σ := [(1,lO 1),(17,vb b1)],H := [(1,[oI u0_0,oS Au0_1 u0_1 cu0_1,oS Au0_2 u0_2 cu0_2])],V := [],M := M,ds := [] } s' ∧ j2 b1 = some r) (by kernel_rfl) ?_ ?_
 ·refine RG ?_
  obtain ⟨b3,e_b3,h⟩ := lt_some h
  refine SG 5 (S4 [(1,lO 1),(12,vb b3)] [(1,[oI u0_0,oS Au0_1 u0_1 cu0_1,oS Au0_2 u0_2 cu0_2])] [] M) ?_ (by subst e_b3;kernel_rfl)
  cases b3 with
  | true =>
   replace h := sp_t h
   refine SS 10 [(1,lO 1),(17,vb true)] ?_
   refine EN ?_
   exact ⟨true,keep_sub (ts:=[1,17]) (hs:=[1]) (vs:=[]) (by kernel_rfl),h⟩
  | false =>
   replace h := sp_f h
   obtain ⟨b4,e_b4,h⟩ := lt_some h
   refine SS 10 [(1,lO 1),(17,vb b4)] ?_ (by subst e_b4;kernel_rfl)
   refine EN ?_
   exact ⟨b4,keep_sub (ts:=[1,17]) (hs:=[1]) (vs:=[]) (by kernel_rfl),h⟩
 ·rintro s' ⟨b1,hsub,h⟩
  subst e_j2
  refine T_sub hsub ?_
  cases b1 with
  | true =>
   replace h := sp_t h
   refine CT ?_
   refine KG (S4 [] [] [] M) ?_
   refine SQ (RG ?_)
   refine SS 1 [(2,vi (6 : Int))] ?_
   refine EN (RT (thenQ_r ?_))
   obtain rfl := sj h
   exact FT (vi (6 : Int)) rfl
  | false =>
   replace h := sp_f h
   refine CF ?_
   refine KG (S4 [(1,lO 1)] [(1,[oI u0_0,oS Au0_1 u0_1 cu0_1,oS Au0_2 u0_2 cu0_2])] [] M) ?_
   refine SN (SQ (SQ (RG ?_)))
   refine SS 1 [(1,lO 1),(3,vi (0 : Int))] ?_
   refine EN ?_
   obtain ⟨j5,e_j5,h⟩ := jn_some h
   refine T_bcut (id:=0) (c1:=(sub [1,1,0,1,0] Bd29)) (fun s' => Sub { σ := [(1,lO 1)],H := [(1,[oI u0_0,oS Au0_1 u0_1 cu0_1,oS Au0_2 u0_2 cu0_2])],V := [],M := M,ds := [] } s' ∧ j5 = some r) (by kernel_rfl) ?_ ?_
   ·refine T_loop (c1:=(sub [1,1,0,1,0,0] Bd29)) (by kernel_rfl) (fun n7 s' => ∃ (x6 : Int),Sub { σ := [(1,lO 1),(3,vi x6)],H := [(1,[oI u0_0,oS Au0_1 u0_1 cu0_1,oS Au0_2 u0_2 cu0_2])],V := [],M := M,ds := [] } s' ∧ p29_l1 k u0_2 j5 n7 x6 = some r) (k:=k) ⟨(0 : Int),keep_sub (ts:=[1,3]) (hs:=[1]) (vs:=[]) (by kernel_rfl),h⟩ ?_
    rintro n7 s' ⟨x6,hsub,h⟩
    cases n7 with
    | zero => rw [p29_l1] at h;cases h
    | succ n7 =>
     rw [p29_l1] at h
     refine T_sub hsub ?_
     refine SQ (SQ (RG ?_))
     obtain ⟨b8,e_b8,h⟩ := lt_some h
     refine SG 5 (S4 [(1,lO 1),(3,vi x6),(22,vb b8)] [(1,[oI u0_0,oS Au0_1 u0_1 cu0_1,oS Au0_2 u0_2 cu0_2])] [] M) ?_ (by subst e_b8;kernel_rfl)
     refine EN ?_
     cases b8 with
     | true =>
      replace h := sp_t h
      refine CT ?_
      refine KS [(1,lO 1),(3,vi x6)] ?_
      refine SN (SQ (BK 1 (SQ (RG ?_))))
      refine SS 3 [(1,lO 1),(3,vi x6),(26,lS Au0_2 u0_2 cu0_2),(27,vi x6)] ?_
      obtain ⟨g9,h⟩ := gd_some h
      refine AT 28 (.lf (.ep (.slice Au0_2 (u0_2.length) cu0_2) 4 ((x6).toNat) 0)) (At_idxSW (m:=3) (z:=x6) (by kernel_rfl) g9 hu0_2) ?_
      refine SH 5 [(1,lO 1),(3,vi x6),(29,.lf (.ep (.slice Au0_2 (u0_2.length) cu0_2) 4 ((x6).toNat) 0))] [(1,[oI u0_0,oS Au0_1 u0_1 cu0_1,oS Au0_2 u0_2 cu0_2])] ?_
      obtain ⟨L10,e_L10,h⟩ := lt_some h
      have f_L10 : SlI M (Hu0_2 ((x6).toNat)) (Cu0_2 ((x6).toNat)) .i64 L10 := by rw [e_L10]; exact (hu0_2).rows _ (toNat_lt g9)
      refine AT 30 (lS (Hu0_2 ((x6).toNat)) L10 (Cu0_2 ((x6).toNat))) (by rw [e_L10]; exact At_ldSW0 (m:=3) (q:=(x6).toNat) (by subst e_L10; kernel_rfl) (toNat_lt g9) hu0_2) ?_
      obtain ⟨b11,e_b11,h⟩ := lt_some h
      refine SH 8 [(1,lO 1),(3,vi x6),(32,vb b11)] [(1,[oI u0_0,oS Au0_1 u0_1 cu0_1,oS Au0_2 u0_2 cu0_2])] ?_ (by subst e_b11;kernel_rfl)
      refine EN ?_
      cases b11 with
      | true =>
       replace h := sp_t h
       refine CT ?_
       refine KP [] [] [] ?_
       refine SQ (RG ?_)
       refine SS 1 [(2,vi (6 : Int))] ?_
       refine EN (RT (blockQ_r (thenQ_r (thenQ_r (blockQ_r (thenQ_r (thenQ_r ?_)))))))
       obtain rfl := sj h
       exact FT (vi (6 : Int)) rfl
      | false =>
       replace h := sp_f h
       refine CF ?_
       refine KS [(1,lO 1),(3,vi x6)] ?_
       refine S0 (blockQ_n (thenQ_n (RG ?_)))
       obtain ⟨x12,e_x12,h⟩ := lt_some h
       refine SS 3 [(1,lO 1),(3,vi x12)] ?_ (by subst e_x12;kernel_rfl)
       refine EN ?_
       exact ⟨n7,Nat.lt_succ_self _,x12,keep_sub (ts:=[1,3]) (hs:=[1]) (vs:=[]) (by kernel_rfl),h⟩
     | false =>
      replace h := sp_f h
      refine CF ?_
      refine KS [(1,lO 1)] ?_
      refine XI 0 (thenQ_x (thenQ_x (blockQ_x (thenQ_n ?_))))
      exact ⟨keep_sub (ts:=[1]) (hs:=[1]) (vs:=[]) (by kernel_rfl),h⟩
   ·rintro s' ⟨hsub,h⟩
    subst e_j5
    refine thenQ_n ?_
    refine T_sub hsub ?_
    refine SQ ?_
    obtain ⟨j14,e_j14,h⟩ := jn_some h
    refine T_cut (c1:=(sub [1,1,1,0,0] Bd29)) (c2:=(sub [1,1,1,0,1] Bd29)) (fun s' => ∃ (b13 : Bool),Sub { σ := [(1,lO 1),(40,vb b13)],H := [(1,[oI u0_0,oS Au0_1 u0_1 cu0_1,oS Au0_2 u0_2 cu0_2])],V := [],M := M,ds := [] } s' ∧ j14 b13 = some r) (by kernel_rfl) ?_ ?_
    ·refine RG ?_
     obtain ⟨b15,e_b15,h⟩ := lt_some h
     refine SG 4 (S4 [(1,lO 1),(36,vb b15)] [(1,[oI u0_0,oS Au0_1 u0_1 cu0_1,oS Au0_2 u0_2 cu0_2])] [] M) ?_ (by subst e_b15;kernel_rfl)
     cases b15 with
     | true =>
      replace h := sp_t h
      refine SS 8 [(1,lO 1),(40,vb true)] ?_
      refine EN ?_
      exact ⟨true,keep_sub (ts:=[1,40]) (hs:=[1]) (vs:=[]) (by kernel_rfl),h⟩
     | false =>
      replace h := sp_f h
      obtain ⟨b16,e_b16,h⟩ := lt_some h
      refine SS 8 [(1,lO 1),(40,vb b16)] ?_ (by subst e_b16;kernel_rfl)
      refine EN ?_
      exact ⟨b16,keep_sub (ts:=[1,40]) (hs:=[1]) (vs:=[]) (by kernel_rfl),h⟩
    ·rintro s' ⟨b13,hsub,h⟩
     subst e_j14
     refine T_sub hsub ?_
     cases b13 with
     | true =>
      replace h := sp_t h
      refine CT ?_
      refine KG (S4 [] [] [] M) ?_
      refine SQ (RG ?_)
      refine SS 1 [(2,vi (2 : Int))] ?_
      refine EN (RT (thenQ_r ?_))
      obtain rfl := sj h
      exact FT (vi (2 : Int)) rfl
     | false =>
      replace h := sp_f h
      refine CF ?_
      refine KG (S4 [(1,lO 1)] [(1,[oI u0_0,oS Au0_1 u0_1 cu0_1,oS Au0_2 u0_2 cu0_2])] [] M) ?_
      refine SN (SQ (SQ (RG ?_)))
      refine SS 1 [(1,lO 1),(4,vi (0 : Int))] ?_
      refine EN ?_
      obtain ⟨j17,e_j17,h⟩ := jn_some h
      refine T_bcut (id:=2) (c1:=(sub [1,1,1,1,0,1,0] Bd29)) (fun s' => Sub { σ := [(1,lO 1)],H := [(1,[oI u0_0,oS Au0_1 u0_1 cu0_1,oS Au0_2 u0_2 cu0_2])],V := [],M := M,ds := [] } s' ∧ j17 = some r) (by kernel_rfl) ?_ ?_
      ·refine T_loop (c1:=(sub [1,1,1,1,0,1,0,0] Bd29)) (by kernel_rfl) (fun n19 s' => ∃ (x18 : Int),Sub { σ := [(1,lO 1),(4,vi x18)],H := [(1,[oI u0_0,oS Au0_1 u0_1 cu0_1,oS Au0_2 u0_2 cu0_2])],V := [],M := M,ds := [] } s' ∧ p29_l2 k u0_0 u0_1 j17 n19 x18 = some r) (k:=k) ⟨(0 : Int),keep_sub (ts:=[1,4]) (hs:=[1]) (vs:=[]) (by kernel_rfl),h⟩ ?_
       rintro n19 s' ⟨x18,hsub,h⟩
       cases n19 with
       | zero => rw [p29_l2] at h;cases h
       | succ n19 =>
        rw [p29_l2] at h
        refine T_sub hsub ?_
        refine SQ (SQ (RG ?_))
        obtain ⟨b20,e_b20,h⟩ := lt_some h
        refine SG 5 (S4 [(1,lO 1),(4,vi x18),(45,vb b20)] [(1,[oI u0_0,oS Au0_1 u0_1 cu0_1,oS Au0_2 u0_2 cu0_2])] [] M) ?_ (by subst e_b20;kernel_rfl)
        refine EN ?_
        cases b20 with
        | true =>
         replace h := sp_t h
         refine CT ?_
         refine KS [(1,lO 1),(4,vi x18)] ?_
         refine SN (SQ (BK 3 (SQ (RG ?_))))
         refine SS 3 [(1,lO 1),(4,vi x18),(49,lS Au0_1 u0_1 cu0_1),(50,vi x18)] ?_
         obtain ⟨g21,h⟩ := gd_some h
         refine AT 51 (.lf (.ep (.slice Au0_1 (u0_1.length) cu0_1) 12 ((x18).toNat) 0)) (At_idxR (z:=x18) (by kernel_rfl) g21 hu0_1) ?_
         obtain ⟨L22,e_L22,h⟩ := lt_some h
         have l_L22 : (L22).length = 12 := by rw [e_L22]; exact SlR_row hu0_1 (toNat_lt g21)
         refine AT 52 (.agg [.arr .i64 12 L22]) (by rw [e_L22]; exact At_ldRow (q:=(x18).toNat) (by subst e_L22; kernel_rfl) (toNat_lt g21) hu0_1) ?_ (hx:=⟨l_L22,trivial⟩)
         refine SH 7 [(1,lO 1),(4,vi x18),(5,lO 5)] [(1,[oI u0_0,oS Au0_1 u0_1 cu0_1,oS Au0_2 u0_2 cu0_2]),(5,[.arr .i64 12 L22])] ?_
         refine EN ?_
         obtain ⟨j24,e_j24,h⟩ := jn_some h
         refine T_cut (c1:=(sub [1,1,1,1,0,1,0,0,1,0,0,1,0] Bd29)) (c2:=(sub [1,1,1,1,0,1,0,0,1,0,0,1,1] Bd29)) (fun s' => ∃ (b23 : Bool),Sub { σ := [(1,lO 1),(4,vi x18),(126,vb b23)],H := [(1,[oI u0_0,oS Au0_1 u0_1 cu0_1,oS Au0_2 u0_2 cu0_2])],V := [],M := M,ds := [] } s' ∧ j24 b23 = some r) (by kernel_rfl) ?_ ?_
         ·refine RG ?_
          obtain ⟨x25,e_x25,h⟩ := lt_some h
          obtain ⟨b26,e_b26,h⟩ := lt_some h
          refine SG 4 (S4 [(1,lO 1),(4,vi x18),(5,lO 5),(56,vb b26)] [(1,[oI u0_0,oS Au0_1 u0_1 cu0_1,oS Au0_2 u0_2 cu0_2]),(5,[.arr .i64 12 L22])] [] M) ?_ (by subst e_b26 e_x25;kernel_rfl)
          cases b26 with
          | true =>
           replace h := sp_t h
           refine SH 74 [(1,lO 1),(4,vi x18),(126,vb true)] [(1,[oI u0_0,oS Au0_1 u0_1 cu0_1,oS Au0_2 u0_2 cu0_2])] ?_
           refine EN ?_
           exact ⟨true,keep_sub (ts:=[1,4,126]) (hs:=[1]) (vs:=[]) (by kernel_rfl),h⟩
          | false =>
           replace h := sp_f h
           obtain ⟨x27,e_x27,h⟩ := lt_some h
           obtain ⟨b28,e_b28,h⟩ := lt_some h
           refine SS 11 [(1,lO 1),(4,vi x18),(5,lO 5),(63,vb b28)] ?_ (by subst e_b28 e_x27;kernel_rfl)
           cases b28 with
           | true =>
            replace h := sp_t h
            refine SH 74 [(1,lO 1),(4,vi x18),(126,vb true)] [(1,[oI u0_0,oS Au0_1 u0_1 cu0_1,oS Au0_2 u0_2 cu0_2])] ?_
            refine EN ?_
            exact ⟨true,keep_sub (ts:=[1,4,126]) (hs:=[1]) (vs:=[]) (by kernel_rfl),h⟩
           | false =>
            replace h := sp_f h
            obtain ⟨x29,e_x29,h⟩ := lt_some h
            obtain ⟨b30,e_b30,h⟩ := lt_some h
            refine SS 16 [(1,lO 1),(4,vi x18),(5,lO 5),(68,vb b30)] ?_ (by subst e_b30 e_x29;kernel_rfl)
            cases b30 with
            | true =>
             replace h := sp_t h
             refine SH 74 [(1,lO 1),(4,vi x18),(126,vb true)] [(1,[oI u0_0,oS Au0_1 u0_1 cu0_1,oS Au0_2 u0_2 cu0_2])] ?_
             refine EN ?_
             exact ⟨true,keep_sub (ts:=[1,4,126]) (hs:=[1]) (vs:=[]) (by kernel_rfl),h⟩
            | false =>
             replace h := sp_f h
             obtain ⟨x31,e_x31,h⟩ := lt_some h
             obtain ⟨b32,e_b32,h⟩ := lt_some h
             refine SS 23 [(1,lO 1),(4,vi x18),(5,lO 5),(75,vb b32)] ?_ (by subst e_b32 e_x31;kernel_rfl)
             cases b32 with
             | true =>
              replace h := sp_t h
              refine SH 74 [(1,lO 1),(4,vi x18),(126,vb true)] [(1,[oI u0_0,oS Au0_1 u0_1 cu0_1,oS Au0_2 u0_2 cu0_2])] ?_
              refine EN ?_
              exact ⟨true,keep_sub (ts:=[1,4,126]) (hs:=[1]) (vs:=[]) (by kernel_rfl),h⟩
             | false =>
              replace h := sp_f h
              obtain ⟨x33,e_x33,h⟩ := lt_some h
              obtain ⟨x34,e_x34,h⟩ := lt_some h
              obtain ⟨b35,e_b35,h⟩ := lt_some h
              refine SS 30 [(1,lO 1),(4,vi x18),(5,lO 5),(82,vb b35)] ?_ (by subst_vars;kernel_rfl)
              cases b35 with
              | true =>
               replace h := sp_t h
               refine SH 74 [(1,lO 1),(4,vi x18),(126,vb true)] [(1,[oI u0_0,oS Au0_1 u0_1 cu0_1,oS Au0_2 u0_2 cu0_2])] ?_
               refine EN ?_
               exact ⟨true,keep_sub (ts:=[1,4,126]) (hs:=[1]) (vs:=[]) (by kernel_rfl),h⟩
              | false =>
               replace h := sp_f h
               obtain ⟨x36,e_x36,h⟩ := lt_some h
               refine SS 32 [(1,lO 1),(4,vi x18),(5,lO 5),(82,vb false),(84,vi x36)] ?_ (by subst e_x36;kernel_rfl)
               obtain ⟨v37,c_v37,h⟩ := cl_some h
               refine AC 85 (vb v37) (w65 k  c_v37) ?_
               refine SH 36 [(1,lO 1),(4,vi x18),(5,lO 5),(88,vb (!v37))] [(1,[oI u0_0,oS Au0_1 u0_1 cu0_1,oS Au0_2 u0_2 cu0_2]),(5,[.arr .i64 12 L22])] ?_
               cases v37 with
               | true =>
                replace h := sp_t h
                obtain ⟨x38,e_x38,h⟩ := lt_some h
                refine SS 38 [(1,lO 1),(4,vi x18),(5,lO 5),(88,vb false),(90,vi x38)] ?_ (by subst e_x38;kernel_rfl)
                obtain ⟨v39,c_v39,h⟩ := cl_some h
                refine AC 91 (vb v39) (w65 k  c_v39) ?_
                refine SH 42 [(1,lO 1),(4,vi x18),(5,lO 5),(94,vb (!v39))] [(1,[oI u0_0,oS Au0_1 u0_1 cu0_1,oS Au0_2 u0_2 cu0_2]),(5,[.arr .i64 12 L22])] ?_
                cases v39 with
                | true =>
                 replace h := sp_t h
                 obtain ⟨x40,e_x40,h⟩ := lt_some h
                 obtain ⟨b41,e_b41,h⟩ := lt_some h
                 refine SS 47 [(1,lO 1),(4,vi x18),(5,lO 5),(99,vb b41)] ?_ (by subst e_b41 e_x40;kernel_rfl)
                 cases b41 with
                 | true =>
                  replace h := sp_t h
                  refine SH 74 [(1,lO 1),(4,vi x18),(126,vb true)] [(1,[oI u0_0,oS Au0_1 u0_1 cu0_1,oS Au0_2 u0_2 cu0_2])] ?_
                  refine EN ?_
                  exact ⟨true,keep_sub (ts:=[1,4,126]) (hs:=[1]) (vs:=[]) (by kernel_rfl),h⟩
                 | false =>
                  replace h := sp_f h
                  obtain ⟨x42,e_x42,h⟩ := lt_some h
                  obtain ⟨x43,e_x43,h⟩ := lt_some h
                  obtain ⟨b44,e_b44,h⟩ := lt_some h
                  refine SS 54 [(1,lO 1),(4,vi x18),(5,lO 5),(106,vb b44)] ?_ (by subst_vars;kernel_rfl)
                  cases b44 with
                  | true =>
                   replace h := sp_t h
                   refine SH 74 [(1,lO 1),(4,vi x18),(126,vb true)] [(1,[oI u0_0,oS Au0_1 u0_1 cu0_1,oS Au0_2 u0_2 cu0_2])] ?_
                   refine EN ?_
                   exact ⟨true,keep_sub (ts:=[1,4,126]) (hs:=[1]) (vs:=[]) (by kernel_rfl),h⟩
                  | false =>
                   replace h := sp_f h
                   obtain ⟨x45,e_x45,h⟩ := lt_some h
                   obtain ⟨b46,e_b46,h⟩ := lt_some h
                   refine SS 59 [(1,lO 1),(4,vi x18),(5,lO 5),(111,vb b46)] ?_ (by subst e_b46 e_x45;kernel_rfl)
                   cases b46 with
                   | true =>
                    replace h := sp_t h
                    refine SH 74 [(1,lO 1),(4,vi x18),(126,vb true)] [(1,[oI u0_0,oS Au0_1 u0_1 cu0_1,oS Au0_2 u0_2 cu0_2])] ?_
                    refine EN ?_
                    exact ⟨true,keep_sub (ts:=[1,4,126]) (hs:=[1]) (vs:=[]) (by kernel_rfl),h⟩
                   | false =>
                    replace h := sp_f h
                    obtain ⟨x47,e_x47,h⟩ := lt_some h
                    obtain ⟨x48,e_x48,h⟩ := lt_some h
                    obtain ⟨x49,e_x49,h⟩ := lt_some h
                    obtain ⟨x50,e_x50,h⟩ := lt_some h
                    obtain ⟨b51,e_b51,h⟩ := lt_some h
                    refine SS 69 [(1,lO 1),(4,vi x18),(5,lO 5),(121,vb b51)] ?_ (by subst_vars;kernel_rfl)
                    cases b51 with
                    | true =>
                     replace h := sp_t h
                     refine SH 74 [(1,lO 1),(4,vi x18),(126,vb true)] [(1,[oI u0_0,oS Au0_1 u0_1 cu0_1,oS Au0_2 u0_2 cu0_2])] ?_
                     refine EN ?_
                     exact ⟨true,keep_sub (ts:=[1,4,126]) (hs:=[1]) (vs:=[]) (by kernel_rfl),h⟩
                    | false =>
                     replace h := sp_f h
                     refine SH 71 [(1,lO 1),(4,vi x18),(121,vb false),(123,.agg [.arr .i64 6 (List.take 6 (List.drop 6 L22))])] [(1,[oI u0_0,oS Au0_1 u0_1 cu0_1,oS Au0_2 u0_2 cu0_2])] ?_
                     obtain ⟨v52,c_v52,h⟩ := cl_some h
                     refine AC (args:=[rval (.agg [.arr .i64 6 (List.take 6 (List.drop 6 L22))])]) 124 (vi v52) (w40 k (len_dt l_L22 (Nat.le_of_ble_eq_true rfl)) c_v52) ?_
                     obtain ⟨b53,e_b53,h⟩ := lt_some h
                     refine SH 74 [(1,lO 1),(4,vi x18),(126,vb b53)] [(1,[oI u0_0,oS Au0_1 u0_1 cu0_1,oS Au0_2 u0_2 cu0_2])] ?_ (by subst e_b53;kernel_rfl)
                     refine EN ?_
                     exact ⟨b53,keep_sub (ts:=[1,4,126]) (hs:=[1]) (vs:=[]) (by kernel_rfl),h⟩
                | false =>
                 replace h := sp_f h
                 refine SH 74 [(1,lO 1),(4,vi x18),(126,vb true)] [(1,[oI u0_0,oS Au0_1 u0_1 cu0_1,oS Au0_2 u0_2 cu0_2])] ?_
                 refine EN ?_
                 exact ⟨true,keep_sub (ts:=[1,4,126]) (hs:=[1]) (vs:=[]) (by kernel_rfl),h⟩
               | false =>
                replace h := sp_f h
                refine SH 74 [(1,lO 1),(4,vi x18),(126,vb true)] [(1,[oI u0_0,oS Au0_1 u0_1 cu0_1,oS Au0_2 u0_2 cu0_2])] ?_
                refine EN ?_
                exact ⟨true,keep_sub (ts:=[1,4,126]) (hs:=[1]) (vs:=[]) (by kernel_rfl),h⟩
         ·rintro s' ⟨b23,hsub,h⟩
          subst e_j24
          refine T_sub hsub ?_
          cases b23 with
          | true =>
           replace h := sp_t h
           refine CT ?_
           refine KG (S4 [] [] [] M) ?_
           refine SQ (RG ?_)
           refine SS 1 [(2,vi (2 : Int))] ?_
           refine EN (RT (blockQ_r (thenQ_r (thenQ_r (blockQ_r (thenQ_r (thenQ_r ?_)))))))
           obtain rfl := sj h
           exact FT (vi (2 : Int)) rfl
          | false =>
           replace h := sp_f h
           refine CF ?_
           refine KG (S4 [(1,lO 1),(4,vi x18)] [(1,[oI u0_0,oS Au0_1 u0_1 cu0_1,oS Au0_2 u0_2 cu0_2])] [] M) ?_
           refine S0 (blockQ_n (thenQ_n (RG ?_)))
           obtain ⟨x54,e_x54,h⟩ := lt_some h
           refine SS 3 [(1,lO 1),(4,vi x54)] ?_ (by subst e_x54;kernel_rfl)
           refine EN ?_
           exact ⟨n19,Nat.lt_succ_self _,x54,keep_sub (ts:=[1,4]) (hs:=[1]) (vs:=[]) (by kernel_rfl),h⟩
        | false =>
         replace h := sp_f h
         refine CF ?_
         refine KS [(1,lO 1)] ?_
         refine XI 2 (thenQ_x (thenQ_x (blockQ_x (thenQ_n ?_))))
         exact ⟨keep_sub (ts:=[1]) (hs:=[1]) (vs:=[]) (by kernel_rfl),h⟩
      ·rintro s' ⟨hsub,h⟩
       subst e_j17
       refine thenQ_n ?_
       refine T_sub hsub ?_
       refine SQ (SQ (RG ?_))
       refine SG 1 (S4 [(1,lO 1),(6,vi (0 : Int))] [(1,[oI u0_0,oS Au0_1 u0_1 cu0_1,oS Au0_2 u0_2 cu0_2])] [] M) ?_
       refine EN ?_
       obtain ⟨j55,e_j55,h⟩ := jn_some h
       refine T_bcut (id:=4) (c1:=(sub [1,1,1,1,1,0,1,0] Bd29)) (fun s' => Sub { σ := [],H := [],V := [],M := M,ds := [] } s' ∧ j55 = some r) (by kernel_rfl) ?_ ?_
       ·refine T_loop (c1:=(sub [1,1,1,1,1,0,1,0,0] Bd29)) (by kernel_rfl) (fun n57 s' => ∃ (x56 : Int),Sub { σ := [(1,lO 1),(6,vi x56)],H := [(1,[oI u0_0,oS Au0_1 u0_1 cu0_1,oS Au0_2 u0_2 cu0_2])],V := [],M := M,ds := [] } s' ∧ p29_l3 k u0_1 u0_2 j55 n57 x56 = some r) (k:=k) ⟨(0 : Int),keep_sub (ts:=[1,6]) (hs:=[1]) (vs:=[]) (by kernel_rfl),h⟩ ?_
        rintro n57 s' ⟨x56,hsub,h⟩
        cases n57 with
        | zero => rw [p29_l3] at h;cases h
        | succ n57 =>
         rw [p29_l3] at h
         refine T_sub hsub ?_
         refine SQ (SQ (RG ?_))
         obtain ⟨b58,e_b58,h⟩ := lt_some h
         refine SG 5 (S4 [(1,lO 1),(6,vi x56),(131,vb b58)] [(1,[oI u0_0,oS Au0_1 u0_1 cu0_1,oS Au0_2 u0_2 cu0_2])] [] M) ?_ (by subst e_b58;kernel_rfl)
         refine EN ?_
         cases b58 with
         | true =>
          replace h := sp_t h
          refine CT ?_
          refine KS [(1,lO 1),(6,vi x56)] ?_
          refine SN (SQ (BK 5 (SQ (RG ?_))))
          refine SS 3 [(1,lO 1),(6,vi x56),(135,lS Au0_2 u0_2 cu0_2),(136,vi x56)] ?_
          obtain ⟨g59,h⟩ := gd_some h
          refine AT 137 (.lf (.ep (.slice Au0_2 (u0_2.length) cu0_2) 4 ((x56).toNat) 0)) (At_idxSW (m:=3) (z:=x56) (by kernel_rfl) g59 hu0_2) ?_
          obtain ⟨L60,e_L60,h⟩ := lt_some h
          have f_L60 : SlI M (Hu0_2 ((x56).toNat)) (Cu0_2 ((x56).toNat)) .i64 L60 := by rw [e_L60]; exact (hu0_2).rows _ (toNat_lt g59)
          obtain ⟨x61,e_x61,h⟩ := lt_some h
          obtain ⟨x62,e_x62,h⟩ := lt_some h
          obtain ⟨x63,e_x63,h⟩ := lt_some h
          refine AT 138 (.agg [oS (Hu0_2 ((x56).toNat)) L60 (Cu0_2 ((x56).toNat)),oI x61,oI x62,oI x63]) (by rw [e_L60,e_x61,e_x62,e_x63]; exact At_ldSWa (q:=(x56).toNat) (by subst_vars; kernel_rfl) (toNat_lt g59) hu0_2) ?_ (hx:=⟨rfl,⟨rfl,⟨rfl,⟨rfl,trivial⟩⟩⟩⟩)
          refine SH 7 [(1,lO 1),(6,vi x56),(7,lO 7)] [(1,[oI u0_0,oS Au0_1 u0_1 cu0_1,oS Au0_2 u0_2 cu0_2]),(7,[oS (Hu0_2 ((x56).toNat)) L60 (Cu0_2 ((x56).toNat)),oI x61,oI x62,oI x63])] ?_
          refine EN ?_
          obtain ⟨j65,e_j65,h⟩ := jn_some h
          refine T_cut (c1:=(sub [1,1,1,1,1,0,1,0,0,1,0,0,1,0] Bd29)) (c2:=(sub [1,1,1,1,1,0,1,0,0,1,0,0,1,1] Bd29)) (fun s' => ∃ (b64 : Bool),Sub { σ := [(1,lO 1),(6,vi x56),(173,vb b64)],H := [(1,[oI u0_0,oS Au0_1 u0_1 cu0_1,oS Au0_2 u0_2 cu0_2])],V := [],M := M,ds := [] } s' ∧ j65 b64 = some r) (by kernel_rfl) ?_ ?_
          ·refine RG ?_
           obtain ⟨b66,e_b66,h⟩ := lt_some h
           refine SG 5 (S4 [(1,lO 1),(6,vi x56),(7,lO 7),(143,vb b66)] [(1,[oI u0_0,oS Au0_1 u0_1 cu0_1,oS Au0_2 u0_2 cu0_2]),(7,[oS (Hu0_2 ((x56).toNat)) L60 (Cu0_2 ((x56).toNat)),oI x61,oI x62,oI x63])] [] M) ?_ (by subst e_b66;kernel_rfl)
           cases b66 with
           | true =>
            replace h := sp_t h
            refine SH 35 [(1,lO 1),(6,vi x56),(173,vb true)] [(1,[oI u0_0,oS Au0_1 u0_1 cu0_1,oS Au0_2 u0_2 cu0_2])] ?_
            refine EN ?_
            exact ⟨true,keep_sub (ts:=[1,6,173]) (hs:=[1]) (vs:=[]) (by kernel_rfl),h⟩
           | false =>
            replace h := sp_f h
            obtain ⟨b67,e_b67,h⟩ := lt_some h
            refine SS 10 [(1,lO 1),(6,vi x56),(7,lO 7),(148,vb b67)] ?_ (by subst e_b67;kernel_rfl)
            cases b67 with
            | true =>
             replace h := sp_t h
             refine SH 35 [(1,lO 1),(6,vi x56),(173,vb true)] [(1,[oI u0_0,oS Au0_1 u0_1 cu0_1,oS Au0_2 u0_2 cu0_2])] ?_
             refine EN ?_
             exact ⟨true,keep_sub (ts:=[1,6,173]) (hs:=[1]) (vs:=[]) (by kernel_rfl),h⟩
            | false =>
             replace h := sp_f h
             obtain ⟨b68,e_b68,h⟩ := lt_some h
             refine SS 15 [(1,lO 1),(6,vi x56),(7,lO 7),(153,vb b68)] ?_ (by subst e_b68;kernel_rfl)
             cases b68 with
             | true =>
              replace h := sp_t h
              refine SH 35 [(1,lO 1),(6,vi x56),(173,vb true)] [(1,[oI u0_0,oS Au0_1 u0_1 cu0_1,oS Au0_2 u0_2 cu0_2])] ?_
              refine EN ?_
              exact ⟨true,keep_sub (ts:=[1,6,173]) (hs:=[1]) (vs:=[]) (by kernel_rfl),h⟩
             | false =>
              replace h := sp_f h
              refine SS 17 [(1,lO 1),(6,vi x56),(7,lO 7),(153,vb false),(155,vi x62)] ?_
              obtain ⟨v69,c_v69,h⟩ := cl_some h
              refine AC 156 (vb v69) (w65 k  c_v69) ?_
              refine SH 21 [(1,lO 1),(6,vi x56),(7,lO 7),(159,vb (!v69))] [(1,[oI u0_0,oS Au0_1 u0_1 cu0_1,oS Au0_2 u0_2 cu0_2]),(7,[oS (Hu0_2 ((x56).toNat)) L60 (Cu0_2 ((x56).toNat)),oI x61,oI x62,oI x63])] ?_
              cases v69 with
              | true =>
               replace h := sp_t h
               refine SS 23 [(1,lO 1),(6,vi x56),(7,lO 7),(159,vb false),(161,vi x63)] ?_
               obtain ⟨v70,c_v70,h⟩ := cl_some h
               refine AC 162 (vb v70) (w65 k  c_v70) ?_
               refine SH 27 [(1,lO 1),(6,vi x56),(7,lO 7),(165,vb (!v70))] [(1,[oI u0_0,oS Au0_1 u0_1 cu0_1,oS Au0_2 u0_2 cu0_2]),(7,[oS (Hu0_2 ((x56).toNat)) L60 (Cu0_2 ((x56).toNat)),oI x61,oI x62,oI x63])] ?_
               cases v70 with
               | true =>
                replace h := sp_t h
                refine SH 32 [(1,lO 1),(6,vi x56),(165,vb false),(167,lS (Hu0_2 ((x56).toNat)) L60 (Cu0_2 ((x56).toNat))),(170,vi (u0_1.length : Int))] [(1,[oI u0_0,oS Au0_1 u0_1 cu0_1,oS Au0_2 u0_2 cu0_2])] ?_
                obtain ⟨v71,c_v71,h⟩ := cl_some h
                refine AC 171 (vb v71) (w83 k f_L60 c_v71) ?_
                refine SH 35 [(1,lO 1),(6,vi x56),(173,vb (!v71))] [(1,[oI u0_0,oS Au0_1 u0_1 cu0_1,oS Au0_2 u0_2 cu0_2])] ?_
                refine EN ?_
                exact ⟨(!v71),keep_sub (ts:=[1,6,173]) (hs:=[1]) (vs:=[]) (by kernel_rfl),h⟩
               | false =>
                replace h := sp_f h
                refine SH 35 [(1,lO 1),(6,vi x56),(173,vb true)] [(1,[oI u0_0,oS Au0_1 u0_1 cu0_1,oS Au0_2 u0_2 cu0_2])] ?_
                refine EN ?_
                exact ⟨true,keep_sub (ts:=[1,6,173]) (hs:=[1]) (vs:=[]) (by kernel_rfl),h⟩
              | false =>
               replace h := sp_f h
               refine SH 35 [(1,lO 1),(6,vi x56),(173,vb true)] [(1,[oI u0_0,oS Au0_1 u0_1 cu0_1,oS Au0_2 u0_2 cu0_2])] ?_
               refine EN ?_
               exact ⟨true,keep_sub (ts:=[1,6,173]) (hs:=[1]) (vs:=[]) (by kernel_rfl),h⟩
          ·rintro s' ⟨b64,hsub,h⟩
           subst e_j65
           refine T_sub hsub ?_
           cases b64 with
           | true =>
            replace h := sp_t h
            refine CT ?_
            refine KG (S4 [] [] [] M) ?_
            refine SQ (RG ?_)
            refine SS 1 [(2,vi (2 : Int))] ?_
            refine EN (RT (blockQ_r (thenQ_r (thenQ_r (blockQ_r (thenQ_r (thenQ_r ?_)))))))
            obtain rfl := sj h
            exact FT (vi (2 : Int)) rfl
           | false =>
            replace h := sp_f h
            refine CF ?_
            refine KG (S4 [(1,lO 1),(6,vi x56)] [(1,[oI u0_0,oS Au0_1 u0_1 cu0_1,oS Au0_2 u0_2 cu0_2])] [] M) ?_
            refine S0 (blockQ_n (thenQ_n (RG ?_)))
            obtain ⟨x72,e_x72,h⟩ := lt_some h
            refine SS 3 [(1,lO 1),(6,vi x72)] ?_ (by subst e_x72;kernel_rfl)
            refine EN ?_
            exact ⟨n57,Nat.lt_succ_self _,x72,keep_sub (ts:=[1,6]) (hs:=[1]) (vs:=[]) (by kernel_rfl),h⟩
         | false =>
          replace h := sp_f h
          refine CF ?_
          refine KP [] [] [] ?_
          refine XI 4 (thenQ_x (thenQ_x (blockQ_x (thenQ_n ?_))))
          exact ⟨keep_sub (ts:=[]) (hs:=[]) (vs:=[]) (by kernel_rfl),h⟩
       ·rintro s' ⟨hsub,h⟩
        subst e_j55
        refine thenQ_n ?_
        refine T_sub hsub ?_
        refine SQ (RG ?_)
        refine SG 1 (S4 [(2,vi (0 : Int))] [] [] M) ?_
        refine EN (RT ?_)
        obtain rfl := sj h
        exact FT (vi (0 : Int)) rfl
end Go.Proofs.Ythniebmammmacaa
namespace Go.Proofs.Ythniebmammmacaa
open Go.RowKit
def p89 (k : Nat) (u0_0 : Int) (u0_1 : List (List Int)) (u0_2 : List WT) (u1 : List Int) : Option Int :=
 cl (p29 k u0_0 u0_1 u0_2) fun v1 => lt' (v1 != (0 : Int)) fun b2 => sp b2 (some v1) (cl (p40 k u1) fun v3 => some v3)
theorem hf89 : Try.prog.funcs[89]? = some Try.f89 := by kernel_rfl
theorem w89 (k : Nat) {M : Mem} {Au0_1 Au0_2 : Option Addr} {cu0_1 cu0_2 : Nat} {Hu0_2 : Nat → Option Addr} {Cu0_2 : Nat → Nat} {u0_0 : Int} {u0_1 : List (List Int)} {u0_2 : List WT} {u1 : List Int} (hu0_1 : SlR M Au0_1 cu0_1 .i64 12 u0_1) (hu0_2 : SlW M 3 Au0_2 cu0_2 Hu0_2 Cu0_2 u0_2) (hu1 : u1.length = 6) {r} (h : p89 k u0_0 u0_1 u0_2 u1 = some r) :
  Fn Try.prog 89 [rval (.agg [oI u0_0,oS Au0_1 u0_1 cu0_1,oS Au0_2 u0_2 cu0_2]),rval (.agg [.arr .i64 6 u1])] M (fun x _ => x = vi r) := by
 unfold p89 at h
 refine FO [.agg [oI u0_0,oS Au0_1 u0_1 cu0_1,oS Au0_2 u0_2 cu0_2],.agg [.arr .i64 6 u1]] hf89 ⟨⟨rfl,⟨rfl,⟨rfl,trivial⟩⟩⟩,⟨⟨hu1,trivial⟩,trivial⟩⟩ fun w => ?_
 refine SQ0 (RG ?_)
 refine SG 3 (S4 [(2,lO 2),(3,lO 3)] [(2,[oI u0_0,oS Au0_1 u0_1 cu0_1,oS Au0_2 u0_2 cu0_2]),(3,[.arr .i64 6 u1])] [] M) ?_
 refine EN (SQ (RG ?_))
 refine SH 1 [(3,lO 3),(6,.agg [oI u0_0,oS Au0_1 u0_1 cu0_1,oS Au0_2 u0_2 cu0_2])] [(3,[.arr .i64 6 u1])] ?_
 obtain ⟨v1,c_v1,h⟩ := cl_some h
 refine AC 7 (vi v1) (w29 k hu0_1 hu0_2 c_v1) ?_
 refine SH 3 [(3,lO 3),(5,vi v1)] [(3,[.arr .i64 6 u1])] ?_
 refine EN (SQ (SQ (RG ?_)))
 obtain ⟨b2,e_b2,h⟩ := lt_some h
 refine SS 2 [(3,lO 3),(5,vi v1),(9,vb b2)] ?_ (by subst e_b2;kernel_rfl)
 refine EN ?_
 cases b2 with
 | true =>
  replace h := sp_t h
  refine CT ?_
  refine KP [(5,vi v1)] [] [] ?_
  refine SQ (RG ?_)
  refine SS 2 [(4,vi v1)] ?_
  refine EN (RT (thenQ_r ?_))
  obtain rfl := sj h
  exact FT (vi v1) rfl
 | false =>
  replace h := sp_f h
  refine CF ?_
  refine KS [(3,lO 3)] ?_
  refine SN (SQ (RG ?_))
  refine SH 1 [(11,.agg [.arr .i64 6 u1])] [] ?_
  obtain ⟨v3,c_v3,h⟩ := cl_some h
  refine AC 12 (vi v3) (w40 k hu1 c_v3) ?_
  refine SH 3 [(4,vi v3)] [] ?_
  refine EN (RT ?_)
  obtain rfl := sj h
  exact FT (vi v3) rfl
def p13_l1 (k : Nat) (u0_2 : List WT) (j5 : Option Bool) : Nat → Int → Option Bool
 | 0,_ => none
 | n7 + 1,x6 => lt' (decide (x6 < (u0_2.length : Int))) fun b8 => sp b8 (gd ((0 : Int) ≤ x6 ∧ x6 < (u0_2.length : Int)) <| lt' ((List.getD u0_2 ((x6).toNat) ([],[])).1) fun L10 => lt' (decide ((L10.length : Int) > (40 : Int))) fun b11 => sp b11 (some true) (lt' (wr .i64 (x6 + (1 : Int))) fun x12 => p13_l1 k u0_2 j5 n7 x12)) (j5)
def p13 (k : Nat) (u0_0 : Int) (u0_1 : List (List Int)) (u0_2 : List WT) : Option Bool :=
 jn (fun (b1 : Bool) => sp b1 (some true) (jn (jn (fun (b13 : Bool) => some b13) fun j14 => cl (p29 k u0_0 u0_1 u0_2) fun v15 => lt' (v15 == (0 : Int)) fun b16 => sp b16 (lt' (decide (u0_0 > (12 : Int))) fun b17 => sp b17 (j14 true) (lt' (decide ((u0_1.length : Int) > (30 : Int))) fun b18 => sp b18 (j14 true) (lt' (decide ((u0_2.length : Int) > (5 : Int))) fun b19 => j14 b19))) (j14 false)) fun j5 => p13_l1 k u0_2 j5 k (0 : Int))) fun j2 => lt' (decide ((u0_1.length : Int) > (300 : Int))) fun b3 => sp b3 (j2 true) (lt' (decide ((u0_2.length : Int) > (20 : Int))) fun b4 => j2 b4)
theorem hf13 : Try.prog.funcs[13]? = some Try.f13 := by kernel_rfl
theorem w13 (k : Nat) {M : Mem} {Au0_1 Au0_2 : Option Addr} {cu0_1 cu0_2 : Nat} {Hu0_2 : Nat → Option Addr} {Cu0_2 : Nat → Nat} {u0_0 : Int} {u0_1 : List (List Int)} {u0_2 : List WT} (hu0_1 : SlR M Au0_1 cu0_1 .i64 12 u0_1) (hu0_2 : SlW M 3 Au0_2 cu0_2 Hu0_2 Cu0_2 u0_2) {r} (h : p13 k u0_0 u0_1 u0_2 = some r) :
  Fn Try.prog 13 [rval (.agg [oI u0_0,oS Au0_1 u0_1 cu0_1,oS Au0_2 u0_2 cu0_2])] M (fun x _ => x = vb r) := by
 unfold p13 at h
 refine FO [.agg [oI u0_0,oS Au0_1 u0_1 cu0_1,oS Au0_2 u0_2 cu0_2]] hf13 ⟨⟨rfl,⟨rfl,⟨rfl,trivial⟩⟩⟩,trivial⟩ fun w => ?_
 refine SQ0 (RG ?_)
 refine SG 2 (S4 [(1,lO 1)] [(1,[oI u0_0,oS Au0_1 u0_1 cu0_1,oS Au0_2 u0_2 cu0_2])] [] M) ?_
 refine EN (SQ ?_)
 obtain ⟨j2,e_j2,h⟩ := jn_some h
 refine T_cut (c1:=(sub [1,0,0] Bd13)) (c2:=(sub [1,0,1] Bd13)) (fun s' => ∃ (b1 : Bool),Sub { σ := [(1,lO 1),(13,vb b1)],H := [(1,[oI u0_0,oS Au0_1 u0_1 cu0_1,oS Au0_2 u0_2 cu0_2])],V := [],M := M,ds := [] } s' ∧ j2 b1 = some r) (by kernel_rfl) ?_ ?_
 ·refine RG ?_
  obtain ⟨b3,e_b3,h⟩ := lt_some h
  refine SG 5 (S4 [(1,lO 1),(8,vb b3)] [(1,[oI u0_0,oS Au0_1 u0_1 cu0_1,oS Au0_2 u0_2 cu0_2])] [] M) ?_ (by subst e_b3;kernel_rfl)
  cases b3 with
  | true =>
   replace h := sp_t h
   refine SS 10 [(1,lO 1),(13,vb true)] ?_
   refine EN ?_
   exact ⟨true,keep_sub (ts:=[1,13]) (hs:=[1]) (vs:=[]) (by kernel_rfl),h⟩
  | false =>
   replace h := sp_f h
   obtain ⟨b4,e_b4,h⟩ := lt_some h
   refine SS 10 [(1,lO 1),(13,vb b4)] ?_ (by subst e_b4;kernel_rfl)
   refine EN ?_
   exact ⟨b4,keep_sub (ts:=[1,13]) (hs:=[1]) (vs:=[]) (by kernel_rfl),h⟩
 ·rintro s' ⟨b1,hsub,h⟩
  subst e_j2
  refine T_sub hsub ?_
  cases b1 with
  | true =>
   replace h := sp_t h
   refine CT ?_
   refine KG (S4 [] [] [] M) ?_
   refine SQ (RG ?_)
   refine SS 1 [(2,vb true)] ?_
   refine EN (RT (thenQ_r ?_))
   obtain rfl := sj h
   exact FT (vb true) rfl
  | false =>
   replace h := sp_f h
   refine CF ?_
   refine KG (S4 [(1,lO 1)] [(1,[oI u0_0,oS Au0_1 u0_1 cu0_1,oS Au0_2 u0_2 cu0_2])] [] M) ?_
   refine SN (SQ (SQ (RG ?_)))
   refine SS 1 [(1,lO 1),(3,vi (0 : Int))] ?_
   refine EN ?_
   obtain ⟨j5,e_j5,h⟩ := jn_some h
   refine T_bcut (id:=0) (c1:=(sub [1,1,0,1,0] Bd13)) (fun s' => Sub { σ := [(1,lO 1)],H := [(1,[oI u0_0,oS Au0_1 u0_1 cu0_1,oS Au0_2 u0_2 cu0_2])],V := [],M := M,ds := [] } s' ∧ j5 = some r) (by kernel_rfl) ?_ ?_
   ·refine T_loop (c1:=(sub [1,1,0,1,0,0] Bd13)) (by kernel_rfl) (fun n7 s' => ∃ (x6 : Int),Sub { σ := [(1,lO 1),(3,vi x6)],H := [(1,[oI u0_0,oS Au0_1 u0_1 cu0_1,oS Au0_2 u0_2 cu0_2])],V := [],M := M,ds := [] } s' ∧ p13_l1 k u0_2 j5 n7 x6 = some r) (k:=k) ⟨(0 : Int),keep_sub (ts:=[1,3]) (hs:=[1]) (vs:=[]) (by kernel_rfl),h⟩ ?_
    rintro n7 s' ⟨x6,hsub,h⟩
    cases n7 with
    | zero => rw [p13_l1] at h;cases h
    | succ n7 =>
     rw [p13_l1] at h
     refine T_sub hsub ?_
     refine SQ (SQ (RG ?_))
     obtain ⟨b8,e_b8,h⟩ := lt_some h
     refine SG 5 (S4 [(1,lO 1),(3,vi x6),(18,vb b8)] [(1,[oI u0_0,oS Au0_1 u0_1 cu0_1,oS Au0_2 u0_2 cu0_2])] [] M) ?_ (by subst e_b8;kernel_rfl)
     refine EN ?_
     cases b8 with
     | true =>
      replace h := sp_t h
      refine CT ?_
      refine KS [(1,lO 1),(3,vi x6)] ?_
      refine SN (SQ (BK 1 (SQ (RG ?_))))
      refine SS 3 [(1,lO 1),(3,vi x6),(22,lS Au0_2 u0_2 cu0_2),(23,vi x6)] ?_
      obtain ⟨g9,h⟩ := gd_some h
      refine AT 24 (.lf (.ep (.slice Au0_2 (u0_2.length) cu0_2) 4 ((x6).toNat) 0)) (At_idxSW (m:=3) (z:=x6) (by kernel_rfl) g9 hu0_2) ?_
      refine SH 5 [(1,lO 1),(3,vi x6),(25,.lf (.ep (.slice Au0_2 (u0_2.length) cu0_2) 4 ((x6).toNat) 0))] [(1,[oI u0_0,oS Au0_1 u0_1 cu0_1,oS Au0_2 u0_2 cu0_2])] ?_
      obtain ⟨L10,e_L10,h⟩ := lt_some h
      have f_L10 : SlI M (Hu0_2 ((x6).toNat)) (Cu0_2 ((x6).toNat)) .i64 L10 := by rw [e_L10]; exact (hu0_2).rows _ (toNat_lt g9)
      refine AT 26 (lS (Hu0_2 ((x6).toNat)) L10 (Cu0_2 ((x6).toNat))) (by rw [e_L10]; exact At_ldSW0 (m:=3) (q:=(x6).toNat) (by subst e_L10; kernel_rfl) (toNat_lt g9) hu0_2) ?_
      obtain ⟨b11,e_b11,h⟩ := lt_some h
      refine SH 8 [(1,lO 1),(3,vi x6),(28,vb b11)] [(1,[oI u0_0,oS Au0_1 u0_1 cu0_1,oS Au0_2 u0_2 cu0_2])] ?_ (by subst e_b11;kernel_rfl)
      refine EN ?_
      cases b11 with
      | true =>
       replace h := sp_t h
       refine CT ?_
       refine KP [] [] [] ?_
       refine SQ (RG ?_)
       refine SS 1 [(2,vb true)] ?_
       refine EN (RT (blockQ_r (thenQ_r (thenQ_r (blockQ_r (thenQ_r (thenQ_r ?_)))))))
       obtain rfl := sj h
       exact FT (vb true) rfl
      | false =>
       replace h := sp_f h
       refine CF ?_
       refine KS [(1,lO 1),(3,vi x6)] ?_
       refine S0 (blockQ_n (thenQ_n (RG ?_)))
       obtain ⟨x12,e_x12,h⟩ := lt_some h
       refine SS 3 [(1,lO 1),(3,vi x12)] ?_ (by subst e_x12;kernel_rfl)
       refine EN ?_
       exact ⟨n7,Nat.lt_succ_self _,x12,keep_sub (ts:=[1,3]) (hs:=[1]) (vs:=[]) (by kernel_rfl),h⟩
     | false =>
      replace h := sp_f h
      refine CF ?_
      refine KS [(1,lO 1)] ?_
      refine XI 0 (thenQ_x (thenQ_x (blockQ_x (thenQ_n ?_))))
      exact ⟨keep_sub (ts:=[1]) (hs:=[1]) (vs:=[]) (by kernel_rfl),h⟩
   ·rintro s' ⟨hsub,h⟩
    subst e_j5
    refine thenQ_n ?_
    refine T_sub hsub ?_
    obtain ⟨j14,e_j14,h⟩ := jn_some h
    refine T_cut (c1:=(sub [1,1,1,0] Bd13)) (c2:=(sub [1,1,1,1] Bd13)) (fun s' => ∃ (b13 : Bool),Sub { σ := [(2,vb b13)],H := [],V := [],M := M,ds := [] } s' ∧ j14 b13 = some r) (by kernel_rfl) ?_ ?_
    ·refine RG ?_
     refine SG 1 (S4 [(1,lO 1),(29,.agg [oI u0_0,oS Au0_1 u0_1 cu0_1,oS Au0_2 u0_2 cu0_2])] [(1,[oI u0_0,oS Au0_1 u0_1 cu0_1,oS Au0_2 u0_2 cu0_2])] [] M) ?_
     obtain ⟨v15,c_v15,h⟩ := cl_some h
     refine AC 30 (vi v15) (w29 k hu0_1 hu0_2 c_v15) ?_
     obtain ⟨b16,e_b16,h⟩ := lt_some h
     refine SH 4 [(1,lO 1),(32,vb b16)] [(1,[oI u0_0,oS Au0_1 u0_1 cu0_1,oS Au0_2 u0_2 cu0_2])] ?_ (by subst e_b16;kernel_rfl)
     cases b16 with
     | true =>
      replace h := sp_t h
      obtain ⟨b17,e_b17,h⟩ := lt_some h
      refine SS 8 [(1,lO 1),(32,vb true),(36,vb b17)] ?_ (by subst e_b17;kernel_rfl)
      cases b17 with
      | true =>
       replace h := sp_t h
       refine SH 21 [(2,vb true)] [] ?_
       refine EN ?_
       exact ⟨true,keep_sub (ts:=[2]) (hs:=[]) (vs:=[]) (by kernel_rfl),h⟩
      | false =>
       replace h := sp_f h
       obtain ⟨b18,e_b18,h⟩ := lt_some h
       refine SS 14 [(1,lO 1),(32,vb true),(42,vb b18)] ?_ (by subst e_b18;kernel_rfl)
       cases b18 with
       | true =>
        replace h := sp_t h
        refine SH 21 [(2,vb true)] [] ?_
        refine EN ?_
        exact ⟨true,keep_sub (ts:=[2]) (hs:=[]) (vs:=[]) (by kernel_rfl),h⟩
       | false =>
        replace h := sp_f h
        obtain ⟨b19,e_b19,h⟩ := lt_some h
        refine SH 21 [(2,vb b19)] [] ?_ (by subst e_b19;kernel_rfl)
        refine EN ?_
        exact ⟨b19,keep_sub (ts:=[2]) (hs:=[]) (vs:=[]) (by kernel_rfl),h⟩
     | false =>
      replace h := sp_f h
      refine SH 21 [(2,vb false)] [] ?_
      refine EN ?_
      exact ⟨false,keep_sub (ts:=[2]) (hs:=[]) (vs:=[]) (by kernel_rfl),h⟩
    ·rintro s' ⟨b13,hsub,h⟩
     subst e_j14
     refine T_sub hsub ?_
     refine RT ?_
     obtain rfl := sj h
     exact FT (vb b13) rfl
def p37 (k : Nat) (u0_0 : Int) (u0_1 : List (List Int)) (u0_2 : List WT) (u1 : List Int) (u2 : List Int) (u3 : List Int) : Option (List (List Int) × Int) :=
 cl (p89 k u0_0 u0_1 u0_2 u1) fun v3 => lt' (v3 != (0 : Int)) fun b4 => sp b4 (some (([] : List (List Int)),v3)) (cl (p83 k u2 (u0_2.length : Int)) fun v5 => sp v5 (cl (p90 k u0_0 u0_1 u0_2 u3) fun v6 => lt' (v6 != (0 : Int)) fun b7 => sp b7 (some (([] : List (List Int)),v6)) (cl (p91 k u0_0 u0_1 u0_2 u1 u2 u3) fun v8 => some (v8,(0 : Int)))) (some (([] : List (List Int)),(3 : Int))))
theorem hf37 : Try.prog.funcs[37]? = some Try.f37 := by kernel_rfl
theorem w37 (k : Nat) {M : Mem} {Au0_1 Au0_2 Au2 Au3 : Option Addr} {cu0_1 cu0_2 cu2 cu3 : Nat} {Hu0_2 : Nat → Option Addr} {Cu0_2 : Nat → Nat} {u0_0 : Int} {u0_1 : List (List Int)} {u0_2 : List WT} {u1 u2 u3 : List Int} (hu0_1 : SlR M Au0_1 cu0_1 .i64 12 u0_1) (hu0_2 : SlW M 3 Au0_2 cu0_2 Hu0_2 Cu0_2 u0_2) (hu1 : u1.length = 6) (hu2 : SlI M Au2 cu2 .i64 u2) (hu3 : SlI M Au3 cu3 .i64 u3) {r} (h : p37 k u0_0 u0_1 u0_2 u1 u2 u3 = some r) :
  Fn Try.prog 37 [rval (.agg [oI u0_0,oS Au0_1 u0_1 cu0_1,oS Au0_2 u0_2 cu0_2]),rval (.agg [.arr .i64 6 u1]),rval (lS Au2 u2 cu2),rval (lS Au3 u3 cu3)] M (fun x M' => ∃ (A1 : Option Addr) (c2 : Nat),x = .tup [(some (.v (.slice A1 (List.length r.1) c2)),[]),(some (.v (.int .i64 r.2)),[])] ∧ SlR M' A1 c2 .i64 4 r.1) := by
 unfold p37 at h
 refine FO [.agg [oI u0_0,oS Au0_1 u0_1 cu0_1,oS Au0_2 u0_2 cu0_2],.agg [.arr .i64 6 u1],lS Au2 u2 cu2,lS Au3 u3 cu3] hf37 ⟨⟨rfl,⟨rfl,⟨rfl,trivial⟩⟩⟩,⟨⟨hu1,trivial⟩,⟨trivial,⟨trivial,trivial⟩⟩⟩⟩ fun w => ?_
 refine SQ0 (RG ?_)
 refine SG 4 (S4 [(2,lS Au2 u2 cu2),(3,lS Au3 u3 cu3),(4,lO 4),(5,lO 5)] [(4,[oI u0_0,oS Au0_1 u0_1 cu0_1,oS Au0_2 u0_2 cu0_2]),(5,[.arr .i64 6 u1])] [] M) ?_
 refine EN (SQ (RG ?_))
 refine SS 2 [(2,lS Au2 u2 cu2),(3,lS Au3 u3 cu3),(4,lO 4),(5,lO 5),(11,.agg [oI u0_0,oS Au0_1 u0_1 cu0_1,oS Au0_2 u0_2 cu0_2]),(12,.agg [.arr .i64 6 u1])] ?_
 obtain ⟨v3,c_v3,h⟩ := cl_some h
 refine AC 13 (vi v3) (w89 k hu0_1 hu0_2 hu1 c_v3) ?_
 refine SH 4 [(2,lS Au2 u2 cu2),(3,lS Au3 u3 cu3),(4,lO 4),(5,lO 5),(10,vi v3)] [(4,[oI u0_0,oS Au0_1 u0_1 cu0_1,oS Au0_2 u0_2 cu0_2]),(5,[.arr .i64 6 u1])] ?_
 refine EN (SQ (SQ (RG ?_)))
 obtain ⟨b4,e_b4,h⟩ := lt_some h
 refine SS 2 [(2,lS Au2 u2 cu2),(3,lS Au3 u3 cu3),(4,lO 4),(5,lO 5),(10,vi v3),(15,vb b4)] ?_ (by subst e_b4;kernel_rfl)
 refine EN ?_
 cases b4 with
 | true =>
  replace h := sp_t h
  refine CT ?_
  refine KP [(10,vi v3)] [] [] ?_
  refine SQ (RG ?_)
  refine SS 3 [(8,lS none ([] : List (List Int)) 0),(9,vi v3)] ?_
  refine EN (RT (thenQ_r ?_))
  obtain rfl := sj h
  refine FT (.tup [(some (.v (.slice none (List.length ([] : List (List Int))) 0)),[]),(some (.v (.int .i64 v3)),[])]) ?_
  exact ⟨none,0,rfl,(nilR _ _ _ _)⟩
 | false =>
  replace h := sp_f h
  refine CF ?_
  refine KS [(2,lS Au2 u2 cu2),(3,lS Au3 u3 cu3),(4,lO 4),(5,lO 5)] ?_
  refine SN (SQ (SQ (RG ?_)))
  refine SS 4 [(2,lS Au2 u2 cu2),(3,lS Au3 u3 cu3),(4,lO 4),(5,lO 5),(17,lS Au2 u2 cu2),(20,vi (u0_2.length : Int))] ?_
  obtain ⟨v5,c_v5,h⟩ := cl_some h
  refine AC 21 (vb v5) (w83 k hu2 c_v5) ?_
  refine SH 6 [(2,lS Au2 u2 cu2),(3,lS Au3 u3 cu3),(4,lO 4),(5,lO 5),(22,vb (!v5))] [(4,[oI u0_0,oS Au0_1 u0_1 cu0_1,oS Au0_2 u0_2 cu0_2]),(5,[.arr .i64 6 u1])] ?_
  refine EN ?_
  cases v5 with
  | true =>
   replace h := sp_t h
   refine CF ?_
   refine KS [(2,lS Au2 u2 cu2),(3,lS Au3 u3 cu3),(4,lO 4),(5,lO 5)] ?_
   refine SN (SQ (RG ?_))
   refine SS 2 [(2,lS Au2 u2 cu2),(3,lS Au3 u3 cu3),(4,lO 4),(5,lO 5),(23,.agg [oI u0_0,oS Au0_1 u0_1 cu0_1,oS Au0_2 u0_2 cu0_2]),(24,lS Au3 u3 cu3)] ?_
   obtain ⟨v6,c_v6,h⟩ := cl_some h
   refine AC 25 (vi v6) (w90 k hu0_1 hu0_2 hu3 c_v6) ?_
   refine SH 4 [(2,lS Au2 u2 cu2),(3,lS Au3 u3 cu3),(4,lO 4),(5,lO 5),(10,vi v6)] [(4,[oI u0_0,oS Au0_1 u0_1 cu0_1,oS Au0_2 u0_2 cu0_2]),(5,[.arr .i64 6 u1])] ?_
   refine EN (SQ (SQ (RG ?_)))
   obtain ⟨b7,e_b7,h⟩ := lt_some h
   refine SS 2 [(2,lS Au2 u2 cu2),(3,lS Au3 u3 cu3),(4,lO 4),(5,lO 5),(10,vi v6),(27,vb b7)] ?_ (by subst e_b7;kernel_rfl)
   refine EN ?_
   cases b7 with
   | true =>
    replace h := sp_t h
    refine CT ?_
    refine KP [(10,vi v6)] [] [] ?_
    refine SQ (RG ?_)
    refine SS 3 [(8,lS none ([] : List (List Int)) 0),(9,vi v6)] ?_
    refine EN (RT (thenQ_r ?_))
    obtain rfl := sj h
    refine FT (.tup [(some (.v (.slice none (List.length ([] : List (List Int))) 0)),[]),(some (.v (.int .i64 v6)),[])]) ?_
    exact ⟨none,0,rfl,(nilR _ _ _ _)⟩
   | false =>
    replace h := sp_f h
    refine CF ?_
    refine KS [(2,lS Au2 u2 cu2),(3,lS Au3 u3 cu3),(4,lO 4),(5,lO 5)] ?_
    refine SN (SQ (RG ?_))
    refine SH 4 [(29,.agg [oI u0_0,oS Au0_1 u0_1 cu0_1,oS Au0_2 u0_2 cu0_2]),(30,.agg [.arr .i64 6 u1]),(31,lS Au2 u2 cu2),(32,lS Au3 u3 cu3)] [] ?_
    obtain ⟨v8,c_v8,h⟩ := cl_some h
    refine TI_of (i:=4) (by kernel_rfl) (TE_callR (d:=33) (f:=91) (args:=[rval (.agg [oI u0_0,oS Au0_1 u0_1 cu0_1,oS Au0_2 u0_2 cu0_2]),rval (.agg [.arr .i64 6 u1]),rval (lS Au2 u2 cu2),rval (lS Au3 u3 cu3)]) (by kernel_rfl) (by kernel_rfl) (w91 k hu0_1 hu0_2 hu1 hu2 hu3 c_v8) ?_)
    rintro _ M11 _ hM11 _ ⟨A9,c10,rfl,fA9⟩
    refine SG 7 (S4 [(8,lS A9 v8 c10),(9,vi (0 : Int))] [] [] M11) ?_
    refine EN (RT ?_)
    obtain rfl := sj h
    refine FT (.tup [(some (.v (.slice A9 (v8.length) c10)),[]),(some (.v (.int .i64 (0 : Int))),[])]) ?_
    exact ⟨A9,c10,rfl,fA9⟩
  | false =>
   replace h := sp_f h
   refine CT ?_
   refine KP [] [] [] ?_
   refine SQ (RG ?_)
   refine SS 2 [(8,lS none ([] : List (List Int)) 0),(9,vi (3 : Int))] ?_
   refine EN (RT (thenQ_r ?_))
   obtain rfl := sj h
   refine FT (.tup [(some (.v (.slice none (List.length ([] : List (List Int))) 0)),[]),(some (.v (.int .i64 (3 : Int))),[])]) ?_
   exact ⟨none,0,rfl,(nilR _ _ _ _)⟩
def p43_l1 (k : Nat) (u0_1 : List (List Int)) (u1 : List Int) (j6 : Option (Int × Int)) : Nat → Int → Option (Int × Int)
 | 0,_ => none
 | n8 + 1,x7 => lt' (decide (x7 < (u1.length : Int))) fun b9 => sp b9 (jn (fun (b10 : Bool) => sp b10 (some ((0 : Int),(16 : Int))) (lt' (wr .i64 (x7 + (1 : Int))) fun x23 => p43_l1 k u0_1 u1 j6 n8 x23)) fun j11 => lt' (decide (x7 > (0 : Int))) fun b12 => sp b12 (gd ((0 : Int) ≤ x7 ∧ x7 < (u1.length : Int)) <| lt' (List.getD u1 ((x7).toNat) 0) fun x14 => gd ((0 : Int) ≤ x14 ∧ x14 < (u0_1.length : Int)) <| lt' (List.getD (List.getD u0_1 ((x14).toNat) []) 0 0) fun x16 => lt' (wr .i64 (x7 - (1 : Int))) fun x17 => gd ((0 : Int) ≤ x17 ∧ x17 < (u1.length : Int)) <| lt' (List.getD u1 ((x17).toNat) 0) fun x19 => gd ((0 : Int) ≤ x19 ∧ x19 < (u0_1.length : Int)) <| lt' (List.getD (List.getD u0_1 ((x19).toNat) []) 1 0) fun x21 => lt' (x16 != x21) fun b22 => j11 b22) (j11 false)) (j6)
def p43_l2 (k : Nat) (u0_1 : List (List Int)) (u1 : List Int) (j25 : Int → Option (Int × Int)) : Nat → Int → Int → Option (Int × Int)
 | 0,_,_ => none
 | n28 + 1,x26,x27 => lt' (decide (x27 < (u1.length : Int))) fun b29 => sp b29 (gd ((0 : Int) ≤ x27 ∧ x27 < (u1.length : Int)) <| lt' (List.getD u1 ((x27).toNat) 0) fun x31 => gd ((0 : Int) ≤ x31 ∧ x31 < (u0_1.length : Int)) <| lt' (List.getD u0_1 ((x31).toNat) []) fun L33 => cl (p61 k L33 x26) fun v34 => lt' (wr .i64 (x27 + (1 : Int))) fun x35 => p43_l2 k u0_1 u1 j25 n28 v34 x35) (j25 x26)
def p43 (k : Nat) (u0_0 : Int) (u0_1 : List (List Int)) (u0_2 : List WT) (u1 : List Int) (u2 : Int) : Option (Int × Int) :=
 cl (p29 k u0_0 u0_1 u0_2) fun v1 => lt' (v1 != (0 : Int)) fun b2 => sp b2 (some ((0 : Int),v1)) (cl (p90 k u0_0 u0_1 u0_2 u1) fun v3 => lt' (v3 != (0 : Int)) fun b4 => sp b4 (some ((0 : Int),v3)) (cl (p65 k u2 (0 : Int) (1099511627776 : Int)) fun v5 => sp v5 (jn (jn (fun (x24 : Int) => some (x24,(0 : Int))) fun j25 => p43_l2 k u0_1 u1 j25 k u2 (0 : Int)) fun j6 => p43_l1 k u0_1 u1 j6 k (0 : Int)) (some ((0 : Int),(3 : Int)))))
theorem hf43 : Try.prog.funcs[43]? = some Try.f43 := by kernel_rfl
theorem w43 (k : Nat) {M : Mem} {Au0_1 Au0_2 Au1 : Option Addr} {cu0_1 cu0_2 cu1 : Nat} {Hu0_2 : Nat → Option Addr} {Cu0_2 : Nat → Nat} {u0_0 u2 : Int} {u0_1 : List (List Int)} {u0_2 : List WT} {u1 : List Int} (hu0_1 : SlR M Au0_1 cu0_1 .i64 12 u0_1) (hu0_2 : SlW M 3 Au0_2 cu0_2 Hu0_2 Cu0_2 u0_2) (hu1 : SlI M Au1 cu1 .i64 u1) {r} (h : p43 k u0_0 u0_1 u0_2 u1 u2 = some r) :
  Fn Try.prog 43 [rval (.agg [oI u0_0,oS Au0_1 u0_1 cu0_1,oS Au0_2 u0_2 cu0_2]),rval (lS Au1 u1 cu1),rval (vi u2)] M (fun x _ => x = .tup [(some (.v (.int .i64 r.1)),[]),(some (.v (.int .i64 r.2)),[])]) := by
 unfold p43 at h
 refine FO [.agg [oI u0_0,oS Au0_1 u0_1 cu0_1,oS Au0_2 u0_2 cu0_2],lS Au1 u1 cu1,vi u2] hf43 ⟨⟨rfl,⟨rfl,⟨rfl,trivial⟩⟩⟩,⟨trivial,⟨trivial,trivial⟩⟩⟩ fun w => ?_
 refine SQ0 (RG ?_)
 refine SG 3 (S4 [(1,lS Au1 u1 cu1),(2,vi u2),(3,lO 3)] [(3,[oI u0_0,oS Au0_1 u0_1 cu0_1,oS Au0_2 u0_2 cu0_2])] [] M) ?_
 refine EN (SQ (RG ?_))
 refine SS 1 [(1,lS Au1 u1 cu1),(2,vi u2),(3,lO 3),(11,.agg [oI u0_0,oS Au0_1 u0_1 cu0_1,oS Au0_2 u0_2 cu0_2])] ?_
 obtain ⟨v1,c_v1,h⟩ := cl_some h
 refine AC 12 (vi v1) (w29 k hu0_1 hu0_2 c_v1) ?_
 refine SH 3 [(1,lS Au1 u1 cu1),(2,vi u2),(3,lO 3),(8,vi v1)] [(3,[oI u0_0,oS Au0_1 u0_1 cu0_1,oS Au0_2 u0_2 cu0_2])] ?_
 refine EN (SQ (SQ (RG ?_)))
 obtain ⟨b2,e_b2,h⟩ := lt_some h
 refine SS 2 [(1,lS Au1 u1 cu1),(2,vi u2),(3,lO 3),(8,vi v1),(14,vb b2)] ?_ (by subst e_b2;kernel_rfl)
 refine EN ?_
 cases b2 with
 | true =>
  replace h := sp_t h
  refine CT ?_
  refine KP [(8,vi v1)] [] [] ?_
  refine SQ (RG ?_)
  refine SS 3 [(6,vi (0 : Int)),(7,vi v1)] ?_
  refine EN (RT (thenQ_r ?_))
  obtain rfl := sj h
  exact FT (.tup [(some (.v (.int .i64 (0 : Int))),[]),(some (.v (.int .i64 v1)),[])]) rfl
 | false =>
  replace h := sp_f h
  refine CF ?_
  refine KS [(1,lS Au1 u1 cu1),(2,vi u2),(3,lO 3)] ?_
  refine SN (SQ (RG ?_))
  refine SS 2 [(1,lS Au1 u1 cu1),(2,vi u2),(3,lO 3),(16,.agg [oI u0_0,oS Au0_1 u0_1 cu0_1,oS Au0_2 u0_2 cu0_2]),(17,lS Au1 u1 cu1)] ?_
  obtain ⟨v3,c_v3,h⟩ := cl_some h
  refine AC 18 (vi v3) (w90 k hu0_1 hu0_2 hu1 c_v3) ?_
  refine SH 4 [(1,lS Au1 u1 cu1),(2,vi u2),(3,lO 3),(8,vi v3)] [(3,[oI u0_0,oS Au0_1 u0_1 cu0_1,oS Au0_2 u0_2 cu0_2])] ?_
  refine EN (SQ (SQ (RG ?_)))
  obtain ⟨b4,e_b4,h⟩ := lt_some h
  refine SS 2 [(1,lS Au1 u1 cu1),(2,vi u2),(3,lO 3),(8,vi v3),(20,vb b4)] ?_ (by subst e_b4;kernel_rfl)
  refine EN ?_
  cases b4 with
  | true =>
   replace h := sp_t h
   refine CT ?_
   refine KP [(8,vi v3)] [] [] ?_
   refine SQ (RG ?_)
   refine SS 3 [(6,vi (0 : Int)),(7,vi v3)] ?_
   refine EN (RT (thenQ_r ?_))
   obtain rfl := sj h
   exact FT (.tup [(some (.v (.int .i64 (0 : Int))),[]),(some (.v (.int .i64 v3)),[])]) rfl
  | false =>
   replace h := sp_f h
   refine CF ?_
   refine KS [(1,lS Au1 u1 cu1),(2,vi u2),(3,lO 3)] ?_
   refine SN (SQ (SQ (RG ?_)))
   refine SS 1 [(1,lS Au1 u1 cu1),(2,vi u2),(3,lO 3),(22,vi u2)] ?_
   obtain ⟨v5,c_v5,h⟩ := cl_some h
   refine AC 23 (vb v5) (w65 k  c_v5) ?_
   refine SH 3 [(1,lS Au1 u1 cu1),(2,vi u2),(3,lO 3),(24,vb (!v5))] [(3,[oI u0_0,oS Au0_1 u0_1 cu0_1,oS Au0_2 u0_2 cu0_2])] ?_
   refine EN ?_
   cases v5 with
   | true =>
    replace h := sp_t h
    refine CF ?_
    refine KS [(1,lS Au1 u1 cu1),(2,vi u2),(3,lO 3)] ?_
    refine SN (SQ (SQ (RG ?_)))
    refine SS 1 [(1,lS Au1 u1 cu1),(2,vi u2),(3,lO 3),(9,vi (0 : Int))] ?_
    refine EN ?_
    obtain ⟨j6,e_j6,h⟩ := jn_some h
    refine T_bcut (id:=0) (c1:=(sub [1,1,1,1,1,1,0,1,0] Bd43)) (fun s' => Sub { σ := [(1,lS Au1 u1 cu1),(2,vi u2),(3,lO 3)],H := [(3,[oI u0_0,oS Au0_1 u0_1 cu0_1,oS Au0_2 u0_2 cu0_2])],V := [],M := M,ds := [] } s' ∧ j6 = some r) (by kernel_rfl) ?_ ?_
    ·refine T_loop (c1:=(sub [1,1,1,1,1,1,0,1,0,0] Bd43)) (by kernel_rfl) (fun n8 s' => ∃ (x7 : Int),Sub { σ := [(1,lS Au1 u1 cu1),(2,vi u2),(3,lO 3),(9,vi x7)],H := [(3,[oI u0_0,oS Au0_1 u0_1 cu0_1,oS Au0_2 u0_2 cu0_2])],V := [],M := M,ds := [] } s' ∧ p43_l1 k u0_1 u1 j6 n8 x7 = some r) (k:=k) ⟨(0 : Int),keep_sub (ts:=[1,2,3,9]) (hs:=[3]) (vs:=[]) (by kernel_rfl),h⟩ ?_
     rintro n8 s' ⟨x7,hsub,h⟩
     cases n8 with
     | zero => rw [p43_l1] at h;cases h
     | succ n8 =>
      rw [p43_l1] at h
      refine T_sub hsub ?_
      refine SQ (SQ (RG ?_))
      obtain ⟨b9,e_b9,h⟩ := lt_some h
      refine SG 4 (S4 [(1,lS Au1 u1 cu1),(2,vi u2),(3,lO 3),(9,vi x7),(28,vb b9)] [(3,[oI u0_0,oS Au0_1 u0_1 cu0_1,oS Au0_2 u0_2 cu0_2])] [] M) ?_ (by subst e_b9;kernel_rfl)
      refine EN ?_
      cases b9 with
      | true =>
       replace h := sp_t h
       refine CT ?_
       refine KS [(1,lS Au1 u1 cu1),(2,vi u2),(3,lO 3),(9,vi x7)] ?_
       refine SN (SQ (BK 1 ?_))
       obtain ⟨j11,e_j11,h⟩ := jn_some h
       refine T_cut (c1:=(sub [1,1,1,1,1,1,0,1,0,0,1,0,0,0] Bd43)) (c2:=(sub [1,1,1,1,1,1,0,1,0,0,1,0,0,1] Bd43)) (fun s' => ∃ (b10 : Bool),Sub { σ := [(1,lS Au1 u1 cu1),(2,vi u2),(3,lO 3),(9,vi x7),(54,vb b10)],H := [(3,[oI u0_0,oS Au0_1 u0_1 cu0_1,oS Au0_2 u0_2 cu0_2])],V := [],M := M,ds := [] } s' ∧ j11 b10 = some r) (by kernel_rfl) ?_ ?_
       ·obtain ⟨b12,e_b12,h⟩ := lt_some h
        cases b12 with
        | true =>
         replace h := sp_t h
         obtain ⟨g13,h⟩ := gd_some h
         obtain ⟨x14,e_x14,h⟩ := lt_some h
         obtain ⟨g15,h⟩ := gd_some h
         obtain ⟨x16,e_x16,h⟩ := lt_some h
         obtain ⟨x17,e_x17,h⟩ := lt_some h
         obtain ⟨g18,h⟩ := gd_some h
         obtain ⟨x19,e_x19,h⟩ := lt_some h
         obtain ⟨g20,h⟩ := gd_some h
         obtain ⟨x21,e_x21,h⟩ := lt_some h
         obtain ⟨b22,e_b22,h⟩ := lt_some h
         refine T_draw' (id:=12) [] [0,0,0,0,0,0,0,0,0,0,0,0,0,0,0,0,0,0,0,0,0,0,0,0] (by kernel_rfl) (by kernel_rfl) (by kernel_rfl) (by kernel_rfl) [(31,vi x7),(32,vb true),(33,vb true),(34,.lf (.own 3 1)),(35,lS Au0_1 u0_1 cu0_1),(36,lS Au1 u1 cu1),(37,vi x7),(38,.lf (.ep (.slice Au1 (u1.length) cu1) 1 ((x7).toNat) 0)),(39,vi x14),(40,.lf (.ep (.slice Au0_1 (u0_1.length) cu0_1) 12 ((x14).toNat) 0)),(41,.lf (.ep (.slice Au0_1 (u0_1.length) cu0_1) 12 ((x14).toNat) 0)),(42,vi x16),(43,.lf (.own 3 1)),(44,lS Au0_1 u0_1 cu0_1),(45,lS Au1 u1 cu1),(46,vi x7),(47,vi x17),(48,.lf (.ep (.slice Au1 (u1.length) cu1) 1 ((x17).toNat) 0)),(49,vi x19),(50,.lf (.ep (.slice Au0_1 (u0_1.length) cu0_1) 12 ((x19).toNat) 0)),(51,.lf (.ep (.slice Au0_1 (u0_1.length) cu0_1) 12 ((x19).toNat) 1)),(52,vi x21),(53,vb b22),(54,vb b22)] (by kernel_rfl) (wfs_lf _ (by kernel_rfl)) ?_
         refine Stage_nil (stage_all' [0,2,3,4,5,6,10,12,13,14,15,16,20,22,23] [1,7,8,9,11,17,18,19,21] (by kernel_rfl) (by subst_vars; kernel_rfl) (by kernel_rfl) ⟨QF_at (i:=1) (d:=32) (x:=vb true) (show OpAt _ _ _ 1 32 _ from by exact At_bin (d:=32) (b:=.gtr) (u:=.int .i64 x7) (v:=.int .i64 (0 : Int)) (w':=.bool true) (by subst_vars; kernel_rfl) (by rw [show exBin .gtr (.int .i64 x7) (.int .i64 (0 : Int)) = some (.bool (decide (x7 > (0 : Int)))) from by kernel_rfl,← e_b12])) (by kernel_rfl) (by subst_vars; kernel_rfl),⟨QF_at (i:=7) (d:=38) (x:=.lf (.ep (.slice Au1 (u1.length) cu1) 1 ((x7).toNat) 0)) (show OpAt _ _ _ 7 38 _ from by exact At_idxI (d:=38) (z:=x7) (by subst_vars; kernel_rfl) g13 hu1) (by kernel_rfl) (by subst_vars; kernel_rfl),⟨QF_at (i:=8) (d:=39) (x:=vi x14) (show OpAt _ _ _ 8 39 _ from by rw [e_x14]; exact At_ldI (d:=39) (q:=(x7).toNat) (by subst_vars; kernel_rfl) (toNat_lt g13) hu1) (by kernel_rfl) (by subst_vars; kernel_rfl),⟨QF_at (i:=9) (d:=40) (x:=.lf (.ep (.slice Au0_1 (u0_1.length) cu0_1) 12 ((x14).toNat) 0)) (show OpAt _ _ _ 9 40 _ from by exact At_idxR (d:=40) (z:=x14) (by subst_vars; kernel_rfl) g15 hu0_1) (by kernel_rfl) (by subst_vars; kernel_rfl),⟨QF_at (i:=11) (d:=42) (x:=vi x16) (show OpAt _ _ _ 11 42 _ from by rw [e_x16]; exact At_ldR1 (d:=42) (q:=(x14).toNat) (j:=0) (by subst_vars; kernel_rfl) rfl (toNat_lt g15) hu0_1) (by kernel_rfl) (by subst_vars; kernel_rfl),⟨QF_at (i:=17) (d:=48) (x:=.lf (.ep (.slice Au1 (u1.length) cu1) 1 ((x17).toNat) 0)) (show OpAt _ _ _ 17 48 _ from by exact At_idxI (d:=48) (z:=x17) (by subst_vars; kernel_rfl) g18 hu1) (by kernel_rfl) (by subst_vars; kernel_rfl),⟨QF_at (i:=18) (d:=49) (x:=vi x19) (show OpAt _ _ _ 18 49 _ from by rw [e_x19]; exact At_ldI (d:=49) (q:=(x17).toNat) (by subst_vars; kernel_rfl) (toNat_lt g18) hu1) (by kernel_rfl) (by subst_vars; kernel_rfl),⟨QF_at (i:=19) (d:=50) (x:=.lf (.ep (.slice Au0_1 (u0_1.length) cu0_1) 12 ((x19).toNat) 0)) (show OpAt _ _ _ 19 50 _ from by exact At_idxR (d:=50) (z:=x19) (by subst_vars; kernel_rfl) g20 hu0_1) (by kernel_rfl) (by subst_vars; kernel_rfl),⟨QF_at (i:=21) (d:=52) (x:=vi x21) (show OpAt _ _ _ 21 52 _ from by rw [e_x21]; exact At_ldR1 (d:=52) (q:=(x19).toNat) (j:=1) (by subst_vars; kernel_rfl) rfl (toNat_lt g20) hu0_1) (by kernel_rfl) (by subst_vars; kernel_rfl),trivial⟩⟩⟩⟩⟩⟩⟩⟩⟩) ?_
         refine thenQ_n ?_
         exact ⟨b22,keep_sub (ts:=[1,2,3,9,54]) (hs:=[3]) (vs:=[]) (by subst_vars;kernel_rfl),h⟩
        | false =>
         replace h := sp_f h
         refine T_draw' (id:=12) [] [0,0,0,0,0,0,0,0,0,0,0,0,0,0,0,0,0,0,0,0,0,0,0,0] (by kernel_rfl) (by kernel_rfl) (by kernel_rfl) (by kernel_rfl) [(31,vi x7),(32,vb false),(33,vb false),(34,.tup []),(35,.tup []),(36,.tup []),(37,.tup []),(38,.tup []),(39,.tup []),(40,.tup []),(41,.tup []),(42,.tup []),(43,.tup []),(44,.tup []),(45,.tup []),(46,.tup []),(47,.tup []),(48,.tup []),(49,.tup []),(50,.tup []),(51,.tup []),(52,.tup []),(53,.tup []),(54,vb false)] (by kernel_rfl) ⟨trivial,⟨trivial,⟨trivial,⟨(by intro y hy;cases hy),⟨(by intro y hy;cases hy),⟨(by intro y hy;cases hy),⟨(by intro y hy;cases hy),⟨(by intro y hy;cases hy),⟨(by intro y hy;cases hy),⟨(by intro y hy;cases hy),⟨(by intro y hy;cases hy),⟨(by intro y hy;cases hy),⟨(by intro y hy;cases hy),⟨(by intro y hy;cases hy),⟨(by intro y hy;cases hy),⟨(by intro y hy;cases hy),⟨(by intro y hy;cases hy),⟨(by intro y hy;cases hy),⟨(by intro y hy;cases hy),⟨(by intro y hy;cases hy),⟨(by intro y hy;cases hy),⟨(by intro y hy;cases hy),⟨(by intro y hy;cases hy),⟨trivial,trivial⟩⟩⟩⟩⟩⟩⟩⟩⟩⟩⟩⟩⟩⟩⟩⟩⟩⟩⟩⟩⟩⟩⟩⟩ ?_
         refine Stage_nil (stage_all' [0,2,3,4,5,6,7,8,9,10,11,12,13,14,15,16,17,18,19,20,21,22,23] [1] (by kernel_rfl) (by kernel_rfl) (by kernel_rfl) ⟨QF_at (i:=1) (d:=32) (x:=vb false) (show OpAt _ _ _ 1 32 _ from by exact At_bin (d:=32) (b:=.gtr) (u:=.int .i64 x7) (v:=.int .i64 (0 : Int)) (w':=.bool false) (by kernel_rfl) (by rw [show exBin .gtr (.int .i64 x7) (.int .i64 (0 : Int)) = some (.bool (decide (x7 > (0 : Int)))) from by kernel_rfl,← e_b12])) (by kernel_rfl) (by kernel_rfl),trivial⟩) ?_
         refine thenQ_n ?_
         exact ⟨false,keep_sub (ts:=[1,2,3,9,54]) (hs:=[3]) (vs:=[]) (by kernel_rfl),h⟩
       ·rintro s' ⟨b10,hsub,h⟩
        subst e_j11
        refine T_sub hsub ?_
        cases b10 with
        | true =>
         replace h := sp_t h
         refine CT ?_
         refine KG (S4 [] [] [] M) ?_
         refine SQ (RG ?_)
         refine SS 2 [(6,vi (0 : Int)),(7,vi (16 : Int))] ?_
         refine EN (RT (blockQ_r (thenQ_r (thenQ_r (blockQ_r (thenQ_r (thenQ_r ?_)))))))
         obtain rfl := sj h
         exact FT (.tup [(some (.v (.int .i64 (0 : Int))),[]),(some (.v (.int .i64 (16 : Int))),[])]) rfl
        | false =>
         replace h := sp_f h
         refine CF ?_
         refine KG (S4 [(1,lS Au1 u1 cu1),(2,vi u2),(3,lO 3),(9,vi x7)] [(3,[oI u0_0,oS Au0_1 u0_1 cu0_1,oS Au0_2 u0_2 cu0_2])] [] M) ?_
         refine S0 (blockQ_n (thenQ_n (RG ?_)))
         obtain ⟨x23,e_x23,h⟩ := lt_some h
         refine SS 3 [(1,lS Au1 u1 cu1),(2,vi u2),(3,lO 3),(9,vi x23)] ?_ (by subst e_x23;kernel_rfl)
         refine EN ?_
         exact ⟨n8,Nat.lt_succ_self _,x23,keep_sub (ts:=[1,2,3,9]) (hs:=[3]) (vs:=[]) (by kernel_rfl),h⟩
      | false =>
       replace h := sp_f h
       refine CF ?_
       refine KS [(1,lS Au1 u1 cu1),(2,vi u2),(3,lO 3)] ?_
       refine XI 0 (thenQ_x (thenQ_x (blockQ_x (thenQ_n ?_))))
       exact ⟨keep_sub (ts:=[1,2,3]) (hs:=[3]) (vs:=[]) (by kernel_rfl),h⟩
    ·rintro s' ⟨hsub,h⟩
     subst e_j6
     refine thenQ_n ?_
     refine T_sub hsub ?_
     refine SQ (SQ (RG ?_))
     refine SG 1 (S4 [(1,lS Au1 u1 cu1),(2,vi u2),(3,lO 3),(10,vi (0 : Int))] [(3,[oI u0_0,oS Au0_1 u0_1 cu0_1,oS Au0_2 u0_2 cu0_2])] [] M) ?_
     refine EN ?_
     obtain ⟨j25,e_j25,h⟩ := jn_some h
     refine T_bcut (id:=2) (c1:=(sub [1,1,1,1,1,1,1,0,1,0] Bd43)) (fun s' => ∃ (x24 : Int),Sub { σ := [(2,vi x24)],H := [],V := [],M := M,ds := [] } s' ∧ j25 x24 = some r) (by kernel_rfl) ?_ ?_
     ·refine T_loop (c1:=(sub [1,1,1,1,1,1,1,0,1,0,0] Bd43)) (by kernel_rfl) (fun n28 s' => ∃ (x26 : Int) (x27 : Int),Sub { σ := [(1,lS Au1 u1 cu1),(2,vi x26),(3,lO 3),(10,vi x27)],H := [(3,[oI u0_0,oS Au0_1 u0_1 cu0_1,oS Au0_2 u0_2 cu0_2])],V := [],M := M,ds := [] } s' ∧ p43_l2 k u0_1 u1 j25 n28 x26 x27 = some r) (k:=k) ⟨u2,(0 : Int),keep_sub (ts:=[1,2,3,10]) (hs:=[3]) (vs:=[]) (by kernel_rfl),h⟩ ?_
      rintro n28 s' ⟨x26,x27,hsub,h⟩
      cases n28 with
      | zero => rw [p43_l2] at h;cases h
      | succ n28 =>
       rw [p43_l2] at h
       refine T_sub hsub ?_
       refine SQ (SQ (RG ?_))
       obtain ⟨b29,e_b29,h⟩ := lt_some h
       refine SG 4 (S4 [(1,lS Au1 u1 cu1),(2,vi x26),(3,lO 3),(10,vi x27),(58,vb b29)] [(3,[oI u0_0,oS Au0_1 u0_1 cu0_1,oS Au0_2 u0_2 cu0_2])] [] M) ?_ (by subst e_b29;kernel_rfl)
       refine EN ?_
       cases b29 with
       | true =>
        replace h := sp_t h
        refine CT ?_
        refine KS [(1,lS Au1 u1 cu1),(2,vi x26),(3,lO 3),(10,vi x27)] ?_
        refine SN (SQ (BK 3 ?_))
        obtain ⟨g30,h⟩ := gd_some h
        obtain ⟨x31,e_x31,h⟩ := lt_some h
        obtain ⟨g32,h⟩ := gd_some h
        obtain ⟨L33,e_L33,h⟩ := lt_some h
        have l_L33 : (L33).length = 12 := by rw [e_L33]; exact SlR_row hu0_1 (toNat_lt g32)
        obtain ⟨v34,c_v34,h⟩ := cl_some h
        refine T_draw' (id:=17) [10] [0,0,0,0,0,0,0,0,0,0,0] (by kernel_rfl) (by kernel_rfl) (by kernel_rfl) (by kernel_rfl) [(61,.lf (.own 3 1)),(62,lS Au0_1 u0_1 cu0_1),(63,lS Au1 u1 cu1),(64,vi x27),(65,.lf (.ep (.slice Au1 (u1.length) cu1) 1 ((x27).toNat) 0)),(66,vi x31),(67,.lf (.ep (.slice Au0_1 (u0_1.length) cu0_1) 12 ((x31).toNat) 0)),(68,.agg [.arr .i64 12 L33]),(69,vi x26),(70,vi v34)] (by kernel_rfl) ⟨trivial,⟨trivial,⟨trivial,⟨trivial,⟨trivial,⟨trivial,⟨trivial,⟨⟨l_L33,trivial⟩,⟨trivial,⟨trivial,trivial⟩⟩⟩⟩⟩⟩⟩⟩⟩⟩ ?_
        refine Stage_ex (stage_all' [0,1,2,3,8] [4,5,6,7,9] (by kernel_rfl) (by subst e_L33 e_x31; kernel_rfl) (by kernel_rfl) ⟨QF_at (i:=4) (d:=65) (x:=.lf (.ep (.slice Au1 (u1.length) cu1) 1 ((x27).toNat) 0)) (show OpAt _ _ _ 4 65 _ from by exact At_idxI (d:=65) (z:=x27) (by subst e_L33 e_x31; kernel_rfl) g30 hu1) (by kernel_rfl) (by subst e_L33 e_x31; kernel_rfl),⟨QF_at (i:=5) (d:=66) (x:=vi x31) (show OpAt _ _ _ 5 66 _ from by rw [e_x31]; exact At_ldI (d:=66) (q:=(x27).toNat) (by subst e_L33 e_x31; kernel_rfl) (toNat_lt g30) hu1) (by kernel_rfl) (by subst e_L33 e_x31; kernel_rfl),⟨QF_at (i:=6) (d:=67) (x:=.lf (.ep (.slice Au0_1 (u0_1.length) cu0_1) 12 ((x31).toNat) 0)) (show OpAt _ _ _ 6 67 _ from by exact At_idxR (d:=67) (z:=x31) (by subst e_L33 e_x31; kernel_rfl) g32 hu0_1) (by kernel_rfl) (by subst e_L33 e_x31; kernel_rfl),⟨QF_at (i:=7) (d:=68) (x:=.agg [.arr .i64 12 L33]) (show OpAt _ _ _ 7 68 _ from by rw [e_L33]; exact At_ldRow (d:=68) (q:=(x31).toNat) (by subst e_L33 e_x31; kernel_rfl) (toNat_lt g32) hu0_1) (by kernel_rfl) (by subst e_L33 e_x31; kernel_rfl),⟨QF_at (i:=9) (d:=70) (x:=vi v34) (show OpAt _ _ _ 9 70 _ from by exact At_call (d:=70) (f:=61) (args:=[rval (.agg [.arr .i64 12 L33]),rval (vi x26)]) (x:=vi v34) (by subst e_L33 e_x31; kernel_rfl) (w61 k l_L33 c_v34)) (by kernel_rfl) (by subst e_L33 e_x31; kernel_rfl),trivial⟩⟩⟩⟩⟩) ({ σ := [(2,vi v34),(61,.lf (.own 3 1)),(62,lS Au0_1 u0_1 cu0_1),(63,lS Au1 u1 cu1),(64,vi x27),(65,.lf (.ep (.slice Au1 (u1.length) cu1) 1 ((x27).toNat) 0)),(66,vi x31),(67,.lf (.ep (.slice Au0_1 (u0_1.length) cu0_1) 12 ((x31).toNat) 0)),(68,.agg [.arr .i64 12 L33]),(69,vi x26),(70,vi v34),(1,lS Au1 u1 cu1),(2,vi x26),(3,lO 3),(10,vi x27)],H := [(3,[oI u0_0,oS Au0_1 u0_1 cu0_1,oS Au0_2 u0_2 cu0_2])],V := [],M := M,ds := [] }) (by subst e_L33 e_x31; kernel_rfl) [] (by kernel_rfl) trivial ?_
        refine Stage_nil (stage_all' [] [] (by kernel_rfl) (by subst e_L33 e_x31;kernel_rfl) (by kernel_rfl) trivial) ?_
        refine blockQ_n (thenQ_n ?_)
        refine KG (S4 [(1,lS Au1 u1 cu1),(2,vi v34),(3,lO 3),(10,vi x27)] [(3,[oI u0_0,oS Au0_1 u0_1 cu0_1,oS Au0_2 u0_2 cu0_2])] [] M) ?_ (by subst e_L33 e_x31;kernel_rfl)
        refine RG ?_
        obtain ⟨x35,e_x35,h⟩ := lt_some h
        refine SS 3 [(1,lS Au1 u1 cu1),(2,vi v34),(3,lO 3),(10,vi x35)] ?_ (by subst e_x35;kernel_rfl)
        refine EN ?_
        exact ⟨n28,Nat.lt_succ_self _,v34,x35,keep_sub (ts:=[1,2,3,10]) (hs:=[3]) (vs:=[]) (by kernel_rfl),h⟩
       | false =>
        replace h := sp_f h
        refine CF ?_
        refine KP [(2,vi x26)] [] [] ?_
        refine XI 2 (thenQ_x (thenQ_x (blockQ_x (thenQ_n ?_))))
        exact ⟨x26,keep_sub (ts:=[2]) (hs:=[]) (vs:=[]) (by kernel_rfl),h⟩
     ·rintro s' ⟨x24,hsub,h⟩
      subst e_j25
      refine thenQ_n ?_
      refine T_sub hsub ?_
      refine SQ (RG ?_)
      refine SG 3 (S4 [(6,vi x24),(7,vi (0 : Int))] [] [] M) ?_
      refine EN (RT ?_)
      obtain rfl := sj h
      exact FT (.tup [(some (.v (.int .i64 x24)),[]),(some (.v (.int .i64 (0 : Int))),[])]) rfl
   | false =>
    replace h := sp_f h
    refine CT ?_
    refine KP [] [] [] ?_
    refine SQ (RG ?_)
    refine SS 2 [(6,vi (0 : Int)),(7,vi (3 : Int))] ?_
    refine EN (RT (thenQ_r ?_))
    obtain rfl := sj h
    exact FT (.tup [(some (.v (.int .i64 (0 : Int))),[]),(some (.v (.int .i64 (3 : Int))),[])]) rfl
end Go.Proofs.Ythniebmammmacaa
namespace Go.Proofs.Ythniebmammmacaa
open Go.RowKit
def p142_l1 (k : Nat) (u0 : List Int) (u1 : Int) (j1 : Option Int) : Nat → Int → Option Int
 | 0,_ => none
 | n3 + 1,x2 => lt' (decide (x2 < (u0.length : Int))) fun b4 => sp b4 (gd ((0 : Int) ≤ x2 ∧ x2 < (u0.length : Int)) <| lt' (List.getD u0 ((x2).toNat) 0) fun x6 => lt' (u1 == x6) fun b7 => sp b7 (some x2) (lt' (wr .i64 (x2 + (1 : Int))) fun x8 => p142_l1 k u0 u1 j1 n3 x8)) (j1)
def p142 (k : Nat) (u0 : List Int) (u1 : Int) : Option Int :=
 jn (some (-1 : Int)) fun j1 => p142_l1 k u0 u1 j1 k (0 : Int)
theorem hf142 : Try.prog.funcs[142]? = some Try.f142 := by kernel_rfl
theorem w142 (k : Nat) {M : Mem} {Au0 : Option Addr} {cu0 : Nat} {u0 : List Int} {u1 : Int} (hu0 : SlI M Au0 cu0 .i64 u0) {r} (h : p142 k u0 u1 = some r) :
  Fn Try.prog 142 [rval (lS Au0 u0 cu0),rval (vi u1)] M (fun x _ => x = vi r) := by
 unfold p142 at h
 refine FO [lS Au0 u0 cu0,vi u1] hf142 ⟨trivial,⟨trivial,trivial⟩⟩ fun w => ?_
 refine SQ0 (RG ?_)
 refine SG 1 (S4 [(0,lS Au0 u0 cu0),(1,vi u1)] [] [] M) ?_
 refine EN (SQ (SQ (RG ?_)))
 refine SS 3 [(0,lS Au0 u0 cu0),(1,vi u1),(7,vi (u0.length : Int)),(8,vi (0 : Int))] ?_
 refine EN ?_
 obtain ⟨j1,e_j1,h⟩ := jn_some h
 refine T_bcut (id:=0) (c1:=(sub [1,0,1,0] Bd142)) (fun s' => Sub { σ := [],H := [],V := [],M := M,ds := [] } s' ∧ j1 = some r) (by kernel_rfl) ?_ ?_
 ·refine T_loop (c1:=(sub [1,0,1,0,0] Bd142)) (by kernel_rfl) (fun n3 s' => ∃ (x2 : Int),Sub { σ := [(0,lS Au0 u0 cu0),(1,vi u1),(7,vi (u0.length : Int)),(8,vi x2)],H := [],V := [],M := M,ds := [] } s' ∧ p142_l1 k u0 u1 j1 n3 x2 = some r) (k:=k) ⟨(0 : Int),keep_sub (ts:=[0,1,7,8]) (hs:=[]) (vs:=[]) (by kernel_rfl),h⟩ ?_
  rintro n3 s' ⟨x2,hsub,h⟩
  cases n3 with
  | zero => rw [p142_l1] at h;cases h
  | succ n3 =>
   rw [p142_l1] at h
   refine T_sub hsub ?_
   refine SQ (RG ?_)
   obtain ⟨b4,e_b4,h⟩ := lt_some h
   refine SG 1 (S4 [(0,lS Au0 u0 cu0),(1,vi u1),(7,vi (u0.length : Int)),(8,vi x2),(9,vb b4)] [] [] M) ?_ (by subst e_b4;kernel_rfl)
   refine EN (SQ ?_)
   cases b4 with
   | true =>
    replace h := sp_t h
    refine CT ?_
    refine KS [(0,lS Au0 u0 cu0),(1,vi u1),(7,vi (u0.length : Int)),(8,vi x2)] ?_
    refine SN (SQ (BK 1 (SQ (RG ?_))))
    refine SS 2 [(0,lS Au0 u0 cu0),(1,vi u1),(5,vi x2),(7,vi (u0.length : Int)),(8,vi x2)] ?_
    refine EN (SQ (RG ?_))
    refine SS 3 [(0,lS Au0 u0 cu0),(1,vi u1),(5,vi x2),(7,vi (u0.length : Int)),(8,vi x2),(11,vi u1),(12,lS Au0 u0 cu0),(13,vi x2)] ?_
    obtain ⟨g5,h⟩ := gd_some h
    refine AT 14 (.lf (.ep (.slice Au0 (u0.length) cu0) 1 ((x2).toNat) 0)) (At_idxI (z:=x2) (by kernel_rfl) g5 hu0) ?_
    obtain ⟨x6,e_x6,h⟩ := lt_some h
    refine AT 15 (vi x6) (by rw [e_x6]; exact At_ldI (q:=(x2).toNat) (by subst e_x6; kernel_rfl) (toNat_lt g5) hu0) ?_
    obtain ⟨b7,e_b7,h⟩ := lt_some h
    refine SH 6 [(0,lS Au0 u0 cu0),(1,vi u1),(5,vi x2),(7,vi (u0.length : Int)),(8,vi x2),(16,vb b7)] [] ?_ (by subst e_b7;kernel_rfl)
    refine EN ?_
    cases b7 with
    | true =>
     replace h := sp_t h
     refine CT ?_
     refine KS [(5,vi x2)] ?_
     refine SQ (RG ?_)
     refine SS 2 [(4,vi x2)] ?_
     refine EN (RT (blockQ_r (thenQ_r (thenQ_r (blockQ_r (thenQ_r (thenQ_r ?_)))))))
     obtain rfl := sj h
     exact FT (vi x2) rfl
    | false =>
     replace h := sp_f h
     refine CF ?_
     refine KS [(0,lS Au0 u0 cu0),(1,vi u1),(7,vi (u0.length : Int)),(8,vi x2)] ?_
     refine S0 (blockQ_n (thenQ_n (RG ?_)))
     obtain ⟨x8,e_x8,h⟩ := lt_some h
     refine SS 2 [(0,lS Au0 u0 cu0),(1,vi u1),(7,vi (u0.length : Int)),(8,vi x8)] ?_ (by subst e_x8;kernel_rfl)
     refine EN ?_
     exact ⟨n3,Nat.lt_succ_self _,x8,keep_sub (ts:=[0,1,7,8]) (hs:=[]) (vs:=[]) (by kernel_rfl),h⟩
   | false =>
    replace h := sp_f h
    refine CF ?_
    refine KS [] ?_
    refine XI 0 (thenQ_x (thenQ_x (blockQ_x (thenQ_n ?_))))
    exact ⟨keep_sub (ts:=[]) (hs:=[]) (vs:=[]) (by kernel_rfl),h⟩
 ·rintro s' ⟨hsub,h⟩
  subst e_j1
  refine thenQ_n ?_
  refine T_sub hsub ?_
  refine SQ (RG ?_)
  refine SG 1 (S4 [(4,vi (-1 : Int))] [] [] M) ?_
  refine EN (RT ?_)
  obtain rfl := sj h
  exact FT (vi (-1 : Int)) rfl
def p131 (k : Nat) (u0 : List Int) (u1 : Int) : Option Bool :=
 cl (p142 k u0 u1) fun v1 => lt' (decide (v1 ≥ (0 : Int))) fun b2 => some b2
theorem hf131 : Try.prog.funcs[131]? = some Try.f131 := by kernel_rfl
theorem w131 (k : Nat) {M : Mem} {Au0 : Option Addr} {cu0 : Nat} {u0 : List Int} {u1 : Int} (hu0 : SlI M Au0 cu0 .i64 u0) {r} (h : p131 k u0 u1 = some r) :
  Fn Try.prog 131 [rval (lS Au0 u0 cu0),rval (vi u1)] M (fun x _ => x = vb r) := by
 unfold p131 at h
 refine FO [lS Au0 u0 cu0,vi u1] hf131 ⟨trivial,⟨trivial,trivial⟩⟩ fun w => ?_
 refine SQ0 (RG ?_)
 refine SG 1 (S4 [(0,lS Au0 u0 cu0),(1,vi u1)] [] [] M) ?_
 refine EN (SQ (RG ?_))
 refine SS 2 [(5,lS Au0 u0 cu0),(6,vi u1)] ?_
 obtain ⟨v1,c_v1,h⟩ := cl_some h
 refine AC 7 (vi v1) (w142 k hu0 c_v1) ?_
 obtain ⟨b2,e_b2,h⟩ := lt_some h
 refine SH 5 [(4,vb b2)] [] ?_ (by subst e_b2;kernel_rfl)
 refine EN (RT ?_)
 obtain rfl := sj h
 exact FT (vb b2) rfl
def p124_l1 (k : Nat) (u1G : Int) : Nat → Int → Option (List (Int))
 | 0,_ => none
 | n2 + 1,x1 => gd (0 ≤ x1) <| lt' (Int.fdiv u1G (2 ^ (min (x1).toNat (IntKind.bits .u64)))) fun x6 => lt' (x6 != (0 : Int)) fun b7 => sp b7 (gd (0 ≤ x1) <| lt' (Int.fdiv u1G (2 ^ (min (x1).toNat (IntKind.bits .u64)))) fun x9 => lt' (wr .u64 (band .u64 x9 (1 : Int))) fun x10 => lt' (x10 == (1 : Int)) fun b11 => sp b11 (cl (lt' (wr .i64 (x1 + (1 : Int))) fun x13 => p124_l1 k u1G n2 x13) fun r => some (x1::r)) (lt' (wr .i64 (x1 + (1 : Int))) fun x14 => p124_l1 k u1G n2 x14)) (some [])
def p124 (k : Nat) (u1G : Int) : Option (List (Int)) :=
 p124_l1 k u1G k (0 : Int)
theorem hf124 : Try.prog.funcs[124]? = some Try.f124 := by kernel_rfl
theorem w124 (k : Nat) {M : Mem} {bu1 : Nat} {u1G : Int} (hbu1 : MB M bu1 [.one (.v (.int .u64 u1G))]) {ks} (h : p124 k u1G = some ks) :
  IterE enI Try.prog 124 [(.pointer (some ⟨bu1,0,none⟩))] M ks := by
 unfold p124 at h
 refine IterE_of fun l J Jx W hyd hW h0 => ?_
 refine calls_TW (c:=bodyOf Try.f124) [.lf (.v (.func (.yield l) #[] #[])),lP bu1] hf124 (by kernel_rfl) (Nat.le_of_ble_eq_true (by kernel_rfl)) (by kernel_rfl) (by intro x hx; simp only [List.mem_cons,List.mem_nil_iff,or_false] at hx; rcases hx with rfl | rfl <;> trivial) hW ?_
 refine TW_pre (pre':=J M []) (by rintro w rfl;exact h0) ?_
 have hks : [] ++ ks = ks := rfl
 refine W_seq (c1:=(sub [0] Bd124)) (c2:=(sub [1] Bd124)) (by kernel_rfl) ?_
 refine TW_region (id:=0) (by kernel_rfl) ?_
 refine TWI_pure (y:=(3,vi (0 : Int))) (by kernel_rfl) ?_
 refine TWI_keep (σ':=[(0,.lf (.v (.func (.yield l) #[] #[]))),(1,lP bu1),(3,vi (0 : Int))]) [0,1,3] (by kernel_rfl) ?_
 refine WI_end (by kernel_rfl) ?_
 refine NQ_then ?_
 refine TW_block (id:=0) (c1:=(sub [1,0] Bd124)) (by kernel_rfl) ?_
 refine TW_keep (σ':=[(0,.lf (.v (.func (.yield l) #[] #[]))),(1,lP bu1),(3,vi (0 : Int))]) [0,1,3] (by kernel_rfl) ?_
 refine W_loop (γ:=(Int) × (List (Int)) × (List (Int))) (fun g => [(0,.lf (.v (.func (.yield l) #[] #[]))),(1,lP bu1),(3,vi g.1)]) (fun g => J M g.2.1) (fun n2 g => g.2.1 ++ g.2.2 = ks ∧ p124_l1 k u1G n2 g.1 = some g.2.2) (c1:=(sub [1,0,0] Bd124)) (g0:=((0 : Int),[],ks)) (k:=k) (by kernel_rfl) rfl ⟨hks,h⟩ (fun w hw => hw) ?_
 rintro n2 ⟨x1,pr3,rest4⟩ ⟨hks,h⟩
 replace hks : pr3 ++ rest4 = ks := hks
 replace h : p124_l1 k u1G n2 x1 = some rest4 := h
 change TW _ _ _ _ [(0,.lf (.v (.func (.yield l) #[] #[]))),(1,lP bu1),(3,vi x1)] (J M pr3) _
 cases n2 with
 | zero => rw [p124_l1] at h;cases h
 | succ n2 =>
  rw [p124_l1] at h
  refine W_seq (c1:=(sub [1,0,0,0] Bd124)) (c2:=(sub [1,0,0,1] Bd124)) (by kernel_rfl) ?_
  refine W_seq (c1:=(sub [1,0,0,0,0] Bd124)) (c2:=(sub [1,0,0,0,1] Bd124)) (by kernel_rfl) ?_
  refine TW_region (id:=1) (by kernel_rfl) ?_
  refine TWI_at (d:=4) (x:=.lf (.v (.int .u64 u1G))) (fun w => (At_ldP (d:=4) (b:=bu1) (off:=0) (m:=1) (v:=(.int .u64 u1G)) (by kernel_rfl) (cell_blk hbu1 ⟨rfl,trivial⟩ (by kernel_rfl)))) (hyd.gr _ _) (by kernel_rfl) trivial ?_
  refine TWI_pure (y:=(5,vi x1)) (by kernel_rfl) ?_
  obtain ⟨g5,h⟩ := gd_some h
  obtain ⟨x6,e_x6,h⟩ := lt_some h
  refine TWI_at (d:=6) (x:=.lf (.v (.int .u64 x6))) (fun w => (by rw [e_x6]; exact At_shr (d:=6) (k:=.u64) (k':=.i64) (m:=u1G) (n:=x1) (by subst e_x6; kernel_rfl) g5)) (hyd.gr _ _) (by kernel_rfl) trivial ?_
  obtain ⟨b7,e_b7,h⟩ := lt_some h
  refine TWI_pure (y:=(7,vb b7)) (by subst e_b7;kernel_rfl) ?_
  refine TWI_keep (σ':=[(0,.lf (.v (.func (.yield l) #[] #[]))),(1,lP bu1),(3,vi x1),(7,vb b7)]) [0,1,3,7] (by kernel_rfl) ?_
  refine WI_end (by kernel_rfl) ?_
  refine NQ_then ?_
  cases b7 with
  | true =>
   replace h := sp_t h
   refine W_condT (x:=(.tmp 7)) (c1:=(sub [1,0,0,0,1,0] Bd124)) (c2:=(sub [1,0,0,0,1,1] Bd124)) (by kernel_rfl) (by kernel_rfl) ?_
   refine TW_keep (σ':=[(0,.lf (.v (.func (.yield l) #[] #[]))),(1,lP bu1),(3,vi x1)]) [0,1,3] (by kernel_rfl) ?_
   refine W_skip (by kernel_rfl) ?_
   refine NQ_then ?_
   refine W_seq (c1:=(sub [1,0,0,1,0] Bd124)) (c2:=(sub [1,0,0,1,1] Bd124)) (by kernel_rfl) ?_
   refine TW_block (id:=1) (c1:=(sub [1,0,0,1,0,0] Bd124)) (by kernel_rfl) ?_
   refine W_seq (c1:=(sub [1,0,0,1,0,0,0] Bd124)) (c2:=(sub [1,0,0,1,0,0,1] Bd124)) (by kernel_rfl) ?_
   refine TW_region (id:=3) (by kernel_rfl) ?_
   refine TWI_at (d:=10) (x:=.lf (.v (.int .u64 u1G))) (fun w => (At_ldP (d:=10) (b:=bu1) (off:=0) (m:=1) (v:=(.int .u64 u1G)) (by kernel_rfl) (cell_blk hbu1 ⟨rfl,trivial⟩ (by kernel_rfl)))) (hyd.gr _ _) (by kernel_rfl) trivial ?_
   refine TWI_pure (y:=(11,vi x1)) (by kernel_rfl) ?_
   obtain ⟨g8,h⟩ := gd_some h
   obtain ⟨x9,e_x9,h⟩ := lt_some h
   refine TWI_at (d:=12) (x:=.lf (.v (.int .u64 x9))) (fun w => (by rw [e_x9]; exact At_shr (d:=12) (k:=.u64) (k':=.i64) (m:=u1G) (n:=x1) (by subst e_x9; kernel_rfl) g8)) (hyd.gr _ _) (by kernel_rfl) trivial ?_
   obtain ⟨x10,e_x10,h⟩ := lt_some h
   refine TWI_pure (y:=(13,.lf (.v (.int .u64 x10)))) (by subst e_x10;kernel_rfl) ?_
   obtain ⟨b11,e_b11,h⟩ := lt_some h
   refine TWI_pure (y:=(14,vb b11)) (by subst e_b11;kernel_rfl) ?_
   refine TWI_pure (y:=(15,vb b11)) (by kernel_rfl) ?_
   cases b11 with
   | true =>
    replace h := sp_t h
    refine TWI_pure (y:=(16,.lf (.v (.func (.yield l) #[] #[])))) (by kernel_rfl) ?_
    refine TWI_pure (y:=(17,vi x1)) (by kernel_rfl) ?_
    obtain ⟨rest12,h,erest12⟩ := cons_some h
    rw [erest12] at hks
    replace hks := pre_step hks
    refine WI_yield hyd (d:=18) (l:=l) (pr:=pr3) (x:=x1) (by kernel_rfl) rfl ⟨_,hks⟩ (by kernel_rfl) ?_ ?_
    ·refine TWI_pure (y:=(19,vb false)) (by kernel_rfl) ?_
     refine TWI_pure (y:=(20,vb false)) (by kernel_rfl) ?_
     refine TWI_keep (σ':=[(0,.lf (.v (.func (.yield l) #[] #[]))),(1,lP bu1),(3,vi x1),(20,vb false)]) [0,1,3,20] (by kernel_rfl) ?_
     refine WI_end (by kernel_rfl) ?_
     refine NQ_then ?_
     refine W_condF (x:=(.tmp 20)) (c1:=(sub [1,0,0,1,0,0,1,0] Bd124)) (c2:=(sub [1,0,0,1,0,0,1,1] Bd124)) (by kernel_rfl) (by kernel_rfl) ?_
     refine TW_keep (σ':=[(0,.lf (.v (.func (.yield l) #[] #[]))),(1,lP bu1),(3,vi x1)]) [0,1,3] (by kernel_rfl) ?_
     refine W_skip (by kernel_rfl) ?_
     refine NQ_bn ?_
     refine NQ_then ?_
     refine TW_region (id:=2) (by kernel_rfl) ?_
     refine TWI_pure (y:=(8,vi x1)) (by kernel_rfl) ?_
     obtain ⟨x13,e_x13,h⟩ := lt_some h
     refine TWI_pure (y:=(9,vi x13)) (by subst e_x13;kernel_rfl) ?_
     refine TWI_pure (y:=(3,vi x13)) (by kernel_rfl) ?_
     refine TWI_keep (σ':=[(0,.lf (.v (.func (.yield l) #[] #[]))),(1,lP bu1),(3,vi x13)]) [0,1,3] (by kernel_rfl) ?_
     refine WI_end (by kernel_rfl) ?_
     refine NQ_loop n2 (x13,(pr3 ++ [x1]),rest12) (Nat.lt_succ_self _) rfl ⟨hks,h⟩ (fun w hw => hw)
    ·refine TWI_pure (y:=(19,vb true)) (by kernel_rfl) ?_
     refine TWI_pure (y:=(20,vb true)) (by kernel_rfl) ?_
     refine TWI_keep (σ':=[(0,.lf (.v (.func (.yield l) #[] #[]))),(1,lP bu1),(3,vi x1),(20,vb true)]) [0,1,3,20] (by kernel_rfl) ?_
     refine WI_end (by kernel_rfl) ?_
     refine NQ_then ?_
     refine W_condT (x:=(.tmp 20)) (c1:=(sub [1,0,0,1,0,0,1,0] Bd124)) (c2:=(sub [1,0,0,1,0,0,1,1] Bd124)) (by kernel_rfl) (by kernel_rfl) ?_
     refine W_ret (by kernel_rfl) ?_
     refine NQ_br ?_
     refine NQ_thenr ?_
     refine NQ_thenr ?_
     refine NQ_br ?_
     exact fun w hw => ⟨.inr rfl,.inr hw.1⟩
   | false =>
    replace h := sp_f h
    refine TWI_pure (y:=(16,.tup [])) (by kernel_rfl) ?_
    refine TWI_pure (y:=(17,.tup [])) (by kernel_rfl) ?_
    refine TWI_pure (y:=(18,.tup [])) (by kernel_rfl) ?_
    refine TWI_pure (y:=(19,.tup [])) (by kernel_rfl) ?_
    refine TWI_pure (y:=(20,vb false)) (by kernel_rfl) ?_
    refine TWI_keep (σ':=[(0,.lf (.v (.func (.yield l) #[] #[]))),(1,lP bu1),(3,vi x1),(20,vb false)]) [0,1,3,20] (by kernel_rfl) ?_
    refine WI_end (by kernel_rfl) ?_
    refine NQ_then ?_
    refine W_condF (x:=(.tmp 20)) (c1:=(sub [1,0,0,1,0,0,1,0] Bd124)) (c2:=(sub [1,0,0,1,0,0,1,1] Bd124)) (by kernel_rfl) (by kernel_rfl) ?_
    refine TW_keep (σ':=[(0,.lf (.v (.func (.yield l) #[] #[]))),(1,lP bu1),(3,vi x1)]) [0,1,3] (by kernel_rfl) ?_
    refine W_skip (by kernel_rfl) ?_
    refine NQ_bn ?_
    refine NQ_then ?_
    refine TW_region (id:=2) (by kernel_rfl) ?_
    refine TWI_pure (y:=(8,vi x1)) (by kernel_rfl) ?_
    obtain ⟨x14,e_x14,h⟩ := lt_some h
    refine TWI_pure (y:=(9,vi x14)) (by subst e_x14;kernel_rfl) ?_
    refine TWI_pure (y:=(3,vi x14)) (by kernel_rfl) ?_
    refine TWI_keep (σ':=[(0,.lf (.v (.func (.yield l) #[] #[]))),(1,lP bu1),(3,vi x14)]) [0,1,3] (by kernel_rfl) ?_
    refine WI_end (by kernel_rfl) ?_
    refine NQ_loop n2 (x14,pr3,rest4) (Nat.lt_succ_self _) rfl ⟨hks,h⟩ (fun w hw => hw)
  | false =>
   replace h := sp_f h
   refine W_condF (x:=(.tmp 7)) (c1:=(sub [1,0,0,0,1,0] Bd124)) (c2:=(sub [1,0,0,0,1,1] Bd124)) (by kernel_rfl) (by kernel_rfl) ?_
   refine TW_keep (σ':=[]) [] (by kernel_rfl) ?_
   refine W_exit (id:=0) (by kernel_rfl) ?_
   refine NQ_thenx ?_
   refine NQ_thenx ?_
   refine NQ_bx ?_
   have hn := Option.some.inj h
   exact fun w hw => ⟨.inl rfl,.inl ⟨M,(show pr3 = ks from by rw [← hks,← hn,List.append_nil]) ▸ hw⟩⟩
def p79 (k : Nat) (u0 : Int) : Option (List (Int)) :=
 cl (p124 k u0) fun v4 => some v4
theorem hf79 : Try.prog.funcs[79]? = some Try.f79 := by kernel_rfl
theorem w79 (k : Nat) {M : Mem} {u0 : Int} {r} (h : p79 k u0 = some r) :
  Fn Try.prog 79 [rval (.lf (.v (.int .u64 u0)))] M (fun x M' => ∃ (lb1 : List Value),x = .lf (.v (.func (.func 124) #[] (List.toArray lb1))) ∧ IterE enI Try.prog 124 lb1 M' r) := by
 unfold p79 at h
 refine FO [.lf (.v (.int .u64 u0))] hf79 ⟨trivial,trivial⟩ fun w => ?_
 refine SQ0 (RG ?_)
 refine SG 2 (S4 [(1,lO 1)] [(1,[.one (.v (.int .u64 u0))])] [] M) ?_
 refine EN ?_
 refine T_turn (turn_pubH 1 (c:=[.one (.v (.int .u64 u0))]) (by kernel_rfl) (by kernel_rfl)) ?_
 rintro _ ⟨b2,M3,rfl,-,e_M3,-,hM3⟩
 have fb2 : MB M3 b2 [.one (.v (.int .u64 u0))] := by rw [e_M3]; exact addM_at _ _ _
 refine KG (S4 [(1,lP b2)] [] [] M3) ?_
 refine SQ (RG ?_)
 refine SS 2 [(2,.lf (.v (.func (.func 124) #[] #[(.pointer (some ⟨b2,0,none⟩))])))] ?_
 refine EN ?_
 obtain ⟨v4,c_v4,h⟩ := cl_some h
 refine RT ?_
 obtain rfl := sj h
 refine FT (.lf (.v (.func (.func 124) #[] (List.toArray [(.pointer (some ⟨b2,0,none⟩))])))) ?_
 exact ⟨[(.pointer (some ⟨b2,0,none⟩))],rfl,(w124 k fb2 c_v4)⟩
end Go.Proofs.Ythniebmammmacaa
namespace Go.Proofs.Ythniebmammmacaa
open Go.RowKit
def p77_r1 (k : Nat) (j7 : Int → Option Int) (u0_2 : List WT) : List (Int) → Int → Option Int
 | [],x4 => j7 x4
 | x6::rest5,x4 => gd ((0 : Int) ≤ x6 ∧ x6 < (u0_2.length : Int)) <| lt' (List.getD (List.getD u0_2 ((x6).toNat) ([],[])).2 2 0) fun x12 => lt' (wr .i64 (x4 + x12)) fun x13 => p77_r1 k j7 u0_2 rest5 x13
def p77 (k : Nat) (u0_0 : Int) (u0_1 : List (List Int)) (u0_2 : List WT) (u0_3 : List Int) (u1 : Int) : Option Int :=
 cl (p79 k u1) fun v1 => jn (fun (x4 : Int) => some x4) fun j7 => p77_r1 k j7 u0_2 v1 (0 : Int)
theorem hf77 : Try.prog.funcs[77]? = some Try.f77 := by kernel_rfl
theorem w77 (k : Nat) {M : Mem} {Au0_1 Au0_2 : Option Addr} {cu0_1 cu0_2 : Nat} {Hu0_2 : Nat → Option Addr} {Cu0_2 : Nat → Nat} {u0_0 u1 : Int} {u0_1 : List (List Int)} {u0_2 : List WT} {u0_3 : List Int} (hu0_1 : SlR M Au0_1 cu0_1 .i64 12 u0_1) (hu0_2 : SlW M 3 Au0_2 cu0_2 Hu0_2 Cu0_2 u0_2) (hu0_3 : u0_3.length = 6) {r} (h : p77 k u0_0 u0_1 u0_2 u0_3 u1 = some r) :
  Fn Try.prog 77 [rval (.agg [oI u0_0,oS Au0_1 u0_1 cu0_1,oS Au0_2 u0_2 cu0_2,.arr .i64 6 u0_3]),rval (.lf (.v (.int .u64 u1)))] M (fun x _ => x = vi r) := by
 unfold p77 at h
 refine FO [.agg [oI u0_0,oS Au0_1 u0_1 cu0_1,oS Au0_2 u0_2 cu0_2,.arr .i64 6 u0_3],.lf (.v (.int .u64 u1))] hf77 ⟨⟨rfl,⟨rfl,⟨rfl,⟨hu0_3,trivial⟩⟩⟩⟩,⟨trivial,trivial⟩⟩ fun w => ?_
 refine SQ0 (RG ?_)
 refine SG 2 (S4 [(1,.lf (.v (.int .u64 u1))),(2,lO 2),(4,vi (0 : Int))] [(2,[oI u0_0,oS Au0_1 u0_1 cu0_1,oS Au0_2 u0_2 cu0_2,.arr .i64 6 u0_3])] [] M) ?_
 refine EN (SQ (RG ?_))
 refine SH 2 [(1,.lf (.v (.int .u64 u1))),(2,lO 2),(4,vi (0 : Int)),(5,lO 5)] [(2,[oI u0_0,oS Au0_1 u0_1 cu0_1,oS Au0_2 u0_2 cu0_2,.arr .i64 6 u0_3]),(5,[oI (0 : Int)])] ?_
 refine EN (SQ (SQ (RG ?_)))
 refine SS 1 [(2,lO 2),(4,vi (0 : Int)),(5,lO 5),(7,.lf (.v (.int .u64 u1)))] ?_
 obtain ⟨v1,c_v1,h⟩ := cl_some h
 refine TI_of (i:=1) (by kernel_rfl) (TE_callR (d:=8) (f:=79) (args:=[rval (.lf (.v (.int .u64 u1)))]) (by kernel_rfl) (by kernel_rfl) (w79 k  c_v1) ?_)
 rintro _ M3 _ hM3 _ ⟨lb2,rfl,flb2⟩
 refine SG 2 (S4 [(2,lO 2),(4,vi (0 : Int)),(5,lO 5),(8,.lf (.v (.func (.func 124) #[] (List.toArray lb2))))] [(2,[oI u0_0,oS Au0_1 u0_1 cu0_1,oS Au0_2 u0_2 cu0_2,.arr .i64 6 u0_3]),(5,[oI (0 : Int)])] [] M3) ?_
 refine EN (BK 0 ?_)
 refine KS [(2,lO 2),(4,vi (0 : Int)),(5,lO 5),(8,.lf (.v (.func (.func 124) #[] (List.toArray lb2))))] ?_
 obtain ⟨j7,e_j7,h⟩ := jn_some h
 refine T_rangeE enI (p:=9) (g:=8) (gf:=124) (lb:=lb2) (ks:=v1) [2,5] (assign:=(sub [1,1,0,1,0,0] Bd77)) (body:=(sub [1,1,0,1,0,1] Bd77)) (by kernel_rfl) rfl (by kernel_rfl) (by kernel_rfl) (by kernel_rfl) flb2 (enI_ok _) (by kernel_rfl) (by kernel_rfl) (fun (pre : List (Int)) (H : List (Nat × List Sg)) (V : List (Nat × Vc)) (M' : Mem) => ∃ (x4 : Int) (rest : List (Int)),pre ++ rest = v1 ∧ H = [(2,[oI u0_0,oS Au0_1 u0_1 cu0_1,oS Au0_2 u0_2 cu0_2,.arr .i64 6 u0_3]),(5,[oI x4])] ∧ V = [] ∧ Mem.le M3 M' ∧ p77_r1 k j7 u0_2 rest x4 = some r) (fun (c : Code) (H : List (Nat × List Sg)) (V : List (Nat × Vc)) (M' : Mem) => False) ⟨(0 : Int),v1,List.nil_append _,rfl,rfl,(Mem.le_refl _),h⟩ ?_ ?_ ?_ ?_
 ·rintro pre H V M' M'' ⟨x4,rest,hks,e1,e2,hM,h⟩ hMM
  exact ⟨x4,rest,hks,e1,e2,(Mem.le_trans hM hMM),h⟩
 ·rintro l O9 bs pr x6 H V M8 ⟨rest5,hrr⟩ ⟨x4,rest0,hks,rfl,rfl,hM8,h⟩
  have hre : rest0 = x6::rest5 := List.append_cancel_left (hks.trans (by rw [← hrr,List.append_assoc]; rfl))
  subst hre
  rw [p77_r1] at h
  refine RG ?_
  refine SG 1 { σ := [(2,lO 2),(4,vi (0 : Int)),(5,lO 5),(6,vi x6),(8,.lf (.v (.func (.func 124) #[] (List.toArray lb2))))],H := [(2,[oI u0_0,oS Au0_1 u0_1 cu0_1,oS Au0_2 u0_2 cu0_2,.arr .i64 6 u0_3]),(5,[oI x4])],V := [],M := M8,ds := [],os := O9,ats := tiesOf [2,5] bs } ?_
  refine E0 ?_
  refine ⟨rfl,rfl,rfl,fun O10 => ?_⟩
  refine BK 1 ?_
  obtain ⟨g11,h⟩ := gd_some h
  obtain ⟨x12,e_x12,h⟩ := lt_some h
  obtain ⟨x13,e_x13,h⟩ := lt_some h
  refine T_draw' (id:=4) [9] [0,0,0,0,0,0,0,0,0,0] (by kernel_rfl) (by kernel_rfl) (by kernel_rfl) (by kernel_rfl) [(10,vi x4),(11,lO 2),(12,.lf (.own 2 2)),(13,lS Au0_2 u0_2 cu0_2),(14,vi x6),(15,.lf (.ep (.slice Au0_2 (u0_2.length) cu0_2) 4 ((x6).toNat) 0)),(16,.lf (.ep (.slice Au0_2 (u0_2.length) cu0_2) 4 ((x6).toNat) 3)),(17,vi x12),(18,vi x13)] (by kernel_rfl) (wfs_lf _ (by kernel_rfl)) ?_
  refine Stage_ex (stage_all' [0,1,2,3,4,6,8] [5,7] (by kernel_rfl) (by subst e_x13 e_x12; kernel_rfl) (by kernel_rfl) ⟨QF_at (i:=5) (d:=15) (x:=.lf (.ep (.slice Au0_2 (u0_2.length) cu0_2) 4 ((x6).toNat) 0)) (show OpAt _ _ _ 5 15 _ from by exact At_idxSW (m:=3) (d:=15) (z:=x6) (by subst e_x13 e_x12; kernel_rfl) g11 ((hu0_2.le hM3).le hM8)) (by kernel_rfl) (by subst e_x13 e_x12; kernel_rfl),⟨QF_at (i:=7) (d:=17) (x:=vi x12) (show OpAt _ _ _ 7 17 _ from by rw [e_x12]; exact At_ldSWi (m:=3) (d:=17) (q:=(x6).toNat) (j:=2) (by subst e_x13 e_x12; kernel_rfl) (by kernel_rfl) (toNat_lt g11) ((hu0_2.le hM3).le hM8)) (by kernel_rfl) (by subst e_x13 e_x12; kernel_rfl),trivial⟩⟩) ({ σ := [(10,vi x4),(11,lO 2),(12,.lf (.own 2 2)),(13,lS Au0_2 u0_2 cu0_2),(14,vi x6),(15,.lf (.ep (.slice Au0_2 (u0_2.length) cu0_2) 4 ((x6).toNat) 0)),(16,.lf (.ep (.slice Au0_2 (u0_2.length) cu0_2) 4 ((x6).toNat) 3)),(17,vi x12),(18,vi x13),(2,lO 2),(4,vi (0 : Int)),(5,lO 5),(6,vi x6),(8,.lf (.v (.func (.func 124) #[] (List.toArray lb2))))],H := [(5,[oI x13]),(2,[oI u0_0,oS Au0_1 u0_1 cu0_1,oS Au0_2 u0_2 cu0_2,.arr .i64 6 u0_3]),(5,[oI x4])],V := [],M := M8,ds := [],os := O10,ats := tiesOf [2,5] bs }) (by subst e_x13 e_x12; kernel_rfl) [] (by kernel_rfl) trivial ?_
  refine Stage_nil (stage_all' [] [] (by kernel_rfl) (by subst e_x13 e_x12;kernel_rfl) (by kernel_rfl) trivial) ?_
  refine blockQ_n ?_
  refine ⟨_,keep_sub (s':={ σ := [],H := [(2,[oI u0_0,oS Au0_1 u0_1 cu0_1,oS Au0_2 u0_2 cu0_2,.arr .i64 6 u0_3]),(5,[oI x13])],V := [],M := M8,ds := [],os := O10,ats := tiesOf [2,5] bs }) (ts:=[]) (hs:=[2,5]) (vs:=[]) (by subst e_x13 e_x12;kernel_rfl),rfl,rfl,(Mem.le_refl _),?_⟩
  show (fun (pre : List (Int)) (H : List (Nat × List Sg)) (V : List (Nat × Vc)) (M' : Mem) => ∃ (x4 : Int) (rest : List (Int)),pre ++ rest = v1 ∧ H = [(2,[oI u0_0,oS Au0_1 u0_1 cu0_1,oS Au0_2 u0_2 cu0_2,.arr .i64 6 u0_3]),(5,[oI x4])] ∧ V = [] ∧ Mem.le M3 M' ∧ p77_r1 k j7 u0_2 rest x4 = some r) (pr ++ [x6]) _ _ _
  exact ⟨x13,rest5,by rw [List.append_assoc]; exact hks,rfl,rfl,(Mem.le_trans (Mem.le_refl _) hM8),h⟩
 ·rintro D H V M8 ⟨x4,rest0,hks,rfl,rfl,hM8,h⟩
  have hre : rest0 = [] := by have := congrArg List.length hks;simp at this;exact this
  subst hre
  rw [p77_r1] at h
  subst e_j7
  refine blockQ_n (thenQ_n (SQ (RG ?_)))
  refine SG 2 { σ := [(4,vi x4)],H := [],V := [],M := M8,ds := [D] } ?_
  refine EN (RT ?_)
  obtain rfl := sj h
  refine fin_retD (vi x4) D (by kernel_rfl) (by kernel_rfl) rfl ?_
  rfl
 ·intro D c H V M' hI
  exact hI.elim
def p119_r1 (k : Nat) (j10 : Int → Option Int) (u0_2 : List WT) (u2 : Int) (u3 : Int) : List (Int) → Int → Option Int
 | [],x7 => j10 x7
 | x9::rest8,x7 => gd ((0 : Int) ≤ x9 ∧ x9 < (u0_2.length : Int)) <| lt' ((List.getD u0_2 ((x9).toNat) ([],[])).1) fun L15 => lt' (List.getD (List.getD u0_2 ((x9).toNat) ([],[])).2 0 0) fun x16 => lt' (List.getD (List.getD u0_2 ((x9).toNat) ([],[])).2 1 0) fun x17 => lt' (List.getD (List.getD u0_2 ((x9).toNat) ([],[])).2 2 0) fun x18 => jn (fun (b19 : Bool) => sp b19 (lt' (mx x7 x17) fun x23 => p119_r1 k j10 u0_2 u2 u3 rest8 x23) (p119_r1 k j10 u0_2 u2 u3 rest8 x7)) fun j20 => lt' (x16 == u3) fun b21 => sp b21 (cl (p131 k L15 u2) fun v22 => j20 v22) (j20 false)
def p119 (k : Nat) (u0_0 : Int) (u0_1 : List (List Int)) (u0_2 : List WT) (u0_3 : List Int) (u1 : Int) (u2 : Int) (u3 : Int) : Option Int :=
 gd ((0 : Int) ≤ u2 ∧ u2 < (u0_1.length : Int)) <| gd ((0 : Int) ≤ u3 ∧ u3 < ((6 : Nat) : Int)) <| lt' (List.getD (List.getD u0_1 ((u2).toNat) []) (6 + (u3).toNat * 1) 0) fun x3 => cl (p79 k u1) fun v4 => jn (fun (x7 : Int) => some x7) fun j10 => p119_r1 k j10 u0_2 u2 u3 v4 x3
theorem hf119 : Try.prog.funcs[119]? = some Try.f119 := by kernel_rfl
theorem w119 (k : Nat) {M : Mem} {Au0_1 Au0_2 : Option Addr} {cu0_1 cu0_2 : Nat} {Hu0_2 : Nat → Option Addr} {Cu0_2 : Nat → Nat} {u0_0 u1 u2 u3 : Int} {u0_1 : List (List Int)} {u0_2 : List WT} {u0_3 : List Int} (hu0_1 : SlR M Au0_1 cu0_1 .i64 12 u0_1) (hu0_2 : SlW M 3 Au0_2 cu0_2 Hu0_2 Cu0_2 u0_2) (hu0_3 : u0_3.length = 6) {r} (h : p119 k u0_0 u0_1 u0_2 u0_3 u1 u2 u3 = some r) :
  Fn Try.prog 119 [rval (.agg [oI u0_0,oS Au0_1 u0_1 cu0_1,oS Au0_2 u0_2 cu0_2,.arr .i64 6 u0_3]),rval (.lf (.v (.int .u64 u1))),rval (vi u2),rval (vi u3)] M (fun x _ => x = vi r) := by
 unfold p119 at h
 refine FO [.agg [oI u0_0,oS Au0_1 u0_1 cu0_1,oS Au0_2 u0_2 cu0_2,.arr .i64 6 u0_3],.lf (.v (.int .u64 u1)),vi u2,vi u3] hf119 ⟨⟨rfl,⟨rfl,⟨rfl,⟨hu0_3,trivial⟩⟩⟩⟩,⟨trivial,⟨trivial,⟨trivial,trivial⟩⟩⟩⟩ fun w => ?_
 refine SQ0 (RG ?_)
 refine SG 4 (S4 [(1,.lf (.v (.int .u64 u1))),(4,lO 4),(6,lO 6),(7,lO 7),(8,vi (0 : Int))] [(4,[oI u0_0,oS Au0_1 u0_1 cu0_1,oS Au0_2 u0_2 cu0_2,.arr .i64 6 u0_3]),(6,[oI u2]),(7,[oI u3])] [] M) ?_
 refine EN (SQ ?_)
 obtain ⟨g1,h⟩ := gd_some h
 obtain ⟨g2,h⟩ := gd_some h
 obtain ⟨x3,e_x3,h⟩ := lt_some h
 refine T_draw' (id:=1) [9,10] [0,0,0,0,0,0,0,0,0,0,0] (by kernel_rfl) (by kernel_rfl) (by kernel_rfl) (by kernel_rfl) [(12,lO 4),(13,.lf (.own 4 1)),(14,lS Au0_1 u0_1 cu0_1),(15,vi u2),(16,vi u3),(17,.lf (.ep (.slice Au0_1 (u0_1.length) cu0_1) 12 ((u2).toNat) 0)),(18,.lf (.ep (.slice Au0_1 (u0_1.length) cu0_1) 12 ((u2).toNat) 6)),(19,.lf (.ep (.slice Au0_1 (u0_1.length) cu0_1) 12 ((u2).toNat) (6 + (u3).toNat * 1))),(20,vi x3)] (by kernel_rfl) (wfs_lf _ (by kernel_rfl)) ?_
 refine Stage_ex (stage_all' [0,1,2,3,4,6] [5,7,8] (by kernel_rfl) (by subst e_x3; kernel_rfl) (by kernel_rfl) ⟨QF_at (i:=5) (d:=17) (x:=.lf (.ep (.slice Au0_1 (u0_1.length) cu0_1) 12 ((u2).toNat) 0)) (show OpAt _ _ _ 5 17 _ from by exact At_idxR (d:=17) (z:=u2) (by subst e_x3; kernel_rfl) g1 hu0_1) (by kernel_rfl) (by subst e_x3; kernel_rfl),⟨QF_at (i:=7) (d:=19) (x:=.lf (.ep (.slice Au0_1 (u0_1.length) cu0_1) 12 ((u2).toNat) (6 + (u3).toNat * 1))) (show OpAt _ _ _ 7 19 _ from by exact At_idxE (d:=19) (z:=u3) (A:=(.slice Au0_1 (u0_1.length) cu0_1)) (sz:=12) (q:=(u2).toNat) (j:=6) (es:=1) (n:=6) (by subst e_x3; kernel_rfl) g2) (by kernel_rfl) (by subst e_x3; kernel_rfl),⟨QF_at (i:=8) (d:=20) (x:=vi x3) (show OpAt _ _ _ 8 20 _ from by rw [e_x3]; exact At_ldR1' (d:=20) (q:=(u2).toNat) (j:=6 + (u3).toNat * 1) (by subst e_x3; kernel_rfl) (by omega) (toNat_lt g1) hu0_1) (by kernel_rfl) (by subst e_x3; kernel_rfl),trivial⟩⟩⟩) ({ σ := [(9,lO 9),(12,lO 4),(13,.lf (.own 4 1)),(14,lS Au0_1 u0_1 cu0_1),(15,vi u2),(16,vi u3),(17,.lf (.ep (.slice Au0_1 (u0_1.length) cu0_1) 12 ((u2).toNat) 0)),(18,.lf (.ep (.slice Au0_1 (u0_1.length) cu0_1) 12 ((u2).toNat) 6)),(19,.lf (.ep (.slice Au0_1 (u0_1.length) cu0_1) 12 ((u2).toNat) (6 + (u3).toNat * 1))),(20,vi x3),(1,.lf (.v (.int .u64 u1))),(4,lO 4),(6,lO 6),(7,lO 7),(8,vi (0 : Int))],H := [(9,[oI (0 : Int)]),(4,[oI u0_0,oS Au0_1 u0_1 cu0_1,oS Au0_2 u0_2 cu0_2,.arr .i64 6 u0_3]),(6,[oI u2]),(7,[oI u3])],V := [],M := M,ds := [] }) (by subst e_x3; kernel_rfl) [] (by kernel_rfl) trivial ?_
 refine Stage_ex (stage_all' [0,1,2,3,4,6] [5,7,8] (by kernel_rfl) (by subst e_x3; kernel_rfl) (by kernel_rfl) ⟨QF_at (i:=5) (d:=17) (x:=.lf (.ep (.slice Au0_1 (u0_1.length) cu0_1) 12 ((u2).toNat) 0)) (show OpAt _ _ _ 5 17 _ from by exact At_idxR (d:=17) (z:=u2) (by subst e_x3; kernel_rfl) g1 hu0_1) (by kernel_rfl) (by subst e_x3; kernel_rfl),⟨QF_at (i:=7) (d:=19) (x:=.lf (.ep (.slice Au0_1 (u0_1.length) cu0_1) 12 ((u2).toNat) (6 + (u3).toNat * 1))) (show OpAt _ _ _ 7 19 _ from by exact At_idxE (d:=19) (z:=u3) (A:=(.slice Au0_1 (u0_1.length) cu0_1)) (sz:=12) (q:=(u2).toNat) (j:=6) (es:=1) (n:=6) (by subst e_x3; kernel_rfl) g2) (by kernel_rfl) (by subst e_x3; kernel_rfl),⟨QF_at (i:=8) (d:=20) (x:=vi x3) (show OpAt _ _ _ 8 20 _ from by rw [e_x3]; exact At_ldR1' (d:=20) (q:=(u2).toNat) (j:=6 + (u3).toNat * 1) (by subst e_x3; kernel_rfl) (by omega) (toNat_lt g1) hu0_1) (by kernel_rfl) (by subst e_x3; kernel_rfl),trivial⟩⟩⟩) ({ σ := [(9,lO 9),(12,lO 4),(13,.lf (.own 4 1)),(14,lS Au0_1 u0_1 cu0_1),(15,vi u2),(16,vi u3),(17,.lf (.ep (.slice Au0_1 (u0_1.length) cu0_1) 12 ((u2).toNat) 0)),(18,.lf (.ep (.slice Au0_1 (u0_1.length) cu0_1) 12 ((u2).toNat) 6)),(19,.lf (.ep (.slice Au0_1 (u0_1.length) cu0_1) 12 ((u2).toNat) (6 + (u3).toNat * 1))),(20,vi x3),(1,.lf (.v (.int .u64 u1))),(4,lO 4),(6,lO 6),(7,lO 7),(8,vi (0 : Int))],H := [(9,[oI x3]),(9,[oI (0 : Int)]),(4,[oI u0_0,oS Au0_1 u0_1 cu0_1,oS Au0_2 u0_2 cu0_2,.arr .i64 6 u0_3]),(6,[oI u2]),(7,[oI u3])],V := [],M := M,ds := [] }) (by subst e_x3; kernel_rfl) [] (by kernel_rfl) trivial ?_
 refine Stage_nil (stage_all' [] [] (by kernel_rfl) (by subst e_x3;kernel_rfl) (by kernel_rfl) trivial) ?_
 refine thenQ_n ?_
 refine KG (S4 [(1,.lf (.v (.int .u64 u1))),(4,lO 4),(6,lO 6),(7,lO 7),(8,vi (0 : Int)),(9,lO 9)] [(4,[oI u0_0,oS Au0_1 u0_1 cu0_1,oS Au0_2 u0_2 cu0_2,.arr .i64 6 u0_3]),(6,[oI u2]),(7,[oI u3]),(9,[oI x3])] [] M) ?_ (by subst e_x3;kernel_rfl)
 refine SQ (SQ (RG ?_))
 refine SS 1 [(4,lO 4),(6,lO 6),(7,lO 7),(8,vi (0 : Int)),(9,lO 9),(21,.lf (.v (.int .u64 u1)))] ?_
 obtain ⟨v4,c_v4,h⟩ := cl_some h
 refine TI_of (i:=1) (by kernel_rfl) (TE_callR (d:=22) (f:=79) (args:=[rval (.lf (.v (.int .u64 u1)))]) (by kernel_rfl) (by kernel_rfl) (w79 k  c_v4) ?_)
 rintro _ M6 _ hM6 _ ⟨lb5,rfl,flb5⟩
 refine SG 2 (S4 [(4,lO 4),(6,lO 6),(7,lO 7),(8,vi (0 : Int)),(9,lO 9),(22,.lf (.v (.func (.func 124) #[] (List.toArray lb5))))] [(4,[oI u0_0,oS Au0_1 u0_1 cu0_1,oS Au0_2 u0_2 cu0_2,.arr .i64 6 u0_3]),(6,[oI u2]),(7,[oI u3]),(9,[oI x3])] [] M6) ?_
 refine EN (BK 0 ?_)
 refine KS [(4,lO 4),(6,lO 6),(7,lO 7),(8,vi (0 : Int)),(9,lO 9),(22,.lf (.v (.func (.func 124) #[] (List.toArray lb5))))] ?_
 obtain ⟨j10,e_j10,h⟩ := jn_some h
 refine T_rangeE enI (p:=23) (g:=22) (gf:=124) (lb:=lb5) (ks:=v4) [4,6,7,9] (assign:=(sub [1,1,0,1,0,0] Bd119)) (body:=(sub [1,1,0,1,0,1] Bd119)) (by kernel_rfl) rfl (by kernel_rfl) (by kernel_rfl) (by kernel_rfl) flb5 (enI_ok _) (by kernel_rfl) (by kernel_rfl) (fun (pre : List (Int)) (H : List (Nat × List Sg)) (V : List (Nat × Vc)) (M' : Mem) => ∃ (x7 : Int) (rest : List (Int)),pre ++ rest = v4 ∧ H = [(4,[oI u0_0,oS Au0_1 u0_1 cu0_1,oS Au0_2 u0_2 cu0_2,.arr .i64 6 u0_3]),(6,[oI u2]),(7,[oI u3]),(9,[oI x7])] ∧ V = [] ∧ Mem.le M6 M' ∧ p119_r1 k j10 u0_2 u2 u3 rest x7 = some r) (fun (c : Code) (H : List (Nat × List Sg)) (V : List (Nat × Vc)) (M' : Mem) => False) ⟨x3,v4,List.nil_append _,rfl,rfl,(Mem.le_refl _),h⟩ ?_ ?_ ?_ ?_
 ·rintro pre H V M' M'' ⟨x7,rest,hks,e1,e2,hM,h⟩ hMM
  exact ⟨x7,rest,hks,e1,e2,(Mem.le_trans hM hMM),h⟩
 ·rintro l O12 bs pr x9 H V M11 ⟨rest8,hrr⟩ ⟨x7,rest0,hks,rfl,rfl,hM11,h⟩
  have hre : rest0 = x9::rest8 := List.append_cancel_left (hks.trans (by rw [← hrr,List.append_assoc]; rfl))
  subst hre
  rw [p119_r1] at h
  refine RG ?_
  refine SG 1 { σ := [(4,lO 4),(6,lO 6),(7,lO 7),(8,vi (0 : Int)),(9,lO 9),(10,vi x9),(22,.lf (.v (.func (.func 124) #[] (List.toArray lb5))))],H := [(4,[oI u0_0,oS Au0_1 u0_1 cu0_1,oS Au0_2 u0_2 cu0_2,.arr .i64 6 u0_3]),(6,[oI u2]),(7,[oI u3]),(9,[oI x7])],V := [],M := M11,ds := [],os := O12,ats := tiesOf [4,6,7,9] bs } ?_
  refine E0 ?_
  refine ⟨rfl,rfl,rfl,fun O13 => ?_⟩
  refine BK 1 (SQ (RG ?_))
  refine SG 4 { σ := [(4,lO 4),(6,lO 6),(7,lO 7),(8,vi (0 : Int)),(9,lO 9),(22,.lf (.v (.func (.func 124) #[] (List.toArray lb5)))),(26,lS Au0_2 u0_2 cu0_2),(27,vi x9)],H := [(4,[oI u0_0,oS Au0_1 u0_1 cu0_1,oS Au0_2 u0_2 cu0_2,.arr .i64 6 u0_3]),(6,[oI u2]),(7,[oI u3]),(9,[oI x7])],V := [],M := M11,ds := [],os := O13,ats := tiesOf [4,6,7,9] bs } ?_
  obtain ⟨g14,h⟩ := gd_some h
  refine AT 28 (.lf (.ep (.slice Au0_2 (u0_2.length) cu0_2) 4 ((x9).toNat) 0)) (At_idxSW (m:=3) (z:=x9) (by kernel_rfl) g14 ((hu0_2.le hM6).le hM11)) ?_
  obtain ⟨L15,e_L15,h⟩ := lt_some h
  have f_L15 : SlI M11 (Hu0_2 ((x9).toNat)) (Cu0_2 ((x9).toNat)) .i64 L15 := by rw [e_L15]; exact (((hu0_2.le hM6).le hM11)).rows _ (toNat_lt g14)
  obtain ⟨x16,e_x16,h⟩ := lt_some h
  obtain ⟨x17,e_x17,h⟩ := lt_some h
  obtain ⟨x18,e_x18,h⟩ := lt_some h
  refine AT 29 (.agg [oS (Hu0_2 ((x9).toNat)) L15 (Cu0_2 ((x9).toNat)),oI x16,oI x17,oI x18]) (by rw [e_L15,e_x16,e_x17,e_x18]; exact At_ldSWa (q:=(x9).toNat) (by subst_vars; kernel_rfl) (toNat_lt g14) ((hu0_2.le hM6).le hM11)) ?_ (hx:=⟨rfl,⟨rfl,⟨rfl,⟨rfl,trivial⟩⟩⟩⟩)
  refine SH 8 [(4,lO 4),(6,lO 6),(7,lO 7),(8,vi (0 : Int)),(9,lO 9),(11,lO 11),(22,.lf (.v (.func (.func 124) #[] (List.toArray lb5))))] [(4,[oI u0_0,oS Au0_1 u0_1 cu0_1,oS Au0_2 u0_2 cu0_2,.arr .i64 6 u0_3]),(6,[oI u2]),(7,[oI u3]),(9,[oI x7]),(11,[oS (Hu0_2 ((x9).toNat)) L15 (Cu0_2 ((x9).toNat)),oI x16,oI x17,oI x18])] ?_
  refine EN ?_
  obtain ⟨j20,e_j20,h⟩ := jn_some h
  refine T_cut (c1:=(sub [1,1,0,1,0,1,0,1,0] Bd119)) (c2:=(sub [1,1,0,1,0,1,0,1,1] Bd119)) (fun s' => ∃ (b19 : Bool),Sub { σ := [(4,lO 4),(6,lO 6),(7,lO 7),(8,vi (0 : Int)),(9,lO 9),(11,lO 11),(22,.lf (.v (.func (.func 124) #[] (List.toArray lb5)))),(39,vb b19)],H := [(4,[oI u0_0,oS Au0_1 u0_1 cu0_1,oS Au0_2 u0_2 cu0_2,.arr .i64 6 u0_3]),(6,[oI u2]),(7,[oI u3]),(9,[oI x7]),(11,[oS (Hu0_2 ((x9).toNat)) L15 (Cu0_2 ((x9).toNat)),oI x16,oI x17,oI x18])],V := [],M := M11,ds := [],os := O13,ats := tiesOf [4,6,7,9] bs } s' ∧ j20 b19 = some r) (by kernel_rfl) ?_ ?_
  ·refine RG ?_
   obtain ⟨b21,e_b21,h⟩ := lt_some h
   refine SG 5 { σ := [(4,lO 4),(6,lO 6),(7,lO 7),(8,vi (0 : Int)),(9,lO 9),(11,lO 11),(22,.lf (.v (.func (.func 124) #[] (List.toArray lb5)))),(34,vb b21)],H := [(4,[oI u0_0,oS Au0_1 u0_1 cu0_1,oS Au0_2 u0_2 cu0_2,.arr .i64 6 u0_3]),(6,[oI u2]),(7,[oI u3]),(9,[oI x7]),(11,[oS (Hu0_2 ((x9).toNat)) L15 (Cu0_2 ((x9).toNat)),oI x16,oI x17,oI x18])],V := [],M := M11,ds := [],os := O13,ats := tiesOf [4,6,7,9] bs } ?_ (by subst e_b21;kernel_rfl)
   cases b21 with
   | true =>
    replace h := sp_t h
    refine SS 8 [(4,lO 4),(6,lO 6),(7,lO 7),(8,vi (0 : Int)),(9,lO 9),(11,lO 11),(22,.lf (.v (.func (.func 124) #[] (List.toArray lb5)))),(34,vb true),(36,lS (Hu0_2 ((x9).toNat)) L15 (Cu0_2 ((x9).toNat))),(37,vi u2)] ?_
    obtain ⟨v22,c_v22,h⟩ := cl_some h
    refine AC 38 (vb v22) (w131 k f_L15 c_v22) ?_
    refine SH 10 [(4,lO 4),(6,lO 6),(7,lO 7),(8,vi (0 : Int)),(9,lO 9),(11,lO 11),(22,.lf (.v (.func (.func 124) #[] (List.toArray lb5)))),(39,vb v22)] [(4,[oI u0_0,oS Au0_1 u0_1 cu0_1,oS Au0_2 u0_2 cu0_2,.arr .i64 6 u0_3]),(6,[oI u2]),(7,[oI u3]),(9,[oI x7]),(11,[oS (Hu0_2 ((x9).toNat)) L15 (Cu0_2 ((x9).toNat)),oI x16,oI x17,oI x18])] ?_
    refine EN ?_
    exact ⟨v22,keep_sub (ts:=[4,6,7,8,9,11,22,39]) (hs:=[4,6,7,9,11]) (vs:=[]) (by kernel_rfl),h⟩
   | false =>
    replace h := sp_f h
    refine SS 10 [(4,lO 4),(6,lO 6),(7,lO 7),(8,vi (0 : Int)),(9,lO 9),(11,lO 11),(22,.lf (.v (.func (.func 124) #[] (List.toArray lb5)))),(39,vb false)] ?_
    refine EN ?_
    exact ⟨false,keep_sub (ts:=[4,6,7,8,9,11,22,39]) (hs:=[4,6,7,9,11]) (vs:=[]) (by kernel_rfl),h⟩
  ·rintro s' ⟨b19,hsub,h⟩
   subst e_j20
   refine T_sub hsub ?_
   cases b19 with
   | true =>
    replace h := sp_t h
    refine CT ?_
    refine KG { σ := [(4,lO 4),(6,lO 6),(7,lO 7),(8,vi (0 : Int)),(9,lO 9),(11,lO 11),(22,.lf (.v (.func (.func 124) #[] (List.toArray lb5))))],H := [(4,[oI u0_0,oS Au0_1 u0_1 cu0_1,oS Au0_2 u0_2 cu0_2,.arr .i64 6 u0_3]),(6,[oI u2]),(7,[oI u3]),(9,[oI x7]),(11,[oS (Hu0_2 ((x9).toNat)) L15 (Cu0_2 ((x9).toNat)),oI x16,oI x17,oI x18])],V := [],M := M11,ds := [],os := O13,ats := tiesOf [4,6,7,9] bs } ?_
    refine RG ?_
    obtain ⟨x23,e_x23,h⟩ := lt_some h
    refine SH 5 [(4,lO 4),(6,lO 6),(7,lO 7),(8,vi (0 : Int)),(9,lO 9),(22,.lf (.v (.func (.func 124) #[] (List.toArray lb5))))] [(4,[oI u0_0,oS Au0_1 u0_1 cu0_1,oS Au0_2 u0_2 cu0_2,.arr .i64 6 u0_3]),(6,[oI u2]),(7,[oI u3]),(9,[oI x23])] ?_ (by subst e_x23;kernel_rfl)
    refine E0 (blockQ_n ?_)
    refine ⟨_,keep_sub (s':={ σ := [],H := [(4,[oI u0_0,oS Au0_1 u0_1 cu0_1,oS Au0_2 u0_2 cu0_2,.arr .i64 6 u0_3]),(6,[oI u2]),(7,[oI u3]),(9,[oI x23])],V := [],M := M11,ds := [],os := O13,ats := tiesOf [4,6,7,9] bs }) (ts:=[]) (hs:=[4,6,7,9]) (vs:=[]) (by kernel_rfl),rfl,rfl,(Mem.le_refl _),?_⟩
    show (fun (pre : List (Int)) (H : List (Nat × List Sg)) (V : List (Nat × Vc)) (M' : Mem) => ∃ (x7 : Int) (rest : List (Int)),pre ++ rest = v4 ∧ H = [(4,[oI u0_0,oS Au0_1 u0_1 cu0_1,oS Au0_2 u0_2 cu0_2,.arr .i64 6 u0_3]),(6,[oI u2]),(7,[oI u3]),(9,[oI x7])] ∧ V = [] ∧ Mem.le M6 M' ∧ p119_r1 k j10 u0_2 u2 u3 rest x7 = some r) (pr ++ [x9]) _ _ _
    exact ⟨x23,rest8,by rw [List.append_assoc]; exact hks,rfl,rfl,(Mem.le_trans (Mem.le_refl _) hM11),h⟩
   | false =>
    replace h := sp_f h
    refine CF ?_
    refine KG { σ := [(4,lO 4),(6,lO 6),(7,lO 7),(8,vi (0 : Int)),(9,lO 9),(22,.lf (.v (.func (.func 124) #[] (List.toArray lb5))))],H := [(4,[oI u0_0,oS Au0_1 u0_1 cu0_1,oS Au0_2 u0_2 cu0_2,.arr .i64 6 u0_3]),(6,[oI u2]),(7,[oI u3]),(9,[oI x7])],V := [],M := M11,ds := [],os := O13,ats := tiesOf [4,6,7,9] bs } ?_
    refine S0 (blockQ_n ?_)
    refine ⟨_,keep_sub (s':={ σ := [],H := [(4,[oI u0_0,oS Au0_1 u0_1 cu0_1,oS Au0_2 u0_2 cu0_2,.arr .i64 6 u0_3]),(6,[oI u2]),(7,[oI u3]),(9,[oI x7])],V := [],M := M11,ds := [],os := O13,ats := tiesOf [4,6,7,9] bs }) (ts:=[]) (hs:=[4,6,7,9]) (vs:=[]) (by kernel_rfl),rfl,rfl,(Mem.le_refl _),?_⟩
    show (fun (pre : List (Int)) (H : List (Nat × List Sg)) (V : List (Nat × Vc)) (M' : Mem) => ∃ (x7 : Int) (rest : List (Int)),pre ++ rest = v4 ∧ H = [(4,[oI u0_0,oS Au0_1 u0_1 cu0_1,oS Au0_2 u0_2 cu0_2,.arr .i64 6 u0_3]),(6,[oI u2]),(7,[oI u3]),(9,[oI x7])] ∧ V = [] ∧ Mem.le M6 M' ∧ p119_r1 k j10 u0_2 u2 u3 rest x7 = some r) (pr ++ [x9]) _ _ _
    exact ⟨x7,rest8,by rw [List.append_assoc]; exact hks,rfl,rfl,(Mem.le_trans (Mem.le_refl _) hM11),h⟩
 ·rintro D H V M11 ⟨x7,rest0,hks,rfl,rfl,hM11,h⟩
  have hre : rest0 = [] := by have := congrArg List.length hks;simp at this;exact this
  subst hre
  rw [p119_r1] at h
  subst e_j10
  refine blockQ_n (thenQ_n (SQ (RG ?_)))
  refine SG 2 { σ := [(8,vi x7)],H := [],V := [],M := M11,ds := [D] } ?_
  refine EN (RT ?_)
  obtain rfl := sj h
  refine fin_retD (vi x7) D (by kernel_rfl) (by kernel_rfl) rfl ?_
  rfl
 ·intro D c H V M' hI
  exact hI.elim
end Go.Proofs.Ythniebmammmacaa
namespace Go.Proofs.Ythniebmammmacaa
open Go.RowKit
def p118_l1 (k : Nat) (u1g0 : Int) (u1g1 : List (List Int)) (u1g2 : List WT) (u1g3 : List Int) (u2G : Int) (u3G : Int) : Nat → Int → Option (List (List Int))
 | 0,_ => none
 | n2 + 1,x1 => lt' (decide (x1 < (6 : Int))) fun b5 => sp b5 (gd ((0 : Int) ≤ x1 ∧ x1 < ((6 : Nat) : Int)) <| lt' (List.getD u1g3 (x1).toNat 0) fun x7 => cl (p119 k u1g0 u1g1 u1g2 u1g3 u2G u3G x1) fun v8 => lt' (decide (x7 > v8)) fun b9 => sp b9 (cl (lt' (wr .i64 (x1 + (1 : Int))) fun x11 => p118_l1 k u1g0 u1g1 u1g2 u1g3 u2G u3G n2 x11) fun r => some (([u3G,x1,v8,x7])::r)) (lt' (wr .i64 (x1 + (1 : Int))) fun x12 => p118_l1 k u1g0 u1g1 u1g2 u1g3 u2G u3G n2 x12)) (some [])
def p118 (k : Nat) (u1g0 : Int) (u1g1 : List (List Int)) (u1g2 : List WT) (u1g3 : List Int) (u2G : Int) (u3G : Int) : Option (List (List Int)) :=
 p118_l1 k u1g0 u1g1 u1g2 u1g3 u2G u3G k (0 : Int)
theorem hf118 : Try.prog.funcs[118]? = some Try.f118 := by kernel_rfl
theorem w118 (k : Nat) {M : Mem} {Au1g1 Au1g2 : Option Addr} {cu1g1 cu1g2 bu1 bu2 bu3 : Nat} {Hu1g2 : Nat → Option Addr} {Cu1g2 : Nat → Nat} {u1g0 u2G u3G : Int} {u1g1 : List (List Int)} {u1g2 : List WT} {u1g3 : List Int} (hu1g1 : SlR M Au1g1 cu1g1 .i64 12 u1g1) (hu1g2 : SlW M 3 Au1g2 cu1g2 Hu1g2 Cu1g2 u1g2) (hu1g3 : u1g3.length = 6) (hbu1 : MB M bu1 [oI u1g0,oS Au1g1 u1g1 cu1g1,oS Au1g2 u1g2 cu1g2,.arr .i64 6 u1g3]) (hbu2 : MB M bu2 [.one (.v (.int .u64 u2G))]) (hbu3 : MB M bu3 [oI u3G]) {ks} (h : p118 k u1g0 u1g1 u1g2 u1g3 u2G u3G = some ks) :
  IterE (enR 4) Try.prog 118 [(.pointer (some ⟨bu1,0,none⟩)),(.pointer (some ⟨bu2,0,none⟩)),(.pointer (some ⟨bu3,0,none⟩))] M ks := by
 unfold p118 at h
 refine IterE_of fun l J Jx W hyd hW h0 => ?_
 refine calls_TW (c:=bodyOf Try.f118) [.lf (.v (.func (.yield l) #[] #[])),lP bu1,lP bu2,lP bu3] hf118 (by kernel_rfl) (Nat.le_of_ble_eq_true (by kernel_rfl)) (by kernel_rfl) (by intro x hx; simp only [List.mem_cons,List.mem_nil_iff,or_false] at hx; rcases hx with rfl | rfl | rfl | rfl <;> trivial) hW ?_
 refine TW_pre (pre':=J M []) (by rintro w rfl;exact h0) ?_
 have hks : [] ++ ks = ks := rfl
 refine W_seq (c1:=(sub [0] Bd118)) (c2:=(sub [1] Bd118)) (by kernel_rfl) ?_
 refine TW_region (id:=0) (by kernel_rfl) ?_
 refine TWI_pure (y:=(8,.lf (.v (.pointer (some ⟨bu1,3,none⟩))))) (by kernel_rfl) ?_
 refine TWI_at (d:=9) (x:=.agg [.arr .i64 6 u1g3]) (fun w => (At_ldPR (d:=9) (b:=bu1) (off:=3) (m:=6) (c:=[.arr .i64 6 u1g3]) (by kernel_rfl) (by kernel_rfl) (sgCells_length ⟨hu1g3,trivial⟩) (cells_blk (m:=6) hbu1 ⟨rfl,⟨rfl,⟨rfl,⟨hu1g3,trivial⟩⟩⟩⟩ (by kernel_rfl) rfl))) (hyd.gr _ _) (by kernel_rfl) ⟨hu1g3,trivial⟩ ?_
 refine TWI_pure (y:=(10,vi (0 : Int))) (by kernel_rfl) ?_
 refine TWI_keep (σ':=[(0,.lf (.v (.func (.yield l) #[] #[]))),(1,lP bu1),(2,lP bu2),(3,lP bu3),(9,.agg [.arr .i64 6 u1g3]),(10,vi (0 : Int))]) [0,1,2,3,9,10] (by kernel_rfl) ?_
 refine WI_end (by kernel_rfl) ?_
 refine NQ_then ?_
 refine TW_block (id:=0) (c1:=(sub [1,0] Bd118)) (by kernel_rfl) ?_
 refine TW_keep (σ':=[(0,.lf (.v (.func (.yield l) #[] #[]))),(1,lP bu1),(2,lP bu2),(3,lP bu3),(9,.agg [.arr .i64 6 u1g3]),(10,vi (0 : Int))]) [0,1,2,3,9,10] (by kernel_rfl) ?_
 refine W_loop (γ:=(Int) × (List (List Int)) × (List (List Int))) (fun g => [(0,.lf (.v (.func (.yield l) #[] #[]))),(1,lP bu1),(2,lP bu2),(3,lP bu3),(9,.agg [.arr .i64 6 u1g3]),(10,vi g.1)]) (fun g => J M g.2.1) (fun n2 g => g.2.1 ++ g.2.2 = ks ∧ p118_l1 k u1g0 u1g1 u1g2 u1g3 u2G u3G n2 g.1 = some g.2.2) (c1:=(sub [1,0,0] Bd118)) (g0:=((0 : Int),[],ks)) (k:=k) (by kernel_rfl) rfl ⟨hks,h⟩ (fun w hw => hw) ?_
 rintro n2 ⟨x1,pr3,rest4⟩ ⟨hks,h⟩
 replace hks : pr3 ++ rest4 = ks := hks
 replace h : p118_l1 k u1g0 u1g1 u1g2 u1g3 u2G u3G n2 x1 = some rest4 := h
 change TW _ _ _ _ [(0,.lf (.v (.func (.yield l) #[] #[]))),(1,lP bu1),(2,lP bu2),(3,lP bu3),(9,.agg [.arr .i64 6 u1g3]),(10,vi x1)] (J M pr3) _
 cases n2 with
 | zero => rw [p118_l1] at h;cases h
 | succ n2 =>
  rw [p118_l1] at h
  refine W_seq (c1:=(sub [1,0,0,0] Bd118)) (c2:=(sub [1,0,0,1] Bd118)) (by kernel_rfl) ?_
  refine TW_region (id:=1) (by kernel_rfl) ?_
  obtain ⟨b5,e_b5,h⟩ := lt_some h
  refine TWI_pure (y:=(11,vb b5)) (by subst e_b5;kernel_rfl) ?_
  refine TWI_keep (σ':=[(0,.lf (.v (.func (.yield l) #[] #[]))),(1,lP bu1),(2,lP bu2),(3,lP bu3),(9,.agg [.arr .i64 6 u1g3]),(10,vi x1),(11,vb b5)]) [0,1,2,3,9,10,11] (by kernel_rfl) ?_
  refine WI_end (by kernel_rfl) ?_
  refine NQ_then ?_
  refine W_seq (c1:=(sub [1,0,0,1,0] Bd118)) (c2:=(sub [1,0,0,1,1] Bd118)) (by kernel_rfl) ?_
  cases b5 with
  | true =>
   replace h := sp_t h
   refine W_condT (x:=(.tmp 11)) (c1:=(sub [1,0,0,1,0,0] Bd118)) (c2:=(sub [1,0,0,1,0,1] Bd118)) (by kernel_rfl) (by kernel_rfl) ?_
   refine TW_keep (σ':=[(0,.lf (.v (.func (.yield l) #[] #[]))),(1,lP bu1),(2,lP bu2),(3,lP bu3),(9,.agg [.arr .i64 6 u1g3]),(10,vi x1)]) [0,1,2,3,9,10] (by kernel_rfl) ?_
   refine W_skip (by kernel_rfl) ?_
   refine NQ_then ?_
   refine W_seq (c1:=(sub [1,0,0,1,1,0] Bd118)) (c2:=(sub [1,0,0,1,1,1] Bd118)) (by kernel_rfl) ?_
   refine TW_block (id:=1) (c1:=(sub [1,0,0,1,1,0,0] Bd118)) (by kernel_rfl) ?_
   refine W_seq (c1:=(sub [1,0,0,1,1,0,0,0] Bd118)) (c2:=(sub [1,0,0,1,1,0,0,1] Bd118)) (by kernel_rfl) ?_
   refine TW_region (id:=2) (by kernel_rfl) ?_
   refine TWI_pure (y:=(12,vi x1)) (by kernel_rfl) ?_
   obtain ⟨g6,h⟩ := gd_some h
   obtain ⟨x7,e_x7,h⟩ := lt_some h
   refine TWI_at (d:=13) (x:=vi x7) (fun w => (by rw [e_x7]; exact At_index (d:=13) (z:=x1) (k:=.i64) (n:=6) (L:=u1g3) (by subst e_x7; kernel_rfl) hu1g3 g6)) (hyd.gr _ _) (by kernel_rfl) trivial ?_
   refine TWI_pure (y:=(5,vi x1)) (by kernel_rfl) ?_
   refine TWI_pure (y:=(6,vi x7)) (by kernel_rfl) ?_
   refine TWI_keep (σ':=[(0,.lf (.v (.func (.yield l) #[] #[]))),(1,lP bu1),(2,lP bu2),(3,lP bu3),(5,vi x1),(6,vi x7),(9,.agg [.arr .i64 6 u1g3]),(10,vi x1)]) [0,1,2,3,5,6,9,10] (by kernel_rfl) ?_
   refine WI_end (by kernel_rfl) ?_
   refine NQ_then ?_
   refine W_seq (c1:=(sub [1,0,0,1,1,0,0,1,0] Bd118)) (c2:=(sub [1,0,0,1,1,0,0,1,1] Bd118)) (by kernel_rfl) ?_
   refine TW_region (id:=3) (by kernel_rfl) ?_
   refine TWI_at (d:=14) (x:=.agg [oI u1g0,oS Au1g1 u1g1 cu1g1,oS Au1g2 u1g2 cu1g2,.arr .i64 6 u1g3]) (fun w => (At_ldPR (d:=14) (b:=bu1) (off:=0) (m:=9) (c:=[oI u1g0,oS Au1g1 u1g1 cu1g1,oS Au1g2 u1g2 cu1g2,.arr .i64 6 u1g3]) (by kernel_rfl) (by kernel_rfl) (sgCells_length ⟨rfl,⟨rfl,⟨rfl,⟨hu1g3,trivial⟩⟩⟩⟩) (cells_blk (m:=9) hbu1 ⟨rfl,⟨rfl,⟨rfl,⟨hu1g3,trivial⟩⟩⟩⟩ (by kernel_rfl) rfl))) (hyd.gr _ _) (by kernel_rfl) ⟨rfl,⟨rfl,⟨rfl,⟨hu1g3,trivial⟩⟩⟩⟩ ?_
   refine TWI_at (d:=15) (x:=.lf (.v (.int .u64 u2G))) (fun w => (At_ldP (d:=15) (b:=bu2) (off:=0) (m:=1) (v:=(.int .u64 u2G)) (by kernel_rfl) (cell_blk hbu2 ⟨rfl,trivial⟩ (by kernel_rfl)))) (hyd.gr _ _) (by kernel_rfl) trivial ?_
   refine TWI_at (d:=16) (x:=vi u3G) (fun w => (At_ldP (d:=16) (b:=bu3) (off:=0) (m:=1) (v:=(.int .i64 u3G)) (by kernel_rfl) (cell_blk hbu3 ⟨rfl,trivial⟩ (by kernel_rfl)))) (hyd.gr _ _) (by kernel_rfl) trivial ?_
   refine TWI_pure (y:=(17,vi x1)) (by kernel_rfl) ?_
   obtain ⟨v8,c_v8,h⟩ := cl_some h
   refine TWI_at (d:=18) (x:=vi v8) (fun w => (At_call (d:=18) (f:=119) (args:=[rval (.agg [oI u1g0,oS Au1g1 u1g1 cu1g1,oS Au1g2 u1g2 cu1g2,.arr .i64 6 u1g3]),rval (.lf (.v (.int .u64 u2G))),rval (vi u3G),rval (vi x1)]) (x:=vi v8) (by kernel_rfl) (w119 k hu1g1 hu1g2 hu1g3 c_v8))) (hyd.gr _ _) (by kernel_rfl) trivial ?_
   refine TWI_pure (y:=(7,vi v8)) (by kernel_rfl) ?_
   refine TWI_keep (σ':=[(0,.lf (.v (.func (.yield l) #[] #[]))),(1,lP bu1),(2,lP bu2),(3,lP bu3),(5,vi x1),(6,vi x7),(7,vi v8),(9,.agg [.arr .i64 6 u1g3]),(10,vi x1)]) [0,1,2,3,5,6,7,9,10] (by kernel_rfl) ?_
   refine WI_end (by kernel_rfl) ?_
   refine NQ_then ?_
   refine W_seq (c1:=(sub [1,0,0,1,1,0,0,1,1,0] Bd118)) (c2:=(sub [1,0,0,1,1,0,0,1,1,1] Bd118)) (by kernel_rfl) ?_
   refine TW_region (id:=4) (by kernel_rfl) ?_
   refine TWI_pure (y:=(19,vi x7)) (by kernel_rfl) ?_
   refine TWI_pure (y:=(20,vi v8)) (by kernel_rfl) ?_
   obtain ⟨b9,e_b9,h⟩ := lt_some h
   refine TWI_pure (y:=(21,vb b9)) (by subst e_b9;kernel_rfl) ?_
   refine TWI_pure (y:=(22,vb b9)) (by kernel_rfl) ?_
   cases b9 with
   | true =>
    replace h := sp_t h
    refine TWI_pure (y:=(23,.lf (.v (.func (.yield l) #[] #[])))) (by kernel_rfl) ?_
    refine TWI_at (d:=24) (x:=vi u3G) (fun w => (At_ldP (d:=24) (b:=bu3) (off:=0) (m:=1) (v:=(.int .i64 u3G)) (by kernel_rfl) (cell_blk hbu3 ⟨rfl,trivial⟩ (by kernel_rfl)))) (hyd.gr _ _) (by kernel_rfl) trivial ?_
    refine TWI_pure (y:=(25,vi x1)) (by kernel_rfl) ?_
    refine TWI_pure (y:=(26,vi v8)) (by kernel_rfl) ?_
    refine TWI_pure (y:=(27,vi x7)) (by kernel_rfl) ?_
    refine TWI_pure (y:=(28,.agg [.arr .i64 4 [u3G,x1,v8,x7]])) (by kernel_rfl) ?_
    obtain ⟨rest10,h,erest10⟩ := cons_some h
    rw [erest10] at hks
    replace hks := pre_step hks
    refine WI_yield hyd (d:=29) (l:=l) (pr:=pr3) (x:=([u3G,x1,v8,x7])) (by kernel_rfl) rfl ⟨_,hks⟩ (by kernel_rfl) ?_ ?_
    ·refine TWI_pure (y:=(30,vb false)) (by kernel_rfl) ?_
     refine TWI_pure (y:=(31,vb false)) (by kernel_rfl) ?_
     refine TWI_keep (σ':=[(0,.lf (.v (.func (.yield l) #[] #[]))),(1,lP bu1),(2,lP bu2),(3,lP bu3),(9,.agg [.arr .i64 6 u1g3]),(10,vi x1),(31,vb false)]) [0,1,2,3,9,10,31] (by kernel_rfl) ?_
     refine WI_end (by kernel_rfl) ?_
     refine NQ_then ?_
     refine W_condF (x:=(.tmp 31)) (c1:=(sub [1,0,0,1,1,0,0,1,1,1,0] Bd118)) (c2:=(sub [1,0,0,1,1,0,0,1,1,1,1] Bd118)) (by kernel_rfl) (by kernel_rfl) ?_
     refine TW_keep (σ':=[(0,.lf (.v (.func (.yield l) #[] #[]))),(1,lP bu1),(2,lP bu2),(3,lP bu3),(9,.agg [.arr .i64 6 u1g3]),(10,vi x1)]) [0,1,2,3,9,10] (by kernel_rfl) ?_
     refine W_skip (by kernel_rfl) ?_
     refine NQ_bn ?_
     refine NQ_then ?_
     refine TW_region (id:=5) (by kernel_rfl) ?_
     obtain ⟨x11,e_x11,h⟩ := lt_some h
     refine TWI_pure (y:=(32,vi x11)) (by subst e_x11;kernel_rfl) ?_
     refine TWI_pure (y:=(10,vi x11)) (by kernel_rfl) ?_
     refine TWI_keep (σ':=[(0,.lf (.v (.func (.yield l) #[] #[]))),(1,lP bu1),(2,lP bu2),(3,lP bu3),(9,.agg [.arr .i64 6 u1g3]),(10,vi x11)]) [0,1,2,3,9,10] (by kernel_rfl) ?_
     refine WI_end (by kernel_rfl) ?_
     refine NQ_loop n2 (x11,(pr3 ++ [[u3G,x1,v8,x7]]),rest10) (Nat.lt_succ_self _) rfl ⟨hks,h⟩ (fun w hw => hw)
    ·refine TWI_pure (y:=(30,vb true)) (by kernel_rfl) ?_
     refine TWI_pure (y:=(31,vb true)) (by kernel_rfl) ?_
     refine TWI_keep (σ':=[(0,.lf (.v (.func (.yield l) #[] #[]))),(1,lP bu1),(2,lP bu2),(3,lP bu3),(9,.agg [.arr .i64 6 u1g3]),(10,vi x1),(31,vb true)]) [0,1,2,3,9,10,31] (by kernel_rfl) ?_
     refine WI_end (by kernel_rfl) ?_
     refine NQ_then ?_
     refine W_condT (x:=(.tmp 31)) (c1:=(sub [1,0,0,1,1,0,0,1,1,1,0] Bd118)) (c2:=(sub [1,0,0,1,1,0,0,1,1,1,1] Bd118)) (by kernel_rfl) (by kernel_rfl) ?_
     refine W_ret (by kernel_rfl) ?_
     refine NQ_br ?_
     refine NQ_thenr ?_
     refine NQ_thenr ?_
     refine NQ_br ?_
     exact fun w hw => ⟨.inr rfl,.inr hw.1⟩
   | false =>
    replace h := sp_f h
    refine TWI_pure (y:=(23,.tup [])) (by kernel_rfl) ?_
    refine TWI_pure (y:=(24,.tup [])) (by kernel_rfl) ?_
    refine TWI_pure (y:=(25,.tup [])) (by kernel_rfl) ?_
    refine TWI_pure (y:=(26,.tup [])) (by kernel_rfl) ?_
    refine TWI_pure (y:=(27,.tup [])) (by kernel_rfl) ?_
    refine TWI_pure (y:=(28,.tup [])) (by kernel_rfl) ?_
    refine TWI_pure (y:=(29,.tup [])) (by kernel_rfl) ?_
    refine TWI_pure (y:=(30,.tup [])) (by kernel_rfl) ?_
    refine TWI_pure (y:=(31,vb false)) (by kernel_rfl) ?_
    refine TWI_keep (σ':=[(0,.lf (.v (.func (.yield l) #[] #[]))),(1,lP bu1),(2,lP bu2),(3,lP bu3),(9,.agg [.arr .i64 6 u1g3]),(10,vi x1),(31,vb false)]) [0,1,2,3,9,10,31] (by kernel_rfl) ?_
    refine WI_end (by kernel_rfl) ?_
    refine NQ_then ?_
    refine W_condF (x:=(.tmp 31)) (c1:=(sub [1,0,0,1,1,0,0,1,1,1,0] Bd118)) (c2:=(sub [1,0,0,1,1,0,0,1,1,1,1] Bd118)) (by kernel_rfl) (by kernel_rfl) ?_
    refine TW_keep (σ':=[(0,.lf (.v (.func (.yield l) #[] #[]))),(1,lP bu1),(2,lP bu2),(3,lP bu3),(9,.agg [.arr .i64 6 u1g3]),(10,vi x1)]) [0,1,2,3,9,10] (by kernel_rfl) ?_
    refine W_skip (by kernel_rfl) ?_
    refine NQ_bn ?_
    refine NQ_then ?_
    refine TW_region (id:=5) (by kernel_rfl) ?_
    obtain ⟨x12,e_x12,h⟩ := lt_some h
    refine TWI_pure (y:=(32,vi x12)) (by subst e_x12;kernel_rfl) ?_
    refine TWI_pure (y:=(10,vi x12)) (by kernel_rfl) ?_
    refine TWI_keep (σ':=[(0,.lf (.v (.func (.yield l) #[] #[]))),(1,lP bu1),(2,lP bu2),(3,lP bu3),(9,.agg [.arr .i64 6 u1g3]),(10,vi x12)]) [0,1,2,3,9,10] (by kernel_rfl) ?_
    refine WI_end (by kernel_rfl) ?_
    refine NQ_loop n2 (x12,pr3,rest4) (Nat.lt_succ_self _) rfl ⟨hks,h⟩ (fun w hw => hw)
  | false =>
   replace h := sp_f h
   refine W_condF (x:=(.tmp 11)) (c1:=(sub [1,0,0,1,0,0] Bd118)) (c2:=(sub [1,0,0,1,0,1] Bd118)) (by kernel_rfl) (by kernel_rfl) ?_
   refine TW_keep (σ':=[]) [] (by kernel_rfl) ?_
   refine W_exit (id:=0) (by kernel_rfl) ?_
   refine NQ_thenx ?_
   refine NQ_thenx ?_
   refine NQ_bx ?_
   have hn := Option.some.inj h
   exact fun w hw => ⟨.inl rfl,.inl ⟨M,(show pr3 = ks from by rw [← hks,← hn,List.append_nil]) ▸ hw⟩⟩
end Go.Proofs.Ythniebmammmacaa
namespace Go.Proofs.Ythniebmammmacaa
open Go.RowKit
def p71 (k : Nat) (u0_0 : Int) (u0_1 : List (List Int)) (u0_2 : List WT) (u0_3 : List Int) (u1 : Int) (u2 : Int) : Option (List (List Int)) :=
 cl (p118 k u0_0 u0_1 u0_2 u0_3 u1 u2) fun v8 => some v8
theorem hf71 : Try.prog.funcs[71]? = some Try.f71 := by kernel_rfl
theorem w71 (k : Nat) {M : Mem} {Au0_1 Au0_2 : Option Addr} {cu0_1 cu0_2 : Nat} {Hu0_2 : Nat → Option Addr} {Cu0_2 : Nat → Nat} {u0_0 u1 u2 : Int} {u0_1 : List (List Int)} {u0_2 : List WT} {u0_3 : List Int} (hu0_1 : SlR M Au0_1 cu0_1 .i64 12 u0_1) (hu0_2 : SlW M 3 Au0_2 cu0_2 Hu0_2 Cu0_2 u0_2) (hu0_3 : u0_3.length = 6) {r} (h : p71 k u0_0 u0_1 u0_2 u0_3 u1 u2 = some r) :
  Fn Try.prog 71 [rval (.agg [oI u0_0,oS Au0_1 u0_1 cu0_1,oS Au0_2 u0_2 cu0_2,.arr .i64 6 u0_3]),rval (.lf (.v (.int .u64 u1))),rval (vi u2)] M (fun x M' => ∃ (lb1 : List Value),x = .lf (.v (.func (.func 118) #[] (List.toArray lb1))) ∧ IterE (enR 4) Try.prog 118 lb1 M' r) := by
 unfold p71 at h
 refine FO [.agg [oI u0_0,oS Au0_1 u0_1 cu0_1,oS Au0_2 u0_2 cu0_2,.arr .i64 6 u0_3],.lf (.v (.int .u64 u1)),vi u2] hf71 ⟨⟨rfl,⟨rfl,⟨rfl,⟨hu0_3,trivial⟩⟩⟩⟩,⟨trivial,⟨trivial,trivial⟩⟩⟩ fun w => ?_
 refine SQ0 (RG ?_)
 refine SG 4 (S4 [(3,lO 3),(4,lO 4),(5,lO 5)] [(3,[oI u0_0,oS Au0_1 u0_1 cu0_1,oS Au0_2 u0_2 cu0_2,.arr .i64 6 u0_3]),(4,[.one (.v (.int .u64 u1))]),(5,[oI u2])] [] M) ?_
 refine EN ?_
 refine T_turn (turn_pubH 3 (c:=[oI u0_0,oS Au0_1 u0_1 cu0_1,oS Au0_2 u0_2 cu0_2,.arr .i64 6 u0_3]) (by kernel_rfl) (by kernel_rfl)) ?_
 rintro _ ⟨b2,M3,rfl,-,e_M3,-,hM3⟩
 have fb2 : MB M3 b2 [oI u0_0,oS Au0_1 u0_1 cu0_1,oS Au0_2 u0_2 cu0_2,.arr .i64 6 u0_3] := by rw [e_M3]; exact addM_at _ _ _
 refine KG (S4 [(3,lP b2),(4,lO 4),(5,lO 5)] [(4,[.one (.v (.int .u64 u1))]),(5,[oI u2])] [] M3) ?_
 refine T_turn (turn_pubH 4 (c:=[.one (.v (.int .u64 u1))]) (by kernel_rfl) (by kernel_rfl)) ?_
 rintro _ ⟨b4,M5,rfl,-,e_M5,-,hM5⟩
 have fb4 : MB M5 b4 [.one (.v (.int .u64 u1))] := by rw [e_M5]; exact addM_at _ _ _
 refine KG (S4 [(3,lP b2),(4,lP b4),(5,lO 5)] [(5,[oI u2])] [] M5) ?_
 refine T_turn (turn_pubH 5 (c:=[oI u2]) (by kernel_rfl) (by kernel_rfl)) ?_
 rintro _ ⟨b6,M7,rfl,-,e_M7,-,hM7⟩
 have fb6 : MB M7 b6 [oI u2] := by rw [e_M7]; exact addM_at _ _ _
 refine KG (S4 [(3,lP b2),(4,lP b4),(5,lP b6)] [] [] M7) ?_
 refine SQ (RG ?_)
 refine SS 2 [(6,.lf (.v (.func (.func 118) #[] #[(.pointer (some ⟨b2,0,none⟩)),(.pointer (some ⟨b4,0,none⟩)),(.pointer (some ⟨b6,0,none⟩))])))] ?_
 refine EN ?_
 obtain ⟨v8,c_v8,h⟩ := cl_some h
 refine RT ?_
 obtain rfl := sj h
 refine FT (.lf (.v (.func (.func 118) #[] (List.toArray [(.pointer (some ⟨b2,0,none⟩)),(.pointer (some ⟨b4,0,none⟩)),(.pointer (some ⟨b6,0,none⟩))])))) ?_
 exact ⟨[(.pointer (some ⟨b2,0,none⟩)),(.pointer (some ⟨b4,0,none⟩)),(.pointer (some ⟨b6,0,none⟩))],rfl,(w118 k (((hu0_1.le hM3).le hM5).le hM7) (((hu0_2.le hM3).le hM5).le hM7) hu0_3 (hM7 _ _ (hM5 _ _ fb2)) (hM7 _ _ fb4) fb6 c_v8)⟩
def p55_r1 (k : Nat) (j6 : Option Bool) (j7 : Option Bool) : List (List Int) → Option Bool
 | [] => j6
 | x5::rest4 => lt' (fixl 4 x5) fun L11 => j7
def p55 (k : Nat) (u0_0 : Int) (u0_1 : List (List Int)) (u0_2 : List WT) (u0_3 : List Int) (u1 : Int) (u2 : Int) : Option Bool :=
 cl (p71 k u0_0 u0_1 u0_2 u0_3 u1 u2) fun v1 => jn (some true) fun j6 => jn (some false) fun j7 => p55_r1 k j6 j7 v1
theorem hf55 : Try.prog.funcs[55]? = some Try.f55 := by kernel_rfl
theorem w55 (k : Nat) {M : Mem} {Au0_1 Au0_2 : Option Addr} {cu0_1 cu0_2 : Nat} {Hu0_2 : Nat → Option Addr} {Cu0_2 : Nat → Nat} {u0_0 u1 u2 : Int} {u0_1 : List (List Int)} {u0_2 : List WT} {u0_3 : List Int} (hu0_1 : SlR M Au0_1 cu0_1 .i64 12 u0_1) (hu0_2 : SlW M 3 Au0_2 cu0_2 Hu0_2 Cu0_2 u0_2) (hu0_3 : u0_3.length = 6) {r} (h : p55 k u0_0 u0_1 u0_2 u0_3 u1 u2 = some r) :
  Fn Try.prog 55 [rval (.agg [oI u0_0,oS Au0_1 u0_1 cu0_1,oS Au0_2 u0_2 cu0_2,.arr .i64 6 u0_3]),rval (.lf (.v (.int .u64 u1))),rval (vi u2)] M (fun x _ => x = vb r) := by
 unfold p55 at h
 refine FO [.agg [oI u0_0,oS Au0_1 u0_1 cu0_1,oS Au0_2 u0_2 cu0_2,.arr .i64 6 u0_3],.lf (.v (.int .u64 u1)),vi u2] hf55 ⟨⟨rfl,⟨rfl,⟨rfl,⟨hu0_3,trivial⟩⟩⟩⟩,⟨trivial,⟨trivial,trivial⟩⟩⟩ fun w => ?_
 refine SQ0 (RG ?_)
 refine SG 2 (S4 [(1,.lf (.v (.int .u64 u1))),(2,vi u2),(3,lO 3),(6,lO 6)] [(3,[oI u0_0,oS Au0_1 u0_1 cu0_1,oS Au0_2 u0_2 cu0_2,.arr .i64 6 u0_3]),(6,[.one (.v (.bool false))])] [] M) ?_
 refine EN (SQ (SQ (RG ?_)))
 refine SH 3 [(6,lO 6),(7,.agg [oI u0_0,oS Au0_1 u0_1 cu0_1,oS Au0_2 u0_2 cu0_2,.arr .i64 6 u0_3]),(8,.lf (.v (.int .u64 u1))),(9,vi u2)] [(6,[.one (.v (.bool false))])] ?_
 obtain ⟨v1,c_v1,h⟩ := cl_some h
 refine TI_of (i:=3) (by kernel_rfl) (TE_callR (d:=10) (f:=71) (args:=[rval (.agg [oI u0_0,oS Au0_1 u0_1 cu0_1,oS Au0_2 u0_2 cu0_2,.arr .i64 6 u0_3]),rval (.lf (.v (.int .u64 u1))),rval (vi u2)]) (by kernel_rfl) (by kernel_rfl) (w71 k hu0_1 hu0_2 hu0_3 c_v1) ?_)
 rintro _ M3 _ hM3 _ ⟨lb2,rfl,flb2⟩
 refine SG 4 (S4 [(6,lO 6),(10,.lf (.v (.func (.func 118) #[] (List.toArray lb2))))] [(6,[.one (.v (.bool false))])] [] M3) ?_
 refine EN (BK 0 ?_)
 refine KS [(6,lO 6),(10,.lf (.v (.func (.func 118) #[] (List.toArray lb2))))] ?_
 obtain ⟨j6,e_j6,h⟩ := jn_some h
 obtain ⟨j7,e_j7,h⟩ := jn_some h
 refine T_rangeE (enR 4) (p:=11) (g:=10) (gf:=118) (lb:=lb2) (ks:=v1) [6] (assign:=(sub [1,0,1,0,0] Bd55)) (body:=(sub [1,0,1,0,1] Bd55)) (by kernel_rfl) rfl (by kernel_rfl) (by kernel_rfl) (by kernel_rfl) flb2 (enR_ok 4 _) (by kernel_rfl) (by kernel_rfl) (fun (pre : List (List Int)) (H : List (Nat × List Sg)) (V : List (Nat × Vc)) (M' : Mem) => ∃ (rest : List (List Int)),pre ++ rest = v1 ∧ H = [(6,[.one (.v (.bool false))])] ∧ V = [] ∧ Mem.le M3 M' ∧ p55_r1 k j6 j7 rest = some r) (fun (c : Code) (H : List (Nat × List Sg)) (V : List (Nat × Vc)) (M' : Mem) => c = .ret ∧ H = [(6,[.one (.v (.bool false))])] ∧ V = [] ∧ Mem.le M3 M' ∧ j7 = some r) ⟨v1,List.nil_append _,rfl,rfl,(Mem.le_refl _),h⟩ ?_ ?_ ?_ ?_
 ·rintro pre H V M' M'' ⟨rest,hks,e1,e2,hM,h⟩ hMM
  exact ⟨rest,hks,e1,e2,(Mem.le_trans hM hMM),h⟩
 ·rintro l O9 bs pr x5 H V M8 ⟨rest4,hrr⟩ ⟨rest0,hks,rfl,rfl,hM8,h⟩
  have hre : rest0 = x5::rest4 := List.append_cancel_left (hks.trans (by rw [← hrr,List.append_assoc]; rfl))
  subst hre
  rw [p55_r1] at h
  obtain ⟨L11,e_L11,h⟩ := lt_some h
  have l_L11 : (L11).length = 4 := by rw [e_L11]; exact fixl_len _ _
  have e2_L11 : (enR 4) x5 = .agg [.arr .i64 4 L11] := by rw [e_L11]; rfl
  rw [e2_L11]
  refine S0 ?_
  refine ⟨rfl,rfl,rfl,fun O10 => ?_⟩
  refine BK 1 (SQ (RG ?_))
  refine SG 1 { σ := [(6,lO 6),(10,.lf (.v (.func (.func 118) #[] (List.toArray lb2))))],H := [(6,[.one (.v (.bool false))])],V := [],M := M8,ds := [],os := O10,ats := tiesOf [6] bs } ?_
  refine EN (RT (blockQ_r ?_))
  refine ⟨_,keep_sub (s':={ σ := [],H := [(6,[.one (.v (.bool false))])],V := [],M := M8,ds := [],os := O10,ats := tiesOf [6] bs }) (ts:=[]) (hs:=[6]) (vs:=[]) (by kernel_rfl),rfl,rfl,(Mem.le_refl _),?_⟩
  show (fun (c : Code) (H : List (Nat × List Sg)) (V : List (Nat × Vc)) (M' : Mem) => c = .ret ∧ H = [(6,[.one (.v (.bool false))])] ∧ V = [] ∧ Mem.le M3 M' ∧ j7 = some r) .ret _ _ _
  exact ⟨rfl,rfl,rfl,(Mem.le_trans (Mem.le_refl _) hM8),h⟩
 ·rintro D H V M8 ⟨rest0,hks,rfl,rfl,hM8,h⟩
  have hre : rest0 = [] := by have := congrArg List.length hks;simp at this;exact this
  subst hre
  rw [p55_r1] at h
  subst e_j6
  refine blockQ_n (thenQ_n (SQ (RG ?_)))
  refine SG 1 { σ := [(6,lO 6)],H := [(6,[.one (.v (.bool true))])],V := [],M := M8,ds := [D] } ?_
  refine EN (RT ?_)
  obtain rfl := sj h
  refine fin_retD (vb true) D (by kernel_rfl) (by kernel_rfl) rfl ?_
  rfl
 ·rintro D c H V M8 ⟨rfl,rfl,rfl,hM8,h⟩
  subst e_j7
  refine T_ret rfl ?_
  refine blockQ_r (thenQ_r ?_)
  obtain rfl := sj h
  refine fin_retD (vb false) D (by kernel_rfl) (by kernel_rfl) rfl ?_
  rfl
end Go.Proofs.Ythniebmammmacaa
namespace Go.Proofs.Ythniebmammmacaa
open Go.RowKit
def p122 (k : Nat) (u0 : Int) (u1g0 : Int) (u1g1 : List (List Int)) (u1g2 : List WT) (u1g3 : List Int) (u2G : Int) : Option Int :=
 cl (p55 k u1g0 u1g1 u1g2 u1g3 u2G u0) fun v1 => sp v1 (gd ((0 : Int) ≤ u0 ∧ u0 < (u1g1.length : Int)) <| lt' (List.getD (List.getD u1g1 ((u0).toNat) []) 2 0) fun x3 => some x3) (some (-1 : Int))
theorem hf122 : Try.prog.funcs[122]? = some Try.f122 := by kernel_rfl
theorem w122 (k : Nat) {M : Mem} {Au1g1 Au1g2 : Option Addr} {cu1g1 cu1g2 bu1 bu2 : Nat} {Hu1g2 : Nat → Option Addr} {Cu1g2 : Nat → Nat} {u0 u1g0 u2G : Int} {u1g1 : List (List Int)} {u1g2 : List WT} {u1g3 : List Int} (hu1g1 : SlR M Au1g1 cu1g1 .i64 12 u1g1) (hu1g2 : SlW M 3 Au1g2 cu1g2 Hu1g2 Cu1g2 u1g2) (hu1g3 : u1g3.length = 6) (hbu1 : MB M bu1 [oI u1g0,oS Au1g1 u1g1 cu1g1,oS Au1g2 u1g2 cu1g2,.arr .i64 6 u1g3]) (hbu2 : MB M bu2 [.one (.v (.int .u64 u2G))]) {r} (h : p122 k u0 u1g0 u1g1 u1g2 u1g3 u2G = some r) :
  Fn Try.prog 122 [rval (vi u0),rval (lP bu1),rval (lP bu2)] M (fun x _ => x = vi r) := by
 unfold p122 at h
 refine FO [vi u0,lP bu1,lP bu2] hf122 ⟨trivial,⟨trivial,⟨trivial,trivial⟩⟩⟩ fun w => ?_
 refine SQ0 (RG ?_)
 refine SG 1 (S4 [(0,vi u0),(1,lP bu1),(2,lP bu2)] [] [] M) ?_
 refine EN (SQ (SQ (RG ?_)))
 refine AT 5 (.agg [oI u1g0,oS Au1g1 u1g1 cu1g1,oS Au1g2 u1g2 cu1g2,.arr .i64 6 u1g3]) (At_ldPR (b:=bu1) (off:=0) (m:=9) (c:=[oI u1g0,oS Au1g1 u1g1 cu1g1,oS Au1g2 u1g2 cu1g2,.arr .i64 6 u1g3]) (by kernel_rfl) (by kernel_rfl) (sgCells_length ⟨rfl,⟨rfl,⟨rfl,⟨hu1g3,trivial⟩⟩⟩⟩) (cells_blk (m:=9) hbu1 ⟨rfl,⟨rfl,⟨rfl,⟨hu1g3,trivial⟩⟩⟩⟩ (by kernel_rfl) rfl)) ?_ (hx:=⟨rfl,⟨rfl,⟨rfl,⟨hu1g3,trivial⟩⟩⟩⟩)
 refine AT 6 (.lf (.v (.int .u64 u2G))) (At_ldP (b:=bu2) (off:=0) (m:=1) (v:=(.int .u64 u2G)) (by kernel_rfl) (cell_blk hbu2 ⟨rfl,trivial⟩ (by kernel_rfl))) ?_
 refine SH 3 [(0,vi u0),(1,lP bu1),(5,.agg [oI u1g0,oS Au1g1 u1g1 cu1g1,oS Au1g2 u1g2 cu1g2,.arr .i64 6 u1g3]),(6,.lf (.v (.int .u64 u2G))),(7,vi u0)] [] ?_
 obtain ⟨v1,c_v1,h⟩ := cl_some h
 refine AC 8 (vb v1) (w55 k hu1g1 hu1g2 hu1g3 c_v1) ?_
 refine SH 5 [(0,vi u0),(1,lP bu1),(9,vb (!v1))] [] ?_
 refine EN ?_
 cases v1 with
 | true =>
  replace h := sp_t h
  refine CF ?_
  refine KS [(0,vi u0),(1,lP bu1)] ?_
  refine SN (SQ (RG ?_))
  refine SS 2 [(0,vi u0),(11,.lf (.v (.pointer (some ⟨bu1,1,none⟩))))] ?_
  refine AT 12 (lS Au1g1 u1g1 cu1g1) (At_ldP (b:=bu1) (off:=1) (m:=1) (v:=(.slice Au1g1 (u1g1.length) cu1g1)) (by kernel_rfl) (cell_blk hbu1 ⟨rfl,⟨rfl,⟨rfl,⟨hu1g3,trivial⟩⟩⟩⟩ (by kernel_rfl))) ?_
  refine SH 4 [(12,lS Au1g1 u1g1 cu1g1),(13,vi u0)] [] ?_
  obtain ⟨g2,h⟩ := gd_some h
  refine AT 14 (.lf (.ep (.slice Au1g1 (u1g1.length) cu1g1) 12 ((u0).toNat) 0)) (At_idxR (z:=u0) (by kernel_rfl) g2 hu1g1) ?_
  refine SH 6 [(15,.lf (.ep (.slice Au1g1 (u1g1.length) cu1g1) 12 ((u0).toNat) 2))] [] ?_
  obtain ⟨x3,e_x3,h⟩ := lt_some h
  refine AT 16 (vi x3) (by rw [e_x3]; exact At_ldR1 (q:=(u0).toNat) (j:=2) (by subst e_x3; kernel_rfl) rfl (toNat_lt g2) hu1g1) ?_
  refine SH 8 [(4,vi x3)] [] ?_
  refine EN (RT ?_)
  obtain rfl := sj h
  exact FT (vi x3) rfl
 | false =>
  replace h := sp_f h
  refine CT ?_
  refine KS [] ?_
  refine SQ (RG ?_)
  refine SS 1 [(4,vi (-1 : Int))] ?_
  refine EN (RT (thenQ_r ?_))
  obtain rfl := sj h
  exact FT (vi (-1 : Int)) rfl
def p76 (k : Nat) (u0_0 : Int) (u0_1 : List (List Int)) (u0_2 : List WT) (u0_3 : List Int) (u1 : Int) : Option Unit :=
 some ()
theorem hf76 : Try.prog.funcs[76]? = some Try.f76 := by kernel_rfl
theorem w76 (k : Nat) {M : Mem} {Au0_1 Au0_2 : Option Addr} {cu0_1 cu0_2 : Nat} {Hu0_2 : Nat → Option Addr} {Cu0_2 : Nat → Nat} {u0_0 u1 : Int} {u0_1 : List (List Int)} {u0_2 : List WT} {u0_3 : List Int} (hu0_1 : SlR M Au0_1 cu0_1 .i64 12 u0_1) (hu0_2 : SlW M 3 Au0_2 cu0_2 Hu0_2 Cu0_2 u0_2) (hu0_3 : u0_3.length = 6) {r} (h : p76 k u0_0 u0_1 u0_2 u0_3 u1 = some r) :
  Fn Try.prog 76 [rval (.agg [oI u0_0,oS Au0_1 u0_1 cu0_1,oS Au0_2 u0_2 cu0_2,.arr .i64 6 u0_3]),rval (.lf (.v (.int .u64 u1)))] M (fun x M' => ∃ (b1 : Nat) (b2 : Nat),x = .lf (.v (.func (.func 122) #[] #[(.pointer (some ⟨b1,0,none⟩)),(.pointer (some ⟨b2,0,none⟩))])) ∧ MB M' b1 [oI u0_0,oS Au0_1 u0_1 cu0_1,oS Au0_2 u0_2 cu0_2,.arr .i64 6 u0_3] ∧ MB M' b2 [.one (.v (.int .u64 u1))]) := by
 unfold p76 at h
 refine FO [.agg [oI u0_0,oS Au0_1 u0_1 cu0_1,oS Au0_2 u0_2 cu0_2,.arr .i64 6 u0_3],.lf (.v (.int .u64 u1))] hf76 ⟨⟨rfl,⟨rfl,⟨rfl,⟨hu0_3,trivial⟩⟩⟩⟩,⟨trivial,trivial⟩⟩ fun w => ?_
 refine SQ0 (RG ?_)
 refine SG 3 (S4 [(2,lO 2),(3,lO 3)] [(2,[oI u0_0,oS Au0_1 u0_1 cu0_1,oS Au0_2 u0_2 cu0_2,.arr .i64 6 u0_3]),(3,[.one (.v (.int .u64 u1))])] [] M) ?_
 refine EN ?_
 refine T_turn (turn_pubH 2 (c:=[oI u0_0,oS Au0_1 u0_1 cu0_1,oS Au0_2 u0_2 cu0_2,.arr .i64 6 u0_3]) (by kernel_rfl) (by kernel_rfl)) ?_
 rintro _ ⟨b3,M4,rfl,-,e_M4,-,hM4⟩
 have fb3 : MB M4 b3 [oI u0_0,oS Au0_1 u0_1 cu0_1,oS Au0_2 u0_2 cu0_2,.arr .i64 6 u0_3] := by rw [e_M4]; exact addM_at _ _ _
 refine KG (S4 [(2,lP b3),(3,lO 3)] [(3,[.one (.v (.int .u64 u1))])] [] M4) ?_
 refine T_turn (turn_pubH 3 (c:=[.one (.v (.int .u64 u1))]) (by kernel_rfl) (by kernel_rfl)) ?_
 rintro _ ⟨b5,M6,rfl,-,e_M6,-,hM6⟩
 have fb5 : MB M6 b5 [.one (.v (.int .u64 u1))] := by rw [e_M6]; exact addM_at _ _ _
 refine KG (S4 [(2,lP b3),(3,lP b5)] [] [] M6) ?_
 refine SQ (RG ?_)
 refine SS 2 [(4,.lf (.v (.func (.func 122) #[] #[(.pointer (some ⟨b3,0,none⟩)),(.pointer (some ⟨b5,0,none⟩))])))] ?_
 refine EN (RT ?_)
 obtain rfl := sj h
 refine FT (.lf (.v (.func (.func 122) #[] #[(.pointer (some ⟨b3,0,none⟩)),(.pointer (some ⟨b5,0,none⟩))]))) ?_
 exact ⟨b3,b5,rfl,(hM6 _ _ fb3),fb5⟩
end Go.Proofs.Ythniebmammmacaa
