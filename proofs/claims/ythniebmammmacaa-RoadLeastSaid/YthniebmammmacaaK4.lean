/- Lemmas and walks for the law RoadLeast (part 4). No condition: every theorem names its own hypotheses. -/
import Derived.Test.YthniebmammmacaaK3
import Derived.Test.YthniebmammmacaaProg
set_option linter.unusedVariables false
set_option linter.unusedSimpArgs false
set_option maxHeartbeats 4000000
namespace Go.Proofs.Ythniebmammmacaa
open Go.RowKit
def p68 (k : Nat) (u0_0 : Int) (u0_1 : List (List Int)) (u0_2 : List WT) (u1 : List Int) : Option (Int × List (List Int) × List WT × List Int × Int) :=
 cl (p38 k u0_0 u0_1 u0_2) fun v7 => lt' (v7 != (0 : Int)) fun b8 => sp b8 (some ((0 : Int),([] : List (List Int)),([] : List WT),[(0 : Int),(0 : Int),(0 : Int),(0 : Int),(0 : Int),(0 : Int)],v7)) (cl (p39 k u1) fun v9 => some (u0_0,u0_1,u0_2,u1,v9))
theorem hf68 : Try.prog.funcs[68]? = some Try.f68 := by kernel_rfl
theorem w68 (k : Nat) {M : Mem} {Au0_1 Au0_2 : Option Addr} {cu0_1 cu0_2 : Nat} {Hu0_2 : Nat → Option Addr} {Cu0_2 : Nat → Nat} {u0_0 : Int} {u0_1 : List (List Int)} {u0_2 : List WT} {u1 : List Int} (hu0_1 : SlR M Au0_1 cu0_1 .i64 12 u0_1) (hu0_2 : SlW M 3 Au0_2 cu0_2 Hu0_2 Cu0_2 u0_2) (hu1 : u1.length = 6) {r} (h : p68 k u0_0 u0_1 u0_2 u1 = some r) :
  Fn Try.prog 68 [rval (.agg [oI u0_0,oS Au0_1 u0_1 cu0_1,oS Au0_2 u0_2 cu0_2]),rval (.agg [.arr .i64 6 u1])] M (fun x M' => ∃ (A1 : Option Addr) (c2 : Nat) (A3 : Option Addr) (c4 : Nat) (H5 : Nat → Option Addr) (C6 : Nat → Nat),x = .tup [(none,[oI r.1,oS A1 r.2.1 c2,oS A3 r.2.2.1 c4,.arr .i64 6 r.2.2.2.1]),(some (.v (.int .i64 r.2.2.2.2)),[])] ∧ SlR M' A1 c2 .i64 12 r.2.1 ∧ SlW M' 3 A3 c4 H5 C6 r.2.2.1) := by
 unfold p68 at h
 refine FO [.agg [oI u0_0,oS Au0_1 u0_1 cu0_1,oS Au0_2 u0_2 cu0_2],.agg [.arr .i64 6 u1]] hf68 ⟨⟨rfl,⟨rfl,⟨rfl,trivial⟩⟩⟩,⟨⟨hu1,trivial⟩,trivial⟩⟩ fun w => ?_
 refine SQ0 (RG ?_)
 refine SG 4 (S4 [(2,lO 2),(3,lO 3),(4,lO 4)] [(2,[oI u0_0,oS Au0_1 u0_1 cu0_1,oS Au0_2 u0_2 cu0_2]),(3,[.arr .i64 6 u1]),(4,[oI (0 : Int),oS none ([] : List (List Int)) 0,oS none ([] : List WT) 0,.arr .i64 6 [(0 : Int),(0 : Int),(0 : Int),(0 : Int),(0 : Int),(0 : Int)]])] [] M) ?_
 refine EN (SQ (SQ (RG ?_)))
 refine SS 1 [(2,lO 2),(3,lO 3),(4,lO 4),(7,.agg [oI u0_0,oS Au0_1 u0_1 cu0_1,oS Au0_2 u0_2 cu0_2])] ?_
 obtain ⟨v7,c_v7,h⟩ := cl_some h
 refine AC 8 (vi v7) (w38 k hu0_1 hu0_2 c_v7) ?_
 refine SH 3 [(2,lO 2),(3,lO 3),(4,lO 4),(6,vi v7)] [(2,[oI u0_0,oS Au0_1 u0_1 cu0_1,oS Au0_2 u0_2 cu0_2]),(3,[.arr .i64 6 u1]),(4,[oI (0 : Int),oS none ([] : List (List Int)) 0,oS none ([] : List WT) 0,.arr .i64 6 [(0 : Int),(0 : Int),(0 : Int),(0 : Int),(0 : Int),(0 : Int)]])] ?_
 refine EN (SQ (RG ?_))
 obtain ⟨b8,e_b8,h⟩ := lt_some h
 refine SS 2 [(2,lO 2),(3,lO 3),(4,lO 4),(6,vi v7),(10,vb b8)] ?_ (by subst e_b8;kernel_rfl)
 refine EN ?_
 cases b8 with
 | true =>
  replace h := sp_t h
  refine CT ?_
  refine KP [(4,lO 4),(6,vi v7)] [(4,[oI (0 : Int),oS none ([] : List (List Int)) 0,oS none ([] : List WT) 0,.arr .i64 6 [(0 : Int),(0 : Int),(0 : Int),(0 : Int),(0 : Int),(0 : Int)]])] [] ?_
  refine SQ (RG ?_)
  refine SS 4 [(4,lO 4),(5,vi v7)] ?_
  refine EN (RT (thenQ_r ?_))
  obtain rfl := sj h
  refine FT (.tup [(none,[oI (0 : Int),oS none ([] : List (List Int)) 0,oS none ([] : List WT) 0,.arr .i64 6 [(0 : Int),(0 : Int),(0 : Int),(0 : Int),(0 : Int),(0 : Int)]]),(some (.v (.int .i64 v7)),[])]) ?_
  exact ⟨none,0,none,0,(fun _ => none),(fun _ => 0),rfl,(nilR _ _ _ _),(nilW _ _ _ _ _)⟩
 | false =>
  replace h := sp_f h
  refine CF ?_
  refine KS [(2,lO 2),(3,lO 3),(4,lO 4)] ?_
  refine SN (SQ ?_)
  obtain ⟨v9,c_v9,h⟩ := cl_some h
  refine T_draw' (id:=4) [5] [0,0,0,0,0,0,1] (by kernel_rfl) (by kernel_rfl) (by kernel_rfl) (by kernel_rfl) [(13,.agg [oI u0_0,oS Au0_1 u0_1 cu0_1,oS Au0_2 u0_2 cu0_2]),(14,.agg [.arr .i64 6 u1]),(15,.agg [oI u0_0,oS Au0_1 u0_1 cu0_1,oS Au0_2 u0_2 cu0_2,.arr .i64 6 u1]),(16,.agg [.arr .i64 6 u1]),(17,vi v9)] (by kernel_rfl) ⟨⟨rfl,⟨rfl,⟨rfl,trivial⟩⟩⟩,⟨⟨hu1,trivial⟩,⟨⟨rfl,⟨rfl,⟨rfl,⟨hu1,trivial⟩⟩⟩⟩,⟨⟨hu1,trivial⟩,⟨trivial,trivial⟩⟩⟩⟩⟩ ?_
  refine Stage_ex (stage_all' [0,1,2,3] [4] (by kernel_rfl) (by kernel_rfl) (by kernel_rfl) ⟨QF_at (i:=4) (d:=17) (x:=vi v9) (show OpAt _ _ _ 4 17 _ from by exact At_call (d:=17) (f:=39) (args:=[rval (.agg [.arr .i64 6 u1])]) (x:=vi v9) (by kernel_rfl) (w39 k hu1 c_v9)) (by kernel_rfl) (by kernel_rfl),trivial⟩) ({ σ := [(13,.agg [oI u0_0,oS Au0_1 u0_1 cu0_1,oS Au0_2 u0_2 cu0_2]),(14,.agg [.arr .i64 6 u1]),(15,.agg [oI u0_0,oS Au0_1 u0_1 cu0_1,oS Au0_2 u0_2 cu0_2,.arr .i64 6 u1]),(16,.agg [.arr .i64 6 u1]),(17,vi v9),(2,lO 2),(3,lO 3),(4,lO 4)],H := [(4,[oI u0_0,oS Au0_1 u0_1 cu0_1,oS Au0_2 u0_2 cu0_2,.arr .i64 6 u1]),(2,[oI u0_0,oS Au0_1 u0_1 cu0_1,oS Au0_2 u0_2 cu0_2]),(3,[.arr .i64 6 u1]),(4,[oI (0 : Int),oS none ([] : List (List Int)) 0,oS none ([] : List WT) 0,.arr .i64 6 [(0 : Int),(0 : Int),(0 : Int),(0 : Int),(0 : Int),(0 : Int)]])],V := [],M := M,ds := [] }) (by kernel_rfl) [(5,vi v9)] (by kernel_rfl) ⟨trivial,trivial⟩ ?_
  refine Stage_nil (stage_all' [6] [] (by kernel_rfl) (by kernel_rfl) (by kernel_rfl) trivial) ?_
  refine thenQ_n ?_
  refine KG (S4 [(4,lO 4),(5,vi v9)] [(4,[oI u0_0,oS Au0_1 u0_1 cu0_1,oS Au0_2 u0_2 cu0_2,.arr .i64 6 u1])] [] M) ?_
  refine RT ?_
  obtain rfl := sj h
  refine FT (.tup [(none,[oI u0_0,oS Au0_1 u0_1 cu0_1,oS Au0_2 u0_2 cu0_2,.arr .i64 6 u1]),(some (.v (.int .i64 v9)),[])]) ?_
  exact ⟨Au0_1,cu0_1,Au0_2,cu0_2,Hu0_2,Cu0_2,rfl,hu0_1,hu0_2⟩
def p24_l1 (k : Nat) (u0_1 : List (List Int)) (u1 : List Int) (j7 : Int → Option (Int × Int)) : Nat → Int → Int → Option (Int × Int)
 | 0,_,_ => none
 | n10 + 1,x8,x9 => lt' (decide (x9 < (u1.length : Int))) fun b11 => sp b11 (gd ((0 : Int) ≤ x9 ∧ x9 < (u1.length : Int)) <| lt' (List.getD u1 ((x9).toNat) 0) fun x13 => jn (fun (b14 : Bool) => sp b14 (some ((0 : Int),(16 : Int))) (gd ((0 : Int) ≤ x13 ∧ x13 < (u0_1.length : Int)) <| lt' (List.getD u0_1 ((x13).toNat) []) fun L26 => cl (p56 k L26 x8) fun v27 => lt' (wr .i64 (x9 + (1 : Int))) fun x28 => p24_l1 k u0_1 u1 j7 n10 v27 x28)) fun j15 => lt' (decide (x9 > (0 : Int))) fun b16 => sp b16 (gd ((0 : Int) ≤ x13 ∧ x13 < (u0_1.length : Int)) <| lt' (List.getD (List.getD u0_1 ((x13).toNat) []) 0 0) fun x18 => lt' (wr .i64 (x9 - (1 : Int))) fun x19 => gd ((0 : Int) ≤ x19 ∧ x19 < (u1.length : Int)) <| lt' (List.getD u1 ((x19).toNat) 0) fun x21 => gd ((0 : Int) ≤ x21 ∧ x21 < (u0_1.length : Int)) <| lt' (List.getD (List.getD u0_1 ((x21).toNat) []) 1 0) fun x23 => lt' (x18 != x23) fun b24 => j15 b24) (j15 false)) (j7 x8)
def p24 (k : Nat) (u0_0 : Int) (u0_1 : List (List Int)) (u0_2 : List WT) (u1 : List Int) (u2 : Int) : Option (Int × Int) :=
 cl (p38 k u0_0 u0_1 u0_2) fun v1 => lt' (v1 != (0 : Int)) fun b2 => sp b2 (some ((0 : Int),v1)) (cl (p66 k u0_0 u0_1 u0_2 u1) fun v3 => lt' (v3 != (0 : Int)) fun b4 => sp b4 (some ((0 : Int),v3)) (cl (p64 k u2 (0 : Int) (1099511627776 : Int)) fun v5 => sp v5 (jn (fun (x6 : Int) => some (x6,(0 : Int))) fun j7 => p24_l1 k u0_1 u1 j7 k u2 (0 : Int)) (some ((0 : Int),(3 : Int)))))
theorem hf24 : Try.prog.funcs[24]? = some Try.f24 := by kernel_rfl
theorem w24 (k : Nat) {M : Mem} {Au0_1 Au0_2 Au1 : Option Addr} {cu0_1 cu0_2 cu1 : Nat} {Hu0_2 : Nat → Option Addr} {Cu0_2 : Nat → Nat} {u0_0 u2 : Int} {u0_1 : List (List Int)} {u0_2 : List WT} {u1 : List Int} (hu0_1 : SlR M Au0_1 cu0_1 .i64 12 u0_1) (hu0_2 : SlW M 3 Au0_2 cu0_2 Hu0_2 Cu0_2 u0_2) (hu1 : SlI M Au1 cu1 .i64 u1) {r} (h : p24 k u0_0 u0_1 u0_2 u1 u2 = some r) :
  Fn Try.prog 24 [rval (.agg [oI u0_0,oS Au0_1 u0_1 cu0_1,oS Au0_2 u0_2 cu0_2]),rval (lS Au1 u1 cu1),rval (vi u2)] M (fun x _ => x = .tup [(some (.v (.int .i64 r.1)),[]),(some (.v (.int .i64 r.2)),[])]) := by
 unfold p24 at h
 refine FO [.agg [oI u0_0,oS Au0_1 u0_1 cu0_1,oS Au0_2 u0_2 cu0_2],lS Au1 u1 cu1,vi u2] hf24 ⟨⟨rfl,⟨rfl,⟨rfl,trivial⟩⟩⟩,⟨trivial,⟨trivial,trivial⟩⟩⟩ fun w => ?_
 refine SQ0 (RG ?_)
 refine SG 3 (S4 [(1,lS Au1 u1 cu1),(2,vi u2),(3,lO 3)] [(3,[oI u0_0,oS Au0_1 u0_1 cu0_1,oS Au0_2 u0_2 cu0_2])] [] M) ?_
 refine EN (SQ (SQ (RG ?_)))
 refine SS 1 [(1,lS Au1 u1 cu1),(2,vi u2),(3,lO 3),(13,.agg [oI u0_0,oS Au0_1 u0_1 cu0_1,oS Au0_2 u0_2 cu0_2])] ?_
 obtain ⟨v1,c_v1,h⟩ := cl_some h
 refine AC 14 (vi v1) (w38 k hu0_1 hu0_2 c_v1) ?_
 refine SH 3 [(1,lS Au1 u1 cu1),(2,vi u2),(3,lO 3),(8,vi v1)] [(3,[oI u0_0,oS Au0_1 u0_1 cu0_1,oS Au0_2 u0_2 cu0_2])] ?_
 refine EN (SQ (RG ?_))
 obtain ⟨b2,e_b2,h⟩ := lt_some h
 refine SS 2 [(1,lS Au1 u1 cu1),(2,vi u2),(3,lO 3),(8,vi v1),(16,vb b2)] ?_ (by subst e_b2;kernel_rfl)
 refine EN ?_
 cases b2 with
 | true =>
  replace h := sp_t h
  refine CT ?_
  refine KP [(8,vi v1)] [] [] ?_
  refine SQ (RG ?_)
  refine SS 3 [(6,vi (0 : Int)),(7,vi v1)] ?_
  refine EN (RT (thenQ_r ?_))
  obtain rfl := sj h
  exact FT (.tup [(some (.v (.int .i64 (0 : Int))),[]),(some (.v (.int .i64 v1)),[])]) rfl
 | false =>
  replace h := sp_f h
  refine CF ?_
  refine KS [(1,lS Au1 u1 cu1),(2,vi u2),(3,lO 3)] ?_
  refine SN (SQ (SQ (RG ?_)))
  refine SS 2 [(1,lS Au1 u1 cu1),(2,vi u2),(3,lO 3),(18,.agg [oI u0_0,oS Au0_1 u0_1 cu0_1,oS Au0_2 u0_2 cu0_2]),(19,lS Au1 u1 cu1)] ?_
  obtain ⟨v3,c_v3,h⟩ := cl_some h
  refine AC 20 (vi v3) (w66 k hu0_1 hu0_2 hu1 c_v3) ?_
  refine SH 4 [(1,lS Au1 u1 cu1),(2,vi u2),(3,lO 3),(9,vi v3)] [(3,[oI u0_0,oS Au0_1 u0_1 cu0_1,oS Au0_2 u0_2 cu0_2])] ?_
  refine EN (SQ (RG ?_))
  obtain ⟨b4,e_b4,h⟩ := lt_some h
  refine SS 2 [(1,lS Au1 u1 cu1),(2,vi u2),(3,lO 3),(9,vi v3),(22,vb b4)] ?_ (by subst e_b4;kernel_rfl)
  refine EN ?_
  cases b4 with
  | true =>
   replace h := sp_t h
   refine CT ?_
   refine KP [(9,vi v3)] [] [] ?_
   refine SQ (RG ?_)
   refine SS 3 [(6,vi (0 : Int)),(7,vi v3)] ?_
   refine EN (RT (thenQ_r ?_))
   obtain rfl := sj h
   exact FT (.tup [(some (.v (.int .i64 (0 : Int))),[]),(some (.v (.int .i64 v3)),[])]) rfl
  | false =>
   replace h := sp_f h
   refine CF ?_
   refine KS [(1,lS Au1 u1 cu1),(2,vi u2),(3,lO 3)] ?_
   refine SN (SQ (SQ (RG ?_)))
   refine SS 1 [(1,lS Au1 u1 cu1),(2,vi u2),(3,lO 3),(24,vi u2)] ?_
   obtain ⟨v5,c_v5,h⟩ := cl_some h
   refine AC 25 (vb v5) (w64 k  c_v5) ?_
   refine SH 3 [(1,lS Au1 u1 cu1),(2,vi u2),(3,lO 3),(26,vb (!v5))] [(3,[oI u0_0,oS Au0_1 u0_1 cu0_1,oS Au0_2 u0_2 cu0_2])] ?_
   refine EN ?_
   cases v5 with
   | true =>
    replace h := sp_t h
    refine CF ?_
    refine KS [(1,lS Au1 u1 cu1),(2,vi u2),(3,lO 3)] ?_
    refine SN (SQ (RG ?_))
    refine SS 2 [(1,lS Au1 u1 cu1),(3,lO 3),(10,vi u2)] ?_
    refine EN (SQ (SQ (RG ?_)))
    refine SS 3 [(1,lS Au1 u1 cu1),(3,lO 3),(10,vi u2),(28,lS Au1 u1 cu1),(29,vi (u1.length : Int)),(30,vi (0 : Int))] ?_
    refine EN ?_
    obtain ⟨j7,e_j7,h⟩ := jn_some h
    refine T_bcut (id:=0) (c1:=(sub [1,1,1,1,1,0,1,0] Bd24)) (fun s' => ∃ (x6 : Int),Sub { σ := [(10,vi x6)],H := [],V := [],M := M,ds := [] } s' ∧ j7 x6 = some r) (by kernel_rfl) ?_ ?_
    ·refine T_loop (c1:=(sub [1,1,1,1,1,0,1,0,0] Bd24)) (by kernel_rfl) (fun n10 s' => ∃ (x8 : Int) (x9 : Int),Sub { σ := [(1,lS Au1 u1 cu1),(3,lO 3),(10,vi x8),(28,lS Au1 u1 cu1),(29,vi (u1.length : Int)),(30,vi x9)],H := [(3,[oI u0_0,oS Au0_1 u0_1 cu0_1,oS Au0_2 u0_2 cu0_2])],V := [],M := M,ds := [] } s' ∧ p24_l1 k u0_1 u1 j7 n10 x8 x9 = some r) (k:=k) ⟨u2,(0 : Int),keep_sub (ts:=[1,3,10,28,29,30]) (hs:=[3]) (vs:=[]) (by kernel_rfl),h⟩ ?_
     rintro n10 s' ⟨x8,x9,hsub,h⟩
     cases n10 with
     | zero => rw [p24_l1] at h;cases h
     | succ n10 =>
      rw [p24_l1] at h
      refine T_sub hsub ?_
      refine SQ (RG ?_)
      obtain ⟨b11,e_b11,h⟩ := lt_some h
      refine SG 1 (S4 [(1,lS Au1 u1 cu1),(3,lO 3),(10,vi x8),(28,lS Au1 u1 cu1),(29,vi (u1.length : Int)),(30,vi x9),(31,vb b11)] [(3,[oI u0_0,oS Au0_1 u0_1 cu0_1,oS Au0_2 u0_2 cu0_2])] [] M) ?_ (by subst e_b11;kernel_rfl)
      refine EN (SQ ?_)
      cases b11 with
      | true =>
       replace h := sp_t h
       refine CT ?_
       refine KS [(1,lS Au1 u1 cu1),(3,lO 3),(10,vi x8),(28,lS Au1 u1 cu1),(29,vi (u1.length : Int)),(30,vi x9)] ?_
       refine SN (SQ (BK 1 (SQ (RG ?_))))
       refine SS 1 [(1,lS Au1 u1 cu1),(3,lO 3),(10,vi x8),(28,lS Au1 u1 cu1),(29,vi (u1.length : Int)),(30,vi x9),(32,vi x9)] ?_
       obtain ⟨g12,h⟩ := gd_some h
       refine AT 33 (.lf (.ep (.slice Au1 (u1.length) cu1) 1 ((x9).toNat) 0)) (At_idxI (z:=x9) (by kernel_rfl) g12 hu1) ?_
       obtain ⟨x13,e_x13,h⟩ := lt_some h
       refine AT 34 (vi x13) (by rw [e_x13]; exact At_ldI (q:=(x9).toNat) (by subst e_x13; kernel_rfl) (toNat_lt g12) hu1) ?_
       refine SH 5 [(1,lS Au1 u1 cu1),(3,lO 3),(10,vi x8),(11,vi x9),(12,vi x13),(28,lS Au1 u1 cu1),(29,vi (u1.length : Int)),(30,vi x9)] [(3,[oI u0_0,oS Au0_1 u0_1 cu0_1,oS Au0_2 u0_2 cu0_2])] ?_
       refine EN (SQ ?_)
       obtain ⟨j15,e_j15,h⟩ := jn_some h
       refine T_cut (c1:=(sub [1,1,1,1,1,0,1,0,0,1,1,0,0,1,0,0] Bd24)) (c2:=(sub [1,1,1,1,1,0,1,0,0,1,1,0,0,1,0,1] Bd24)) (fun s' => ∃ (b14 : Bool),Sub { σ := [(1,lS Au1 u1 cu1),(3,lO 3),(10,vi x8),(12,vi x13),(28,lS Au1 u1 cu1),(29,vi (u1.length : Int)),(30,vi x9),(55,vb b14)],H := [(3,[oI u0_0,oS Au0_1 u0_1 cu0_1,oS Au0_2 u0_2 cu0_2])],V := [],M := M,ds := [] } s' ∧ j15 b14 = some r) (by kernel_rfl) ?_ ?_
       ·obtain ⟨b16,e_b16,h⟩ := lt_some h
        cases b16 with
        | true =>
         replace h := sp_t h
         obtain ⟨g17,h⟩ := gd_some h
         obtain ⟨x18,e_x18,h⟩ := lt_some h
         obtain ⟨x19,e_x19,h⟩ := lt_some h
         obtain ⟨g20,h⟩ := gd_some h
         obtain ⟨x21,e_x21,h⟩ := lt_some h
         obtain ⟨g22,h⟩ := gd_some h
         obtain ⟨x23,e_x23,h⟩ := lt_some h
         obtain ⟨b24,e_b24,h⟩ := lt_some h
         refine T_draw' (id:=13) [] [0,0,0,0,0,0,0,0,0,0,0,0,0,0,0,0,0,0,0,0,0] (by kernel_rfl) (by kernel_rfl) (by kernel_rfl) (by kernel_rfl) [(35,vi x9),(36,vb true),(37,vb true),(38,.lf (.own 3 1)),(39,lS Au0_1 u0_1 cu0_1),(40,vi x13),(41,.lf (.ep (.slice Au0_1 (u0_1.length) cu0_1) 12 ((x13).toNat) 0)),(42,.lf (.ep (.slice Au0_1 (u0_1.length) cu0_1) 12 ((x13).toNat) 0)),(43,vi x18),(44,.lf (.own 3 1)),(45,lS Au0_1 u0_1 cu0_1),(46,lS Au1 u1 cu1),(47,vi x9),(48,vi x19),(49,.lf (.ep (.slice Au1 (u1.length) cu1) 1 ((x19).toNat) 0)),(50,vi x21),(51,.lf (.ep (.slice Au0_1 (u0_1.length) cu0_1) 12 ((x21).toNat) 0)),(52,.lf (.ep (.slice Au0_1 (u0_1.length) cu0_1) 12 ((x21).toNat) 1)),(53,vi x23),(54,vb b24),(55,vb b24)] (by kernel_rfl) (wfs_lf _ (by kernel_rfl)) ?_
         refine Stage_nil (stage_all' [0,2,3,4,5,7,9,10,11,12,13,17,19,20] [1,6,8,14,15,16,18] (by kernel_rfl) (by subst_vars; kernel_rfl) (by kernel_rfl) ⟨QF_at (i:=1) (d:=36) (x:=vb true) (show OpAt _ _ _ 1 36 _ from by exact At_bin (d:=36) (b:=.gtr) (u:=.int .i64 x9) (v:=.int .i64 (0 : Int)) (w':=.bool true) (by subst_vars; kernel_rfl) (by rw [show exBin .gtr (.int .i64 x9) (.int .i64 (0 : Int)) = some (.bool (decide (x9 > (0 : Int)))) from by kernel_rfl,← e_b16])) (by kernel_rfl) (by subst_vars; kernel_rfl),⟨QF_at (i:=6) (d:=41) (x:=.lf (.ep (.slice Au0_1 (u0_1.length) cu0_1) 12 ((x13).toNat) 0)) (show OpAt _ _ _ 6 41 _ from by exact At_idxR (d:=41) (z:=x13) (by subst_vars; kernel_rfl) g17 hu0_1) (by kernel_rfl) (by subst_vars; kernel_rfl),⟨QF_at (i:=8) (d:=43) (x:=vi x18) (show OpAt _ _ _ 8 43 _ from by rw [e_x18]; exact At_ldR1 (d:=43) (q:=(x13).toNat) (j:=0) (by subst_vars; kernel_rfl) rfl (toNat_lt g17) hu0_1) (by kernel_rfl) (by subst_vars; kernel_rfl),⟨QF_at (i:=14) (d:=49) (x:=.lf (.ep (.slice Au1 (u1.length) cu1) 1 ((x19).toNat) 0)) (show OpAt _ _ _ 14 49 _ from by exact At_idxI (d:=49) (z:=x19) (by subst_vars; kernel_rfl) g20 hu1) (by kernel_rfl) (by subst_vars; kernel_rfl),⟨QF_at (i:=15) (d:=50) (x:=vi x21) (show OpAt _ _ _ 15 50 _ from by rw [e_x21]; exact At_ldI (d:=50) (q:=(x19).toNat) (by subst_vars; kernel_rfl) (toNat_lt g20) hu1) (by kernel_rfl) (by subst_vars; kernel_rfl),⟨QF_at (i:=16) (d:=51) (x:=.lf (.ep (.slice Au0_1 (u0_1.length) cu0_1) 12 ((x21).toNat) 0)) (show OpAt _ _ _ 16 51 _ from by exact At_idxR (d:=51) (z:=x21) (by subst_vars; kernel_rfl) g22 hu0_1) (by kernel_rfl) (by subst_vars; kernel_rfl),⟨QF_at (i:=18) (d:=53) (x:=vi x23) (show OpAt _ _ _ 18 53 _ from by rw [e_x23]; exact At_ldR1 (d:=53) (q:=(x21).toNat) (j:=1) (by subst_vars; kernel_rfl) rfl (toNat_lt g22) hu0_1) (by kernel_rfl) (by subst_vars; kernel_rfl),trivial⟩⟩⟩⟩⟩⟩⟩) ?_
         refine thenQ_n ?_
         exact ⟨b24,keep_sub (ts:=[1,3,10,12,28,29,30,55]) (hs:=[3]) (vs:=[]) (by subst_vars;kernel_rfl),h⟩
        | false =>
         replace h := sp_f h
         refine T_draw' (id:=13) [] [0,0,0,0,0,0,0,0,0,0,0,0,0,0,0,0,0,0,0,0,0] (by kernel_rfl) (by kernel_rfl) (by kernel_rfl) (by kernel_rfl) [(35,vi x9),(36,vb false),(37,vb false),(38,.tup []),(39,.tup []),(40,.tup []),(41,.tup []),(42,.tup []),(43,.tup []),(44,.tup []),(45,.tup []),(46,.tup []),(47,.tup []),(48,.tup []),(49,.tup []),(50,.tup []),(51,.tup []),(52,.tup []),(53,.tup []),(54,.tup []),(55,vb false)] (by kernel_rfl) ⟨trivial,⟨trivial,⟨trivial,⟨(by intro y hy;cases hy),⟨(by intro y hy;cases hy),⟨(by intro y hy;cases hy),⟨(by intro y hy;cases hy),⟨(by intro y hy;cases hy),⟨(by intro y hy;cases hy),⟨(by intro y hy;cases hy),⟨(by intro y hy;cases hy),⟨(by intro y hy;cases hy),⟨(by intro y hy;cases hy),⟨(by intro y hy;cases hy),⟨(by intro y hy;cases hy),⟨(by intro y hy;cases hy),⟨(by intro y hy;cases hy),⟨(by intro y hy;cases hy),⟨(by intro y hy;cases hy),⟨(by intro y hy;cases hy),⟨trivial,trivial⟩⟩⟩⟩⟩⟩⟩⟩⟩⟩⟩⟩⟩⟩⟩⟩⟩⟩⟩⟩⟩ ?_
         refine Stage_nil (stage_all' [0,2,3,4,5,6,7,8,9,10,11,12,13,14,15,16,17,18,19,20] [1] (by kernel_rfl) (by kernel_rfl) (by kernel_rfl) ⟨QF_at (i:=1) (d:=36) (x:=vb false) (show OpAt _ _ _ 1 36 _ from by exact At_bin (d:=36) (b:=.gtr) (u:=.int .i64 x9) (v:=.int .i64 (0 : Int)) (w':=.bool false) (by kernel_rfl) (by rw [show exBin .gtr (.int .i64 x9) (.int .i64 (0 : Int)) = some (.bool (decide (x9 > (0 : Int)))) from by kernel_rfl,← e_b16])) (by kernel_rfl) (by kernel_rfl),trivial⟩) ?_
         refine thenQ_n ?_
         exact ⟨false,keep_sub (ts:=[1,3,10,12,28,29,30,55]) (hs:=[3]) (vs:=[]) (by kernel_rfl),h⟩
       ·rintro s' ⟨b14,hsub,h⟩
        subst e_j15
        refine T_sub hsub ?_
        cases b14 with
        | true =>
         replace h := sp_t h
         refine CT ?_
         refine KG (S4 [] [] [] M) ?_
         refine SQ (RG ?_)
         refine SS 2 [(6,vi (0 : Int)),(7,vi (16 : Int))] ?_
         refine EN (RT (thenQ_r (blockQ_r (thenQ_r (thenQ_r (blockQ_r (thenQ_r (thenQ_r ?_))))))))
         obtain rfl := sj h
         exact FT (.tup [(some (.v (.int .i64 (0 : Int))),[]),(some (.v (.int .i64 (16 : Int))),[])]) rfl
        | false =>
         replace h := sp_f h
         refine CF ?_
         refine KG (S4 [(1,lS Au1 u1 cu1),(3,lO 3),(10,vi x8),(12,vi x13),(28,lS Au1 u1 cu1),(29,vi (u1.length : Int)),(30,vi x9)] [(3,[oI u0_0,oS Au0_1 u0_1 cu0_1,oS Au0_2 u0_2 cu0_2])] [] M) ?_
         refine SN (RG ?_)
         refine SS 3 [(1,lS Au1 u1 cu1),(3,lO 3),(10,vi x8),(28,lS Au1 u1 cu1),(29,vi (u1.length : Int)),(30,vi x9),(57,lS Au0_1 u0_1 cu0_1),(58,vi x13)] ?_
         obtain ⟨g25,h⟩ := gd_some h
         refine AT 59 (.lf (.ep (.slice Au0_1 (u0_1.length) cu0_1) 12 ((x13).toNat) 0)) (At_idxR (z:=x13) (by kernel_rfl) g25 hu0_1) ?_
         obtain ⟨L26,e_L26,h⟩ := lt_some h
         have l_L26 : (L26).length = 12 := by rw [e_L26]; exact SlR_row hu0_1 (toNat_lt g25)
         refine AT 60 (.agg [.arr .i64 12 L26]) (by rw [e_L26]; exact At_ldRow (q:=(x13).toNat) (by subst e_L26; kernel_rfl) (toNat_lt g25) hu0_1) ?_ (hx:=⟨l_L26,trivial⟩)
         refine SH 6 [(1,lS Au1 u1 cu1),(3,lO 3),(28,lS Au1 u1 cu1),(29,vi (u1.length : Int)),(30,vi x9),(60,.agg [.arr .i64 12 L26]),(61,vi x8)] [(3,[oI u0_0,oS Au0_1 u0_1 cu0_1,oS Au0_2 u0_2 cu0_2])] ?_
         obtain ⟨v27,c_v27,h⟩ := cl_some h
         refine AC 62 (vi v27) (w56 k l_L26 c_v27) ?_
         refine SH 8 [(1,lS Au1 u1 cu1),(3,lO 3),(10,vi v27),(28,lS Au1 u1 cu1),(29,vi (u1.length : Int)),(30,vi x9)] [(3,[oI u0_0,oS Au0_1 u0_1 cu0_1,oS Au0_2 u0_2 cu0_2])] ?_
         refine E0 (blockQ_n (thenQ_n (RG ?_)))
         obtain ⟨x28,e_x28,h⟩ := lt_some h
         refine SS 2 [(1,lS Au1 u1 cu1),(3,lO 3),(10,vi v27),(28,lS Au1 u1 cu1),(29,vi (u1.length : Int)),(30,vi x28)] ?_ (by subst e_x28;kernel_rfl)
         refine EN ?_
         exact ⟨n10,Nat.lt_succ_self _,v27,x28,keep_sub (ts:=[1,3,10,28,29,30]) (hs:=[3]) (vs:=[]) (by kernel_rfl),h⟩
      | false =>
       replace h := sp_f h
       refine CF ?_
       refine KP [(10,vi x8)] [] [] ?_
       refine XI 0 (thenQ_x (thenQ_x (blockQ_x (thenQ_n ?_))))
       exact ⟨x8,keep_sub (ts:=[10]) (hs:=[]) (vs:=[]) (by kernel_rfl),h⟩
    ·rintro s' ⟨x6,hsub,h⟩
     subst e_j7
     refine thenQ_n ?_
     refine T_sub hsub ?_
     refine SQ (RG ?_)
     refine SG 3 (S4 [(6,vi x6),(7,vi (0 : Int))] [] [] M) ?_
     refine EN (RT ?_)
     obtain rfl := sj h
     exact FT (.tup [(some (.v (.int .i64 x6)),[]),(some (.v (.int .i64 (0 : Int))),[])]) rfl
   | false =>
    replace h := sp_f h
    refine CT ?_
    refine KP [] [] [] ?_
    refine SQ (RG ?_)
    refine SS 2 [(6,vi (0 : Int)),(7,vi (3 : Int))] ?_
    refine EN (RT (thenQ_r ?_))
    obtain rfl := sj h
    exact FT (.tup [(some (.v (.int .i64 (0 : Int))),[]),(some (.v (.int .i64 (3 : Int))),[])]) rfl
end Go.Proofs.Ythniebmammmacaa
namespace Go.Proofs.Ythniebmammmacaa
open Go.RowKit
def p123_r1 (k : Nat) (j7 : List Int → Option (List Int)) : List (Int) → List Int → Option (List Int)
 | [],L4 => j7 L4
 | x6::rest5,L4 => gd ((L4.length + List.length ([x6])) * 8 ≤ 140737488355328) <| lt' (L4 ++ ([x6])) fun W12 => p123_r1 k j7 rest5 W12
def p123 (k : Nat) (u1 : List (Int)) : Option (List Int) :=
 jn (fun (L4 : List Int) => some L4) fun j7 => p123_r1 k j7 u1 ([] : List Int)
theorem hf123 : Try.prog.funcs[123]? = some Try.f123 := by kernel_rfl
theorem w123 (k : Nat) {M : Mem} {lbu1 : List Value} {u1 : List (Int)} (hu1 : IterE enI Try.prog 124 lbu1 M u1) {r} (h : p123 k u1 = some r) :
  Fn Try.prog 123 [rval (lS none ([] : List Int) 0),rval (.lf (.v (.func (.func 124) #[] (List.toArray lbu1))))] M (fun x M' => ∃ (A1 : Option Addr) (c2 : Nat),x = lS A1 r c2 ∧ SlI M' A1 c2 .i64 r) := by
 unfold p123 at h
 refine FO [lS none ([] : List Int) 0,.lf (.v (.func (.func 124) #[] (List.toArray lbu1)))] hf123 ⟨trivial,⟨trivial,trivial⟩⟩ fun w => ?_
 refine SQ0 (RG ?_)
 refine SG 2 (S4 [(1,.lf (.v (.func (.func 124) #[] (List.toArray lbu1)))),(2,lO 2),(4,lS none ([] : List Int) 0)] [(2,[oS none ([] : List Int) 0])] [] M) ?_
 refine EN ?_
 refine T_turn (turn_nil 5003 3 1 [(1,.lf (.v (.func (.func 124) #[] (List.toArray lbu1)))),(2,lO 2),(4,lS none ([] : List Int) 0)] [(2,[.one (.vec 5003)])] (by kernel_rfl) (by kernel_rfl) (by kernel_rfl)) ?_
 rintro _ rfl
 refine KG (S4 [(1,.lf (.v (.func (.func 124) #[] (List.toArray lbu1)))),(2,lO 2),(4,lS none ([] : List Int) 0)] [(2,[.one (.vec 5003)])] [(5003,vI 3 1 ([] : List Int))] M) ?_
 refine SQ (SQ (RG ?_))
 refine SS 1 [(2,lO 2),(4,lS none ([] : List Int) 0),(6,.lf (.v (.func (.func 124) #[] (List.toArray lbu1))))] ?_
 refine EN (BK 0 ?_)
 refine KS [(2,lO 2),(4,lS none ([] : List Int) 0),(6,.lf (.v (.func (.func 124) #[] (List.toArray lbu1))))] ?_
 obtain ⟨j7,e_j7,h⟩ := jn_some h
 refine T_rangeE enI (p:=7) (g:=6) (gf:=124) (lb:=lbu1) (ks:=u1) [2] (assign:=(sub [1,0,1,0,0] Bd123)) (body:=(sub [1,0,1,0,1] Bd123)) (by kernel_rfl) rfl (by kernel_rfl) (by kernel_rfl) (by kernel_rfl) hu1 (enI_ok _) (by kernel_rfl) (by kernel_rfl) (fun (pre : List (Int)) (H : List (Nat × List Sg)) (V : List (Nat × Vc)) (M' : Mem) => ∃ (L4 : List Int) (rest : List (Int)),pre ++ rest = u1 ∧ H = [(2,[.one (.vec 5003)])] ∧ V = [(5003,vI 3 1 L4)] ∧ Mem.le M M' ∧ p123_r1 k j7 rest L4 = some r) (fun (c : Code) (H : List (Nat × List Sg)) (V : List (Nat × Vc)) (M' : Mem) => False) ⟨([] : List Int),u1,List.nil_append _,rfl,rfl,(Mem.le_refl _),h⟩ ?_ ?_ ?_ ?_
 ·rintro pre H V M' M'' ⟨L4,rest,hks,e1,e2,hM,h⟩ hMM
  exact ⟨L4,rest,hks,e1,e2,(Mem.le_trans hM hMM),h⟩
 ·rintro l O9 bs pr x6 H V M8 ⟨rest5,hrr⟩ ⟨L4,rest0,hks,rfl,rfl,hM8,h⟩
  have hre : rest0 = x6::rest5 := List.append_cancel_left (hks.trans (by rw [← hrr,List.append_assoc]; rfl))
  subst hre
  rw [p123_r1] at h
  refine RG ?_
  refine SG 1 { σ := [(2,lO 2),(4,lS none ([] : List Int) 0),(5,vi x6),(6,.lf (.v (.func (.func 124) #[] (List.toArray lbu1))))],H := [(2,[.one (.vec 5003)])],V := [(5003,vI 3 1 L4)],M := M8,ds := [],os := O9,ats := tiesOf [2] bs } ?_
  refine E0 ?_
  refine ⟨rfl,rfl,rfl,fun O10 => ?_⟩
  refine BK 1 (RG ?_)
  refine SG 2 { σ := [(2,lO 2),(4,lS none ([] : List Int) 0),(6,.lf (.v (.func (.func 124) #[] (List.toArray lbu1)))),(8,lV 5003),(9,vi x6)],H := [(2,[.one (.vec 5003)])],V := [(5003,vI 3 1 L4)],M := M8,ds := [],os := O10,ats := tiesOf [2] bs } ?_
  refine TI_of (i:=2) (by kernel_rfl) (TE_litC (d:=10) (e:=3) (sz:=1) (len:=1) (cs:=ints .i64 ([x6])) (by kernel_rfl) (by kernel_rfl) (by kernel_rfl) ?_)
  obtain ⟨g11,h⟩ := gd_some h
  obtain ⟨W12,e_W12,h⟩ := lt_some h
  refine TI_of (i:=3) (by kernel_rfl) (TE_appC (d:=11) (e:=3) (sz:=1) (bytes:=8) (n:=5003) (x:=(.tmp 10)) (len:=List.length L4) (cs0:=ints .i64 L4) (cs2:=ints .i64 W12) (by subst e_W12;kernel_rfl) (by kernel_rfl) (by subst e_W12;kernel_rfl) (vecI_src (n:=10) (e:=3) (k:=.i64) (L:=[x6]) (by subst e_W12;kernel_rfl) (by subst e_W12;kernel_rfl)) g11 rfl (len_app_eq e_W12) (ints_app_eq e_W12) ?_)
  refine SG 5 { σ := [(2,lO 2),(4,lS none ([] : List Int) 0),(6,.lf (.v (.func (.func 124) #[] (List.toArray lbu1))))],H := [(2,[.one (.vec 11)])],V := [(11,vI 3 1 W12)],M := M8,ds := [],os := O10,ats := tiesOf [2] bs } ?_
  refine E0 (blockQ_n ?_)
  refine ⟨_,Sub.trans (ren_sub 11 5003 (s':={ σ := [],H := [(2,[.one (.vec 5003)])],V := [(5003,vI 3 1 W12)],M := M8,ds := [],os := O10,ats := tiesOf [2] bs }) (by kernel_rfl) (by kernel_rfl)) (keep_sub (s':={ σ := [],H := [(2,[.one (.vec 11)])],V := [(11,vI 3 1 W12)],M := M8,ds := [],os := O10,ats := tiesOf [2] bs }) (ts:=[]) (hs:=[2]) (vs:=[11]) (by kernel_rfl)),rfl,rfl,(Mem.le_refl _),?_⟩
  show (fun (pre : List (Int)) (H : List (Nat × List Sg)) (V : List (Nat × Vc)) (M' : Mem) => ∃ (L4 : List Int) (rest : List (Int)),pre ++ rest = u1 ∧ H = [(2,[.one (.vec 5003)])] ∧ V = [(5003,vI 3 1 L4)] ∧ Mem.le M M' ∧ p123_r1 k j7 rest L4 = some r) (pr ++ [x6]) _ _ _
  exact ⟨W12,rest5,by rw [List.append_assoc]; exact hks,rfl,rfl,(Mem.le_trans (Mem.le_refl _) hM8),h⟩
 ·rintro D H V M8 ⟨L4,rest0,hks,rfl,rfl,hM8,h⟩
  have hre : rest0 = [] := by have := congrArg List.length hks;simp at this;exact this
  subst hre
  rw [p123_r1] at h
  subst e_j7
  refine blockQ_n (thenQ_n (SQ (RG ?_)))
  refine SG 2 { σ := [(4,lV 5003)],H := [],V := [(5003,vI 3 1 L4)],M := M8,ds := [D] } ?_
  refine EN ?_
  refine T_turn (turn_pubV 5003 (v:=vI 3 1 L4) (by kernel_rfl)) ?_
  rintro _ ⟨A13,c14,M15,rfl,hSA13,hcA13,-,hNA13,hM15⟩
  have fA13 : SlI M15 A13 c14 .i64 L4 := ⟨hSA13,hcA13⟩
  refine KG { σ := [(4,lS A13 L4 c14)],H := [],V := [],M := M15,ds := [D] } ?_
  refine RT ?_
  obtain rfl := sj h
  refine fin_retD (lS A13 L4 c14) D (by kernel_rfl) (by kernel_rfl) rfl ?_
  exact ⟨A13,c14,rfl,fA13⟩
 ·intro D c H V M' hI
  exact hI.elim
def p78 (k : Nat) (u0 : List (Int)) : Option (List Int) :=
 cl (p123 k u0) fun v3 => some v3
theorem hf78 : Try.prog.funcs[78]? = some Try.f78 := by kernel_rfl
theorem w78 (k : Nat) {M : Mem} {lbu0 : List Value} {u0 : List (Int)} (hu0 : IterE enI Try.prog 124 lbu0 M u0) {r} (h : p78 k u0 = some r) :
  Fn Try.prog 78 [rval (.lf (.v (.func (.func 124) #[] (List.toArray lbu0))))] M (fun x M' => ∃ (A1 : Option Addr) (c2 : Nat),x = lS A1 r c2 ∧ SlI M' A1 c2 .i64 r) := by
 unfold p78 at h
 refine FO [.lf (.v (.func (.func 124) #[] (List.toArray lbu0)))] hf78 ⟨trivial,trivial⟩ fun w => ?_
 refine SQ0 (RG ?_)
 refine SG 1 (S4 [(0,.lf (.v (.func (.func 124) #[] (List.toArray lbu0))))] [] [] M) ?_
 refine EN (SQ (RG ?_))
 refine SS 1 [(3,.lf (.v (.func (.func 124) #[] (List.toArray lbu0))))] ?_
 obtain ⟨v3,c_v3,h⟩ := cl_some h
 refine TI_of (i:=1) (by kernel_rfl) (TE_callR (d:=4) (f:=123) (args:=[rval (lS none ([] : List Int) 0),rval (.lf (.v (.func (.func 124) #[] (List.toArray lbu0))))]) (by kernel_rfl) (by kernel_rfl) (w123 k hu0 c_v3) ?_)
 rintro _ M6 _ hM6 _ ⟨A4,c5,rfl,fA4⟩
 refine SG 3 (S4 [(2,lS A4 v3 c5)] [] [] M6) ?_
 refine EN (RT ?_)
 obtain rfl := sj h
 refine FT (lS A4 v3 c5) ?_
 exact ⟨A4,c5,rfl,fA4⟩
end Go.Proofs.Ythniebmammmacaa
namespace Go.Proofs.Ythniebmammmacaa
open Go.RowKit
def p81 (k : Nat) (u0 : List Int) (u1G : Int) (u2G : List Int) : Option Bool :=
 jn (fun (b1 : Bool) => some b1) fun j2 => lt' (List.getD u0 0 0) fun x3 => lt' (x3 == u1G) fun b4 => sp b4 (gd ((0 : Int) ≤ u1G ∧ u1G < (u2G.length : Int)) <| lt' (List.getD u2G ((u1G).toNat) 0) fun x6 => lt' (List.getD u0 2 0) fun x7 => lt' (List.getD u0 1 0) fun x8 => gd ((0 : Int) ≤ x8 ∧ x8 < (u2G.length : Int)) <| lt' (List.getD u2G ((x8).toNat) 0) fun x10 => lt' (wr .i64 (x7 + x10)) fun x11 => lt' (x6 == x11) fun b12 => j2 b12) (j2 false)
theorem hf81 : Try.prog.funcs[81]? = some Try.f81 := by kernel_rfl
theorem w81 (k : Nat) {M : Mem} {bu1 cu2G bu2 : Nat} {Au2G : Option Addr} {u0 u2G : List Int} {u1G : Int} (hu0 : u0.length = 12) (hbu1 : MB M bu1 [oI u1G]) (hu2G : SlI M Au2G cu2G .i64 u2G) (hbu2 : MB M bu2 [oS Au2G u2G cu2G]) {r} (h : p81 k u0 u1G u2G = some r) :
  Fn Try.prog 81 [rval (.agg [.arr .i64 12 u0]),rval (lP bu1),rval (lP bu2)] M (fun x _ => x = vb r) := by
 unfold p81 at h
 refine FO [.agg [.arr .i64 12 u0],lP bu1,lP bu2] hf81 ⟨⟨hu0,trivial⟩,⟨trivial,⟨trivial,trivial⟩⟩⟩ fun w => ?_
 refine SQ0 (RG ?_)
 refine SG 2 (S4 [(1,lP bu1),(2,lP bu2),(3,lO 3)] [(3,[.arr .i64 12 u0])] [] M) ?_
 refine EN ?_
 obtain ⟨j2,e_j2,h⟩ := jn_some h
 refine T_cut (c1:=(sub [1,0] Bd81)) (c2:=(sub [1,1] Bd81)) (fun s' => ∃ (b1 : Bool),Sub { σ := [(4,vb b1)],H := [],V := [],M := M,ds := [] } s' ∧ j2 b1 = some r) (by kernel_rfl) ?_ ?_
 ·obtain ⟨x3,e_x3,h⟩ := lt_some h
  obtain ⟨b4,e_b4,h⟩ := lt_some h
  cases b4 with
  | true =>
   replace h := sp_t h
   obtain ⟨g5,h⟩ := gd_some h
   obtain ⟨x6,e_x6,h⟩ := lt_some h
   obtain ⟨x7,e_x7,h⟩ := lt_some h
   obtain ⟨x8,e_x8,h⟩ := lt_some h
   obtain ⟨g9,h⟩ := gd_some h
   obtain ⟨x10,e_x10,h⟩ := lt_some h
   obtain ⟨x11,e_x11,h⟩ := lt_some h
   obtain ⟨b12,e_b12,h⟩ := lt_some h
   refine T_draw' (id:=1) [] [0,0,0,0,0,0,0,0,0,0,0,0,0,0,0,0,0,0,0,0] (by kernel_rfl) (by kernel_rfl) (by kernel_rfl) (by kernel_rfl) [(5,lO 3),(6,vi x3),(7,vi u1G),(8,vb true),(9,vb true),(10,lS Au2G u2G cu2G),(11,vi u1G),(12,.lf (.ep (.slice Au2G (u2G.length) cu2G) 1 ((u1G).toNat) 0)),(13,vi x6),(14,.lf (.own 3 2)),(15,vi x7),(16,lS Au2G u2G cu2G),(17,.lf (.own 3 1)),(18,vi x8),(19,.lf (.ep (.slice Au2G (u2G.length) cu2G) 1 ((x8).toNat) 0)),(20,vi x10),(21,vi x11),(22,vb b12),(23,vb b12),(4,vb b12)] (by kernel_rfl) (wfs_lf _ (by kernel_rfl)) ?_
   refine Stage_nil (stage_all' [0,1,4,9,10,12,13,16,17,18,19] [2,3,5,6,7,8,11,14,15] (by kernel_rfl) (by subst_vars; kernel_rfl) (by kernel_rfl) ⟨QF_at (i:=2) (d:=7) (x:=vi u1G) (show OpAt _ _ _ 2 7 _ from by exact At_ldP (d:=7) (b:=bu1) (off:=0) (m:=1) (v:=(.int .i64 u1G)) (by subst_vars; kernel_rfl) (cell_blk hbu1 ⟨rfl,trivial⟩ (by kernel_rfl))) (by kernel_rfl) (by subst_vars; kernel_rfl),⟨QF_at (i:=3) (d:=8) (x:=vb true) (show OpAt _ _ _ 3 8 _ from by exact At_bin (d:=8) (b:=.eql) (u:=.int .i64 x3) (v:=.int .i64 u1G) (w':=.bool true) (by subst_vars; kernel_rfl) (by rw [show exBin .eql (.int .i64 x3) (.int .i64 u1G) = some (.bool (x3 == u1G)) from by kernel_rfl,← e_b4])) (by kernel_rfl) (by subst_vars; kernel_rfl),⟨QF_at (i:=5) (d:=10) (x:=lS Au2G u2G cu2G) (show OpAt _ _ _ 5 10 _ from by exact At_ldP (d:=10) (b:=bu2) (off:=0) (m:=1) (v:=(.slice Au2G (u2G.length) cu2G)) (by subst_vars; kernel_rfl) (cell_blk hbu2 ⟨rfl,trivial⟩ (by kernel_rfl))) (by kernel_rfl) (by subst_vars; kernel_rfl),⟨QF_at (i:=6) (d:=11) (x:=vi u1G) (show OpAt _ _ _ 6 11 _ from by exact At_ldP (d:=11) (b:=bu1) (off:=0) (m:=1) (v:=(.int .i64 u1G)) (by subst_vars; kernel_rfl) (cell_blk hbu1 ⟨rfl,trivial⟩ (by kernel_rfl))) (by kernel_rfl) (by subst_vars; kernel_rfl),⟨QF_at (i:=7) (d:=12) (x:=.lf (.ep (.slice Au2G (u2G.length) cu2G) 1 ((u1G).toNat) 0)) (show OpAt _ _ _ 7 12 _ from by exact At_idxI (d:=12) (z:=u1G) (by subst_vars; kernel_rfl) g5 hu2G) (by kernel_rfl) (by subst_vars; kernel_rfl),⟨QF_at (i:=8) (d:=13) (x:=vi x6) (show OpAt _ _ _ 8 13 _ from by rw [e_x6]; exact At_ldI (d:=13) (q:=(u1G).toNat) (by subst_vars; kernel_rfl) (toNat_lt g5) hu2G) (by kernel_rfl) (by subst_vars; kernel_rfl),⟨QF_at (i:=11) (d:=16) (x:=lS Au2G u2G cu2G) (show OpAt _ _ _ 11 16 _ from by exact At_ldP (d:=16) (b:=bu2) (off:=0) (m:=1) (v:=(.slice Au2G (u2G.length) cu2G)) (by subst_vars; kernel_rfl) (cell_blk hbu2 ⟨rfl,trivial⟩ (by kernel_rfl))) (by kernel_rfl) (by subst_vars; kernel_rfl),⟨QF_at (i:=14) (d:=19) (x:=.lf (.ep (.slice Au2G (u2G.length) cu2G) 1 ((x8).toNat) 0)) (show OpAt _ _ _ 14 19 _ from by exact At_idxI (d:=19) (z:=x8) (by subst_vars; kernel_rfl) g9 hu2G) (by kernel_rfl) (by subst_vars; kernel_rfl),⟨QF_at (i:=15) (d:=20) (x:=vi x10) (show OpAt _ _ _ 15 20 _ from by rw [e_x10]; exact At_ldI (d:=20) (q:=(x8).toNat) (by subst_vars; kernel_rfl) (toNat_lt g9) hu2G) (by kernel_rfl) (by subst_vars; kernel_rfl),trivial⟩⟩⟩⟩⟩⟩⟩⟩⟩) ?_
   refine thenQ_n ?_
   exact ⟨b12,keep_sub (ts:=[4]) (hs:=[]) (vs:=[]) (by subst_vars;kernel_rfl),h⟩
  | false =>
   replace h := sp_f h
   refine T_draw' (id:=1) [] [0,0,0,0,0,0,0,0,0,0,0,0,0,0,0,0,0,0,0,0] (by kernel_rfl) (by kernel_rfl) (by kernel_rfl) (by kernel_rfl) [(5,lO 3),(6,vi x3),(7,vi u1G),(8,vb false),(9,vb false),(10,.tup []),(11,.tup []),(12,.tup []),(13,.tup []),(14,.tup []),(15,.tup []),(16,.tup []),(17,.tup []),(18,.tup []),(19,.tup []),(20,.tup []),(21,.tup []),(22,.tup []),(23,vb false),(4,vb false)] (by kernel_rfl) ⟨trivial,⟨trivial,⟨trivial,⟨trivial,⟨trivial,⟨(by intro y hy;cases hy),⟨(by intro y hy;cases hy),⟨(by intro y hy;cases hy),⟨(by intro y hy;cases hy),⟨(by intro y hy;cases hy),⟨(by intro y hy;cases hy),⟨(by intro y hy;cases hy),⟨(by intro y hy;cases hy),⟨(by intro y hy;cases hy),⟨(by intro y hy;cases hy),⟨(by intro y hy;cases hy),⟨(by intro y hy;cases hy),⟨(by intro y hy;cases hy),⟨trivial,⟨trivial,trivial⟩⟩⟩⟩⟩⟩⟩⟩⟩⟩⟩⟩⟩⟩⟩⟩⟩⟩⟩⟩ ?_
   refine Stage_nil (stage_all' [0,1,4,5,6,7,8,9,10,11,12,13,14,15,16,17,18,19] [2,3] (by kernel_rfl) (by subst e_x3;kernel_rfl) (by kernel_rfl) ⟨QF_at (i:=2) (d:=7) (x:=vi u1G) (show OpAt _ _ _ 2 7 _ from by exact At_ldP (d:=7) (b:=bu1) (off:=0) (m:=1) (v:=(.int .i64 u1G)) (by subst e_x3;kernel_rfl) (cell_blk hbu1 ⟨rfl,trivial⟩ (by kernel_rfl))) (by kernel_rfl) (by subst e_x3;kernel_rfl),⟨QF_at (i:=3) (d:=8) (x:=vb false) (show OpAt _ _ _ 3 8 _ from by exact At_bin (d:=8) (b:=.eql) (u:=.int .i64 x3) (v:=.int .i64 u1G) (w':=.bool false) (by subst e_x3;kernel_rfl) (by rw [show exBin .eql (.int .i64 x3) (.int .i64 u1G) = some (.bool (x3 == u1G)) from by kernel_rfl,← e_b4])) (by kernel_rfl) (by subst e_x3;kernel_rfl),trivial⟩⟩) ?_
   refine thenQ_n ?_
   exact ⟨false,keep_sub (ts:=[4]) (hs:=[]) (vs:=[]) (by subst e_x3;kernel_rfl),h⟩
 ·rintro s' ⟨b1,hsub,h⟩
  subst e_j2
  refine T_sub hsub ?_
  refine RT ?_
  obtain rfl := sj h
  exact FT (vb b1) rfl
def p82 (k : Nat) (u0 : List Int) (u1G : Int) (u2G : List Int) : Option Bool :=
 jn (fun (b1 : Bool) => some b1) fun j2 => lt' (List.getD u0 0 0) fun x3 => lt' (x3 == u1G) fun b4 => sp b4 (gd ((0 : Int) ≤ u1G ∧ u1G < (u2G.length : Int)) <| lt' (List.getD u2G ((u1G).toNat) 0) fun x6 => lt' (List.getD u0 2 0) fun x7 => lt' (List.getD u0 1 0) fun x8 => gd ((0 : Int) ≤ x8 ∧ x8 < (u2G.length : Int)) <| lt' (List.getD u2G ((x8).toNat) 0) fun x10 => lt' (wr .i64 (x7 + x10)) fun x11 => lt' (x6 == x11) fun b12 => j2 b12) (j2 false)
theorem hf82 : Try.prog.funcs[82]? = some Try.f82 := by kernel_rfl
theorem w82 (k : Nat) {M : Mem} {bu1 cu2G bu2 : Nat} {Au2G : Option Addr} {u0 u2G : List Int} {u1G : Int} (hu0 : u0.length = 12) (hbu1 : MB M bu1 [oI u1G]) (hu2G : SlI M Au2G cu2G .i64 u2G) (hbu2 : MB M bu2 [oS Au2G u2G cu2G]) {r} (h : p82 k u0 u1G u2G = some r) :
  Fn Try.prog 82 [rval (.agg [.arr .i64 12 u0]),rval (lP bu1),rval (lP bu2)] M (fun x _ => x = vb r) := by
 unfold p82 at h
 refine FO [.agg [.arr .i64 12 u0],lP bu1,lP bu2] hf82 ⟨⟨hu0,trivial⟩,⟨trivial,⟨trivial,trivial⟩⟩⟩ fun w => ?_
 refine SQ0 (RG ?_)
 refine SG 2 (S4 [(1,lP bu1),(2,lP bu2),(3,lO 3)] [(3,[.arr .i64 12 u0])] [] M) ?_
 refine EN ?_
 obtain ⟨j2,e_j2,h⟩ := jn_some h
 refine T_cut (c1:=(sub [1,0] Bd82)) (c2:=(sub [1,1] Bd82)) (fun s' => ∃ (b1 : Bool),Sub { σ := [(4,vb b1)],H := [],V := [],M := M,ds := [] } s' ∧ j2 b1 = some r) (by kernel_rfl) ?_ ?_
 ·obtain ⟨x3,e_x3,h⟩ := lt_some h
  obtain ⟨b4,e_b4,h⟩ := lt_some h
  cases b4 with
  | true =>
   replace h := sp_t h
   obtain ⟨g5,h⟩ := gd_some h
   obtain ⟨x6,e_x6,h⟩ := lt_some h
   obtain ⟨x7,e_x7,h⟩ := lt_some h
   obtain ⟨x8,e_x8,h⟩ := lt_some h
   obtain ⟨g9,h⟩ := gd_some h
   obtain ⟨x10,e_x10,h⟩ := lt_some h
   obtain ⟨x11,e_x11,h⟩ := lt_some h
   obtain ⟨b12,e_b12,h⟩ := lt_some h
   refine T_draw' (id:=1) [] [0,0,0,0,0,0,0,0,0,0,0,0,0,0,0,0,0,0,0,0] (by kernel_rfl) (by kernel_rfl) (by kernel_rfl) (by kernel_rfl) [(5,lO 3),(6,vi x3),(7,vi u1G),(8,vb true),(9,vb true),(10,lS Au2G u2G cu2G),(11,vi u1G),(12,.lf (.ep (.slice Au2G (u2G.length) cu2G) 1 ((u1G).toNat) 0)),(13,vi x6),(14,.lf (.own 3 2)),(15,vi x7),(16,lS Au2G u2G cu2G),(17,.lf (.own 3 1)),(18,vi x8),(19,.lf (.ep (.slice Au2G (u2G.length) cu2G) 1 ((x8).toNat) 0)),(20,vi x10),(21,vi x11),(22,vb b12),(23,vb b12),(4,vb b12)] (by kernel_rfl) (wfs_lf _ (by kernel_rfl)) ?_
   refine Stage_nil (stage_all' [0,1,4,9,10,12,13,16,17,18,19] [2,3,5,6,7,8,11,14,15] (by kernel_rfl) (by subst_vars; kernel_rfl) (by kernel_rfl) ⟨QF_at (i:=2) (d:=7) (x:=vi u1G) (show OpAt _ _ _ 2 7 _ from by exact At_ldP (d:=7) (b:=bu1) (off:=0) (m:=1) (v:=(.int .i64 u1G)) (by subst_vars; kernel_rfl) (cell_blk hbu1 ⟨rfl,trivial⟩ (by kernel_rfl))) (by kernel_rfl) (by subst_vars; kernel_rfl),⟨QF_at (i:=3) (d:=8) (x:=vb true) (show OpAt _ _ _ 3 8 _ from by exact At_bin (d:=8) (b:=.eql) (u:=.int .i64 x3) (v:=.int .i64 u1G) (w':=.bool true) (by subst_vars; kernel_rfl) (by rw [show exBin .eql (.int .i64 x3) (.int .i64 u1G) = some (.bool (x3 == u1G)) from by kernel_rfl,← e_b4])) (by kernel_rfl) (by subst_vars; kernel_rfl),⟨QF_at (i:=5) (d:=10) (x:=lS Au2G u2G cu2G) (show OpAt _ _ _ 5 10 _ from by exact At_ldP (d:=10) (b:=bu2) (off:=0) (m:=1) (v:=(.slice Au2G (u2G.length) cu2G)) (by subst_vars; kernel_rfl) (cell_blk hbu2 ⟨rfl,trivial⟩ (by kernel_rfl))) (by kernel_rfl) (by subst_vars; kernel_rfl),⟨QF_at (i:=6) (d:=11) (x:=vi u1G) (show OpAt _ _ _ 6 11 _ from by exact At_ldP (d:=11) (b:=bu1) (off:=0) (m:=1) (v:=(.int .i64 u1G)) (by subst_vars; kernel_rfl) (cell_blk hbu1 ⟨rfl,trivial⟩ (by kernel_rfl))) (by kernel_rfl) (by subst_vars; kernel_rfl),⟨QF_at (i:=7) (d:=12) (x:=.lf (.ep (.slice Au2G (u2G.length) cu2G) 1 ((u1G).toNat) 0)) (show OpAt _ _ _ 7 12 _ from by exact At_idxI (d:=12) (z:=u1G) (by subst_vars; kernel_rfl) g5 hu2G) (by kernel_rfl) (by subst_vars; kernel_rfl),⟨QF_at (i:=8) (d:=13) (x:=vi x6) (show OpAt _ _ _ 8 13 _ from by rw [e_x6]; exact At_ldI (d:=13) (q:=(u1G).toNat) (by subst_vars; kernel_rfl) (toNat_lt g5) hu2G) (by kernel_rfl) (by subst_vars; kernel_rfl),⟨QF_at (i:=11) (d:=16) (x:=lS Au2G u2G cu2G) (show OpAt _ _ _ 11 16 _ from by exact At_ldP (d:=16) (b:=bu2) (off:=0) (m:=1) (v:=(.slice Au2G (u2G.length) cu2G)) (by subst_vars; kernel_rfl) (cell_blk hbu2 ⟨rfl,trivial⟩ (by kernel_rfl))) (by kernel_rfl) (by subst_vars; kernel_rfl),⟨QF_at (i:=14) (d:=19) (x:=.lf (.ep (.slice Au2G (u2G.length) cu2G) 1 ((x8).toNat) 0)) (show OpAt _ _ _ 14 19 _ from by exact At_idxI (d:=19) (z:=x8) (by subst_vars; kernel_rfl) g9 hu2G) (by kernel_rfl) (by subst_vars; kernel_rfl),⟨QF_at (i:=15) (d:=20) (x:=vi x10) (show OpAt _ _ _ 15 20 _ from by rw [e_x10]; exact At_ldI (d:=20) (q:=(x8).toNat) (by subst_vars; kernel_rfl) (toNat_lt g9) hu2G) (by kernel_rfl) (by subst_vars; kernel_rfl),trivial⟩⟩⟩⟩⟩⟩⟩⟩⟩) ?_
   refine thenQ_n ?_
   exact ⟨b12,keep_sub (ts:=[4]) (hs:=[]) (vs:=[]) (by subst_vars;kernel_rfl),h⟩
  | false =>
   replace h := sp_f h
   refine T_draw' (id:=1) [] [0,0,0,0,0,0,0,0,0,0,0,0,0,0,0,0,0,0,0,0] (by kernel_rfl) (by kernel_rfl) (by kernel_rfl) (by kernel_rfl) [(5,lO 3),(6,vi x3),(7,vi u1G),(8,vb false),(9,vb false),(10,.tup []),(11,.tup []),(12,.tup []),(13,.tup []),(14,.tup []),(15,.tup []),(16,.tup []),(17,.tup []),(18,.tup []),(19,.tup []),(20,.tup []),(21,.tup []),(22,.tup []),(23,vb false),(4,vb false)] (by kernel_rfl) ⟨trivial,⟨trivial,⟨trivial,⟨trivial,⟨trivial,⟨(by intro y hy;cases hy),⟨(by intro y hy;cases hy),⟨(by intro y hy;cases hy),⟨(by intro y hy;cases hy),⟨(by intro y hy;cases hy),⟨(by intro y hy;cases hy),⟨(by intro y hy;cases hy),⟨(by intro y hy;cases hy),⟨(by intro y hy;cases hy),⟨(by intro y hy;cases hy),⟨(by intro y hy;cases hy),⟨(by intro y hy;cases hy),⟨(by intro y hy;cases hy),⟨trivial,⟨trivial,trivial⟩⟩⟩⟩⟩⟩⟩⟩⟩⟩⟩⟩⟩⟩⟩⟩⟩⟩⟩⟩ ?_
   refine Stage_nil (stage_all' [0,1,4,5,6,7,8,9,10,11,12,13,14,15,16,17,18,19] [2,3] (by kernel_rfl) (by subst e_x3;kernel_rfl) (by kernel_rfl) ⟨QF_at (i:=2) (d:=7) (x:=vi u1G) (show OpAt _ _ _ 2 7 _ from by exact At_ldP (d:=7) (b:=bu1) (off:=0) (m:=1) (v:=(.int .i64 u1G)) (by subst e_x3;kernel_rfl) (cell_blk hbu1 ⟨rfl,trivial⟩ (by kernel_rfl))) (by kernel_rfl) (by subst e_x3;kernel_rfl),⟨QF_at (i:=3) (d:=8) (x:=vb false) (show OpAt _ _ _ 3 8 _ from by exact At_bin (d:=8) (b:=.eql) (u:=.int .i64 x3) (v:=.int .i64 u1G) (w':=.bool false) (by subst e_x3;kernel_rfl) (by rw [show exBin .eql (.int .i64 x3) (.int .i64 u1G) = some (.bool (x3 == u1G)) from by kernel_rfl,← e_b4])) (by kernel_rfl) (by subst e_x3;kernel_rfl),trivial⟩⟩) ?_
   refine thenQ_n ?_
   exact ⟨false,keep_sub (ts:=[4]) (hs:=[]) (vs:=[]) (by subst e_x3;kernel_rfl),h⟩
 ·rintro s' ⟨b1,hsub,h⟩
  subst e_j2
  refine T_sub hsub ?_
  refine RT ?_
  obtain rfl := sj h
  exact FT (vb b1) rfl
def p80a_l1 (k : Nat) (u0 : List (List Int)) (u1Y : Int) (u1Z : List Int) (j1 : Option Int) : Nat → Int → Option Int
 | 0,_ => none
 | n3 + 1,x2 => lt' (decide (x2 < (u0.length : Int))) fun b4 => sp b4 (gd ((0 : Int) ≤ x2 ∧ x2 < (u0.length : Int)) <| lt' (List.getD u0 ((x2).toNat) []) fun L6 => cl (p81 k L6 u1Y u1Z) fun v7 => sp v7 (some x2) (lt' (wr .i64 (x2 + (1 : Int))) fun x8 => p80a_l1 k u0 u1Y u1Z j1 n3 x8)) (j1)
def p80a (k : Nat) (u0 : List (List Int)) (u1Y : Int) (u1Z : List Int) : Option Int :=
 jn (some (-1 : Int)) fun j1 => p80a_l1 k u0 u1Y u1Z j1 k (0 : Int)
theorem hf80a : Try.prog.funcs[80]? = some Try.f80 := by kernel_rfl
theorem w80a (k : Nat) {M : Mem} {Au0 Au1Z : Option Addr} {cu0 bu1C cu1Z bu1D : Nat} {u0 : List (List Int)} {u1Y : Int} {u1Z : List Int} (hu0 : SlR M Au0 cu0 .i64 12 u0) (hbu1C : MB M bu1C [oI u1Y]) (hu1Z : SlI M Au1Z cu1Z .i64 u1Z) (hbu1D : MB M bu1D [oS Au1Z u1Z cu1Z]) {r} (h : p80a k u0 u1Y u1Z = some r) :
  Fn Try.prog 80 [rval (lS Au0 u0 cu0),rval (.lf (.v (.func (.func 81) #[] #[(.pointer (some ⟨bu1C,0,none⟩)),(.pointer (some ⟨bu1D,0,none⟩))])))] M (fun x _ => x = vi r) := by
 unfold p80a at h
 refine FO [lS Au0 u0 cu0,.lf (.v (.func (.func 81) #[] #[(.pointer (some ⟨bu1C,0,none⟩)),(.pointer (some ⟨bu1D,0,none⟩))]))] hf80a ⟨trivial,⟨trivial,trivial⟩⟩ fun w => ?_
 refine SQ0 (RG ?_)
 refine SG 1 (S4 [(0,lS Au0 u0 cu0),(1,.lf (.v (.func (.func 81) #[] #[(.pointer (some ⟨bu1C,0,none⟩)),(.pointer (some ⟨bu1D,0,none⟩))])))] [] [] M) ?_
 refine EN (SQ (SQ (RG ?_)))
 refine SS 3 [(0,lS Au0 u0 cu0),(1,.lf (.v (.func (.func 81) #[] #[(.pointer (some ⟨bu1C,0,none⟩)),(.pointer (some ⟨bu1D,0,none⟩))]))),(7,vi (u0.length : Int)),(8,vi (0 : Int))] ?_
 refine EN ?_
 obtain ⟨j1,e_j1,h⟩ := jn_some h
 refine T_bcut (id:=0) (c1:=(sub [1,0,1,0] Bd80)) (fun s' => Sub { σ := [],H := [],V := [],M := M,ds := [] } s' ∧ j1 = some r) (by kernel_rfl) ?_ ?_
 ·refine T_loop (c1:=(sub [1,0,1,0,0] Bd80)) (by kernel_rfl) (fun n3 s' => ∃ (x2 : Int),Sub { σ := [(0,lS Au0 u0 cu0),(1,.lf (.v (.func (.func 81) #[] #[(.pointer (some ⟨bu1C,0,none⟩)),(.pointer (some ⟨bu1D,0,none⟩))]))),(7,vi (u0.length : Int)),(8,vi x2)],H := [],V := [],M := M,ds := [] } s' ∧ p80a_l1 k u0 u1Y u1Z j1 n3 x2 = some r) (k:=k) ⟨(0 : Int),keep_sub (ts:=[0,1,7,8]) (hs:=[]) (vs:=[]) (by kernel_rfl),h⟩ ?_
  rintro n3 s' ⟨x2,hsub,h⟩
  cases n3 with
  | zero => rw [p80a_l1] at h;cases h
  | succ n3 =>
   rw [p80a_l1] at h
   refine T_sub hsub ?_
   refine SQ (RG ?_)
   obtain ⟨b4,e_b4,h⟩ := lt_some h
   refine SG 1 (S4 [(0,lS Au0 u0 cu0),(1,.lf (.v (.func (.func 81) #[] #[(.pointer (some ⟨bu1C,0,none⟩)),(.pointer (some ⟨bu1D,0,none⟩))]))),(7,vi (u0.length : Int)),(8,vi x2),(9,vb b4)] [] [] M) ?_ (by subst e_b4;kernel_rfl)
   refine EN (SQ ?_)
   cases b4 with
   | true =>
    replace h := sp_t h
    refine CT ?_
    refine KS [(0,lS Au0 u0 cu0),(1,.lf (.v (.func (.func 81) #[] #[(.pointer (some ⟨bu1C,0,none⟩)),(.pointer (some ⟨bu1D,0,none⟩))]))),(7,vi (u0.length : Int)),(8,vi x2)] ?_
    refine SN (SQ (BK 1 (SQ (RG ?_))))
    refine SS 2 [(0,lS Au0 u0 cu0),(1,.lf (.v (.func (.func 81) #[] #[(.pointer (some ⟨bu1C,0,none⟩)),(.pointer (some ⟨bu1D,0,none⟩))]))),(5,vi x2),(7,vi (u0.length : Int)),(8,vi x2)] ?_
    refine EN (SQ (RG ?_))
    refine SS 3 [(0,lS Au0 u0 cu0),(1,.lf (.v (.func (.func 81) #[] #[(.pointer (some ⟨bu1C,0,none⟩)),(.pointer (some ⟨bu1D,0,none⟩))]))),(5,vi x2),(7,vi (u0.length : Int)),(8,vi x2),(11,.lf (.v (.func (.func 81) #[] #[(.pointer (some ⟨bu1C,0,none⟩)),(.pointer (some ⟨bu1D,0,none⟩))]))),(12,lS Au0 u0 cu0),(13,vi x2)] ?_
    obtain ⟨g5,h⟩ := gd_some h
    refine AT 14 (.lf (.ep (.slice Au0 (u0.length) cu0) 12 ((x2).toNat) 0)) (At_idxR (z:=x2) (by kernel_rfl) g5 hu0) ?_
    obtain ⟨L6,e_L6,h⟩ := lt_some h
    have l_L6 : (L6).length = 12 := by rw [e_L6]; exact SlR_row hu0 (toNat_lt g5)
    refine AT 15 (.agg [.arr .i64 12 L6]) (by rw [e_L6]; exact At_ldRow (q:=(x2).toNat) (by subst e_L6; kernel_rfl) (toNat_lt g5) hu0) ?_ (hx:=⟨l_L6,trivial⟩)
    obtain ⟨v7,c_v7,h⟩ := cl_some h
    refine AC 16 (vb v7) (w81 k l_L6 hbu1C hu1Z hbu1D c_v7) ?_
    refine SH 6 [(0,lS Au0 u0 cu0),(1,.lf (.v (.func (.func 81) #[] #[(.pointer (some ⟨bu1C,0,none⟩)),(.pointer (some ⟨bu1D,0,none⟩))]))),(5,vi x2),(7,vi (u0.length : Int)),(8,vi x2),(16,vb v7)] [] ?_
    refine EN ?_
    cases v7 with
    | true =>
     replace h := sp_t h
     refine CT ?_
     refine KS [(5,vi x2)] ?_
     refine SQ (RG ?_)
     refine SS 2 [(4,vi x2)] ?_
     refine EN (RT (blockQ_r (thenQ_r (thenQ_r (blockQ_r (thenQ_r (thenQ_r ?_)))))))
     obtain rfl := sj h
     exact FT (vi x2) rfl
    | false =>
     replace h := sp_f h
     refine CF ?_
     refine KS [(0,lS Au0 u0 cu0),(1,.lf (.v (.func (.func 81) #[] #[(.pointer (some ⟨bu1C,0,none⟩)),(.pointer (some ⟨bu1D,0,none⟩))]))),(7,vi (u0.length : Int)),(8,vi x2)] ?_
     refine S0 (blockQ_n (thenQ_n (RG ?_)))
     obtain ⟨x8,e_x8,h⟩ := lt_some h
     refine SS 2 [(0,lS Au0 u0 cu0),(1,.lf (.v (.func (.func 81) #[] #[(.pointer (some ⟨bu1C,0,none⟩)),(.pointer (some ⟨bu1D,0,none⟩))]))),(7,vi (u0.length : Int)),(8,vi x8)] ?_ (by subst e_x8;kernel_rfl)
     refine EN ?_
     exact ⟨n3,Nat.lt_succ_self _,x8,keep_sub (ts:=[0,1,7,8]) (hs:=[]) (vs:=[]) (by kernel_rfl),h⟩
   | false =>
    replace h := sp_f h
    refine CF ?_
    refine KS [] ?_
    refine XI 0 (thenQ_x (thenQ_x (blockQ_x (thenQ_n ?_))))
    exact ⟨keep_sub (ts:=[]) (hs:=[]) (vs:=[]) (by kernel_rfl),h⟩
 ·rintro s' ⟨hsub,h⟩
  subst e_j1
  refine thenQ_n ?_
  refine T_sub hsub ?_
  refine SQ (RG ?_)
  refine SG 1 (S4 [(4,vi (-1 : Int))] [] [] M) ?_
  refine EN (RT ?_)
  obtain rfl := sj h
  exact FT (vi (-1 : Int)) rfl
def p80b_l1 (k : Nat) (u0 : List (List Int)) (u1Y : Int) (u1Z : List Int) (j1 : Option Int) : Nat → Int → Option Int
 | 0,_ => none
 | n3 + 1,x2 => lt' (decide (x2 < (u0.length : Int))) fun b4 => sp b4 (gd ((0 : Int) ≤ x2 ∧ x2 < (u0.length : Int)) <| lt' (List.getD u0 ((x2).toNat) []) fun L6 => cl (p82 k L6 u1Y u1Z) fun v7 => sp v7 (some x2) (lt' (wr .i64 (x2 + (1 : Int))) fun x8 => p80b_l1 k u0 u1Y u1Z j1 n3 x8)) (j1)
def p80b (k : Nat) (u0 : List (List Int)) (u1Y : Int) (u1Z : List Int) : Option Int :=
 jn (some (-1 : Int)) fun j1 => p80b_l1 k u0 u1Y u1Z j1 k (0 : Int)
theorem hf80b : Try.prog.funcs[80]? = some Try.f80 := by kernel_rfl
theorem w80b (k : Nat) {M : Mem} {Au0 Au1Z : Option Addr} {cu0 bu1C cu1Z bu1D : Nat} {u0 : List (List Int)} {u1Y : Int} {u1Z : List Int} (hu0 : SlR M Au0 cu0 .i64 12 u0) (hbu1C : MB M bu1C [oI u1Y]) (hu1Z : SlI M Au1Z cu1Z .i64 u1Z) (hbu1D : MB M bu1D [oS Au1Z u1Z cu1Z]) {r} (h : p80b k u0 u1Y u1Z = some r) :
  Fn Try.prog 80 [rval (lS Au0 u0 cu0),rval (.lf (.v (.func (.func 82) #[] #[(.pointer (some ⟨bu1C,0,none⟩)),(.pointer (some ⟨bu1D,0,none⟩))])))] M (fun x _ => x = vi r) := by
 unfold p80b at h
 refine FO [lS Au0 u0 cu0,.lf (.v (.func (.func 82) #[] #[(.pointer (some ⟨bu1C,0,none⟩)),(.pointer (some ⟨bu1D,0,none⟩))]))] hf80b ⟨trivial,⟨trivial,trivial⟩⟩ fun w => ?_
 refine SQ0 (RG ?_)
 refine SG 1 (S4 [(0,lS Au0 u0 cu0),(1,.lf (.v (.func (.func 82) #[] #[(.pointer (some ⟨bu1C,0,none⟩)),(.pointer (some ⟨bu1D,0,none⟩))])))] [] [] M) ?_
 refine EN (SQ (SQ (RG ?_)))
 refine SS 3 [(0,lS Au0 u0 cu0),(1,.lf (.v (.func (.func 82) #[] #[(.pointer (some ⟨bu1C,0,none⟩)),(.pointer (some ⟨bu1D,0,none⟩))]))),(7,vi (u0.length : Int)),(8,vi (0 : Int))] ?_
 refine EN ?_
 obtain ⟨j1,e_j1,h⟩ := jn_some h
 refine T_bcut (id:=0) (c1:=(sub [1,0,1,0] Bd80)) (fun s' => Sub { σ := [],H := [],V := [],M := M,ds := [] } s' ∧ j1 = some r) (by kernel_rfl) ?_ ?_
 ·refine T_loop (c1:=(sub [1,0,1,0,0] Bd80)) (by kernel_rfl) (fun n3 s' => ∃ (x2 : Int),Sub { σ := [(0,lS Au0 u0 cu0),(1,.lf (.v (.func (.func 82) #[] #[(.pointer (some ⟨bu1C,0,none⟩)),(.pointer (some ⟨bu1D,0,none⟩))]))),(7,vi (u0.length : Int)),(8,vi x2)],H := [],V := [],M := M,ds := [] } s' ∧ p80b_l1 k u0 u1Y u1Z j1 n3 x2 = some r) (k:=k) ⟨(0 : Int),keep_sub (ts:=[0,1,7,8]) (hs:=[]) (vs:=[]) (by kernel_rfl),h⟩ ?_
  rintro n3 s' ⟨x2,hsub,h⟩
  cases n3 with
  | zero => rw [p80b_l1] at h;cases h
  | succ n3 =>
   rw [p80b_l1] at h
   refine T_sub hsub ?_
   refine SQ (RG ?_)
   obtain ⟨b4,e_b4,h⟩ := lt_some h
   refine SG 1 (S4 [(0,lS Au0 u0 cu0),(1,.lf (.v (.func (.func 82) #[] #[(.pointer (some ⟨bu1C,0,none⟩)),(.pointer (some ⟨bu1D,0,none⟩))]))),(7,vi (u0.length : Int)),(8,vi x2),(9,vb b4)] [] [] M) ?_ (by subst e_b4;kernel_rfl)
   refine EN (SQ ?_)
   cases b4 with
   | true =>
    replace h := sp_t h
    refine CT ?_
    refine KS [(0,lS Au0 u0 cu0),(1,.lf (.v (.func (.func 82) #[] #[(.pointer (some ⟨bu1C,0,none⟩)),(.pointer (some ⟨bu1D,0,none⟩))]))),(7,vi (u0.length : Int)),(8,vi x2)] ?_
    refine SN (SQ (BK 1 (SQ (RG ?_))))
    refine SS 2 [(0,lS Au0 u0 cu0),(1,.lf (.v (.func (.func 82) #[] #[(.pointer (some ⟨bu1C,0,none⟩)),(.pointer (some ⟨bu1D,0,none⟩))]))),(5,vi x2),(7,vi (u0.length : Int)),(8,vi x2)] ?_
    refine EN (SQ (RG ?_))
    refine SS 3 [(0,lS Au0 u0 cu0),(1,.lf (.v (.func (.func 82) #[] #[(.pointer (some ⟨bu1C,0,none⟩)),(.pointer (some ⟨bu1D,0,none⟩))]))),(5,vi x2),(7,vi (u0.length : Int)),(8,vi x2),(11,.lf (.v (.func (.func 82) #[] #[(.pointer (some ⟨bu1C,0,none⟩)),(.pointer (some ⟨bu1D,0,none⟩))]))),(12,lS Au0 u0 cu0),(13,vi x2)] ?_
    obtain ⟨g5,h⟩ := gd_some h
    refine AT 14 (.lf (.ep (.slice Au0 (u0.length) cu0) 12 ((x2).toNat) 0)) (At_idxR (z:=x2) (by kernel_rfl) g5 hu0) ?_
    obtain ⟨L6,e_L6,h⟩ := lt_some h
    have l_L6 : (L6).length = 12 := by rw [e_L6]; exact SlR_row hu0 (toNat_lt g5)
    refine AT 15 (.agg [.arr .i64 12 L6]) (by rw [e_L6]; exact At_ldRow (q:=(x2).toNat) (by subst e_L6; kernel_rfl) (toNat_lt g5) hu0) ?_ (hx:=⟨l_L6,trivial⟩)
    obtain ⟨v7,c_v7,h⟩ := cl_some h
    refine AC 16 (vb v7) (w82 k l_L6 hbu1C hu1Z hbu1D c_v7) ?_
    refine SH 6 [(0,lS Au0 u0 cu0),(1,.lf (.v (.func (.func 82) #[] #[(.pointer (some ⟨bu1C,0,none⟩)),(.pointer (some ⟨bu1D,0,none⟩))]))),(5,vi x2),(7,vi (u0.length : Int)),(8,vi x2),(16,vb v7)] [] ?_
    refine EN ?_
    cases v7 with
    | true =>
     replace h := sp_t h
     refine CT ?_
     refine KS [(5,vi x2)] ?_
     refine SQ (RG ?_)
     refine SS 2 [(4,vi x2)] ?_
     refine EN (RT (blockQ_r (thenQ_r (thenQ_r (blockQ_r (thenQ_r (thenQ_r ?_)))))))
     obtain rfl := sj h
     exact FT (vi x2) rfl
    | false =>
     replace h := sp_f h
     refine CF ?_
     refine KS [(0,lS Au0 u0 cu0),(1,.lf (.v (.func (.func 82) #[] #[(.pointer (some ⟨bu1C,0,none⟩)),(.pointer (some ⟨bu1D,0,none⟩))]))),(7,vi (u0.length : Int)),(8,vi x2)] ?_
     refine S0 (blockQ_n (thenQ_n (RG ?_)))
     obtain ⟨x8,e_x8,h⟩ := lt_some h
     refine SS 2 [(0,lS Au0 u0 cu0),(1,.lf (.v (.func (.func 82) #[] #[(.pointer (some ⟨bu1C,0,none⟩)),(.pointer (some ⟨bu1D,0,none⟩))]))),(7,vi (u0.length : Int)),(8,vi x8)] ?_ (by subst e_x8;kernel_rfl)
     refine EN ?_
     exact ⟨n3,Nat.lt_succ_self _,x8,keep_sub (ts:=[0,1,7,8]) (hs:=[]) (vs:=[]) (by kernel_rfl),h⟩
   | false =>
    replace h := sp_f h
    refine CF ?_
    refine KS [] ?_
    refine XI 0 (thenQ_x (thenQ_x (blockQ_x (thenQ_n ?_))))
    exact ⟨keep_sub (ts:=[]) (hs:=[]) (vs:=[]) (by kernel_rfl),h⟩
 ·rintro s' ⟨hsub,h⟩
  subst e_j1
  refine thenQ_n ?_
  refine T_sub hsub ?_
  refine SQ (RG ?_)
  refine SG 1 (S4 [(4,vi (-1 : Int))] [] [] M) ?_
  refine EN (RT ?_)
  obtain rfl := sj h
  exact FT (vi (-1 : Int)) rfl
end Go.Proofs.Ythniebmammmacaa
namespace Go.Proofs.Ythniebmammmacaa
open Go.RowKit
def p121L (rec : Int → Int → Option (List Int)) (n s : Int) : Nat → Int → Option (List Int)
  | 0, _ => none
  | f + 1, i => lt' (decide (i < n)) fun b => sp b (gd (0 ≤ i) <| lt' (wr .u64 ((1 : Int) * 2 ^ (min (i).toNat (IntKind.bits .u64)))) fun x22 => lt' (wr .u64 (bor .u64 s x22)) fun x23 => lt' (wr .i64 (i + (1 : Int))) fun x25 => cl (rec x23 x25) fun L1 => lt' (wr .i64 (i + (1 : Int))) fun x18 => cl (p121L rec n s f x18) fun L2 => some (L1 ++ L2)) (some [])
def p121 (k : Nat) (n : Int) : Nat → Int → Int → Option (List Int)
  | 0, _, _ => none
  | f + 1, s, fr => cl (p121L (p121 k n f) n s k fr) fun L => some (s :: L)
def p120 (k : Nat) (n : Int) : Option (List Int) := p121 k n k 0 0
theorem hf121 : Try.prog.funcs[121]? = some Try.f121 := by kernel_rfl
theorem hf120 : Try.prog.funcs[120]? = some Try.f120 := by kernel_rfl
def w121P (M : Mem) (J : Mem → List Int → World → Prop) (Jx : World → Prop) (pr : List Int) (b : Bool) (w : World) : Prop := match b with | true => J M pr w | false => Stp Jx M w
theorem w121 (k : Nat) {n : Int} {ks : List Int} {l : Nat} {J : Mem → List Int → World → Prop} {Jx : World → Prop} (hyd : Yd enU Try.prog ks l J Jx) {M : Mem} {by' bn bw : Nat}
    (hby : memCell M by' 0 = some (.func (.yield l) #[] #[])) (hbn : memCell M bn 0 = some (.int .i64 n)) (hbw : memCell M bw 0 = some (.func (.func 121) #[] #[.pointer (some ⟨by', 0, none⟩), .pointer (some ⟨bn, 0, none⟩), .pointer (some ⟨bw, 0, none⟩)])) :
    ∀ (f : Nat) (s fr : Int) (L pr rest : List Int) (W : World), p121 k n f s fr = some L → pr ++ (L ++ rest) = ks → J M pr W → CallsIn Fence.wide 0 Try.prog 121 ([.int .u64 s, .int .i64 fr, .pointer (some ⟨by', 0, none⟩), .pointer (some ⟨bn, 0, none⟩), .pointer (some ⟨bw, 0, none⟩)] : List Value).toArray W fun e w' => ∃ b, e = .returned (.bool b) ∧ w121P M J Jx (pr ++ L) b w'
  | 0, s, fr, L, pr, rest, W, h, _, _ => by rw [p121] at h; cases h
  | f + 1, s, fr, L, pr, rest, W, h, hks, hJ => by
    rw [p121] at h
    obtain ⟨L0, h0, hL⟩ := cl_some h
    have hL := Option.some.inj hL
    refine calls_TWb (c := bodyOf Try.f121) (t := 7) [.lf (.v (.int .u64 s)), .lf (.v (.int .i64 fr)), (.lf (.v (.pointer (some ⟨by', 0, none⟩)))), (.lf (.v (.pointer (some ⟨bn, 0, none⟩)))), (.lf (.v (.pointer (some ⟨bw, 0, none⟩))))] hf121 (by kernel_rfl) (Nat.le_of_ble_eq_true (by kernel_rfl)) (by kernel_rfl) (by intro x hx; simp only [List.mem_cons, List.mem_nil_iff, or_false] at hx; rcases hx with rfl | rfl | rfl | rfl | rfl <;> trivial) (hyd.mem _ _ _ hJ) ?_
    refine TW_pre (pre' := J M pr) (by rintro w rfl; exact hJ) ?_
    have stop : ∀ {σ : List (Nat × SV)}, look σ 7 = some (.lf (.v (.bool false))) → NQ (fun e σ w => e = .ret ∧ ∃ b, look σ 7 = some (.lf (.v (.bool b))) ∧ w121P M J Jx (pr ++ L) b w) .ret σ (Stp Jx M) := fun hl w hw => ⟨rfl, false, hl, hw⟩
    refine W_seq (c1 := (sub [0] (bodyOf Try.f121))) (c2 := (sub [1] (bodyOf Try.f121))) (by kernel_rfl) ?_
    refine TW_region (id := 0) (by kernel_rfl) ?_
    refine TWI_pure (y := (7, (.lf (.v (.bool false))))) (by kernel_rfl) ?_
    refine TWI_keep (σ' := [(0, .lf (.v (.int .u64 s))), (1, .lf (.v (.int .i64 fr))), (2, (.lf (.v (.pointer (some ⟨by', 0, none⟩))))), (3, (.lf (.v (.pointer (some ⟨bn, 0, none⟩))))), (4, (.lf (.v (.pointer (some ⟨bw, 0, none⟩))))), (7, (.lf (.v (.bool false))))]) [0, 1, 2, 3, 4, 7] (by kernel_rfl) ?_
    refine WI_end (by kernel_rfl) ?_
    refine NQ_then ?_
    refine W_seq (c1 := (sub [1, 0] (bodyOf Try.f121))) (c2 := (sub [1, 1] (bodyOf Try.f121))) (by kernel_rfl) ?_
    refine W_seq (c1 := (sub [1, 0, 0] (bodyOf Try.f121))) (c2 := (sub [1, 0, 1] (bodyOf Try.f121))) (by kernel_rfl) ?_
    refine TW_region (id := 1) (by kernel_rfl) ?_
    refine TWI_at (d := 9) (x := (.lf (.v (.func (.yield l) #[] #[])))) (fun w => At_ldP (d := 9) (b := by') (off := 0) (m := 1) (v := (.func (.yield l) #[] #[])) (by kernel_rfl) hby) (hyd.gr _ _) (by kernel_rfl) trivial ?_
    refine TWI_pure (y := (10, .lf (.v (.int .u64 s)))) (by kernel_rfl) ?_
    refine WI_yield hyd (d := 11) (l := l) (pr := pr) (x := s) (by kernel_rfl) rfl ⟨L0 ++ rest, by rw [← hks, ← hL, List.append_assoc]; rfl⟩ (by kernel_rfl) ?_ ?_
    · refine TWI_pure (y := (12, (.lf (.v (.bool false))))) (by kernel_rfl) ?_
      refine TWI_keep (σ' := [(0, .lf (.v (.int .u64 s))), (1, .lf (.v (.int .i64 fr))), (2, (.lf (.v (.pointer (some ⟨by', 0, none⟩))))), (3, (.lf (.v (.pointer (some ⟨bn, 0, none⟩))))), (4, (.lf (.v (.pointer (some ⟨bw, 0, none⟩))))), (12, (.lf (.v (.bool false))))]) [0, 1, 2, 3, 4, 12] (by kernel_rfl) ?_
      refine WI_end (by kernel_rfl) ?_
      refine NQ_then ?_
      refine W_condF (x := .tmp 12) (c1 := (sub [1, 0, 1, 0] (bodyOf Try.f121))) (c2 := (sub [1, 0, 1, 1] (bodyOf Try.f121))) (by kernel_rfl) (by kernel_rfl) ?_
      refine W_skip (by kernel_rfl) ?_
      refine NQ_then ?_
      refine W_seq (c1 := (sub [1, 1, 0] (bodyOf Try.f121))) (c2 := (sub [1, 1, 1] (bodyOf Try.f121))) (by kernel_rfl) ?_
      refine W_seq (c1 := (sub [1, 1, 0, 0] (bodyOf Try.f121))) (c2 := (sub [1, 1, 0, 1] (bodyOf Try.f121))) (by kernel_rfl) ?_
      refine TW_region (id := 3) (by kernel_rfl) ?_
      refine TWI_pure (y := (13, .lf (.v (.int .i64 fr)))) (by kernel_rfl) ?_
      refine TWI_pure (y := (8, .lf (.v (.int .i64 fr)))) (by kernel_rfl) ?_
      refine TWI_keep (σ' := [(0, .lf (.v (.int .u64 s))), (1, .lf (.v (.int .i64 fr))), (2, (.lf (.v (.pointer (some ⟨by', 0, none⟩))))), (3, (.lf (.v (.pointer (some ⟨bn, 0, none⟩))))), (4, (.lf (.v (.pointer (some ⟨bw, 0, none⟩))))), (8, .lf (.v (.int .i64 fr)))]) [0, 1, 2, 3, 4, 8] (by kernel_rfl) ?_
      refine WI_end (by kernel_rfl) ?_
      refine NQ_then ?_
      refine TW_block (id := 0) (c1 := (sub [1, 1, 0, 1, 0] (bodyOf Try.f121))) (by kernel_rfl) ?_
      refine W_loop (γ := Int × List Int × List Int) (fun g => [(0, .lf (.v (.int .u64 s))), (1, .lf (.v (.int .i64 fr))), (2, (.lf (.v (.pointer (some ⟨by', 0, none⟩))))), (3, (.lf (.v (.pointer (some ⟨bn, 0, none⟩))))), (4, (.lf (.v (.pointer (some ⟨bw, 0, none⟩))))), (8, .lf (.v (.int .i64 g.1)))]) (fun g => J M g.2.1) (fun nf g => (g.2.1 ++ g.2.2 = pr ++ L) ∧ p121L (p121 k n f) n s nf g.1 = some g.2.2) (c1 := (sub [1, 1, 0, 1, 0, 0] (bodyOf Try.f121))) (g0 := (fr, pr ++ [s], L0)) (k := k) (by kernel_rfl) rfl ⟨by rw [← hL, List.append_assoc]; rfl, h0⟩ (fun w hw => hw) ?_
      rintro nf ⟨i, pq, rq⟩ ⟨hpq, h⟩
      replace hpq : pq ++ rq = pr ++ L := hpq
      replace h : p121L (p121 k n f) n s nf i = some rq := h
      change TW _ _ _ _ [(0, .lf (.v (.int .u64 s))), (1, .lf (.v (.int .i64 fr))), (2, (.lf (.v (.pointer (some ⟨by', 0, none⟩))))), (3, (.lf (.v (.pointer (some ⟨bn, 0, none⟩))))), (4, (.lf (.v (.pointer (some ⟨bw, 0, none⟩))))), (8, .lf (.v (.int .i64 i)))] (J M pq) _
      cases nf with
      | zero => rw [p121L] at h; cases h
      | succ nf =>
        rw [p121L] at h
        obtain ⟨b16, e16, h⟩ := lt_some h
        refine W_seq (c1 := (sub [1, 1, 0, 1, 0, 0, 0] (bodyOf Try.f121))) (c2 := (sub [1, 1, 0, 1, 0, 0, 1] (bodyOf Try.f121))) (by kernel_rfl) ?_
        refine W_seq (c1 := (sub [1, 1, 0, 1, 0, 0, 0, 0] (bodyOf Try.f121))) (c2 := (sub [1, 1, 0, 1, 0, 0, 0, 1] (bodyOf Try.f121))) (by kernel_rfl) ?_
        refine TW_region (id := 4) (by kernel_rfl) ?_
        refine TWI_pure (y := (14, .lf (.v (.int .i64 i)))) (by kernel_rfl) ?_
        refine TWI_at (d := 15) (x := .lf (.v (.int .i64 n))) (fun w => At_ldP (d := 15) (b := bn) (off := 0) (m := 1) (v := (.int .i64 n)) (by kernel_rfl) hbn) (hyd.gr _ _) (by kernel_rfl) trivial ?_
        refine TWI_pure (y := (16, .lf (.v (.bool b16)))) (by subst e16; kernel_rfl) ?_
        refine TWI_keep (σ' := [(0, .lf (.v (.int .u64 s))), (1, .lf (.v (.int .i64 fr))), (2, (.lf (.v (.pointer (some ⟨by', 0, none⟩))))), (3, (.lf (.v (.pointer (some ⟨bn, 0, none⟩))))), (4, (.lf (.v (.pointer (some ⟨bw, 0, none⟩))))), (8, .lf (.v (.int .i64 i))), (16, .lf (.v (.bool b16)))]) [0, 1, 2, 3, 4, 8, 16] (by kernel_rfl) ?_
        refine WI_end (by kernel_rfl) ?_
        refine NQ_then ?_
        cases b16 with
        | false =>
          replace h := sp_f h
          have h := Option.some.inj h
          refine W_condF (x := .tmp 16) (c1 := (sub [1, 1, 0, 1, 0, 0, 0, 1, 0] (bodyOf Try.f121))) (c2 := (sub [1, 1, 0, 1, 0, 0, 0, 1, 1] (bodyOf Try.f121))) (by kernel_rfl) (by kernel_rfl) ?_
          refine TW_keep (σ' := [(0, .lf (.v (.int .u64 s))), (1, .lf (.v (.int .i64 fr))), (2, (.lf (.v (.pointer (some ⟨by', 0, none⟩))))), (3, (.lf (.v (.pointer (some ⟨bn, 0, none⟩))))), (4, (.lf (.v (.pointer (some ⟨bw, 0, none⟩)))))]) [0, 1, 2, 3, 4] (by kernel_rfl) ?_
          refine W_exit (id := 0) (by kernel_rfl) ?_
          refine NQ_thenx ?_
          refine NQ_thenx ?_
          refine NQ_bx ?_
          refine NQ_then ?_
          refine W_seq (c1 := (sub [1, 1, 1, 0] (bodyOf Try.f121))) (c2 := (sub [1, 1, 1, 1] (bodyOf Try.f121))) (by kernel_rfl) ?_
          refine TW_region (id := 8) (by kernel_rfl) ?_
          refine TWI_pure (y := (7, (.lf (.v (.bool true))))) (by kernel_rfl) ?_
          refine WI_end (by kernel_rfl) ?_
          refine NQ_then ?_
          refine W_ret (by kernel_rfl) ?_
          intro w hw
          refine ⟨rfl, true, rfl, ?_⟩
          show J M (pr ++ L) w
          rw [← hpq, ← h, List.append_nil]
          exact hw
        | true =>
          replace h := sp_t h
          obtain ⟨g22, h⟩ := gd_some h
          obtain ⟨x22, e22, h⟩ := lt_some h
          obtain ⟨x23, e23, h⟩ := lt_some h
          obtain ⟨x25, e25, h⟩ := lt_some h
          obtain ⟨L1, c1, h⟩ := cl_some h
          obtain ⟨x18, e18, h⟩ := lt_some h
          obtain ⟨L2, c2, h⟩ := cl_some h
          have h := Option.some.inj h
          refine W_condT (x := .tmp 16) (c1 := (sub [1, 1, 0, 1, 0, 0, 0, 1, 0] (bodyOf Try.f121))) (c2 := (sub [1, 1, 0, 1, 0, 0, 0, 1, 1] (bodyOf Try.f121))) (by kernel_rfl) (by kernel_rfl) ?_
          refine TW_keep (σ' := [(0, .lf (.v (.int .u64 s))), (1, .lf (.v (.int .i64 fr))), (2, (.lf (.v (.pointer (some ⟨by', 0, none⟩))))), (3, (.lf (.v (.pointer (some ⟨bn, 0, none⟩))))), (4, (.lf (.v (.pointer (some ⟨bw, 0, none⟩))))), (8, .lf (.v (.int .i64 i)))]) [0, 1, 2, 3, 4, 8] (by kernel_rfl) ?_
          refine W_skip (by kernel_rfl) ?_
          refine NQ_then ?_
          refine W_seq (c1 := (sub [1, 1, 0, 1, 0, 0, 1, 0] (bodyOf Try.f121))) (c2 := (sub [1, 1, 0, 1, 0, 0, 1, 1] (bodyOf Try.f121))) (by kernel_rfl) ?_
          refine TW_block (id := 1) (c1 := (sub [1, 1, 0, 1, 0, 0, 1, 0, 0] (bodyOf Try.f121))) (by kernel_rfl) ?_
          refine W_seq (c1 := (sub [1, 1, 0, 1, 0, 0, 1, 0, 0, 0] (bodyOf Try.f121))) (c2 := (sub [1, 1, 0, 1, 0, 0, 1, 0, 0, 1] (bodyOf Try.f121))) (by kernel_rfl) ?_
          have hrec := fun (w : World) (hw : J M pq w) => w121 k hyd hby hbn hbw f x23 x25 L1 pq (L2 ++ rest) w c1 (by rw [← hks, ← List.append_assoc pr, ← hpq, ← h]; simp only [List.append_assoc]) hw
          refine W_draw (id := 6) [7] [0, 0, 0, 0, 0, 0, 0, 0, 1] (by kernel_rfl) (by kernel_rfl) (by kernel_rfl) (by kernel_rfl) [(19, .lf (.v (.func (.func 121) #[] #[.pointer (some ⟨by', 0, none⟩), .pointer (some ⟨bn, 0, none⟩), .pointer (some ⟨bw, 0, none⟩)]))), (20, .lf (.v (.int .u64 s))), (21, .lf (.v (.int .i64 i))), (22, .lf (.v (.int .u64 x22))), (23, .lf (.v (.int .u64 x23))), (24, .lf (.v (.int .i64 i))), (25, .lf (.v (.int .i64 x25)))] (by kernel_rfl) (wfs_mem ⟨trivial, ⟨trivial, ⟨trivial, ⟨trivial, ⟨trivial, ⟨trivial, ⟨trivial, trivial⟩⟩⟩⟩⟩⟩⟩) ?_
          refine ⟨hyd.gr _ _, fun i' o' h1 h2 w => stage_all' [1, 2, 4, 5, 6] [0, 3] (by kernel_rfl) (by subst e25 e23; kernel_rfl) (by kernel_rfl) ⟨QF_at (i := 0) (d := 19) (x := .lf (.v (.func (.func 121) #[] #[.pointer (some ⟨by', 0, none⟩), .pointer (some ⟨bn, 0, none⟩), .pointer (some ⟨bw, 0, none⟩)]))) (At_ldP (d := 19) (b := bw) (off := 0) (m := 1) (v := (.func (.func 121) #[] #[.pointer (some ⟨by', 0, none⟩), .pointer (some ⟨bn, 0, none⟩), .pointer (some ⟨bw, 0, none⟩)])) (by kernel_rfl) hbw) (by kernel_rfl) (by kernel_rfl), ⟨QF_at (i := 3) (d := 22) (x := .lf (.v (.int .u64 x22))) (show OpAt _ _ _ 3 22 (.lf (.v (.int .u64 x22))) from by rw [e22]; exact At_shl (d := 22) (k := .u64) (k' := .i64) (m := (1 : Int)) (n := i) (by kernel_rfl) g22) (by kernel_rfl) (by kernel_rfl), trivial⟩⟩ i' o' h1 h2, ?_⟩
          refine WL_callB (d := 26) (f := 121) (J M (pq ++ L1)) (Stp Jx M) (by kernel_rfl) (by kernel_rfl) (fun w hw hm => (hrec w hw).mono fun e w' ⟨b, q1, q2⟩ => ⟨b, q1, (by cases b with | true => exact hyd.mem _ _ _ q2 | false => exact q2.2), (by cases b with | true => exact q2 | false => exact q2)⟩) ?_ ?_
          · refine TWL_nil fun w hw => ⟨rfl, [(27, (.lf (.v (.bool false))))], J M (pq ++ L1), hw, by kernel_rfl, wfs_mem ⟨trivial, trivial⟩, hyd.gr _ _, fun i' o' h1 h2 w => stage_all' [8] [] (by kernel_rfl) (by kernel_rfl) (by kernel_rfl) trivial i' o' h1 h2, ?_⟩
            refine NQ_then ?_
            refine W_condF (x := .tmp 27) (c1 := (sub [1, 1, 0, 1, 0, 0, 1, 0, 0, 1, 0] (bodyOf Try.f121))) (c2 := (sub [1, 1, 0, 1, 0, 0, 1, 0, 0, 1, 1] (bodyOf Try.f121))) (by kernel_rfl) (by kernel_rfl) ?_
            refine TW_keep (σ' := [(0, .lf (.v (.int .u64 s))), (1, .lf (.v (.int .i64 fr))), (2, (.lf (.v (.pointer (some ⟨by', 0, none⟩))))), (3, (.lf (.v (.pointer (some ⟨bn, 0, none⟩))))), (4, (.lf (.v (.pointer (some ⟨bw, 0, none⟩))))), (8, .lf (.v (.int .i64 i)))]) [0, 1, 2, 3, 4, 8] (by kernel_rfl) ?_
            refine W_skip (by kernel_rfl) ?_
            refine NQ_bn ?_
            refine NQ_then ?_
            refine TW_region (id := 5) (by kernel_rfl) ?_
            refine TWI_pure (y := (17, .lf (.v (.int .i64 i)))) (by kernel_rfl) ?_
            refine TWI_pure (y := (18, .lf (.v (.int .i64 x18)))) (by subst e18; kernel_rfl) ?_
            refine TWI_pure (y := (8, .lf (.v (.int .i64 x18)))) (by kernel_rfl) ?_
            refine TWI_keep (σ' := [(0, .lf (.v (.int .u64 s))), (1, .lf (.v (.int .i64 fr))), (2, (.lf (.v (.pointer (some ⟨by', 0, none⟩))))), (3, (.lf (.v (.pointer (some ⟨bn, 0, none⟩))))), (4, (.lf (.v (.pointer (some ⟨bw, 0, none⟩))))), (8, .lf (.v (.int .i64 x18)))]) [0, 1, 2, 3, 4, 8] (by kernel_rfl) ?_
            refine WI_end (by kernel_rfl) ?_
            exact NQ_loop nf (x18, pq ++ L1, L2) (Nat.lt_succ_self _) rfl ⟨by rw [← hpq, ← h, List.append_assoc], c2⟩ (fun w hw => hw)
          · refine TWL_nil fun w hw => ⟨rfl, [(27, (.lf (.v (.bool true))))], Stp Jx M, hw, by kernel_rfl, wfs_mem ⟨trivial, trivial⟩, Stp.gr hyd.gx, fun i' o' h1 h2 w => stage_all' [8] [] (by kernel_rfl) (by kernel_rfl) (by kernel_rfl) trivial i' o' h1 h2, ?_⟩
            refine NQ_then ?_
            refine W_condT (x := .tmp 27) (c1 := (sub [1, 1, 0, 1, 0, 0, 1, 0, 0, 1, 0] (bodyOf Try.f121))) (c2 := (sub [1, 1, 0, 1, 0, 0, 1, 0, 0, 1, 1] (bodyOf Try.f121))) (by kernel_rfl) (by kernel_rfl) ?_
            refine W_seq (c1 := (sub [1, 1, 0, 1, 0, 0, 1, 0, 0, 1, 0, 0] (bodyOf Try.f121))) (c2 := (sub [1, 1, 0, 1, 0, 0, 1, 0, 0, 1, 0, 1] (bodyOf Try.f121))) (by kernel_rfl) ?_
            refine TW_region (id := 7) (by kernel_rfl) ?_
            refine TWI_pure (y := (7, (.lf (.v (.bool false))))) (by kernel_rfl) ?_
            refine WI_end (by kernel_rfl) ?_
            refine NQ_then ?_
            refine W_ret (by kernel_rfl) ?_
            refine NQ_br ?_
            refine NQ_thenr ?_
            refine NQ_thenr ?_
            refine NQ_br ?_
            refine NQ_thenr ?_
            exact stop rfl
    · refine TWI_pure (y := (12, (.lf (.v (.bool true))))) (by kernel_rfl) ?_
      refine TWI_keep (σ' := [(0, .lf (.v (.int .u64 s))), (1, .lf (.v (.int .i64 fr))), (2, (.lf (.v (.pointer (some ⟨by', 0, none⟩))))), (3, (.lf (.v (.pointer (some ⟨bn, 0, none⟩))))), (4, (.lf (.v (.pointer (some ⟨bw, 0, none⟩))))), (12, (.lf (.v (.bool true))))]) [0, 1, 2, 3, 4, 12] (by kernel_rfl) ?_
      refine WI_end (by kernel_rfl) ?_
      refine NQ_then ?_
      refine W_condT (x := .tmp 12) (c1 := (sub [1, 0, 1, 0] (bodyOf Try.f121))) (c2 := (sub [1, 0, 1, 1] (bodyOf Try.f121))) (by kernel_rfl) (by kernel_rfl) ?_
      refine W_seq (c1 := (sub [1, 0, 1, 0, 0] (bodyOf Try.f121))) (c2 := (sub [1, 0, 1, 0, 1] (bodyOf Try.f121))) (by kernel_rfl) ?_
      refine TW_region (id := 2) (by kernel_rfl) ?_
      refine TWI_pure (y := (7, (.lf (.v (.bool false))))) (by kernel_rfl) ?_
      refine WI_end (by kernel_rfl) ?_
      refine NQ_then ?_
      refine W_ret (by kernel_rfl) ?_
      refine NQ_thenr ?_
      exact stop rfl
theorem w120 (k : Nat) {M : Mem} {bu1 : Nat} {u1 : Int} (hbu1 : M bu1 = some (sgCells (fun _ => 0) (fun _ => .slice none 0 0) [.one (.v (.int .i64 u1))]).toArray) {ks} (h : p120 k u1 = some ks) :
    IterE enU Try.prog 120 [(.pointer (some ⟨bu1, 0, none⟩))] M ks := by
  unfold p120 at h
  obtain ⟨b1, hb1⟩ : ∃ b1, b1 = bu1 := ⟨_, rfl⟩
  rw [← hb1] at hbu1 ⊢
  refine IterE_of fun l J Jx W hyd hW h0 => ?_
  refine calls_TW (c := bodyOf Try.f120) [.lf (.v (.func (.yield l) #[] #[])), (.lf (.v (.pointer (some ⟨b1, 0, none⟩))))] hf120 (by kernel_rfl) (Nat.le_of_ble_eq_true (by kernel_rfl)) (by kernel_rfl) (by intro x hx; simp only [List.mem_cons, List.mem_nil_iff, or_false] at hx; rcases hx with rfl | rfl <;> trivial) hW ?_
  refine TW_pre (pre' := J M []) (by rintro w rfl; exact h0) ?_
  refine TS_enter fun w0 hw0 => ?_
  refine TS_seq (c1 := (sub [0] (bodyOf Try.f120))) (c2 := (sub [1] (bodyOf Try.f120))) (by kernel_rfl) ?_
  refine T_region (id := 0) (by kernel_rfl) ?_
  refine TI_segK (i := 0) (j := 1) (s' := { σ := [(1, (.lf (.v (.pointer (some ⟨b1, 0, none⟩))))), (2, .lf (.own 2 0))], H := [(2, [.one (.v (.func (.yield l) #[] #[]))])], V := [], M := M, ds := [] }) [1, 2] [2] [] (by kernel_rfl) (by kernel_rfl) ?_
  refine TI_end (by kernel_rfl) ?_
  refine ⟨rfl, ?_⟩
  refine TS_turn (turn_pubH 2 (c := [.one (.v (.func (.yield l) #[] #[]))]) (by kernel_rfl) (by kernel_rfl)) ?_
  rintro _ ⟨by', M1, rfl, hn1, e1, -, hM1⟩
  refine TS_sub (keep_sub (s' := { σ := [(1, (.lf (.v (.pointer (some ⟨b1, 0, none⟩))))), (2, (.lf (.v (.pointer (some ⟨by', 0, none⟩)))))], H := [], V := [], M := M1, ds := [] }) (ts := [1, 2]) (hs := []) (vs := []) (by kernel_rfl)) ?_
  refine TS_seq (c1 := (sub [1, 0] (bodyOf Try.f120))) (c2 := (sub [1, 1] (bodyOf Try.f120))) (by kernel_rfl) ?_
  refine T_region (id := 1) (by kernel_rfl) ?_
  refine TI_segK (i := 0) (j := 1) (s' := { σ := [(1, (.lf (.v (.pointer (some ⟨b1, 0, none⟩))))), (2, (.lf (.v (.pointer (some ⟨by', 0, none⟩))))), (3, .lf (.own 3 0))], H := [(3, [.one (.v .nilFunc)])], V := [], M := M1, ds := [] }) [1, 2, 3] [3] [] (by kernel_rfl) (by kernel_rfl) ?_
  refine TI_end (by kernel_rfl) ?_
  refine ⟨rfl, ?_⟩
  refine TS_turn (turn_tie 3 (c := [.one (.v .nilFunc)]) (by kernel_rfl)) ?_
  rintro _ ⟨bw, rfl, hn3, -⟩
  refine TS_seq (c1 := (sub [1, 1, 0] (bodyOf Try.f120))) (c2 := (sub [1, 1, 1] (bodyOf Try.f120))) (by kernel_rfl) ?_
  refine T_region (id := 2) (by kernel_rfl) ?_
  refine TI_turn (turn_at 3 (n := 3) (b := bw) (off := 0) (by kernel_rfl) (by kernel_rfl)) ?_
  rintro _ rfl
  refine TI_segK (i := 0) (j := 1) (s' := { σ := [(3, (.lf (.v (.pointer (some ⟨bw, 0, none⟩))))), (4, .lf (.v (.func (.func 121) #[] #[.pointer (some ⟨by', 0, none⟩), .pointer (some ⟨b1, 0, none⟩), .pointer (some ⟨bw, 0, none⟩)])))], H := [(3, [.one (.v .nilFunc)])], V := [], M := M1, ds := [], ats := [(3, bw)] }) [3, 4] [3] [] (by kernel_rfl) (by kernel_rfl) ?_
  refine TI_turn (turn_back 3 (n := 3) (b := bw) (off := 0) (by kernel_rfl) (by kernel_rfl)) ?_
  rintro _ rfl
  refine TI_segK (i := 1) (j := 2) (s' := { σ := [(3, .lf (.own 3 0))], H := [(3, [.one (.v (.func (.func 121) #[] #[.pointer (some ⟨by', 0, none⟩), .pointer (some ⟨b1, 0, none⟩), .pointer (some ⟨bw, 0, none⟩)]))])], V := [], M := M1, ds := [], ats := [(3, bw)] }) [3] [3] [] (by kernel_rfl) (by kernel_rfl) ?_
  refine TI_end (by kernel_rfl) ?_
  refine ⟨rfl, ?_⟩
  refine TS_turn (turn_pubT 3 bw (c := [.one (.v (.func (.func 121) #[] #[.pointer (some ⟨by', 0, none⟩), .pointer (some ⟨b1, 0, none⟩), .pointer (some ⟨bw, 0, none⟩)]))]) (by kernel_rfl) (by kernel_rfl) (by kernel_rfl)) ?_
  rintro _ ⟨rfl, hn4⟩
  obtain ⟨M2, e2⟩ : ∃ M2, M2 = addM M1 bw (sgCells (fun _ => 0) (fun _ => .slice none 0 0) [.one (.v (.func (.func 121) #[] #[.pointer (some ⟨by', 0, none⟩), .pointer (some ⟨b1, 0, none⟩), .pointer (some ⟨bw, 0, none⟩)]))]).toArray := ⟨_, rfl⟩
  have hM2 : Mem.le M1 M2 := by rw [e2]; exact addM_le hn4
  refine TS_sub (keep_sub (s' := { σ := [(3, (.lf (.v (.pointer (some ⟨bw, 0, none⟩)))))], H := [], V := [], M := M2, ds := [] }) (ts := [3]) (hs := []) (vs := []) (by subst e2; kernel_rfl)) ?_
  refine TS_leave (K := J M2 []) (closed_all (by kernel_rfl)) (Mem.le_trans hM1 hM2) (fun w hB hN => hyd.grow _ _ _ _ _ hw0 hB hN) ?_
  have hby : memCell M2 by' 0 = some (.func (.yield l) #[] #[]) := memCell_le hM2 (by rw [e1]; exact memCell_add rfl)
  have hbn0 : memCell M b1 0 = some (.int .i64 u1) := by unfold memCell; rw [hbu1]; rfl
  have hbn : memCell M2 b1 0 = some (.int .i64 u1) := memCell_le (Mem.le_trans hM1 hM2) hbn0
  have hbw : memCell M2 bw 0 = some (.func (.func 121) #[] #[.pointer (some ⟨by', 0, none⟩), .pointer (some ⟨b1, 0, none⟩), .pointer (some ⟨bw, 0, none⟩)]) := by rw [e2]; exact memCell_add rfl
  refine TW_region (id := 3) (by kernel_rfl) ?_
  refine TWI_at (d := 5) (x := .lf (.v (.func (.func 121) #[] #[.pointer (some ⟨by', 0, none⟩), .pointer (some ⟨b1, 0, none⟩), .pointer (some ⟨bw, 0, none⟩)]))) (fun w => At_ldP (d := 5) (b := bw) (off := 0) (m := 1) (v := (.func (.func 121) #[] #[.pointer (some ⟨by', 0, none⟩), .pointer (some ⟨b1, 0, none⟩), .pointer (some ⟨bw, 0, none⟩)])) (by kernel_rfl) hbw) (hyd.gr _ _) (by kernel_rfl) trivial ?_
  refine TWI_of (i := 1) (by kernel_rfl) ?_
  refine WL_callB (d := 6) (f := 121) (J M2 ks) (Stp Jx M2) (by kernel_rfl) (by kernel_rfl) (fun w hw hm => (w121 k hyd hby hbn hbw k 0 0 ks [] [] w h (by simp) hw).mono fun e w' ⟨b, q1, q2⟩ => ⟨b, q1, (by cases b with | true => exact hyd.mem _ _ _ q2 | false => exact q2.2), (by cases b with | true => exact q2 | false => exact q2)⟩) ?_ ?_
  · exact TWL_nil fun w hw => ⟨.inl rfl, .inl ⟨M2, hw⟩⟩
  · exact TWL_nil fun w hw => ⟨.inl rfl, .inr hw.1⟩
end Go.Proofs.Ythniebmammmacaa
namespace Go.Proofs.Ythniebmammmacaa
open Go.RowKit
def p73 (k : Nat) (u0 : Int) : Option (List (Int)) :=
 cl (p120 k u0) fun v4 => some v4
theorem hf73 : Try.prog.funcs[73]? = some Try.f73 := by kernel_rfl
theorem w73 (k : Nat) {M : Mem} {u0 : Int} {r} (h : p73 k u0 = some r) :
  Fn Try.prog 73 [rval (vi u0)] M (fun x M' => ∃ (lb1 : List Value),x = .lf (.v (.func (.func 120) #[] (List.toArray lb1))) ∧ IterE enU Try.prog 120 lb1 M' r) := by
 unfold p73 at h
 refine FO [vi u0] hf73 ⟨trivial,trivial⟩ fun w => ?_
 refine SQ0 (RG ?_)
 refine SG 2 (S4 [(1,lO 1)] [(1,[oI u0])] [] M) ?_
 refine EN ?_
 refine T_turn (turn_pubH 1 (c:=[oI u0]) (by kernel_rfl) (by kernel_rfl)) ?_
 rintro _ ⟨b2,M3,rfl,-,e_M3,-,hM3⟩
 have fb2 : MB M3 b2 [oI u0] := by rw [e_M3]; exact addM_at _ _ _
 refine KG (S4 [(1,lP b2)] [] [] M3) ?_
 refine SQ (RG ?_)
 refine SS 2 [(2,.lf (.v (.func (.func 120) #[] #[(.pointer (some ⟨b2,0,none⟩))])))] ?_
 refine EN ?_
 obtain ⟨v4,c_v4,h⟩ := cl_some h
 refine RT ?_
 obtain rfl := sj h
 refine FT (.lf (.v (.func (.func 120) #[] (List.toArray [(.pointer (some ⟨b2,0,none⟩))])))) ?_
 exact ⟨[(.pointer (some ⟨b2,0,none⟩))],rfl,(w120 k fb2 c_v4)⟩
end Go.Proofs.Ythniebmammmacaa
namespace Go.Proofs.Ythniebmammmacaa
open Go.RowKit
def p28_l2 (k : Nat) (u0_1 : List (List Int)) (x77 : Int) (j88 : Int → Option (List Int × List Int × Int × Int × Int)) (v9 : Int) (v10 : List (List Int)) (v11 : List WT) (v12 : List Int) (v50 : Int) (v67 : List Int) : Nat → Int → Option (List Int × List Int × Int × Int × Int)
 | 0,_ => none
 | n91 + 1,x89 => cl (p55 k v9 v10 v11 v12 v50 x89) fun v92 => sp v92 (j88 x89) (lt' (wr .i64 (x89 + (1 : Int))) fun x93 => gd ((0 : Int) ≤ x93 ∧ (0 : Int) ≤ (0 : Int) ∧ (x93).toNat ≤ List.length u0_1 ∧ List.length u0_1 ≤ List.length u0_1) <| lt' (part u0_1 ((x93).toNat) (u0_1.length)) fun P95 => cl (p80b k P95 x77 v67) fun v96 => lt' (wr .i64 ((1 : Int) + v96)) fun x99 => lt' (wr .i64 (x89 + x99)) fun x100 => p28_l2 k u0_1 x77 j88 v9 v10 v11 v12 v50 v67 n91 x100)
def p28_l1 (k : Nat) (u0_1 : List (List Int)) (u3 : Int) (j76 : Int → List Int → Option (List Int × List Int × Int × Int × Int)) (v9 : Int) (v10 : List (List Int)) (v11 : List WT) (v12 : List Int) (v50 : Int) (v67 : List Int) : Nat → Int → Int → List Int → Option (List Int × List Int × Int × Int × Int)
 | 0,_,_,_ => none
 | n81 + 1,x77,x78,L79 => lt' (x77 != u3) fun b82 => sp b82 (cl (p80a k u0_1 x77 v67) fun v83 => jn (fun (x86 : Int) => gd ((L79.length + List.length ([x86])) * 8 ≤ 140737488355328) <| lt' (L79 ++ ([x86])) fun W102 => gd ((0 : Int) ≤ x86 ∧ x86 < (u0_1.length : Int)) <| lt' (List.getD (List.getD u0_1 ((x86).toNat) []) 3 0) fun x104 => lt' (wr .i64 (x78 + x104)) fun x105 => gd ((0 : Int) ≤ x86 ∧ x86 < (u0_1.length : Int)) <| lt' (List.getD (List.getD u0_1 ((x86).toNat) []) 1 0) fun x107 => p28_l1 k u0_1 u3 j76 v9 v10 v11 v12 v50 v67 n81 x107 x105 W102) fun j88 => p28_l2 k u0_1 x77 j88 v9 v10 v11 v12 v50 v67 k v83) (j76 x78 L79)
def p28 (k : Nat) (u0_0 : Int) (u0_1 : List (List Int)) (u0_2 : List WT) (u1 : List Int) (u2 : Int) (u3 : Int) : Option (List Int × List Int × Int × Int × Int) :=
 cl5 (p68 k u0_0 u0_1 u0_2 u1) fun v9 v10 v11 v12 v13 => gd ((v12).length = 6) <| lt' (v13 != (0 : Int)) fun b24 => sp b24 (some (([] : List Int),([] : List Int),(0 : Int),(0 : Int),v13)) (cl (p67 k u0_0 u0_1 u0_2 ([u2,u3])) fun v36 => lt' (v36 != (0 : Int)) fun b37 => sp b37 (some (([] : List Int),([] : List Int),(0 : Int),(0 : Int),v36)) (cl (p73 k (u0_2.length : Int)) fun v47 => cl3 (p72a k v47 v9 v10 v11 v12 u3 u2) fun v50 v51 v52 => sp v52 (cl (p79 k v50) fun v55 => cl (p78 k v55) fun v58 => cl (p76 k v9 v10 v11 v12 v50) fun v63 => cl (p75a k v9 v10 v11 v12 u3 true v9 v10 v11 v12 v50) fun v67 => jn (fun (x73 : Int) (L74 : List Int) => some (L74,v58,v51,x73,(0 : Int))) fun j76 => p28_l1 k u0_1 u3 j76 v9 v10 v11 v12 v50 v67 k u2 (0 : Int) ([] : List Int)) (some (([] : List Int),([] : List Int),(0 : Int),(0 : Int),(15 : Int)))))
theorem hf28 : Try.prog.funcs[28]? = some Try.f28 := by kernel_rfl
theorem w28 (k : Nat) {M : Mem} {Au0_1 Au0_2 : Option Addr} {cu0_1 cu0_2 : Nat} {Hu0_2 : Nat → Option Addr} {Cu0_2 : Nat → Nat} {u0_0 u2 u3 : Int} {u0_1 : List (List Int)} {u0_2 : List WT} {u1 : List Int} (hu0_1 : SlR M Au0_1 cu0_1 .i64 12 u0_1) (hu0_2 : SlW M 3 Au0_2 cu0_2 Hu0_2 Cu0_2 u0_2) (hu1 : u1.length = 6) {r} (h : p28 k u0_0 u0_1 u0_2 u1 u2 u3 = some r) :
  Fn Try.prog 28 [rval (.agg [oI u0_0,oS Au0_1 u0_1 cu0_1,oS Au0_2 u0_2 cu0_2]),rval (.agg [.arr .i64 6 u1]),rval (vi u2),rval (vi u3)] M (fun x M' => ∃ (A1 : Option Addr) (c2 : Nat) (A3 : Option Addr) (c4 : Nat),x = .tup [(none,[oS A1 r.1 c2,oS A3 r.2.1 c4,oI r.2.2.1,oI r.2.2.2.1]),(some (.v (.int .i64 r.2.2.2.2)),[])] ∧ SlI M' A1 c2 .i64 r.1 ∧ SlI M' A3 c4 .i64 r.2.1) := by
 unfold p28 at h
 refine FO [.agg [oI u0_0,oS Au0_1 u0_1 cu0_1,oS Au0_2 u0_2 cu0_2],.agg [.arr .i64 6 u1],vi u2,vi u3] hf28 ⟨⟨rfl,⟨rfl,⟨rfl,trivial⟩⟩⟩,⟨⟨hu1,trivial⟩,⟨trivial,⟨trivial,trivial⟩⟩⟩⟩ fun w => ?_
 refine SQ0 (RG ?_)
 refine SG 6 (S4 [(4,lO 4),(5,lO 5),(6,lO 6),(7,lO 7),(8,lO 8)] [(4,[oI u0_0,oS Au0_1 u0_1 cu0_1,oS Au0_2 u0_2 cu0_2]),(5,[.arr .i64 6 u1]),(6,[oI u2]),(7,[oI u3]),(8,[oS none ([] : List Int) 0,oS none ([] : List Int) 0,oI (0 : Int),oI (0 : Int)])] [] M) ?_
 refine EN ?_
 refine T_turn (turn_nil 5005 3 1 [(4,lO 4),(5,lO 5),(6,lO 6),(7,lO 7),(8,lO 8)] [(4,[oI u0_0,oS Au0_1 u0_1 cu0_1,oS Au0_2 u0_2 cu0_2]),(5,[.arr .i64 6 u1]),(6,[oI u2]),(7,[oI u3]),(8,[.one (.vec 5005),oS none ([] : List Int) 0,oI (0 : Int),oI (0 : Int)])] (by kernel_rfl) (by kernel_rfl) (by kernel_rfl)) ?_
 rintro _ rfl
 refine T_turn (turn_nil 5006 3 1 [(4,lO 4),(5,lO 5),(6,lO 6),(7,lO 7),(8,lO 8)] [(4,[oI u0_0,oS Au0_1 u0_1 cu0_1,oS Au0_2 u0_2 cu0_2]),(5,[.arr .i64 6 u1]),(6,[oI u2]),(7,[oI u3]),(8,[.one (.vec 5005),.one (.vec 5006),oI (0 : Int),oI (0 : Int)])] (by kernel_rfl) (by kernel_rfl) (by kernel_rfl)) ?_
 rintro _ rfl
 refine KG (S4 [(4,lO 4),(5,lO 5),(6,lO 6),(7,lO 7),(8,lO 8)] [(4,[oI u0_0,oS Au0_1 u0_1 cu0_1,oS Au0_2 u0_2 cu0_2]),(5,[.arr .i64 6 u1]),(6,[oI u2]),(7,[oI u3]),(8,[.one (.vec 5005),.one (.vec 5006),oI (0 : Int),oI (0 : Int)])] [(5005,vI 3 1 ([] : List Int)),(5006,vI 3 1 ([] : List Int))] M) ?_
 refine T_turn (turn_pubH 7 (c:=[oI u3]) (by kernel_rfl) (by kernel_rfl)) ?_
 rintro _ ⟨b7,M8,rfl,-,e_M8,-,hM8⟩
 have fb7 : MB M8 b7 [oI u3] := by rw [e_M8]; exact addM_at _ _ _
 refine KG (S4 [(4,lO 4),(5,lO 5),(6,lO 6),(7,lP b7),(8,lO 8)] [(4,[oI u0_0,oS Au0_1 u0_1 cu0_1,oS Au0_2 u0_2 cu0_2]),(5,[.arr .i64 6 u1]),(6,[oI u2]),(8,[.one (.vec 5005),.one (.vec 5006),oI (0 : Int),oI (0 : Int)])] [(5005,vI 3 1 ([] : List Int)),(5006,vI 3 1 ([] : List Int))] M8) ?_
 refine SQ (RG ?_)
 refine SH 2 [(4,lO 4),(6,lO 6),(7,lP b7),(8,lO 8),(20,.agg [oI u0_0,oS Au0_1 u0_1 cu0_1,oS Au0_2 u0_2 cu0_2]),(21,.agg [.arr .i64 6 u1])] [(4,[oI u0_0,oS Au0_1 u0_1 cu0_1,oS Au0_2 u0_2 cu0_2]),(6,[oI u2]),(8,[.one (.vec 5005),.one (.vec 5006),oI (0 : Int),oI (0 : Int)])] ?_
 obtain ⟨v9,v10,v11,v12,v13,c_v9,h⟩ := cl5_some h
 obtain ⟨g20,h⟩ := gd_some h
 refine TI_of (i:=2) (by kernel_rfl) (TE_callR (d:=22) (f:=68) (args:=[rval (.agg [oI u0_0,oS Au0_1 u0_1 cu0_1,oS Au0_2 u0_2 cu0_2]),rval (.agg [.arr .i64 6 u1])]) (by kernel_rfl) (by kernel_rfl) (w68 k (hu0_1.le hM8) (hu0_2.le hM8) hu1 c_v9) ?_)
 rintro _ M21 _ hM21 _ ⟨A14,c15,A16,c17,H18,C19,rfl,fA14,fA16⟩
 refine SG 9 (S4 [(4,lO 4),(6,lO 6),(7,lP b7),(8,lO 8),(10,lO 10),(11,vi v13)] [(4,[oI u0_0,oS Au0_1 u0_1 cu0_1,oS Au0_2 u0_2 cu0_2]),(6,[oI u2]),(8,[.one (.vec 5005),.one (.vec 5006),oI (0 : Int),oI (0 : Int)]),(10,[oI v9,oS A14 v10 c15,oS A16 v11 c17,.arr .i64 6 v12])] [(5005,vI 3 1 ([] : List Int)),(5006,vI 3 1 ([] : List Int))] M21) ?_
 refine EN ?_
 refine T_turn (turn_pubH 10 (c:=[oI v9,oS A14 v10 c15,oS A16 v11 c17,.arr .i64 6 v12]) (by kernel_rfl) (by kernel_rfl)) ?_
 rintro _ ⟨b22,M23,rfl,-,e_M23,-,hM23⟩
 have fb22 : MB M23 b22 [oI v9,oS A14 v10 c15,oS A16 v11 c17,.arr .i64 6 v12] := by rw [e_M23]; exact addM_at _ _ _
 refine KG (S4 [(4,lO 4),(6,lO 6),(7,lP b7),(8,lO 8),(10,lP b22),(11,vi v13)] [(4,[oI u0_0,oS Au0_1 u0_1 cu0_1,oS Au0_2 u0_2 cu0_2]),(6,[oI u2]),(8,[.one (.vec 5005),.one (.vec 5006),oI (0 : Int),oI (0 : Int)])] [(5005,vI 3 1 ([] : List Int)),(5006,vI 3 1 ([] : List Int))] M23) ?_
 refine SQ (SQ (RG ?_))
 obtain ⟨b24,e_b24,h⟩ := lt_some h
 refine SS 2 [(4,lO 4),(6,lO 6),(7,lP b7),(8,lO 8),(10,lP b22),(11,vi v13),(26,vb b24)] ?_ (by subst e_b24;kernel_rfl)
 refine EN ?_
 cases b24 with
 | true =>
  replace h := sp_t h
  refine CT ?_
  refine KP [(8,lO 8),(11,vi v13)] [(8,[.one (.vec 5005),.one (.vec 5006),oI (0 : Int),oI (0 : Int)])] [(5005,vI 3 1 ([] : List Int)),(5006,vI 3 1 ([] : List Int))] ?_
  refine SQ (RG ?_)
  refine SK 4 [(8,lO 8),(9,vi v13)] [(8,[oS none ([] : List Int) 0,oS none ([] : List Int) 0,oI (0 : Int),oI (0 : Int)])] [] ?_
  refine EN ?_
  refine T_turn (turn_nil 5025 3 1 [(8,lO 8),(9,vi v13)] [(8,[.one (.vec 5025),oS none ([] : List Int) 0,oI (0 : Int),oI (0 : Int)])] (by kernel_rfl) (by kernel_rfl) (by kernel_rfl)) ?_
  rintro _ rfl
  refine T_turn (turn_nil 5026 3 1 [(8,lO 8),(9,vi v13)] [(8,[.one (.vec 5025),.one (.vec 5026),oI (0 : Int),oI (0 : Int)])] (by kernel_rfl) (by kernel_rfl) (by kernel_rfl)) ?_
  rintro _ rfl
  refine KG (S4 [(8,lO 8),(9,vi v13)] [(8,[.one (.vec 5025),.one (.vec 5026),oI (0 : Int),oI (0 : Int)])] [(5025,vI 3 1 ([] : List Int)),(5026,vI 3 1 ([] : List Int))] M23) ?_
  refine T_turn (turn_pubV 5025 (v:=vI 3 1 ([] : List Int)) (by kernel_rfl)) ?_
  rintro _ ⟨A27,c28,M29,rfl,hSA27,hcA27,-,hNA27,hM29⟩
  have fA27 : SlI M29 A27 c28 .i64 ([] : List Int) := ⟨hSA27,hcA27⟩
  refine KG (S4 [(8,lO 8),(9,vi v13)] [(8,[oS A27 ([] : List Int) c28,.one (.vec 5026),oI (0 : Int),oI (0 : Int)])] [(5026,vI 3 1 ([] : List Int))] M29) ?_
  refine T_turn (turn_pubV 5026 (v:=vI 3 1 ([] : List Int)) (by kernel_rfl)) ?_
  rintro _ ⟨A30,c31,M32,rfl,hSA30,hcA30,-,hNA30,hM32⟩
  have fA30 : SlI M32 A30 c31 .i64 ([] : List Int) := ⟨hSA30,hcA30⟩
  refine KG (S4 [(8,lO 8),(9,vi v13)] [(8,[oS A27 ([] : List Int) c28,oS A30 ([] : List Int) c31,oI (0 : Int),oI (0 : Int)])] [] M32) ?_
  refine RT (thenQ_r ?_)
  obtain rfl := sj h
  refine FT (.tup [(none,[oS A27 ([] : List Int) c28,oS A30 ([] : List Int) c31,oI (0 : Int),oI (0 : Int)]),(some (.v (.int .i64 v13)),[])]) ?_
  exact ⟨A27,c28,A30,c31,rfl,(fA27.le hM32),fA30⟩
 | false =>
  replace h := sp_f h
  refine CF ?_
  refine KS [(4,lO 4),(6,lO 6),(7,lP b7),(8,lO 8),(10,lP b22)] ?_
  refine SN (SQ (SQ (RG ?_)))
  refine SS 2 [(4,lO 4),(6,lO 6),(7,lP b7),(8,lO 8),(10,lP b22),(29,.agg [oI u0_0,oS Au0_1 u0_1 cu0_1,oS Au0_2 u0_2 cu0_2]),(30,vi u2)] ?_
  refine AT 31 (vi u3) (At_ldP (b:=b7) (off:=0) (m:=1) (v:=(.int .i64 u3)) (by kernel_rfl) (cell_blk (hM23 _ _ (hM21 _ _ fb7)) ⟨rfl,trivial⟩ (by kernel_rfl))) ?_
  refine TI_of (i:=3) (by kernel_rfl) (TE_litC (d:=32) (e:=3) (sz:=1) (len:=2) (cs:=ints .i64 ([u2,u3])) (by kernel_rfl) (by kernel_rfl) (by kernel_rfl) ?_)
  refine SG 4 (S4 [(4,lO 4),(6,lO 6),(7,lP b7),(8,lO 8),(10,lP b22),(29,.agg [oI u0_0,oS Au0_1 u0_1 cu0_1,oS Au0_2 u0_2 cu0_2]),(32,lV 32)] [(4,[oI u0_0,oS Au0_1 u0_1 cu0_1,oS Au0_2 u0_2 cu0_2]),(6,[oI u2]),(8,[.one (.vec 5005),.one (.vec 5006),oI (0 : Int),oI (0 : Int)])] [(32,vI 3 1 ([u2,u3])),(5005,vI 3 1 ([] : List Int)),(5006,vI 3 1 ([] : List Int))] M23) ?_
  refine TI_turn (turn_pubV 32 (v:=vI 3 1 ([u2,u3])) (by kernel_rfl)) ?_
  rintro _ ⟨A33,c34,M35,rfl,hSA33,hcA33,-,hNA33,hM35⟩
  have fA33 : SlI M35 A33 c34 .i64 ([u2,u3]) := ⟨hSA33,hcA33⟩
  obtain ⟨v36,c_v36,h⟩ := cl_some h
  refine AC 33 (vi v36) (w67 k ((((hu0_1.le hM8).le hM21).le hM23).le hM35) ((((hu0_2.le hM8).le hM21).le hM23).le hM35) fA33 c_v36) ?_
  refine SG 6 (S4 [(4,lO 4),(6,lO 6),(7,lP b7),(8,lO 8),(10,lP b22),(12,vi v36)] [(4,[oI u0_0,oS Au0_1 u0_1 cu0_1,oS Au0_2 u0_2 cu0_2]),(6,[oI u2]),(8,[.one (.vec 5005),.one (.vec 5006),oI (0 : Int),oI (0 : Int)])] [(5005,vI 3 1 ([] : List Int)),(5006,vI 3 1 ([] : List Int))] M35) ?_
  refine EN (SQ (RG ?_))
  obtain ⟨b37,e_b37,h⟩ := lt_some h
  refine SS 2 [(4,lO 4),(6,lO 6),(7,lP b7),(8,lO 8),(10,lP b22),(12,vi v36),(35,vb b37)] ?_ (by subst e_b37;kernel_rfl)
  refine EN ?_
  cases b37 with
  | true =>
   replace h := sp_t h
   refine CT ?_
   refine KP [(8,lO 8),(12,vi v36)] [(8,[.one (.vec 5005),.one (.vec 5006),oI (0 : Int),oI (0 : Int)])] [(5005,vI 3 1 ([] : List Int)),(5006,vI 3 1 ([] : List Int))] ?_
   refine SQ (RG ?_)
   refine SK 4 [(8,lO 8),(9,vi v36)] [(8,[oS none ([] : List Int) 0,oS none ([] : List Int) 0,oI (0 : Int),oI (0 : Int)])] [] ?_
   refine EN ?_
   refine T_turn (turn_nil 5038 3 1 [(8,lO 8),(9,vi v36)] [(8,[.one (.vec 5038),oS none ([] : List Int) 0,oI (0 : Int),oI (0 : Int)])] (by kernel_rfl) (by kernel_rfl) (by kernel_rfl)) ?_
   rintro _ rfl
   refine T_turn (turn_nil 5039 3 1 [(8,lO 8),(9,vi v36)] [(8,[.one (.vec 5038),.one (.vec 5039),oI (0 : Int),oI (0 : Int)])] (by kernel_rfl) (by kernel_rfl) (by kernel_rfl)) ?_
   rintro _ rfl
   refine KG (S4 [(8,lO 8),(9,vi v36)] [(8,[.one (.vec 5038),.one (.vec 5039),oI (0 : Int),oI (0 : Int)])] [(5038,vI 3 1 ([] : List Int)),(5039,vI 3 1 ([] : List Int))] M35) ?_
   refine T_turn (turn_pubV 5038 (v:=vI 3 1 ([] : List Int)) (by kernel_rfl)) ?_
   rintro _ ⟨A40,c41,M42,rfl,hSA40,hcA40,-,hNA40,hM42⟩
   have fA40 : SlI M42 A40 c41 .i64 ([] : List Int) := ⟨hSA40,hcA40⟩
   refine KG (S4 [(8,lO 8),(9,vi v36)] [(8,[oS A40 ([] : List Int) c41,.one (.vec 5039),oI (0 : Int),oI (0 : Int)])] [(5039,vI 3 1 ([] : List Int))] M42) ?_
   refine T_turn (turn_pubV 5039 (v:=vI 3 1 ([] : List Int)) (by kernel_rfl)) ?_
   rintro _ ⟨A43,c44,M45,rfl,hSA43,hcA43,-,hNA43,hM45⟩
   have fA43 : SlI M45 A43 c44 .i64 ([] : List Int) := ⟨hSA43,hcA43⟩
   refine KG (S4 [(8,lO 8),(9,vi v36)] [(8,[oS A40 ([] : List Int) c41,oS A43 ([] : List Int) c44,oI (0 : Int),oI (0 : Int)])] [] M45) ?_
   refine RT (thenQ_r ?_)
   obtain rfl := sj h
   refine FT (.tup [(none,[oS A40 ([] : List Int) c41,oS A43 ([] : List Int) c44,oI (0 : Int),oI (0 : Int)]),(some (.v (.int .i64 v36)),[])]) ?_
   exact ⟨A40,c41,A43,c44,rfl,(fA40.le hM45),fA43⟩
  | false =>
   replace h := sp_f h
   refine CF ?_
   refine KS [(4,lO 4),(6,lO 6),(7,lP b7),(8,lO 8),(10,lP b22)] ?_
   refine SN ?_
   refine T_turn (turn_tie 6 (c:=[oI u2]) (by kernel_rfl)) ?_
   rintro _ ⟨b46,rfl,-,-⟩
   refine SQ (RG ?_)
   refine SG 3 { σ := [(4,lO 4),(6,lO 6),(7,lP b7),(8,lO 8),(10,lP b22),(41,vi (u0_2.length : Int))],H := [(4,[oI u0_0,oS Au0_1 u0_1 cu0_1,oS Au0_2 u0_2 cu0_2]),(6,[oI u2]),(8,[.one (.vec 5005),.one (.vec 5006),oI (0 : Int),oI (0 : Int)])],V := [(5005,vI 3 1 ([] : List Int)),(5006,vI 3 1 ([] : List Int))],M := M35,ds := [],ats := [(6,b46)] } ?_
   obtain ⟨v47,c_v47,h⟩ := cl_some h
   refine TI_of (i:=3) (by kernel_rfl) (TE_callR (d:=42) (f:=73) (args:=[rval (vi (u0_2.length : Int))]) (by kernel_rfl) (by kernel_rfl) (w73 k  c_v47) ?_)
   rintro _ M49 _ hM49 _ ⟨lb48,rfl,flb48⟩
   refine SG 4 { σ := [(4,lO 4),(6,lO 6),(7,lP b7),(8,lO 8),(10,lP b22),(42,.lf (.v (.func (.func 120) #[] (List.toArray lb48))))],H := [(4,[oI u0_0,oS Au0_1 u0_1 cu0_1,oS Au0_2 u0_2 cu0_2]),(6,[oI u2]),(8,[.one (.vec 5005),.one (.vec 5006),oI (0 : Int),oI (0 : Int)])],V := [(5005,vI 3 1 ([] : List Int)),(5006,vI 3 1 ([] : List Int))],M := M49,ds := [],ats := [(6,b46)] } ?_
   refine TI_turn (turn_at 6 (n:=6) (b:=b46) (off:=0) (by kernel_rfl) (by kernel_rfl)) ?_
   rintro _ rfl
   refine SG 5 { σ := [(4,lO 4),(6,lP b46),(7,lP b7),(8,lO 8),(10,lP b22),(42,.lf (.v (.func (.func 120) #[] (List.toArray lb48)))),(43,.lf (.v (.func (.func 74) #[] #[(.pointer (some ⟨b22,0,none⟩)),(.pointer (some ⟨b7,0,none⟩)),(.pointer (some ⟨b46,0,none⟩))])))],H := [(4,[oI u0_0,oS Au0_1 u0_1 cu0_1,oS Au0_2 u0_2 cu0_2]),(6,[oI u2]),(8,[.one (.vec 5005),.one (.vec 5006),oI (0 : Int),oI (0 : Int)])],V := [(5005,vI 3 1 ([] : List Int)),(5006,vI 3 1 ([] : List Int))],M := M49,ds := [],ats := [(6,b46)] } ?_
   refine TI_turn (turn_back 6 (n:=6) (b:=b46) (off:=0) (by kernel_rfl) (by kernel_rfl)) ?_
   rintro _ rfl
   obtain ⟨v50,v51,v52,c_v50,h⟩ := cl3_some h
   refine TI_of (i:=5) (by kernel_rfl) (TE_lendT (d:=44) (f:=72) 6 b46 (c:=[oI u2]) (args:=[rval (.lf (.v (.func (.func 120) #[] (List.toArray lb48)))),rval (.lf (.v (.func (.func 74) #[] #[(.pointer (some ⟨b22,0,none⟩)),(.pointer (some ⟨b7,0,none⟩)),(.pointer (some ⟨b46,0,none⟩))])))]) (by kernel_rfl) (by kernel_rfl) (by kernel_rfl) (by kernel_rfl) (by kernel_rfl) (fun hb0 => w72a k (flb48.le (addM_le hb0)) ((((fA14.le hM23).le hM35).le hM49).le (addM_le hb0)) ((((fA16.le hM23).le hM35).le hM49).le (addM_le hb0)) g20 ((addM_le hb0) _ _ (hM49 _ _ (hM35 _ _ fb22))) ((addM_le hb0) _ _ (hM49 _ _ (hM35 _ _ (hM23 _ _ (hM21 _ _ fb7))))) (addM_at _ _ _) c_v50) ?_)
   rintro _ M53 M54 hb0 - e_M54 hM54 ⟨rfl⟩ -
   refine SG 13 { σ := [(4,lO 4),(6,lO 6),(7,lP b7),(8,lO 8),(10,lP b22),(13,.lf (.v (.int .u64 v50))),(14,vi v51),(15,vb v52)],H := [(4,[oI u0_0,oS Au0_1 u0_1 cu0_1,oS Au0_2 u0_2 cu0_2]),(6,[oI u2]),(8,[.one (.vec 5005),.one (.vec 5006),oI (0 : Int),oI (0 : Int)])],V := [(5005,vI 3 1 ([] : List Int)),(5006,vI 3 1 ([] : List Int))],M := M54,ds := [],ats := [(6,b46)] } ?_
   refine EN (SQ (SQ (RG ?_)))
   refine SS 2 [(4,lO 4),(6,lO 6),(7,lP b7),(8,lO 8),(10,lP b22),(13,.lf (.v (.int .u64 v50))),(14,vi v51),(49,vb (!v52))] ?_
   refine EN ?_
   cases v52 with
   | true =>
    replace h := sp_t h
    refine CF ?_
    refine KS [(4,lO 4),(6,lO 6),(7,lP b7),(8,lO 8),(10,lP b22),(13,.lf (.v (.int .u64 v50))),(14,vi v51)] ?_
    refine SN (SQ (RG ?_))
    refine SS 1 [(4,lO 4),(6,lO 6),(7,lP b7),(8,lO 8),(10,lP b22),(13,.lf (.v (.int .u64 v50))),(14,vi v51),(51,.lf (.v (.int .u64 v50)))] ?_
    obtain ⟨v55,c_v55,h⟩ := cl_some h
    refine TI_of (i:=1) (by kernel_rfl) (TE_callR (d:=52) (f:=79) (args:=[rval (.lf (.v (.int .u64 v50)))]) (by kernel_rfl) (by kernel_rfl) (w79 k  c_v55) ?_)
    rintro _ M57 _ hM57 _ ⟨lb56,rfl,flb56⟩
    obtain ⟨v58,c_v58,h⟩ := cl_some h
    refine TI_of (i:=2) (by kernel_rfl) (TE_callR (d:=53) (f:=78) (args:=[rval (.lf (.v (.func (.func 124) #[] (List.toArray lb56))))]) (by kernel_rfl) (by kernel_rfl) (w78 k flb56 c_v58) ?_)
    rintro _ M61 _ hM61 _ ⟨A59,c60,rfl,fA59⟩
    refine SG 7 { σ := [(4,lO 4),(6,lO 6),(7,lP b7),(8,lO 8),(10,lP b22),(13,.lf (.v (.int .u64 v50))),(16,lO 16)],H := [(4,[oI u0_0,oS Au0_1 u0_1 cu0_1,oS Au0_2 u0_2 cu0_2]),(6,[oI u2]),(8,[.one (.vec 5005),.one (.vec 5006),oI (0 : Int),oI (0 : Int)]),(16,[oS none ([] : List Int) 0,oS A59 v58 c60,oI v51,oI (0 : Int)])],V := [(5005,vI 3 1 ([] : List Int)),(5006,vI 3 1 ([] : List Int))],M := M61,ds := [],ats := [(6,b46)] } ?_
    refine EN ?_
    refine T_turn (turn_nil 5062 3 1 [(4,lO 4),(6,lO 6),(7,lP b7),(8,lO 8),(10,lP b22),(13,.lf (.v (.int .u64 v50))),(16,lO 16)] [(4,[oI u0_0,oS Au0_1 u0_1 cu0_1,oS Au0_2 u0_2 cu0_2]),(6,[oI u2]),(8,[.one (.vec 5005),.one (.vec 5006),oI (0 : Int),oI (0 : Int)]),(16,[.one (.vec 5062),oS A59 v58 c60,oI v51,oI (0 : Int)])] (by kernel_rfl) (by kernel_rfl) (by kernel_rfl)) ?_
    rintro _ rfl
    refine KG { σ := [(4,lO 4),(6,lO 6),(7,lP b7),(8,lO 8),(10,lP b22),(13,.lf (.v (.int .u64 v50))),(16,lO 16)],H := [(4,[oI u0_0,oS Au0_1 u0_1 cu0_1,oS Au0_2 u0_2 cu0_2]),(6,[oI u2]),(8,[.one (.vec 5005),.one (.vec 5006),oI (0 : Int),oI (0 : Int)]),(16,[.one (.vec 5062),oS A59 v58 c60,oI v51,oI (0 : Int)])],V := [(5005,vI 3 1 ([] : List Int)),(5006,vI 3 1 ([] : List Int)),(5062,vI 3 1 ([] : List Int))],M := M61,ds := [],ats := [(6,b46)] } ?_
    refine SQ ?_
    obtain ⟨v63,c_v63,h⟩ := cl_some h
    obtain ⟨v67,c_v67,h⟩ := cl_some h
    refine T_drawT (id:=11) 4 [4,5,6,7] [[],[],[],[],[],[],[],[]] (by kernel_rfl) (by kernel_rfl) (by kernel_rfl) (by kernel_rfl) [(56,.agg [oI v9,oS A14 v10 c15,oS A16 v11 c17,.arr .i64 6 v12]),(57,vi u3),(58,.agg [oI v9,oS A14 v10 c15,oS A16 v11 c17,.arr .i64 6 v12]),(59,.lf (.v (.int .u64 v50)))] (by kernel_rfl) ⟨⟨rfl,⟨rfl,⟨rfl,⟨g20,trivial⟩⟩⟩⟩,⟨trivial,⟨⟨rfl,⟨rfl,⟨rfl,⟨g20,trivial⟩⟩⟩⟩,⟨trivial,trivial⟩⟩⟩⟩ ?_
    refine StageT_cons [4,6] (stageT_all [3] [0,1,2] (by kernel_rfl) (by kernel_rfl) (by kernel_rfl) ⟨QF_at (i:=0) (d:=56) (x:=.agg [oI v9,oS A14 v10 c15,oS A16 v11 c17,.arr .i64 6 v12]) (show OpAt _ _ _ 0 56 _ from by exact At_ldPR (d:=56) (b:=b22) (off:=0) (m:=9) (c:=[oI v9,oS A14 v10 c15,oS A16 v11 c17,.arr .i64 6 v12]) (by kernel_rfl) (by kernel_rfl) (sgCells_length ⟨rfl,⟨rfl,⟨rfl,⟨g20,trivial⟩⟩⟩⟩) (cells_blk (m:=9) (hM61 _ _ (hM57 _ _ (hM54 _ _ (hM49 _ _ (hM35 _ _ fb22))))) ⟨rfl,⟨rfl,⟨rfl,⟨g20,trivial⟩⟩⟩⟩ (by kernel_rfl) rfl)) (by kernel_rfl) (by kernel_rfl),⟨QF_at (i:=1) (d:=57) (x:=vi u3) (show OpAt _ _ _ 1 57 _ from by exact At_ldP (d:=57) (b:=b7) (off:=0) (m:=1) (v:=(.int .i64 u3)) (by kernel_rfl) (cell_blk (hM61 _ _ (hM57 _ _ (hM54 _ _ (hM49 _ _ (hM35 _ _ (hM23 _ _ (hM21 _ _ fb7))))))) ⟨rfl,trivial⟩ (by kernel_rfl))) (by kernel_rfl) (by kernel_rfl),⟨QF_at (i:=2) (d:=58) (x:=.agg [oI v9,oS A14 v10 c15,oS A16 v11 c17,.arr .i64 6 v12]) (show OpAt _ _ _ 2 58 _ from by exact At_ldPR (d:=58) (b:=b22) (off:=0) (m:=9) (c:=[oI v9,oS A14 v10 c15,oS A16 v11 c17,.arr .i64 6 v12]) (by kernel_rfl) (by kernel_rfl) (sgCells_length ⟨rfl,⟨rfl,⟨rfl,⟨g20,trivial⟩⟩⟩⟩) (cells_blk (m:=9) (hM61 _ _ (hM57 _ _ (hM54 _ _ (hM49 _ _ (hM35 _ _ fb22))))) ⟨rfl,⟨rfl,⟨rfl,⟨g20,trivial⟩⟩⟩⟩ (by kernel_rfl) rfl)) (by kernel_rfl) (by kernel_rfl),trivial⟩⟩⟩) (by kernel_rfl) (by kernel_rfl) ⟨?_,?_,trivial⟩
    ·refine TE_callR (d:=60) (f:=76) (args:=[rval (.agg [oI v9,oS A14 v10 c15,oS A16 v11 c17,.arr .i64 6 v12]),rval (.lf (.v (.int .u64 v50)))]) (by kernel_rfl) (by kernel_rfl) (w76 k ((((((fA14.le hM23).le hM35).le hM49).le hM54).le hM57).le hM61) ((((((fA16.le hM23).le hM35).le hM49).le hM54).le hM57).le hM61) g20 c_v63) ?_
     rintro _ M66 _ hM66 _ ⟨b64,b65,rfl,fb64,fb65⟩
     refine TL_nil (stageTQ_of [] (by kernel_rfl) trivial ?_)
     refine StageT_cons [5,6] (stageT_all [] [0,1] (by kernel_rfl) (by kernel_rfl) (by kernel_rfl) ⟨QF_at (i:=0) (d:=56) (x:=.agg [oI v9,oS A14 v10 c15,oS A16 v11 c17,.arr .i64 6 v12]) (show OpAt _ _ _ 0 56 _ from by exact At_ldPR (d:=56) (b:=b22) (off:=0) (m:=9) (c:=[oI v9,oS A14 v10 c15,oS A16 v11 c17,.arr .i64 6 v12]) (by kernel_rfl) (by kernel_rfl) (sgCells_length ⟨rfl,⟨rfl,⟨rfl,⟨g20,trivial⟩⟩⟩⟩) (cells_blk (m:=9) (hM66 _ _ (hM61 _ _ (hM57 _ _ (hM54 _ _ (hM49 _ _ (hM35 _ _ fb22)))))) ⟨rfl,⟨rfl,⟨rfl,⟨g20,trivial⟩⟩⟩⟩ (by kernel_rfl) rfl)) (by kernel_rfl) (by kernel_rfl),⟨QF_at (i:=1) (d:=57) (x:=vi u3) (show OpAt _ _ _ 1 57 _ from by exact At_ldP (d:=57) (b:=b7) (off:=0) (m:=1) (v:=(.int .i64 u3)) (by kernel_rfl) (cell_blk (hM66 _ _ (hM61 _ _ (hM57 _ _ (hM54 _ _ (hM49 _ _ (hM35 _ _ (hM23 _ _ (hM21 _ _ fb7)))))))) ⟨rfl,trivial⟩ (by kernel_rfl))) (by kernel_rfl) (by kernel_rfl),trivial⟩⟩) (by kernel_rfl) (by kernel_rfl) ⟨?_,?_,trivial⟩
     ·refine TE_callR (d:=61) (f:=75) (args:=[rval (.agg [oI v9,oS A14 v10 c15,oS A16 v11 c17,.arr .i64 6 v12]),rval (vi u3),rval (vb true),rval (.lf (.v (.func (.func 122) #[] #[(.pointer (some ⟨b64,0,none⟩)),(.pointer (some ⟨b65,0,none⟩))])))]) (by kernel_rfl) (by kernel_rfl) (w75a k (((((((fA14.le hM23).le hM35).le hM49).le hM54).le hM57).le hM61).le hM66) (((((((fA16.le hM23).le hM35).le hM49).le hM54).le hM57).le hM61).le hM66) g20 (((((((fA14.le hM23).le hM35).le hM49).le hM54).le hM57).le hM61).le hM66) (((((((fA16.le hM23).le hM35).le hM49).le hM54).le hM57).le hM61).le hM66) g20 fb64 fb65 c_v67) ?_
      rintro _ M70 _ hM70 _ ⟨A68,c69,rfl,fA68⟩
      refine TL_nil (stageTQ_of [] (by kernel_rfl) trivial ?_)
      refine StageT_cons [6] (stageT_all [] [] (by kernel_rfl) (by kernel_rfl) (by kernel_rfl) trivial) (by kernel_rfl) (by kernel_rfl) ⟨?_,trivial⟩
      ·refine StepT_ex ({ σ := [(17,lO 17),(61,lS A68 v67 c69),(60,.lf (.v (.func (.func 122) #[] #[(.pointer (some ⟨b64,0,none⟩)),(.pointer (some ⟨b65,0,none⟩))]))),(56,.agg [oI v9,oS A14 v10 c15,oS A16 v11 c17,.arr .i64 6 v12]),(57,vi u3),(58,.agg [oI v9,oS A14 v10 c15,oS A16 v11 c17,.arr .i64 6 v12]),(59,.lf (.v (.int .u64 v50))),(4,lO 4),(6,lO 6),(7,lP b7),(8,lO 8),(10,lP b22),(13,.lf (.v (.int .u64 v50))),(16,lO 16)],H := [(17,[oS none ([] : List Int) 0]),(4,[oI u0_0,oS Au0_1 u0_1 cu0_1,oS Au0_2 u0_2 cu0_2]),(6,[oI u2]),(8,[.one (.vec 5005),.one (.vec 5006),oI (0 : Int),oI (0 : Int)]),(16,[.one (.vec 5062),oS A59 v58 c60,oI v51,oI (0 : Int)])],V := [(5005,vI 3 1 ([] : List Int)),(5006,vI 3 1 ([] : List Int)),(5062,vI 3 1 ([] : List Int))],M := M70,ds := [],ats := [(6,b46)] }) (by kernel_rfl) [] (by kernel_rfl) trivial ?_
       refine StageT_cons [7] (stageT_all [] [] (by kernel_rfl) (by kernel_rfl) (by kernel_rfl) trivial) (by kernel_rfl) (by kernel_rfl) ⟨?_,trivial⟩
       ·refine StepT_ex ({ σ := [(17,lO 17),(61,lS A68 v67 c69),(60,.lf (.v (.func (.func 122) #[] #[(.pointer (some ⟨b64,0,none⟩)),(.pointer (some ⟨b65,0,none⟩))]))),(56,.agg [oI v9,oS A14 v10 c15,oS A16 v11 c17,.arr .i64 6 v12]),(57,vi u3),(58,.agg [oI v9,oS A14 v10 c15,oS A16 v11 c17,.arr .i64 6 v12]),(59,.lf (.v (.int .u64 v50))),(4,lO 4),(6,lO 6),(7,lP b7),(8,lO 8),(10,lP b22),(13,.lf (.v (.int .u64 v50))),(16,lO 16)],H := [(17,[oS A68 v67 c69]),(17,[oS none ([] : List Int) 0]),(4,[oI u0_0,oS Au0_1 u0_1 cu0_1,oS Au0_2 u0_2 cu0_2]),(6,[oI u2]),(8,[.one (.vec 5005),.one (.vec 5006),oI (0 : Int),oI (0 : Int)]),(16,[.one (.vec 5062),oS A59 v58 c60,oI v51,oI (0 : Int)])],V := [(5005,vI 3 1 ([] : List Int)),(5006,vI 3 1 ([] : List Int)),(5062,vI 3 1 ([] : List Int))],M := M70,ds := [],ats := [(6,b46)] }) (by kernel_rfl) [] (by kernel_rfl) trivial ?_
        refine StageT_leaf (stageT_all [] [] (by kernel_rfl) (by kernel_rfl) (by kernel_rfl) trivial) (by kernel_rfl) ?_
        refine thenQ_n ?_
        refine KG { σ := [(4,lO 4),(6,lO 6),(7,lP b7),(8,lO 8),(10,lP b22),(13,.lf (.v (.int .u64 v50))),(16,lO 16),(17,lO 17)],H := [(4,[oI u0_0,oS Au0_1 u0_1 cu0_1,oS Au0_2 u0_2 cu0_2]),(6,[oI u2]),(8,[.one (.vec 5005),.one (.vec 5006),oI (0 : Int),oI (0 : Int)]),(16,[.one (.vec 5062),oS A59 v58 c60,oI v51,oI (0 : Int)]),(17,[oS A68 v67 c69])],V := [(5005,vI 3 1 ([] : List Int)),(5006,vI 3 1 ([] : List Int)),(5062,vI 3 1 ([] : List Int))],M := M70,ds := [],ats := [(6,b46)] } ?_
        refine T_turn (turn_pubH 17 (c:=[oS A68 v67 c69]) (by kernel_rfl) (by kernel_rfl)) ?_
        rintro _ ⟨b71,M72,rfl,-,e_M72,-,hM72⟩
        have fb71 : MB M72 b71 [oS A68 v67 c69] := by rw [e_M72]; exact addM_at _ _ _
        refine KG { σ := [(4,lO 4),(6,lO 6),(7,lP b7),(8,lO 8),(10,lP b22),(13,.lf (.v (.int .u64 v50))),(16,lO 16),(17,lP b71)],H := [(4,[oI u0_0,oS Au0_1 u0_1 cu0_1,oS Au0_2 u0_2 cu0_2]),(6,[oI u2]),(8,[.one (.vec 5005),.one (.vec 5006),oI (0 : Int),oI (0 : Int)]),(16,[.one (.vec 5062),oS A59 v58 c60,oI v51,oI (0 : Int)])],V := [(5005,vI 3 1 ([] : List Int)),(5006,vI 3 1 ([] : List Int)),(5062,vI 3 1 ([] : List Int))],M := M72,ds := [],ats := [(6,b46)] } ?_
        refine SQ ?_
        obtain ⟨j76,e_j76,h⟩ := jn_some h
        refine T_bcut (id:=0) (c1:=(sub [1,1,1,1,1,1,1,1,0,0] Bd28)) (fun s' => ∃ (x73 : Int) (L74 : List Int) (M75 : Mem),Sub { σ := [(8,lO 8),(16,lO 16)],H := [(8,[.one (.vec 5005),.one (.vec 5006),oI (0 : Int),oI (0 : Int)]),(16,[.one (.vec 5062),oS A59 v58 c60,oI v51,oI x73])],V := [(5005,vI 3 1 ([] : List Int)),(5006,vI 3 1 ([] : List Int)),(5062,vI 3 1 L74)],M := M75,ds := [],ats := [(6,b46)] } s' ∧ Mem.le M72 M75 ∧ j76 x73 L74 = some r) (by kernel_rfl) ?_ ?_
        ·refine T_loop (c1:=(sub [1,1,1,1,1,1,1,1,0,0,0] Bd28)) (by kernel_rfl) (fun n81 s' => ∃ (x77 : Int) (x78 : Int) (L79 : List Int) (M80 : Mem),Sub { σ := [(4,lO 4),(6,lO 6),(7,lP b7),(8,lO 8),(10,lP b22),(13,.lf (.v (.int .u64 v50))),(16,lO 16),(17,lP b71)],H := [(4,[oI u0_0,oS Au0_1 u0_1 cu0_1,oS Au0_2 u0_2 cu0_2]),(6,[oI x77]),(8,[.one (.vec 5005),.one (.vec 5006),oI (0 : Int),oI (0 : Int)]),(16,[.one (.vec 5062),oS A59 v58 c60,oI v51,oI x78])],V := [(5005,vI 3 1 ([] : List Int)),(5006,vI 3 1 ([] : List Int)),(5062,vI 3 1 L79)],M := M80,ds := [],ats := [(6,b46)] } s' ∧ Mem.le M72 M80 ∧ p28_l1 k u0_1 u3 j76 v9 v10 v11 v12 v50 v67 n81 x77 x78 L79 = some r) (k:=k) ⟨u2,(0 : Int),([] : List Int),M72,keep_sub (ts:=[4,6,7,8,10,13,16,17]) (hs:=[4,6,8,16]) (vs:=[5005,5006,5062]) (by kernel_rfl),(Mem.le_refl _),h⟩ ?_
         rintro n81 s' ⟨x77,x78,L79,M80,hsub,hM80,h⟩
         cases n81 with
         | zero => rw [p28_l1] at h;cases h
         | succ n81 =>
          rw [p28_l1] at h
          refine T_sub hsub ?_
          refine SQ (SQ (RG ?_))
          refine SG 1 { σ := [(4,lO 4),(6,lO 6),(7,lP b7),(8,lO 8),(10,lP b22),(13,.lf (.v (.int .u64 v50))),(16,lO 16),(17,lP b71),(62,vi x77)],H := [(4,[oI u0_0,oS Au0_1 u0_1 cu0_1,oS Au0_2 u0_2 cu0_2]),(6,[oI x77]),(8,[.one (.vec 5005),.one (.vec 5006),oI (0 : Int),oI (0 : Int)]),(16,[.one (.vec 5062),oS A59 v58 c60,oI v51,oI x78])],V := [(5005,vI 3 1 ([] : List Int)),(5006,vI 3 1 ([] : List Int)),(5062,vI 3 1 L79)],M := M80,ds := [],ats := [(6,b46)] } ?_
          refine AT 63 (vi u3) (At_ldP (b:=b7) (off:=0) (m:=1) (v:=(.int .i64 u3)) (by kernel_rfl) (cell_blk (hM80 _ _ (hM72 _ _ (hM70 _ _ (hM66 _ _ (hM61 _ _ (hM57 _ _ (hM54 _ _ (hM49 _ _ (hM35 _ _ (hM23 _ _ (hM21 _ _ fb7))))))))))) ⟨rfl,trivial⟩ (by kernel_rfl))) ?_
          obtain ⟨b82,e_b82,h⟩ := lt_some h
          refine SH 3 [(4,lO 4),(6,lO 6),(7,lP b7),(8,lO 8),(10,lP b22),(13,.lf (.v (.int .u64 v50))),(16,lO 16),(17,lP b71),(64,vb b82)] [(4,[oI u0_0,oS Au0_1 u0_1 cu0_1,oS Au0_2 u0_2 cu0_2]),(6,[oI x77]),(8,[.one (.vec 5005),.one (.vec 5006),oI (0 : Int),oI (0 : Int)]),(16,[.one (.vec 5062),oS A59 v58 c60,oI v51,oI x78])] ?_ (by subst e_b82;kernel_rfl)
          refine EN ?_
          cases b82 with
          | true =>
           replace h := sp_t h
           refine CT ?_
           refine KS [(4,lO 4),(6,lO 6),(7,lP b7),(8,lO 8),(10,lP b22),(13,.lf (.v (.int .u64 v50))),(16,lO 16),(17,lP b71)] ?_
           refine SN (BK 1 (SQ (RG ?_)))
           refine SS 2 [(4,lO 4),(6,lO 6),(7,lP b7),(8,lO 8),(10,lP b22),(13,.lf (.v (.int .u64 v50))),(16,lO 16),(17,lP b71),(66,lS Au0_1 u0_1 cu0_1)] ?_
           refine TI_turn (turn_at 6 (n:=6) (b:=b46) (off:=0) (by kernel_rfl) (by kernel_rfl)) ?_
           rintro _ rfl
           refine SG 3 { σ := [(4,lO 4),(6,lP b46),(7,lP b7),(8,lO 8),(10,lP b22),(13,.lf (.v (.int .u64 v50))),(16,lO 16),(17,lP b71),(66,lS Au0_1 u0_1 cu0_1),(67,.lf (.v (.func (.func 81) #[] #[(.pointer (some ⟨b46,0,none⟩)),(.pointer (some ⟨b71,0,none⟩))])))],H := [(4,[oI u0_0,oS Au0_1 u0_1 cu0_1,oS Au0_2 u0_2 cu0_2]),(6,[oI x77]),(8,[.one (.vec 5005),.one (.vec 5006),oI (0 : Int),oI (0 : Int)]),(16,[.one (.vec 5062),oS A59 v58 c60,oI v51,oI x78])],V := [(5005,vI 3 1 ([] : List Int)),(5006,vI 3 1 ([] : List Int)),(5062,vI 3 1 L79)],M := M80,ds := [],ats := [(6,b46)] } ?_
           refine TI_turn (turn_back 6 (n:=6) (b:=b46) (off:=0) (by kernel_rfl) (by kernel_rfl)) ?_
           rintro _ rfl
           obtain ⟨v83,c_v83,h⟩ := cl_some h
           refine TI_of (i:=3) (by kernel_rfl) (TE_lendT (d:=68) (f:=80) 6 b46 (c:=[oI x77]) (args:=[rval (lS Au0_1 u0_1 cu0_1),rval (.lf (.v (.func (.func 81) #[] #[(.pointer (some ⟨b46,0,none⟩)),(.pointer (some ⟨b71,0,none⟩))])))]) (by kernel_rfl) (by kernel_rfl) (by kernel_rfl) (by kernel_rfl) (by kernel_rfl) (fun hb0 => w80a k (((((((((((((hu0_1.le hM8).le hM21).le hM23).le hM35).le hM49).le hM54).le hM57).le hM61).le hM66).le hM70).le hM72).le hM80).le (addM_le hb0)) (addM_at _ _ _) (((fA68.le hM72).le hM80).le (addM_le hb0)) ((addM_le hb0) _ _ (hM80 _ _ fb71)) c_v83) ?_)
           rintro _ M84 M85 hb0 - e_M85 hM85 ⟨rfl⟩ -
           refine SG 5 { σ := [(4,lO 4),(6,lO 6),(7,lP b7),(8,lO 8),(10,lP b22),(13,.lf (.v (.int .u64 v50))),(16,lO 16),(17,lP b71),(18,vi v83)],H := [(4,[oI u0_0,oS Au0_1 u0_1 cu0_1,oS Au0_2 u0_2 cu0_2]),(6,[oI x77]),(8,[.one (.vec 5005),.one (.vec 5006),oI (0 : Int),oI (0 : Int)]),(16,[.one (.vec 5062),oS A59 v58 c60,oI v51,oI x78])],V := [(5005,vI 3 1 ([] : List Int)),(5006,vI 3 1 ([] : List Int)),(5062,vI 3 1 L79)],M := M85,ds := [],ats := [(6,b46)] } ?_
           refine EN (SQ ?_)
           obtain ⟨j88,e_j88,h⟩ := jn_some h
           refine T_bcut (id:=2) (c1:=(sub [1,1,1,1,1,1,1,1,0,0,0,1,0,1,0,0] Bd28)) (fun s' => ∃ (x86 : Int) (M87 : Mem),Sub { σ := [(4,lO 4),(6,lO 6),(7,lP b7),(8,lO 8),(10,lP b22),(13,.lf (.v (.int .u64 v50))),(16,lO 16),(17,lP b71),(18,vi x86)],H := [(4,[oI u0_0,oS Au0_1 u0_1 cu0_1,oS Au0_2 u0_2 cu0_2]),(6,[oI x77]),(8,[.one (.vec 5005),.one (.vec 5006),oI (0 : Int),oI (0 : Int)]),(16,[.one (.vec 5062),oS A59 v58 c60,oI v51,oI x78])],V := [(5005,vI 3 1 ([] : List Int)),(5006,vI 3 1 ([] : List Int)),(5062,vI 3 1 L79)],M := M87,ds := [],ats := [(6,b46)] } s' ∧ Mem.le M85 M87 ∧ j88 x86 = some r) (by kernel_rfl) ?_ ?_
           ·refine T_loop (c1:=(sub [1,1,1,1,1,1,1,1,0,0,0,1,0,1,0,0,0] Bd28)) (by kernel_rfl) (fun n91 s' => ∃ (x89 : Int) (M90 : Mem),Sub { σ := [(4,lO 4),(6,lO 6),(7,lP b7),(8,lO 8),(10,lP b22),(13,.lf (.v (.int .u64 v50))),(16,lO 16),(17,lP b71),(18,vi x89)],H := [(4,[oI u0_0,oS Au0_1 u0_1 cu0_1,oS Au0_2 u0_2 cu0_2]),(6,[oI x77]),(8,[.one (.vec 5005),.one (.vec 5006),oI (0 : Int),oI (0 : Int)]),(16,[.one (.vec 5062),oS A59 v58 c60,oI v51,oI x78])],V := [(5005,vI 3 1 ([] : List Int)),(5006,vI 3 1 ([] : List Int)),(5062,vI 3 1 L79)],M := M90,ds := [],ats := [(6,b46)] } s' ∧ Mem.le M85 M90 ∧ p28_l2 k u0_1 x77 j88 v9 v10 v11 v12 v50 v67 n91 x89 = some r) (k:=k) ⟨v83,M85,keep_sub (ts:=[4,6,7,8,10,13,16,17,18]) (hs:=[4,6,8,16]) (vs:=[5005,5006,5062]) (by kernel_rfl),(Mem.le_refl _),h⟩ ?_
            rintro n91 s' ⟨x89,M90,hsub,hM90,h⟩
            cases n91 with
            | zero => rw [p28_l2] at h;cases h
            | succ n91 =>
             rw [p28_l2] at h
             refine T_sub hsub ?_
             refine SQ (SQ (RG ?_))
             refine AT 69 (.agg [oI v9,oS A14 v10 c15,oS A16 v11 c17,.arr .i64 6 v12]) (At_ldPR (b:=b22) (off:=0) (m:=9) (c:=[oI v9,oS A14 v10 c15,oS A16 v11 c17,.arr .i64 6 v12]) (by kernel_rfl) (by kernel_rfl) (sgCells_length ⟨rfl,⟨rfl,⟨rfl,⟨g20,trivial⟩⟩⟩⟩) (cells_blk (m:=9) (hM90 _ _ (hM85 _ _ (hM80 _ _ (hM72 _ _ (hM70 _ _ (hM66 _ _ (hM61 _ _ (hM57 _ _ (hM54 _ _ (hM49 _ _ (hM35 _ _ fb22))))))))))) ⟨rfl,⟨rfl,⟨rfl,⟨g20,trivial⟩⟩⟩⟩ (by kernel_rfl) rfl)) ?_ (hx:=⟨rfl,⟨rfl,⟨rfl,⟨g20,trivial⟩⟩⟩⟩)
             refine SG 3 { σ := [(4,lO 4),(6,lO 6),(7,lP b7),(8,lO 8),(10,lP b22),(13,.lf (.v (.int .u64 v50))),(16,lO 16),(17,lP b71),(18,vi x89),(69,.agg [oI v9,oS A14 v10 c15,oS A16 v11 c17,.arr .i64 6 v12]),(70,.lf (.v (.int .u64 v50))),(71,vi x89)],H := [(4,[oI u0_0,oS Au0_1 u0_1 cu0_1,oS Au0_2 u0_2 cu0_2]),(6,[oI x77]),(8,[.one (.vec 5005),.one (.vec 5006),oI (0 : Int),oI (0 : Int)]),(16,[.one (.vec 5062),oS A59 v58 c60,oI v51,oI x78])],V := [(5005,vI 3 1 ([] : List Int)),(5006,vI 3 1 ([] : List Int)),(5062,vI 3 1 L79)],M := M90,ds := [],ats := [(6,b46)] } ?_
             obtain ⟨v92,c_v92,h⟩ := cl_some h
             refine AC 72 (vb v92) (w55 k ((((((((((((fA14.le hM23).le hM35).le hM49).le hM54).le hM57).le hM61).le hM66).le hM70).le hM72).le hM80).le hM85).le hM90) ((((((((((((fA16.le hM23).le hM35).le hM49).le hM54).le hM57).le hM61).le hM66).le hM70).le hM72).le hM80).le hM85).le hM90) g20 c_v92) ?_
             refine SH 5 [(4,lO 4),(6,lO 6),(7,lP b7),(8,lO 8),(10,lP b22),(13,.lf (.v (.int .u64 v50))),(16,lO 16),(17,lP b71),(18,vi x89),(73,vb (!v92))] [(4,[oI u0_0,oS Au0_1 u0_1 cu0_1,oS Au0_2 u0_2 cu0_2]),(6,[oI x77]),(8,[.one (.vec 5005),.one (.vec 5006),oI (0 : Int),oI (0 : Int)]),(16,[.one (.vec 5062),oS A59 v58 c60,oI v51,oI x78])] ?_
             refine EN ?_
             cases v92 with
             | true =>
              replace h := sp_t h
              refine CF ?_
              refine KS [(4,lO 4),(6,lO 6),(7,lP b7),(8,lO 8),(10,lP b22),(13,.lf (.v (.int .u64 v50))),(16,lO 16),(17,lP b71),(18,vi x89)] ?_
              refine XI 2 (thenQ_x (thenQ_x (blockQ_x (thenQ_n ?_))))
              exact ⟨x89,M90,keep_sub (ts:=[4,6,7,8,10,13,16,17,18]) (hs:=[4,6,8,16]) (vs:=[5005,5006,5062]) (by kernel_rfl),(Mem.le_trans (Mem.le_refl _) hM90),h⟩
             | false =>
              replace h := sp_f h
              refine CT ?_
              refine KS [(4,lO 4),(6,lO 6),(7,lP b7),(8,lO 8),(10,lP b22),(13,.lf (.v (.int .u64 v50))),(16,lO 16),(17,lP b71),(18,vi x89)] ?_
              refine SN (BK 3 (RG ?_))
              obtain ⟨x93,e_x93,h⟩ := lt_some h
              refine SS 5 [(4,lO 4),(6,lO 6),(7,lP b7),(8,lO 8),(10,lP b22),(13,.lf (.v (.int .u64 v50))),(16,lO 16),(17,lP b71),(74,vi x89),(76,lS Au0_1 u0_1 cu0_1),(78,vi x93)] ?_ (by subst e_x93;kernel_rfl)
              obtain ⟨g94,h⟩ := gd_some h
              obtain ⟨P95,e_P95,h⟩ := lt_some h
              refine AT 79 (lS (cutA Au0_1 cu0_1 ((x93).toNat) 12) P95 (cu0_1 - (x93).toNat)) (At_slR (a:=(some x93)) (b:=none) (P:=P95) (by subst e_P95;kernel_rfl) ((((((((((((((hu0_1.le hM8).le hM21).le hM23).le hM35).le hM49).le hM54).le hM57).le hM61).le hM66).le hM70).le hM72).le hM80).le hM85).le hM90) (some_nn g94.1) none_nn g94.2.2.1 g94.2.2.2 e_P95) ?_
              refine SH 6 [(4,lO 4),(6,lO 6),(7,lP b7),(8,lO 8),(10,lP b22),(13,.lf (.v (.int .u64 v50))),(16,lO 16),(17,lP b71),(74,vi x89),(79,lS (cutA Au0_1 cu0_1 ((x93).toNat) 12) P95 (cu0_1 - (x93).toNat))] [(4,[oI u0_0,oS Au0_1 u0_1 cu0_1,oS Au0_2 u0_2 cu0_2]),(6,[oI x77]),(8,[.one (.vec 5005),.one (.vec 5006),oI (0 : Int),oI (0 : Int)]),(16,[.one (.vec 5062),oS A59 v58 c60,oI v51,oI x78])] ?_
              refine TI_turn (turn_at 6 (n:=6) (b:=b46) (off:=0) (by kernel_rfl) (by kernel_rfl)) ?_
              rintro _ rfl
              refine SG 7 { σ := [(4,lO 4),(6,lP b46),(7,lP b7),(8,lO 8),(10,lP b22),(13,.lf (.v (.int .u64 v50))),(16,lO 16),(17,lP b71),(74,vi x89),(79,lS (cutA Au0_1 cu0_1 ((x93).toNat) 12) P95 (cu0_1 - (x93).toNat)),(80,.lf (.v (.func (.func 82) #[] #[(.pointer (some ⟨b46,0,none⟩)),(.pointer (some ⟨b71,0,none⟩))])))],H := [(4,[oI u0_0,oS Au0_1 u0_1 cu0_1,oS Au0_2 u0_2 cu0_2]),(6,[oI x77]),(8,[.one (.vec 5005),.one (.vec 5006),oI (0 : Int),oI (0 : Int)]),(16,[.one (.vec 5062),oS A59 v58 c60,oI v51,oI x78])],V := [(5005,vI 3 1 ([] : List Int)),(5006,vI 3 1 ([] : List Int)),(5062,vI 3 1 L79)],M := M90,ds := [],ats := [(6,b46)] } ?_
              refine TI_turn (turn_back 6 (n:=6) (b:=b46) (off:=0) (by kernel_rfl) (by kernel_rfl)) ?_
              rintro _ rfl
              obtain ⟨v96,c_v96,h⟩ := cl_some h
              refine TI_of (i:=7) (by kernel_rfl) (TE_lendT (d:=81) (f:=80) 6 b46 (c:=[oI x77]) (args:=[rval (lS (cutA Au0_1 cu0_1 ((x93).toNat) 12) P95 (cu0_1 - (x93).toNat)),rval (.lf (.v (.func (.func 82) #[] #[(.pointer (some ⟨b46,0,none⟩)),(.pointer (some ⟨b71,0,none⟩))])))]) (by kernel_rfl) (by kernel_rfl) (by kernel_rfl) (by kernel_rfl) (by kernel_rfl) (fun hb0 => w80b k ((SlR.part ((((((((((((((hu0_1.le hM8).le hM21).le hM23).le hM35).le hM49).le hM54).le hM57).le hM61).le hM66).le hM70).le hM72).le hM80).le hM85).le hM90) e_P95 g94.2.2.1 g94.2.2.2).le (addM_le hb0)) (addM_at _ _ _) (((((fA68.le hM72).le hM80).le hM85).le hM90).le (addM_le hb0)) ((addM_le hb0) _ _ (hM90 _ _ (hM85 _ _ (hM80 _ _ fb71)))) c_v96) ?_)
              rintro _ M97 M98 hb0 - e_M98 hM98 ⟨rfl⟩ -
              obtain ⟨x99,e_x99,h⟩ := lt_some h
              obtain ⟨x100,e_x100,h⟩ := lt_some h
              refine SG 11 { σ := [(4,lO 4),(6,lO 6),(7,lP b7),(8,lO 8),(10,lP b22),(13,.lf (.v (.int .u64 v50))),(16,lO 16),(17,lP b71),(18,vi x100)],H := [(4,[oI u0_0,oS Au0_1 u0_1 cu0_1,oS Au0_2 u0_2 cu0_2]),(6,[oI x77]),(8,[.one (.vec 5005),.one (.vec 5006),oI (0 : Int),oI (0 : Int)]),(16,[.one (.vec 5062),oS A59 v58 c60,oI v51,oI x78])],V := [(5005,vI 3 1 ([] : List Int)),(5006,vI 3 1 ([] : List Int)),(5062,vI 3 1 L79)],M := M98,ds := [],ats := [(6,b46)] } ?_ (by subst e_x100 e_x99;kernel_rfl)
              refine E0 (blockQ_n (thenQ_n ?_))
              exact ⟨n91,Nat.lt_succ_self _,x100,M98,keep_sub (ts:=[4,6,7,8,10,13,16,17,18]) (hs:=[4,6,8,16]) (vs:=[5005,5006,5062]) (by kernel_rfl),(Mem.le_trans (Mem.le_trans (Mem.le_refl _) hM90) hM98),h⟩
           ·rintro s' ⟨x86,M87,hsub,hM87,h⟩
            subst e_j88
            refine thenQ_n ?_
            refine T_sub hsub ?_
            refine SQ (RG ?_)
            refine SG 3 { σ := [(4,lO 4),(6,lO 6),(7,lP b7),(8,lO 8),(10,lP b22),(13,.lf (.v (.int .u64 v50))),(16,lO 16),(17,lP b71),(18,vi x86),(85,lV 5062),(86,vi x86)],H := [(4,[oI u0_0,oS Au0_1 u0_1 cu0_1,oS Au0_2 u0_2 cu0_2]),(6,[oI x77]),(8,[.one (.vec 5005),.one (.vec 5006),oI (0 : Int),oI (0 : Int)]),(16,[.one (.vec 5062),oS A59 v58 c60,oI v51,oI x78])],V := [(5005,vI 3 1 ([] : List Int)),(5006,vI 3 1 ([] : List Int)),(5062,vI 3 1 L79)],M := M87,ds := [],ats := [(6,b46)] } ?_
            refine TI_of (i:=3) (by kernel_rfl) (TE_litC (d:=87) (e:=3) (sz:=1) (len:=1) (cs:=ints .i64 ([x86])) (by kernel_rfl) (by kernel_rfl) (by kernel_rfl) ?_)
            obtain ⟨g101,h⟩ := gd_some h
            obtain ⟨W102,e_W102,h⟩ := lt_some h
            refine TI_of (i:=4) (by kernel_rfl) (TE_appC (d:=88) (e:=3) (sz:=1) (bytes:=8) (n:=5062) (x:=(.tmp 87)) (len:=List.length L79) (cs0:=ints .i64 L79) (cs2:=ints .i64 W102) (by subst e_W102;kernel_rfl) (by kernel_rfl) (by subst e_W102;kernel_rfl) (vecI_src (n:=87) (e:=3) (k:=.i64) (L:=[x86]) (by subst e_W102;kernel_rfl) (by subst e_W102;kernel_rfl)) g101 rfl (len_app_eq e_W102) (ints_app_eq e_W102) ?_)
            refine SG 7 { σ := [(4,lO 4),(6,lO 6),(7,lP b7),(8,lO 8),(10,lP b22),(13,.lf (.v (.int .u64 v50))),(16,lO 16),(17,lP b71),(18,vi x86)],H := [(4,[oI u0_0,oS Au0_1 u0_1 cu0_1,oS Au0_2 u0_2 cu0_2]),(6,[oI x77]),(8,[.one (.vec 5005),.one (.vec 5006),oI (0 : Int),oI (0 : Int)]),(16,[.one (.vec 88),oS A59 v58 c60,oI v51,oI x78])],V := [(88,vI 3 1 W102),(5005,vI 3 1 ([] : List Int)),(5006,vI 3 1 ([] : List Int))],M := M87,ds := [],ats := [(6,b46)] } ?_
            refine EN (SQ ?_)
            obtain ⟨g103,h⟩ := gd_some h
            obtain ⟨x104,e_x104,h⟩ := lt_some h
            obtain ⟨x105,e_x105,h⟩ := lt_some h
            refine T_draw' (id:=17) [10] [0,0,0,0,0,0,0,0,0,0,0] (by kernel_rfl) (by kernel_rfl) (by kernel_rfl) (by kernel_rfl) [(90,.lf (.own 16 3)),(91,vi x78),(92,.lf (.own 4 1)),(93,lS Au0_1 u0_1 cu0_1),(94,vi x86),(95,.lf (.ep (.slice Au0_1 (u0_1.length) cu0_1) 12 ((x86).toNat) 0)),(96,.lf (.ep (.slice Au0_1 (u0_1.length) cu0_1) 12 ((x86).toNat) 3)),(97,vi x104),(98,vi x105),(99,.lf (.own 16 3))] (by kernel_rfl) (wfs_lf _ (by kernel_rfl)) ?_
            refine Stage_ex (stage_all' [0,1,2,3,4,6,8,9] [5,7] (by kernel_rfl) (by subst e_x105 e_x104; kernel_rfl) (by kernel_rfl) ⟨QF_at (i:=5) (d:=95) (x:=.lf (.ep (.slice Au0_1 (u0_1.length) cu0_1) 12 ((x86).toNat) 0)) (show OpAt _ _ _ 5 95 _ from by exact At_idxR (d:=95) (z:=x86) (by subst e_x105 e_x104; kernel_rfl) g103 ((((((((((((((hu0_1.le hM8).le hM21).le hM23).le hM35).le hM49).le hM54).le hM57).le hM61).le hM66).le hM70).le hM72).le hM80).le hM85).le hM87)) (by kernel_rfl) (by subst e_x105 e_x104; kernel_rfl),⟨QF_at (i:=7) (d:=97) (x:=vi x104) (show OpAt _ _ _ 7 97 _ from by rw [e_x104]; exact At_ldR1 (d:=97) (q:=(x86).toNat) (j:=3) (by subst e_x105 e_x104; kernel_rfl) rfl (toNat_lt g103) ((((((((((((((hu0_1.le hM8).le hM21).le hM23).le hM35).le hM49).le hM54).le hM57).le hM61).le hM66).le hM70).le hM72).le hM80).le hM85).le hM87)) (by kernel_rfl) (by subst e_x105 e_x104; kernel_rfl),trivial⟩⟩) ({ σ := [(90,.lf (.own 16 3)),(91,vi x78),(92,.lf (.own 4 1)),(93,lS Au0_1 u0_1 cu0_1),(94,vi x86),(95,.lf (.ep (.slice Au0_1 (u0_1.length) cu0_1) 12 ((x86).toNat) 0)),(96,.lf (.ep (.slice Au0_1 (u0_1.length) cu0_1) 12 ((x86).toNat) 3)),(97,vi x104),(98,vi x105),(99,.lf (.own 16 3)),(4,lO 4),(6,lO 6),(7,lP b7),(8,lO 8),(10,lP b22),(13,.lf (.v (.int .u64 v50))),(16,lO 16),(17,lP b71),(18,vi x86)],H := [(16,[.one (.vec 88),oS A59 v58 c60,oI v51,oI x105]),(4,[oI u0_0,oS Au0_1 u0_1 cu0_1,oS Au0_2 u0_2 cu0_2]),(6,[oI x77]),(8,[.one (.vec 5005),.one (.vec 5006),oI (0 : Int),oI (0 : Int)]),(16,[.one (.vec 88),oS A59 v58 c60,oI v51,oI x78])],V := [(88,vI 3 1 W102),(5005,vI 3 1 ([] : List Int)),(5006,vI 3 1 ([] : List Int))],M := M87,ds := [],ats := [(6,b46)] }) (by subst e_x105 e_x104; kernel_rfl) [] (by kernel_rfl) trivial ?_
            refine Stage_nil (stage_all' [] [] (by kernel_rfl) (by subst e_x105 e_x104;kernel_rfl) (by kernel_rfl) trivial) ?_
            refine thenQ_n ?_
            refine KG { σ := [(4,lO 4),(6,lO 6),(7,lP b7),(8,lO 8),(10,lP b22),(13,.lf (.v (.int .u64 v50))),(16,lO 16),(17,lP b71),(18,vi x86)],H := [(4,[oI u0_0,oS Au0_1 u0_1 cu0_1,oS Au0_2 u0_2 cu0_2]),(6,[oI x77]),(8,[.one (.vec 5005),.one (.vec 5006),oI (0 : Int),oI (0 : Int)]),(16,[.one (.vec 88),oS A59 v58 c60,oI v51,oI x105])],V := [(88,vI 3 1 W102),(5005,vI 3 1 ([] : List Int)),(5006,vI 3 1 ([] : List Int))],M := M87,ds := [],ats := [(6,b46)] } ?_ (by subst e_x105 e_x104;kernel_rfl)
            refine RG ?_
            refine SS 3 [(4,lO 4),(6,lO 6),(7,lP b7),(8,lO 8),(10,lP b22),(13,.lf (.v (.int .u64 v50))),(16,lO 16),(17,lP b71),(101,lS Au0_1 u0_1 cu0_1),(102,vi x86)] ?_
            obtain ⟨g106,h⟩ := gd_some h
            refine AT 103 (.lf (.ep (.slice Au0_1 (u0_1.length) cu0_1) 12 ((x86).toNat) 0)) (At_idxR (z:=x86) (by kernel_rfl) g106 ((((((((((((((hu0_1.le hM8).le hM21).le hM23).le hM35).le hM49).le hM54).le hM57).le hM61).le hM66).le hM70).le hM72).le hM80).le hM85).le hM87)) ?_
            refine SH 5 [(4,lO 4),(6,lO 6),(7,lP b7),(8,lO 8),(10,lP b22),(13,.lf (.v (.int .u64 v50))),(16,lO 16),(17,lP b71),(104,.lf (.ep (.slice Au0_1 (u0_1.length) cu0_1) 12 ((x86).toNat) 1))] [(4,[oI u0_0,oS Au0_1 u0_1 cu0_1,oS Au0_2 u0_2 cu0_2]),(6,[oI x77]),(8,[.one (.vec 5005),.one (.vec 5006),oI (0 : Int),oI (0 : Int)]),(16,[.one (.vec 88),oS A59 v58 c60,oI v51,oI x105])] ?_
            obtain ⟨x107,e_x107,h⟩ := lt_some h
            refine AT 105 (vi x107) (by rw [e_x107]; exact At_ldR1 (q:=(x86).toNat) (j:=1) (by subst e_x107; kernel_rfl) rfl (toNat_lt g106) ((((((((((((((hu0_1.le hM8).le hM21).le hM23).le hM35).le hM49).le hM54).le hM57).le hM61).le hM66).le hM70).le hM72).le hM80).le hM85).le hM87)) ?_
            refine SH 7 [(4,lO 4),(6,lO 6),(7,lP b7),(8,lO 8),(10,lP b22),(13,.lf (.v (.int .u64 v50))),(16,lO 16),(17,lP b71)] [(4,[oI u0_0,oS Au0_1 u0_1 cu0_1,oS Au0_2 u0_2 cu0_2]),(6,[oI x107]),(8,[.one (.vec 5005),.one (.vec 5006),oI (0 : Int),oI (0 : Int)]),(16,[.one (.vec 88),oS A59 v58 c60,oI v51,oI x105])] ?_
            refine E0 (blockQ_n (thenQ_n ?_))
            exact ⟨n81,Nat.lt_succ_self _,x107,x105,W102,M87,Sub.trans (keep_sub (ts:=[4,6,7,8,10,13,16,17]) (hs:=[4,6,8,16]) (vs:=[5005,5006,5062]) (by kernel_rfl)) (Sub.trans (ren_sub 88 5062 (s':={ σ := [(4,lO 4),(6,lO 6),(7,lP b7),(8,lO 8),(10,lP b22),(13,.lf (.v (.int .u64 v50))),(16,lO 16),(17,lP b71)],H := [(4,[oI u0_0,oS Au0_1 u0_1 cu0_1,oS Au0_2 u0_2 cu0_2]),(6,[oI x107]),(8,[.one (.vec 5005),.one (.vec 5006),oI (0 : Int),oI (0 : Int)]),(16,[.one (.vec 5062),oS A59 v58 c60,oI v51,oI x105])],V := [(5062,vI 3 1 W102),(5005,vI 3 1 ([] : List Int)),(5006,vI 3 1 ([] : List Int))],M := M87,ds := [],ats := [(6,b46)] }) (by kernel_rfl) (by kernel_rfl)) (keep_sub (s':={ σ := [(4,lO 4),(6,lO 6),(7,lP b7),(8,lO 8),(10,lP b22),(13,.lf (.v (.int .u64 v50))),(16,lO 16),(17,lP b71)],H := [(4,[oI u0_0,oS Au0_1 u0_1 cu0_1,oS Au0_2 u0_2 cu0_2]),(6,[oI x107]),(8,[.one (.vec 5005),.one (.vec 5006),oI (0 : Int),oI (0 : Int)]),(16,[.one (.vec 88),oS A59 v58 c60,oI v51,oI x105])],V := [(88,vI 3 1 W102),(5005,vI 3 1 ([] : List Int)),(5006,vI 3 1 ([] : List Int))],M := M87,ds := [],ats := [(6,b46)] }) (ts:=[4,6,7,8,10,13,16,17]) (hs:=[4,6,8,16]) (vs:=[88,5005,5006]) (by kernel_rfl))),(Mem.le_trans (Mem.le_trans (Mem.le_trans (Mem.le_refl _) hM80) hM85) hM87),h⟩
          | false =>
           replace h := sp_f h
           refine CF ?_
           refine KP [(8,lO 8),(16,lO 16)] [(8,[.one (.vec 5005),.one (.vec 5006),oI (0 : Int),oI (0 : Int)]),(16,[.one (.vec 5062),oS A59 v58 c60,oI v51,oI x78])] [(5005,vI 3 1 ([] : List Int)),(5006,vI 3 1 ([] : List Int)),(5062,vI 3 1 L79)] ?_
           refine XI 0 (thenQ_x (thenQ_x (blockQ_x (thenQ_n ?_))))
           exact ⟨x78,L79,M80,keep_sub (ts:=[8,16]) (hs:=[8,16]) (vs:=[5005,5006,5062]) (by kernel_rfl),(Mem.le_trans (Mem.le_refl _) hM80),h⟩
        ·rintro s' ⟨x73,L74,M75,hsub,hM75,h⟩
         subst e_j76
         refine thenQ_n ?_
         refine T_sub hsub ?_
         refine SQ (RG ?_)
         refine SG 3 { σ := [(8,lO 8),(9,vi (0 : Int))],H := [(8,[.one (.vec 5062),oS A59 v58 c60,oI v51,oI x73])],V := [(5062,vI 3 1 L74)],M := M75,ds := [],ats := [(6,b46)] } ?_
         refine EN ?_
         refine T_turn (turn_pubV 5062 (v:=vI 3 1 L74) (by kernel_rfl)) ?_
         rintro _ ⟨A108,c109,M110,rfl,hSA108,hcA108,-,hNA108,hM110⟩
         have fA108 : SlI M110 A108 c109 .i64 L74 := ⟨hSA108,hcA108⟩
         refine KG { σ := [(8,lO 8),(9,vi (0 : Int))],H := [(8,[oS A108 L74 c109,oS A59 v58 c60,oI v51,oI x73])],V := [],M := M110,ds := [],ats := [(6,b46)] } ?_
         refine RT ?_
         obtain rfl := sj h
         refine FT (.tup [(none,[oS A108 L74 c109,oS A59 v58 c60,oI v51,oI x73]),(some (.v (.int .i64 (0 : Int))),[])]) ?_
         exact ⟨A108,c109,A59,c60,rfl,fA108,(((((fA59.le hM66).le hM70).le hM72).le hM75).le hM110)⟩
     ·refine StepT_ex ({ σ := [(17,lO 17),(60,.lf (.v (.func (.func 122) #[] #[(.pointer (some ⟨b64,0,none⟩)),(.pointer (some ⟨b65,0,none⟩))]))),(56,.agg [oI v9,oS A14 v10 c15,oS A16 v11 c17,.arr .i64 6 v12]),(57,vi u3),(58,.agg [oI v9,oS A14 v10 c15,oS A16 v11 c17,.arr .i64 6 v12]),(59,.lf (.v (.int .u64 v50))),(4,lO 4),(6,lO 6),(7,lP b7),(8,lO 8),(10,lP b22),(13,.lf (.v (.int .u64 v50))),(16,lO 16)],H := [(17,[oS none ([] : List Int) 0]),(4,[oI u0_0,oS Au0_1 u0_1 cu0_1,oS Au0_2 u0_2 cu0_2]),(6,[oI u2]),(8,[.one (.vec 5005),.one (.vec 5006),oI (0 : Int),oI (0 : Int)]),(16,[.one (.vec 5062),oS A59 v58 c60,oI v51,oI (0 : Int)])],V := [(5005,vI 3 1 ([] : List Int)),(5006,vI 3 1 ([] : List Int)),(5062,vI 3 1 ([] : List Int))],M := M66,ds := [],ats := [(6,b46)] }) (by kernel_rfl) [] (by kernel_rfl) trivial ?_
      refine StageT_cons [5] (stageT_all [] [0,1] (by kernel_rfl) (by kernel_rfl) (by kernel_rfl) ⟨QF_at (i:=0) (d:=56) (x:=.agg [oI v9,oS A14 v10 c15,oS A16 v11 c17,.arr .i64 6 v12]) (show OpAt _ _ _ 0 56 _ from by exact At_ldPR (d:=56) (b:=b22) (off:=0) (m:=9) (c:=[oI v9,oS A14 v10 c15,oS A16 v11 c17,.arr .i64 6 v12]) (by kernel_rfl) (by kernel_rfl) (sgCells_length ⟨rfl,⟨rfl,⟨rfl,⟨g20,trivial⟩⟩⟩⟩) (cells_blk (m:=9) (hM66 _ _ (hM61 _ _ (hM57 _ _ (hM54 _ _ (hM49 _ _ (hM35 _ _ fb22)))))) ⟨rfl,⟨rfl,⟨rfl,⟨g20,trivial⟩⟩⟩⟩ (by kernel_rfl) rfl)) (by kernel_rfl) (by kernel_rfl),⟨QF_at (i:=1) (d:=57) (x:=vi u3) (show OpAt _ _ _ 1 57 _ from by exact At_ldP (d:=57) (b:=b7) (off:=0) (m:=1) (v:=(.int .i64 u3)) (by kernel_rfl) (cell_blk (hM66 _ _ (hM61 _ _ (hM57 _ _ (hM54 _ _ (hM49 _ _ (hM35 _ _ (hM23 _ _ (hM21 _ _ fb7)))))))) ⟨rfl,trivial⟩ (by kernel_rfl))) (by kernel_rfl) (by kernel_rfl),trivial⟩⟩) (by kernel_rfl) (by kernel_rfl) ⟨?_,trivial⟩
      ·refine TE_callR (d:=61) (f:=75) (args:=[rval (.agg [oI v9,oS A14 v10 c15,oS A16 v11 c17,.arr .i64 6 v12]),rval (vi u3),rval (vb true),rval (.lf (.v (.func (.func 122) #[] #[(.pointer (some ⟨b64,0,none⟩)),(.pointer (some ⟨b65,0,none⟩))])))]) (by kernel_rfl) (by kernel_rfl) (w75a k (((((((fA14.le hM23).le hM35).le hM49).le hM54).le hM57).le hM61).le hM66) (((((((fA16.le hM23).le hM35).le hM49).le hM54).le hM57).le hM61).le hM66) g20 (((((((fA14.le hM23).le hM35).le hM49).le hM54).le hM57).le hM61).le hM66) (((((((fA16.le hM23).le hM35).le hM49).le hM54).le hM57).le hM61).le hM66) g20 fb64 fb65 c_v67) ?_
       rintro _ M70 _ hM70 _ ⟨A68,c69,rfl,fA68⟩
       refine TL_nil (stageTQ_of [] (by kernel_rfl) trivial ?_)
       refine StageT_cons [7] (stageT_all [] [] (by kernel_rfl) (by kernel_rfl) (by kernel_rfl) trivial) (by kernel_rfl) (by kernel_rfl) ⟨?_,trivial⟩
       ·refine StepT_ex ({ σ := [(61,lS A68 v67 c69),(17,lO 17),(60,.lf (.v (.func (.func 122) #[] #[(.pointer (some ⟨b64,0,none⟩)),(.pointer (some ⟨b65,0,none⟩))]))),(56,.agg [oI v9,oS A14 v10 c15,oS A16 v11 c17,.arr .i64 6 v12]),(57,vi u3),(58,.agg [oI v9,oS A14 v10 c15,oS A16 v11 c17,.arr .i64 6 v12]),(59,.lf (.v (.int .u64 v50))),(4,lO 4),(6,lO 6),(7,lP b7),(8,lO 8),(10,lP b22),(13,.lf (.v (.int .u64 v50))),(16,lO 16)],H := [(17,[oS A68 v67 c69]),(17,[oS none ([] : List Int) 0]),(4,[oI u0_0,oS Au0_1 u0_1 cu0_1,oS Au0_2 u0_2 cu0_2]),(6,[oI u2]),(8,[.one (.vec 5005),.one (.vec 5006),oI (0 : Int),oI (0 : Int)]),(16,[.one (.vec 5062),oS A59 v58 c60,oI v51,oI (0 : Int)])],V := [(5005,vI 3 1 ([] : List Int)),(5006,vI 3 1 ([] : List Int)),(5062,vI 3 1 ([] : List Int))],M := M70,ds := [],ats := [(6,b46)] }) (by kernel_rfl) [] (by kernel_rfl) trivial ?_
        refine StageT_leaf (stageT_all [] [] (by kernel_rfl) (by kernel_rfl) (by kernel_rfl) trivial) (by kernel_rfl) ?_
        refine thenQ_n ?_
        refine KG { σ := [(4,lO 4),(6,lO 6),(7,lP b7),(8,lO 8),(10,lP b22),(13,.lf (.v (.int .u64 v50))),(16,lO 16),(17,lO 17)],H := [(4,[oI u0_0,oS Au0_1 u0_1 cu0_1,oS Au0_2 u0_2 cu0_2]),(6,[oI u2]),(8,[.one (.vec 5005),.one (.vec 5006),oI (0 : Int),oI (0 : Int)]),(16,[.one (.vec 5062),oS A59 v58 c60,oI v51,oI (0 : Int)]),(17,[oS A68 v67 c69])],V := [(5005,vI 3 1 ([] : List Int)),(5006,vI 3 1 ([] : List Int)),(5062,vI 3 1 ([] : List Int))],M := M70,ds := [],ats := [(6,b46)] } ?_
        refine T_turn (turn_pubH 17 (c:=[oS A68 v67 c69]) (by kernel_rfl) (by kernel_rfl)) ?_
        rintro _ ⟨b71,M72,rfl,-,e_M72,-,hM72⟩
        have fb71 : MB M72 b71 [oS A68 v67 c69] := by rw [e_M72]; exact addM_at _ _ _
        refine KG { σ := [(4,lO 4),(6,lO 6),(7,lP b7),(8,lO 8),(10,lP b22),(13,.lf (.v (.int .u64 v50))),(16,lO 16),(17,lP b71)],H := [(4,[oI u0_0,oS Au0_1 u0_1 cu0_1,oS Au0_2 u0_2 cu0_2]),(6,[oI u2]),(8,[.one (.vec 5005),.one (.vec 5006),oI (0 : Int),oI (0 : Int)]),(16,[.one (.vec 5062),oS A59 v58 c60,oI v51,oI (0 : Int)])],V := [(5005,vI 3 1 ([] : List Int)),(5006,vI 3 1 ([] : List Int)),(5062,vI 3 1 ([] : List Int))],M := M72,ds := [],ats := [(6,b46)] } ?_
        refine SQ ?_
        obtain ⟨j76,e_j76,h⟩ := jn_some h
        refine T_bcut (id:=0) (c1:=(sub [1,1,1,1,1,1,1,1,0,0] Bd28)) (fun s' => ∃ (x73 : Int) (L74 : List Int) (M75 : Mem),Sub { σ := [(8,lO 8),(16,lO 16)],H := [(8,[.one (.vec 5005),.one (.vec 5006),oI (0 : Int),oI (0 : Int)]),(16,[.one (.vec 5062),oS A59 v58 c60,oI v51,oI x73])],V := [(5005,vI 3 1 ([] : List Int)),(5006,vI 3 1 ([] : List Int)),(5062,vI 3 1 L74)],M := M75,ds := [],ats := [(6,b46)] } s' ∧ Mem.le M72 M75 ∧ j76 x73 L74 = some r) (by kernel_rfl) ?_ ?_
        ·refine T_loop (c1:=(sub [1,1,1,1,1,1,1,1,0,0,0] Bd28)) (by kernel_rfl) (fun n81 s' => ∃ (x77 : Int) (x78 : Int) (L79 : List Int) (M80 : Mem),Sub { σ := [(4,lO 4),(6,lO 6),(7,lP b7),(8,lO 8),(10,lP b22),(13,.lf (.v (.int .u64 v50))),(16,lO 16),(17,lP b71)],H := [(4,[oI u0_0,oS Au0_1 u0_1 cu0_1,oS Au0_2 u0_2 cu0_2]),(6,[oI x77]),(8,[.one (.vec 5005),.one (.vec 5006),oI (0 : Int),oI (0 : Int)]),(16,[.one (.vec 5062),oS A59 v58 c60,oI v51,oI x78])],V := [(5005,vI 3 1 ([] : List Int)),(5006,vI 3 1 ([] : List Int)),(5062,vI 3 1 L79)],M := M80,ds := [],ats := [(6,b46)] } s' ∧ Mem.le M72 M80 ∧ p28_l1 k u0_1 u3 j76 v9 v10 v11 v12 v50 v67 n81 x77 x78 L79 = some r) (k:=k) ⟨u2,(0 : Int),([] : List Int),M72,keep_sub (ts:=[4,6,7,8,10,13,16,17]) (hs:=[4,6,8,16]) (vs:=[5005,5006,5062]) (by kernel_rfl),(Mem.le_refl _),h⟩ ?_
         rintro n81 s' ⟨x77,x78,L79,M80,hsub,hM80,h⟩
         cases n81 with
         | zero => rw [p28_l1] at h;cases h
         | succ n81 =>
          rw [p28_l1] at h
          refine T_sub hsub ?_
          refine SQ (SQ (RG ?_))
          refine SG 1 { σ := [(4,lO 4),(6,lO 6),(7,lP b7),(8,lO 8),(10,lP b22),(13,.lf (.v (.int .u64 v50))),(16,lO 16),(17,lP b71),(62,vi x77)],H := [(4,[oI u0_0,oS Au0_1 u0_1 cu0_1,oS Au0_2 u0_2 cu0_2]),(6,[oI x77]),(8,[.one (.vec 5005),.one (.vec 5006),oI (0 : Int),oI (0 : Int)]),(16,[.one (.vec 5062),oS A59 v58 c60,oI v51,oI x78])],V := [(5005,vI 3 1 ([] : List Int)),(5006,vI 3 1 ([] : List Int)),(5062,vI 3 1 L79)],M := M80,ds := [],ats := [(6,b46)] } ?_
          refine AT 63 (vi u3) (At_ldP (b:=b7) (off:=0) (m:=1) (v:=(.int .i64 u3)) (by kernel_rfl) (cell_blk (hM80 _ _ (hM72 _ _ (hM70 _ _ (hM66 _ _ (hM61 _ _ (hM57 _ _ (hM54 _ _ (hM49 _ _ (hM35 _ _ (hM23 _ _ (hM21 _ _ fb7))))))))))) ⟨rfl,trivial⟩ (by kernel_rfl))) ?_
          obtain ⟨b82,e_b82,h⟩ := lt_some h
          refine SH 3 [(4,lO 4),(6,lO 6),(7,lP b7),(8,lO 8),(10,lP b22),(13,.lf (.v (.int .u64 v50))),(16,lO 16),(17,lP b71),(64,vb b82)] [(4,[oI u0_0,oS Au0_1 u0_1 cu0_1,oS Au0_2 u0_2 cu0_2]),(6,[oI x77]),(8,[.one (.vec 5005),.one (.vec 5006),oI (0 : Int),oI (0 : Int)]),(16,[.one (.vec 5062),oS A59 v58 c60,oI v51,oI x78])] ?_ (by subst e_b82;kernel_rfl)
          refine EN ?_
          cases b82 with
          | true =>
           replace h := sp_t h
           refine CT ?_
           refine KS [(4,lO 4),(6,lO 6),(7,lP b7),(8,lO 8),(10,lP b22),(13,.lf (.v (.int .u64 v50))),(16,lO 16),(17,lP b71)] ?_
           refine SN (BK 1 (SQ (RG ?_)))
           refine SS 2 [(4,lO 4),(6,lO 6),(7,lP b7),(8,lO 8),(10,lP b22),(13,.lf (.v (.int .u64 v50))),(16,lO 16),(17,lP b71),(66,lS Au0_1 u0_1 cu0_1)] ?_
           refine TI_turn (turn_at 6 (n:=6) (b:=b46) (off:=0) (by kernel_rfl) (by kernel_rfl)) ?_
           rintro _ rfl
           refine SG 3 { σ := [(4,lO 4),(6,lP b46),(7,lP b7),(8,lO 8),(10,lP b22),(13,.lf (.v (.int .u64 v50))),(16,lO 16),(17,lP b71),(66,lS Au0_1 u0_1 cu0_1),(67,.lf (.v (.func (.func 81) #[] #[(.pointer (some ⟨b46,0,none⟩)),(.pointer (some ⟨b71,0,none⟩))])))],H := [(4,[oI u0_0,oS Au0_1 u0_1 cu0_1,oS Au0_2 u0_2 cu0_2]),(6,[oI x77]),(8,[.one (.vec 5005),.one (.vec 5006),oI (0 : Int),oI (0 : Int)]),(16,[.one (.vec 5062),oS A59 v58 c60,oI v51,oI x78])],V := [(5005,vI 3 1 ([] : List Int)),(5006,vI 3 1 ([] : List Int)),(5062,vI 3 1 L79)],M := M80,ds := [],ats := [(6,b46)] } ?_
           refine TI_turn (turn_back 6 (n:=6) (b:=b46) (off:=0) (by kernel_rfl) (by kernel_rfl)) ?_
           rintro _ rfl
           obtain ⟨v83,c_v83,h⟩ := cl_some h
           refine TI_of (i:=3) (by kernel_rfl) (TE_lendT (d:=68) (f:=80) 6 b46 (c:=[oI x77]) (args:=[rval (lS Au0_1 u0_1 cu0_1),rval (.lf (.v (.func (.func 81) #[] #[(.pointer (some ⟨b46,0,none⟩)),(.pointer (some ⟨b71,0,none⟩))])))]) (by kernel_rfl) (by kernel_rfl) (by kernel_rfl) (by kernel_rfl) (by kernel_rfl) (fun hb0 => w80a k (((((((((((((hu0_1.le hM8).le hM21).le hM23).le hM35).le hM49).le hM54).le hM57).le hM61).le hM66).le hM70).le hM72).le hM80).le (addM_le hb0)) (addM_at _ _ _) (((fA68.le hM72).le hM80).le (addM_le hb0)) ((addM_le hb0) _ _ (hM80 _ _ fb71)) c_v83) ?_)
           rintro _ M84 M85 hb0 - e_M85 hM85 ⟨rfl⟩ -
           refine SG 5 { σ := [(4,lO 4),(6,lO 6),(7,lP b7),(8,lO 8),(10,lP b22),(13,.lf (.v (.int .u64 v50))),(16,lO 16),(17,lP b71),(18,vi v83)],H := [(4,[oI u0_0,oS Au0_1 u0_1 cu0_1,oS Au0_2 u0_2 cu0_2]),(6,[oI x77]),(8,[.one (.vec 5005),.one (.vec 5006),oI (0 : Int),oI (0 : Int)]),(16,[.one (.vec 5062),oS A59 v58 c60,oI v51,oI x78])],V := [(5005,vI 3 1 ([] : List Int)),(5006,vI 3 1 ([] : List Int)),(5062,vI 3 1 L79)],M := M85,ds := [],ats := [(6,b46)] } ?_
           refine EN (SQ ?_)
           obtain ⟨j88,e_j88,h⟩ := jn_some h
           refine T_bcut (id:=2) (c1:=(sub [1,1,1,1,1,1,1,1,0,0,0,1,0,1,0,0] Bd28)) (fun s' => ∃ (x86 : Int) (M87 : Mem),Sub { σ := [(4,lO 4),(6,lO 6),(7,lP b7),(8,lO 8),(10,lP b22),(13,.lf (.v (.int .u64 v50))),(16,lO 16),(17,lP b71),(18,vi x86)],H := [(4,[oI u0_0,oS Au0_1 u0_1 cu0_1,oS Au0_2 u0_2 cu0_2]),(6,[oI x77]),(8,[.one (.vec 5005),.one (.vec 5006),oI (0 : Int),oI (0 : Int)]),(16,[.one (.vec 5062),oS A59 v58 c60,oI v51,oI x78])],V := [(5005,vI 3 1 ([] : List Int)),(5006,vI 3 1 ([] : List Int)),(5062,vI 3 1 L79)],M := M87,ds := [],ats := [(6,b46)] } s' ∧ Mem.le M85 M87 ∧ j88 x86 = some r) (by kernel_rfl) ?_ ?_
           ·refine T_loop (c1:=(sub [1,1,1,1,1,1,1,1,0,0,0,1,0,1,0,0,0] Bd28)) (by kernel_rfl) (fun n91 s' => ∃ (x89 : Int) (M90 : Mem),Sub { σ := [(4,lO 4),(6,lO 6),(7,lP b7),(8,lO 8),(10,lP b22),(13,.lf (.v (.int .u64 v50))),(16,lO 16),(17,lP b71),(18,vi x89)],H := [(4,[oI u0_0,oS Au0_1 u0_1 cu0_1,oS Au0_2 u0_2 cu0_2]),(6,[oI x77]),(8,[.one (.vec 5005),.one (.vec 5006),oI (0 : Int),oI (0 : Int)]),(16,[.one (.vec 5062),oS A59 v58 c60,oI v51,oI x78])],V := [(5005,vI 3 1 ([] : List Int)),(5006,vI 3 1 ([] : List Int)),(5062,vI 3 1 L79)],M := M90,ds := [],ats := [(6,b46)] } s' ∧ Mem.le M85 M90 ∧ p28_l2 k u0_1 x77 j88 v9 v10 v11 v12 v50 v67 n91 x89 = some r) (k:=k) ⟨v83,M85,keep_sub (ts:=[4,6,7,8,10,13,16,17,18]) (hs:=[4,6,8,16]) (vs:=[5005,5006,5062]) (by kernel_rfl),(Mem.le_refl _),h⟩ ?_
            rintro n91 s' ⟨x89,M90,hsub,hM90,h⟩
            cases n91 with
            | zero => rw [p28_l2] at h;cases h
            | succ n91 =>
             rw [p28_l2] at h
             refine T_sub hsub ?_
             refine SQ (SQ (RG ?_))
             refine AT 69 (.agg [oI v9,oS A14 v10 c15,oS A16 v11 c17,.arr .i64 6 v12]) (At_ldPR (b:=b22) (off:=0) (m:=9) (c:=[oI v9,oS A14 v10 c15,oS A16 v11 c17,.arr .i64 6 v12]) (by kernel_rfl) (by kernel_rfl) (sgCells_length ⟨rfl,⟨rfl,⟨rfl,⟨g20,trivial⟩⟩⟩⟩) (cells_blk (m:=9) (hM90 _ _ (hM85 _ _ (hM80 _ _ (hM72 _ _ (hM70 _ _ (hM66 _ _ (hM61 _ _ (hM57 _ _ (hM54 _ _ (hM49 _ _ (hM35 _ _ fb22))))))))))) ⟨rfl,⟨rfl,⟨rfl,⟨g20,trivial⟩⟩⟩⟩ (by kernel_rfl) rfl)) ?_ (hx:=⟨rfl,⟨rfl,⟨rfl,⟨g20,trivial⟩⟩⟩⟩)
             refine SG 3 { σ := [(4,lO 4),(6,lO 6),(7,lP b7),(8,lO 8),(10,lP b22),(13,.lf (.v (.int .u64 v50))),(16,lO 16),(17,lP b71),(18,vi x89),(69,.agg [oI v9,oS A14 v10 c15,oS A16 v11 c17,.arr .i64 6 v12]),(70,.lf (.v (.int .u64 v50))),(71,vi x89)],H := [(4,[oI u0_0,oS Au0_1 u0_1 cu0_1,oS Au0_2 u0_2 cu0_2]),(6,[oI x77]),(8,[.one (.vec 5005),.one (.vec 5006),oI (0 : Int),oI (0 : Int)]),(16,[.one (.vec 5062),oS A59 v58 c60,oI v51,oI x78])],V := [(5005,vI 3 1 ([] : List Int)),(5006,vI 3 1 ([] : List Int)),(5062,vI 3 1 L79)],M := M90,ds := [],ats := [(6,b46)] } ?_
             obtain ⟨v92,c_v92,h⟩ := cl_some h
             refine AC 72 (vb v92) (w55 k ((((((((((((fA14.le hM23).le hM35).le hM49).le hM54).le hM57).le hM61).le hM66).le hM70).le hM72).le hM80).le hM85).le hM90) ((((((((((((fA16.le hM23).le hM35).le hM49).le hM54).le hM57).le hM61).le hM66).le hM70).le hM72).le hM80).le hM85).le hM90) g20 c_v92) ?_
             refine SH 5 [(4,lO 4),(6,lO 6),(7,lP b7),(8,lO 8),(10,lP b22),(13,.lf (.v (.int .u64 v50))),(16,lO 16),(17,lP b71),(18,vi x89),(73,vb (!v92))] [(4,[oI u0_0,oS Au0_1 u0_1 cu0_1,oS Au0_2 u0_2 cu0_2]),(6,[oI x77]),(8,[.one (.vec 5005),.one (.vec 5006),oI (0 : Int),oI (0 : Int)]),(16,[.one (.vec 5062),oS A59 v58 c60,oI v51,oI x78])] ?_
             refine EN ?_
             cases v92 with
             | true =>
              replace h := sp_t h
              refine CF ?_
              refine KS [(4,lO 4),(6,lO 6),(7,lP b7),(8,lO 8),(10,lP b22),(13,.lf (.v (.int .u64 v50))),(16,lO 16),(17,lP b71),(18,vi x89)] ?_
              refine XI 2 (thenQ_x (thenQ_x (blockQ_x (thenQ_n ?_))))
              exact ⟨x89,M90,keep_sub (ts:=[4,6,7,8,10,13,16,17,18]) (hs:=[4,6,8,16]) (vs:=[5005,5006,5062]) (by kernel_rfl),(Mem.le_trans (Mem.le_refl _) hM90),h⟩
             | false =>
              replace h := sp_f h
              refine CT ?_
              refine KS [(4,lO 4),(6,lO 6),(7,lP b7),(8,lO 8),(10,lP b22),(13,.lf (.v (.int .u64 v50))),(16,lO 16),(17,lP b71),(18,vi x89)] ?_
              refine SN (BK 3 (RG ?_))
              obtain ⟨x93,e_x93,h⟩ := lt_some h
              refine SS 5 [(4,lO 4),(6,lO 6),(7,lP b7),(8,lO 8),(10,lP b22),(13,.lf (.v (.int .u64 v50))),(16,lO 16),(17,lP b71),(74,vi x89),(76,lS Au0_1 u0_1 cu0_1),(78,vi x93)] ?_ (by subst e_x93;kernel_rfl)
              obtain ⟨g94,h⟩ := gd_some h
              obtain ⟨P95,e_P95,h⟩ := lt_some h
              refine AT 79 (lS (cutA Au0_1 cu0_1 ((x93).toNat) 12) P95 (cu0_1 - (x93).toNat)) (At_slR (a:=(some x93)) (b:=none) (P:=P95) (by subst e_P95;kernel_rfl) ((((((((((((((hu0_1.le hM8).le hM21).le hM23).le hM35).le hM49).le hM54).le hM57).le hM61).le hM66).le hM70).le hM72).le hM80).le hM85).le hM90) (some_nn g94.1) none_nn g94.2.2.1 g94.2.2.2 e_P95) ?_
              refine SH 6 [(4,lO 4),(6,lO 6),(7,lP b7),(8,lO 8),(10,lP b22),(13,.lf (.v (.int .u64 v50))),(16,lO 16),(17,lP b71),(74,vi x89),(79,lS (cutA Au0_1 cu0_1 ((x93).toNat) 12) P95 (cu0_1 - (x93).toNat))] [(4,[oI u0_0,oS Au0_1 u0_1 cu0_1,oS Au0_2 u0_2 cu0_2]),(6,[oI x77]),(8,[.one (.vec 5005),.one (.vec 5006),oI (0 : Int),oI (0 : Int)]),(16,[.one (.vec 5062),oS A59 v58 c60,oI v51,oI x78])] ?_
              refine TI_turn (turn_at 6 (n:=6) (b:=b46) (off:=0) (by kernel_rfl) (by kernel_rfl)) ?_
              rintro _ rfl
              refine SG 7 { σ := [(4,lO 4),(6,lP b46),(7,lP b7),(8,lO 8),(10,lP b22),(13,.lf (.v (.int .u64 v50))),(16,lO 16),(17,lP b71),(74,vi x89),(79,lS (cutA Au0_1 cu0_1 ((x93).toNat) 12) P95 (cu0_1 - (x93).toNat)),(80,.lf (.v (.func (.func 82) #[] #[(.pointer (some ⟨b46,0,none⟩)),(.pointer (some ⟨b71,0,none⟩))])))],H := [(4,[oI u0_0,oS Au0_1 u0_1 cu0_1,oS Au0_2 u0_2 cu0_2]),(6,[oI x77]),(8,[.one (.vec 5005),.one (.vec 5006),oI (0 : Int),oI (0 : Int)]),(16,[.one (.vec 5062),oS A59 v58 c60,oI v51,oI x78])],V := [(5005,vI 3 1 ([] : List Int)),(5006,vI 3 1 ([] : List Int)),(5062,vI 3 1 L79)],M := M90,ds := [],ats := [(6,b46)] } ?_
              refine TI_turn (turn_back 6 (n:=6) (b:=b46) (off:=0) (by kernel_rfl) (by kernel_rfl)) ?_
              rintro _ rfl
              obtain ⟨v96,c_v96,h⟩ := cl_some h
              refine TI_of (i:=7) (by kernel_rfl) (TE_lendT (d:=81) (f:=80) 6 b46 (c:=[oI x77]) (args:=[rval (lS (cutA Au0_1 cu0_1 ((x93).toNat) 12) P95 (cu0_1 - (x93).toNat)),rval (.lf (.v (.func (.func 82) #[] #[(.pointer (some ⟨b46,0,none⟩)),(.pointer (some ⟨b71,0,none⟩))])))]) (by kernel_rfl) (by kernel_rfl) (by kernel_rfl) (by kernel_rfl) (by kernel_rfl) (fun hb0 => w80b k ((SlR.part ((((((((((((((hu0_1.le hM8).le hM21).le hM23).le hM35).le hM49).le hM54).le hM57).le hM61).le hM66).le hM70).le hM72).le hM80).le hM85).le hM90) e_P95 g94.2.2.1 g94.2.2.2).le (addM_le hb0)) (addM_at _ _ _) (((((fA68.le hM72).le hM80).le hM85).le hM90).le (addM_le hb0)) ((addM_le hb0) _ _ (hM90 _ _ (hM85 _ _ (hM80 _ _ fb71)))) c_v96) ?_)
              rintro _ M97 M98 hb0 - e_M98 hM98 ⟨rfl⟩ -
              obtain ⟨x99,e_x99,h⟩ := lt_some h
              obtain ⟨x100,e_x100,h⟩ := lt_some h
              refine SG 11 { σ := [(4,lO 4),(6,lO 6),(7,lP b7),(8,lO 8),(10,lP b22),(13,.lf (.v (.int .u64 v50))),(16,lO 16),(17,lP b71),(18,vi x100)],H := [(4,[oI u0_0,oS Au0_1 u0_1 cu0_1,oS Au0_2 u0_2 cu0_2]),(6,[oI x77]),(8,[.one (.vec 5005),.one (.vec 5006),oI (0 : Int),oI (0 : Int)]),(16,[.one (.vec 5062),oS A59 v58 c60,oI v51,oI x78])],V := [(5005,vI 3 1 ([] : List Int)),(5006,vI 3 1 ([] : List Int)),(5062,vI 3 1 L79)],M := M98,ds := [],ats := [(6,b46)] } ?_ (by subst e_x100 e_x99;kernel_rfl)
              refine E0 (blockQ_n (thenQ_n ?_))
              exact ⟨n91,Nat.lt_succ_self _,x100,M98,keep_sub (ts:=[4,6,7,8,10,13,16,17,18]) (hs:=[4,6,8,16]) (vs:=[5005,5006,5062]) (by kernel_rfl),(Mem.le_trans (Mem.le_trans (Mem.le_refl _) hM90) hM98),h⟩
           ·rintro s' ⟨x86,M87,hsub,hM87,h⟩
            subst e_j88
            refine thenQ_n ?_
            refine T_sub hsub ?_
            refine SQ (RG ?_)
            refine SG 3 { σ := [(4,lO 4),(6,lO 6),(7,lP b7),(8,lO 8),(10,lP b22),(13,.lf (.v (.int .u64 v50))),(16,lO 16),(17,lP b71),(18,vi x86),(85,lV 5062),(86,vi x86)],H := [(4,[oI u0_0,oS Au0_1 u0_1 cu0_1,oS Au0_2 u0_2 cu0_2]),(6,[oI x77]),(8,[.one (.vec 5005),.one (.vec 5006),oI (0 : Int),oI (0 : Int)]),(16,[.one (.vec 5062),oS A59 v58 c60,oI v51,oI x78])],V := [(5005,vI 3 1 ([] : List Int)),(5006,vI 3 1 ([] : List Int)),(5062,vI 3 1 L79)],M := M87,ds := [],ats := [(6,b46)] } ?_
            refine TI_of (i:=3) (by kernel_rfl) (TE_litC (d:=87) (e:=3) (sz:=1) (len:=1) (cs:=ints .i64 ([x86])) (by kernel_rfl) (by kernel_rfl) (by kernel_rfl) ?_)
            obtain ⟨g101,h⟩ := gd_some h
            obtain ⟨W102,e_W102,h⟩ := lt_some h
            refine TI_of (i:=4) (by kernel_rfl) (TE_appC (d:=88) (e:=3) (sz:=1) (bytes:=8) (n:=5062) (x:=(.tmp 87)) (len:=List.length L79) (cs0:=ints .i64 L79) (cs2:=ints .i64 W102) (by subst e_W102;kernel_rfl) (by kernel_rfl) (by subst e_W102;kernel_rfl) (vecI_src (n:=87) (e:=3) (k:=.i64) (L:=[x86]) (by subst e_W102;kernel_rfl) (by subst e_W102;kernel_rfl)) g101 rfl (len_app_eq e_W102) (ints_app_eq e_W102) ?_)
            refine SG 7 { σ := [(4,lO 4),(6,lO 6),(7,lP b7),(8,lO 8),(10,lP b22),(13,.lf (.v (.int .u64 v50))),(16,lO 16),(17,lP b71),(18,vi x86)],H := [(4,[oI u0_0,oS Au0_1 u0_1 cu0_1,oS Au0_2 u0_2 cu0_2]),(6,[oI x77]),(8,[.one (.vec 5005),.one (.vec 5006),oI (0 : Int),oI (0 : Int)]),(16,[.one (.vec 88),oS A59 v58 c60,oI v51,oI x78])],V := [(88,vI 3 1 W102),(5005,vI 3 1 ([] : List Int)),(5006,vI 3 1 ([] : List Int))],M := M87,ds := [],ats := [(6,b46)] } ?_
            refine EN (SQ ?_)
            obtain ⟨g103,h⟩ := gd_some h
            obtain ⟨x104,e_x104,h⟩ := lt_some h
            obtain ⟨x105,e_x105,h⟩ := lt_some h
            refine T_draw' (id:=17) [10] [0,0,0,0,0,0,0,0,0,0,0] (by kernel_rfl) (by kernel_rfl) (by kernel_rfl) (by kernel_rfl) [(90,.lf (.own 16 3)),(91,vi x78),(92,.lf (.own 4 1)),(93,lS Au0_1 u0_1 cu0_1),(94,vi x86),(95,.lf (.ep (.slice Au0_1 (u0_1.length) cu0_1) 12 ((x86).toNat) 0)),(96,.lf (.ep (.slice Au0_1 (u0_1.length) cu0_1) 12 ((x86).toNat) 3)),(97,vi x104),(98,vi x105),(99,.lf (.own 16 3))] (by kernel_rfl) (wfs_lf _ (by kernel_rfl)) ?_
            refine Stage_ex (stage_all' [0,1,2,3,4,6,8,9] [5,7] (by kernel_rfl) (by subst e_x105 e_x104; kernel_rfl) (by kernel_rfl) ⟨QF_at (i:=5) (d:=95) (x:=.lf (.ep (.slice Au0_1 (u0_1.length) cu0_1) 12 ((x86).toNat) 0)) (show OpAt _ _ _ 5 95 _ from by exact At_idxR (d:=95) (z:=x86) (by subst e_x105 e_x104; kernel_rfl) g103 ((((((((((((((hu0_1.le hM8).le hM21).le hM23).le hM35).le hM49).le hM54).le hM57).le hM61).le hM66).le hM70).le hM72).le hM80).le hM85).le hM87)) (by kernel_rfl) (by subst e_x105 e_x104; kernel_rfl),⟨QF_at (i:=7) (d:=97) (x:=vi x104) (show OpAt _ _ _ 7 97 _ from by rw [e_x104]; exact At_ldR1 (d:=97) (q:=(x86).toNat) (j:=3) (by subst e_x105 e_x104; kernel_rfl) rfl (toNat_lt g103) ((((((((((((((hu0_1.le hM8).le hM21).le hM23).le hM35).le hM49).le hM54).le hM57).le hM61).le hM66).le hM70).le hM72).le hM80).le hM85).le hM87)) (by kernel_rfl) (by subst e_x105 e_x104; kernel_rfl),trivial⟩⟩) ({ σ := [(90,.lf (.own 16 3)),(91,vi x78),(92,.lf (.own 4 1)),(93,lS Au0_1 u0_1 cu0_1),(94,vi x86),(95,.lf (.ep (.slice Au0_1 (u0_1.length) cu0_1) 12 ((x86).toNat) 0)),(96,.lf (.ep (.slice Au0_1 (u0_1.length) cu0_1) 12 ((x86).toNat) 3)),(97,vi x104),(98,vi x105),(99,.lf (.own 16 3)),(4,lO 4),(6,lO 6),(7,lP b7),(8,lO 8),(10,lP b22),(13,.lf (.v (.int .u64 v50))),(16,lO 16),(17,lP b71),(18,vi x86)],H := [(16,[.one (.vec 88),oS A59 v58 c60,oI v51,oI x105]),(4,[oI u0_0,oS Au0_1 u0_1 cu0_1,oS Au0_2 u0_2 cu0_2]),(6,[oI x77]),(8,[.one (.vec 5005),.one (.vec 5006),oI (0 : Int),oI (0 : Int)]),(16,[.one (.vec 88),oS A59 v58 c60,oI v51,oI x78])],V := [(88,vI 3 1 W102),(5005,vI 3 1 ([] : List Int)),(5006,vI 3 1 ([] : List Int))],M := M87,ds := [],ats := [(6,b46)] }) (by subst e_x105 e_x104; kernel_rfl) [] (by kernel_rfl) trivial ?_
            refine Stage_nil (stage_all' [] [] (by kernel_rfl) (by subst e_x105 e_x104;kernel_rfl) (by kernel_rfl) trivial) ?_
            refine thenQ_n ?_
            refine KG { σ := [(4,lO 4),(6,lO 6),(7,lP b7),(8,lO 8),(10,lP b22),(13,.lf (.v (.int .u64 v50))),(16,lO 16),(17,lP b71),(18,vi x86)],H := [(4,[oI u0_0,oS Au0_1 u0_1 cu0_1,oS Au0_2 u0_2 cu0_2]),(6,[oI x77]),(8,[.one (.vec 5005),.one (.vec 5006),oI (0 : Int),oI (0 : Int)]),(16,[.one (.vec 88),oS A59 v58 c60,oI v51,oI x105])],V := [(88,vI 3 1 W102),(5005,vI 3 1 ([] : List Int)),(5006,vI 3 1 ([] : List Int))],M := M87,ds := [],ats := [(6,b46)] } ?_ (by subst e_x105 e_x104;kernel_rfl)
            refine RG ?_
            refine SS 3 [(4,lO 4),(6,lO 6),(7,lP b7),(8,lO 8),(10,lP b22),(13,.lf (.v (.int .u64 v50))),(16,lO 16),(17,lP b71),(101,lS Au0_1 u0_1 cu0_1),(102,vi x86)] ?_
            obtain ⟨g106,h⟩ := gd_some h
            refine AT 103 (.lf (.ep (.slice Au0_1 (u0_1.length) cu0_1) 12 ((x86).toNat) 0)) (At_idxR (z:=x86) (by kernel_rfl) g106 ((((((((((((((hu0_1.le hM8).le hM21).le hM23).le hM35).le hM49).le hM54).le hM57).le hM61).le hM66).le hM70).le hM72).le hM80).le hM85).le hM87)) ?_
            refine SH 5 [(4,lO 4),(6,lO 6),(7,lP b7),(8,lO 8),(10,lP b22),(13,.lf (.v (.int .u64 v50))),(16,lO 16),(17,lP b71),(104,.lf (.ep (.slice Au0_1 (u0_1.length) cu0_1) 12 ((x86).toNat) 1))] [(4,[oI u0_0,oS Au0_1 u0_1 cu0_1,oS Au0_2 u0_2 cu0_2]),(6,[oI x77]),(8,[.one (.vec 5005),.one (.vec 5006),oI (0 : Int),oI (0 : Int)]),(16,[.one (.vec 88),oS A59 v58 c60,oI v51,oI x105])] ?_
            obtain ⟨x107,e_x107,h⟩ := lt_some h
            refine AT 105 (vi x107) (by rw [e_x107]; exact At_ldR1 (q:=(x86).toNat) (j:=1) (by subst e_x107; kernel_rfl) rfl (toNat_lt g106) ((((((((((((((hu0_1.le hM8).le hM21).le hM23).le hM35).le hM49).le hM54).le hM57).le hM61).le hM66).le hM70).le hM72).le hM80).le hM85).le hM87)) ?_
            refine SH 7 [(4,lO 4),(6,lO 6),(7,lP b7),(8,lO 8),(10,lP b22),(13,.lf (.v (.int .u64 v50))),(16,lO 16),(17,lP b71)] [(4,[oI u0_0,oS Au0_1 u0_1 cu0_1,oS Au0_2 u0_2 cu0_2]),(6,[oI x107]),(8,[.one (.vec 5005),.one (.vec 5006),oI (0 : Int),oI (0 : Int)]),(16,[.one (.vec 88),oS A59 v58 c60,oI v51,oI x105])] ?_
            refine E0 (blockQ_n (thenQ_n ?_))
            exact ⟨n81,Nat.lt_succ_self _,x107,x105,W102,M87,Sub.trans (keep_sub (ts:=[4,6,7,8,10,13,16,17]) (hs:=[4,6,8,16]) (vs:=[5005,5006,5062]) (by kernel_rfl)) (Sub.trans (ren_sub 88 5062 (s':={ σ := [(4,lO 4),(6,lO 6),(7,lP b7),(8,lO 8),(10,lP b22),(13,.lf (.v (.int .u64 v50))),(16,lO 16),(17,lP b71)],H := [(4,[oI u0_0,oS Au0_1 u0_1 cu0_1,oS Au0_2 u0_2 cu0_2]),(6,[oI x107]),(8,[.one (.vec 5005),.one (.vec 5006),oI (0 : Int),oI (0 : Int)]),(16,[.one (.vec 5062),oS A59 v58 c60,oI v51,oI x105])],V := [(5062,vI 3 1 W102),(5005,vI 3 1 ([] : List Int)),(5006,vI 3 1 ([] : List Int))],M := M87,ds := [],ats := [(6,b46)] }) (by kernel_rfl) (by kernel_rfl)) (keep_sub (s':={ σ := [(4,lO 4),(6,lO 6),(7,lP b7),(8,lO 8),(10,lP b22),(13,.lf (.v (.int .u64 v50))),(16,lO 16),(17,lP b71)],H := [(4,[oI u0_0,oS Au0_1 u0_1 cu0_1,oS Au0_2 u0_2 cu0_2]),(6,[oI x107]),(8,[.one (.vec 5005),.one (.vec 5006),oI (0 : Int),oI (0 : Int)]),(16,[.one (.vec 88),oS A59 v58 c60,oI v51,oI x105])],V := [(88,vI 3 1 W102),(5005,vI 3 1 ([] : List Int)),(5006,vI 3 1 ([] : List Int))],M := M87,ds := [],ats := [(6,b46)] }) (ts:=[4,6,7,8,10,13,16,17]) (hs:=[4,6,8,16]) (vs:=[88,5005,5006]) (by kernel_rfl))),(Mem.le_trans (Mem.le_trans (Mem.le_trans (Mem.le_refl _) hM80) hM85) hM87),h⟩
          | false =>
           replace h := sp_f h
           refine CF ?_
           refine KP [(8,lO 8),(16,lO 16)] [(8,[.one (.vec 5005),.one (.vec 5006),oI (0 : Int),oI (0 : Int)]),(16,[.one (.vec 5062),oS A59 v58 c60,oI v51,oI x78])] [(5005,vI 3 1 ([] : List Int)),(5006,vI 3 1 ([] : List Int)),(5062,vI 3 1 L79)] ?_
           refine XI 0 (thenQ_x (thenQ_x (blockQ_x (thenQ_n ?_))))
           exact ⟨x78,L79,M80,keep_sub (ts:=[8,16]) (hs:=[8,16]) (vs:=[5005,5006,5062]) (by kernel_rfl),(Mem.le_trans (Mem.le_refl _) hM80),h⟩
        ·rintro s' ⟨x73,L74,M75,hsub,hM75,h⟩
         subst e_j76
         refine thenQ_n ?_
         refine T_sub hsub ?_
         refine SQ (RG ?_)
         refine SG 3 { σ := [(8,lO 8),(9,vi (0 : Int))],H := [(8,[.one (.vec 5062),oS A59 v58 c60,oI v51,oI x73])],V := [(5062,vI 3 1 L74)],M := M75,ds := [],ats := [(6,b46)] } ?_
         refine EN ?_
         refine T_turn (turn_pubV 5062 (v:=vI 3 1 L74) (by kernel_rfl)) ?_
         rintro _ ⟨A108,c109,M110,rfl,hSA108,hcA108,-,hNA108,hM110⟩
         have fA108 : SlI M110 A108 c109 .i64 L74 := ⟨hSA108,hcA108⟩
         refine KG { σ := [(8,lO 8),(9,vi (0 : Int))],H := [(8,[oS A108 L74 c109,oS A59 v58 c60,oI v51,oI x73])],V := [],M := M110,ds := [],ats := [(6,b46)] } ?_
         refine RT ?_
         obtain rfl := sj h
         refine FT (.tup [(none,[oS A108 L74 c109,oS A59 v58 c60,oI v51,oI x73]),(some (.v (.int .i64 (0 : Int))),[])]) ?_
         exact ⟨A108,c109,A59,c60,rfl,fA108,(((((fA59.le hM66).le hM70).le hM72).le hM75).le hM110)⟩
    ·refine StepT_ex ({ σ := [(17,lO 17),(56,.agg [oI v9,oS A14 v10 c15,oS A16 v11 c17,.arr .i64 6 v12]),(57,vi u3),(58,.agg [oI v9,oS A14 v10 c15,oS A16 v11 c17,.arr .i64 6 v12]),(59,.lf (.v (.int .u64 v50))),(4,lO 4),(6,lO 6),(7,lP b7),(8,lO 8),(10,lP b22),(13,.lf (.v (.int .u64 v50))),(16,lO 16)],H := [(17,[oS none ([] : List Int) 0]),(4,[oI u0_0,oS Au0_1 u0_1 cu0_1,oS Au0_2 u0_2 cu0_2]),(6,[oI u2]),(8,[.one (.vec 5005),.one (.vec 5006),oI (0 : Int),oI (0 : Int)]),(16,[.one (.vec 5062),oS A59 v58 c60,oI v51,oI (0 : Int)])],V := [(5005,vI 3 1 ([] : List Int)),(5006,vI 3 1 ([] : List Int)),(5062,vI 3 1 ([] : List Int))],M := M61,ds := [],ats := [(6,b46)] }) (by kernel_rfl) [] (by kernel_rfl) trivial ?_
     refine StageT_cons [4] (stageT_all [3] [0,1,2] (by kernel_rfl) (by kernel_rfl) (by kernel_rfl) ⟨QF_at (i:=0) (d:=56) (x:=.agg [oI v9,oS A14 v10 c15,oS A16 v11 c17,.arr .i64 6 v12]) (show OpAt _ _ _ 0 56 _ from by exact At_ldPR (d:=56) (b:=b22) (off:=0) (m:=9) (c:=[oI v9,oS A14 v10 c15,oS A16 v11 c17,.arr .i64 6 v12]) (by kernel_rfl) (by kernel_rfl) (sgCells_length ⟨rfl,⟨rfl,⟨rfl,⟨g20,trivial⟩⟩⟩⟩) (cells_blk (m:=9) (hM61 _ _ (hM57 _ _ (hM54 _ _ (hM49 _ _ (hM35 _ _ fb22))))) ⟨rfl,⟨rfl,⟨rfl,⟨g20,trivial⟩⟩⟩⟩ (by kernel_rfl) rfl)) (by kernel_rfl) (by kernel_rfl),⟨QF_at (i:=1) (d:=57) (x:=vi u3) (show OpAt _ _ _ 1 57 _ from by exact At_ldP (d:=57) (b:=b7) (off:=0) (m:=1) (v:=(.int .i64 u3)) (by kernel_rfl) (cell_blk (hM61 _ _ (hM57 _ _ (hM54 _ _ (hM49 _ _ (hM35 _ _ (hM23 _ _ (hM21 _ _ fb7))))))) ⟨rfl,trivial⟩ (by kernel_rfl))) (by kernel_rfl) (by kernel_rfl),⟨QF_at (i:=2) (d:=58) (x:=.agg [oI v9,oS A14 v10 c15,oS A16 v11 c17,.arr .i64 6 v12]) (show OpAt _ _ _ 2 58 _ from by exact At_ldPR (d:=58) (b:=b22) (off:=0) (m:=9) (c:=[oI v9,oS A14 v10 c15,oS A16 v11 c17,.arr .i64 6 v12]) (by kernel_rfl) (by kernel_rfl) (sgCells_length ⟨rfl,⟨rfl,⟨rfl,⟨g20,trivial⟩⟩⟩⟩) (cells_blk (m:=9) (hM61 _ _ (hM57 _ _ (hM54 _ _ (hM49 _ _ (hM35 _ _ fb22))))) ⟨rfl,⟨rfl,⟨rfl,⟨g20,trivial⟩⟩⟩⟩ (by kernel_rfl) rfl)) (by kernel_rfl) (by kernel_rfl),trivial⟩⟩⟩) (by kernel_rfl) (by kernel_rfl) ⟨?_,trivial⟩
     ·refine TE_callR (d:=60) (f:=76) (args:=[rval (.agg [oI v9,oS A14 v10 c15,oS A16 v11 c17,.arr .i64 6 v12]),rval (.lf (.v (.int .u64 v50)))]) (by kernel_rfl) (by kernel_rfl) (w76 k ((((((fA14.le hM23).le hM35).le hM49).le hM54).le hM57).le hM61) ((((((fA16.le hM23).le hM35).le hM49).le hM54).le hM57).le hM61) g20 c_v63) ?_
      rintro _ M66 _ hM66 _ ⟨b64,b65,rfl,fb64,fb65⟩
      refine TL_nil (stageTQ_of [] (by kernel_rfl) trivial ?_)
      refine StageT_cons [5] (stageT_all [] [0,1] (by kernel_rfl) (by kernel_rfl) (by kernel_rfl) ⟨QF_at (i:=0) (d:=56) (x:=.agg [oI v9,oS A14 v10 c15,oS A16 v11 c17,.arr .i64 6 v12]) (show OpAt _ _ _ 0 56 _ from by exact At_ldPR (d:=56) (b:=b22) (off:=0) (m:=9) (c:=[oI v9,oS A14 v10 c15,oS A16 v11 c17,.arr .i64 6 v12]) (by kernel_rfl) (by kernel_rfl) (sgCells_length ⟨rfl,⟨rfl,⟨rfl,⟨g20,trivial⟩⟩⟩⟩) (cells_blk (m:=9) (hM66 _ _ (hM61 _ _ (hM57 _ _ (hM54 _ _ (hM49 _ _ (hM35 _ _ fb22)))))) ⟨rfl,⟨rfl,⟨rfl,⟨g20,trivial⟩⟩⟩⟩ (by kernel_rfl) rfl)) (by kernel_rfl) (by kernel_rfl),⟨QF_at (i:=1) (d:=57) (x:=vi u3) (show OpAt _ _ _ 1 57 _ from by exact At_ldP (d:=57) (b:=b7) (off:=0) (m:=1) (v:=(.int .i64 u3)) (by kernel_rfl) (cell_blk (hM66 _ _ (hM61 _ _ (hM57 _ _ (hM54 _ _ (hM49 _ _ (hM35 _ _ (hM23 _ _ (hM21 _ _ fb7)))))))) ⟨rfl,trivial⟩ (by kernel_rfl))) (by kernel_rfl) (by kernel_rfl),trivial⟩⟩) (by kernel_rfl) (by kernel_rfl) ⟨?_,trivial⟩
      ·refine TE_callR (d:=61) (f:=75) (args:=[rval (.agg [oI v9,oS A14 v10 c15,oS A16 v11 c17,.arr .i64 6 v12]),rval (vi u3),rval (vb true),rval (.lf (.v (.func (.func 122) #[] #[(.pointer (some ⟨b64,0,none⟩)),(.pointer (some ⟨b65,0,none⟩))])))]) (by kernel_rfl) (by kernel_rfl) (w75a k (((((((fA14.le hM23).le hM35).le hM49).le hM54).le hM57).le hM61).le hM66) (((((((fA16.le hM23).le hM35).le hM49).le hM54).le hM57).le hM61).le hM66) g20 (((((((fA14.le hM23).le hM35).le hM49).le hM54).le hM57).le hM61).le hM66) (((((((fA16.le hM23).le hM35).le hM49).le hM54).le hM57).le hM61).le hM66) g20 fb64 fb65 c_v67) ?_
       rintro _ M70 _ hM70 _ ⟨A68,c69,rfl,fA68⟩
       refine TL_nil (stageTQ_of [] (by kernel_rfl) trivial ?_)
       refine StageT_cons [7] (stageT_all [] [] (by kernel_rfl) (by kernel_rfl) (by kernel_rfl) trivial) (by kernel_rfl) (by kernel_rfl) ⟨?_,trivial⟩
       ·refine StepT_ex ({ σ := [(61,lS A68 v67 c69),(60,.lf (.v (.func (.func 122) #[] #[(.pointer (some ⟨b64,0,none⟩)),(.pointer (some ⟨b65,0,none⟩))]))),(17,lO 17),(56,.agg [oI v9,oS A14 v10 c15,oS A16 v11 c17,.arr .i64 6 v12]),(57,vi u3),(58,.agg [oI v9,oS A14 v10 c15,oS A16 v11 c17,.arr .i64 6 v12]),(59,.lf (.v (.int .u64 v50))),(4,lO 4),(6,lO 6),(7,lP b7),(8,lO 8),(10,lP b22),(13,.lf (.v (.int .u64 v50))),(16,lO 16)],H := [(17,[oS A68 v67 c69]),(17,[oS none ([] : List Int) 0]),(4,[oI u0_0,oS Au0_1 u0_1 cu0_1,oS Au0_2 u0_2 cu0_2]),(6,[oI u2]),(8,[.one (.vec 5005),.one (.vec 5006),oI (0 : Int),oI (0 : Int)]),(16,[.one (.vec 5062),oS A59 v58 c60,oI v51,oI (0 : Int)])],V := [(5005,vI 3 1 ([] : List Int)),(5006,vI 3 1 ([] : List Int)),(5062,vI 3 1 ([] : List Int))],M := M70,ds := [],ats := [(6,b46)] }) (by kernel_rfl) [] (by kernel_rfl) trivial ?_
        refine StageT_leaf (stageT_all [] [] (by kernel_rfl) (by kernel_rfl) (by kernel_rfl) trivial) (by kernel_rfl) ?_
        refine thenQ_n ?_
        refine KG { σ := [(4,lO 4),(6,lO 6),(7,lP b7),(8,lO 8),(10,lP b22),(13,.lf (.v (.int .u64 v50))),(16,lO 16),(17,lO 17)],H := [(4,[oI u0_0,oS Au0_1 u0_1 cu0_1,oS Au0_2 u0_2 cu0_2]),(6,[oI u2]),(8,[.one (.vec 5005),.one (.vec 5006),oI (0 : Int),oI (0 : Int)]),(16,[.one (.vec 5062),oS A59 v58 c60,oI v51,oI (0 : Int)]),(17,[oS A68 v67 c69])],V := [(5005,vI 3 1 ([] : List Int)),(5006,vI 3 1 ([] : List Int)),(5062,vI 3 1 ([] : List Int))],M := M70,ds := [],ats := [(6,b46)] } ?_
        refine T_turn (turn_pubH 17 (c:=[oS A68 v67 c69]) (by kernel_rfl) (by kernel_rfl)) ?_
        rintro _ ⟨b71,M72,rfl,-,e_M72,-,hM72⟩
        have fb71 : MB M72 b71 [oS A68 v67 c69] := by rw [e_M72]; exact addM_at _ _ _
        refine KG { σ := [(4,lO 4),(6,lO 6),(7,lP b7),(8,lO 8),(10,lP b22),(13,.lf (.v (.int .u64 v50))),(16,lO 16),(17,lP b71)],H := [(4,[oI u0_0,oS Au0_1 u0_1 cu0_1,oS Au0_2 u0_2 cu0_2]),(6,[oI u2]),(8,[.one (.vec 5005),.one (.vec 5006),oI (0 : Int),oI (0 : Int)]),(16,[.one (.vec 5062),oS A59 v58 c60,oI v51,oI (0 : Int)])],V := [(5005,vI 3 1 ([] : List Int)),(5006,vI 3 1 ([] : List Int)),(5062,vI 3 1 ([] : List Int))],M := M72,ds := [],ats := [(6,b46)] } ?_
        refine SQ ?_
        obtain ⟨j76,e_j76,h⟩ := jn_some h
        refine T_bcut (id:=0) (c1:=(sub [1,1,1,1,1,1,1,1,0,0] Bd28)) (fun s' => ∃ (x73 : Int) (L74 : List Int) (M75 : Mem),Sub { σ := [(8,lO 8),(16,lO 16)],H := [(8,[.one (.vec 5005),.one (.vec 5006),oI (0 : Int),oI (0 : Int)]),(16,[.one (.vec 5062),oS A59 v58 c60,oI v51,oI x73])],V := [(5005,vI 3 1 ([] : List Int)),(5006,vI 3 1 ([] : List Int)),(5062,vI 3 1 L74)],M := M75,ds := [],ats := [(6,b46)] } s' ∧ Mem.le M72 M75 ∧ j76 x73 L74 = some r) (by kernel_rfl) ?_ ?_
        ·refine T_loop (c1:=(sub [1,1,1,1,1,1,1,1,0,0,0] Bd28)) (by kernel_rfl) (fun n81 s' => ∃ (x77 : Int) (x78 : Int) (L79 : List Int) (M80 : Mem),Sub { σ := [(4,lO 4),(6,lO 6),(7,lP b7),(8,lO 8),(10,lP b22),(13,.lf (.v (.int .u64 v50))),(16,lO 16),(17,lP b71)],H := [(4,[oI u0_0,oS Au0_1 u0_1 cu0_1,oS Au0_2 u0_2 cu0_2]),(6,[oI x77]),(8,[.one (.vec 5005),.one (.vec 5006),oI (0 : Int),oI (0 : Int)]),(16,[.one (.vec 5062),oS A59 v58 c60,oI v51,oI x78])],V := [(5005,vI 3 1 ([] : List Int)),(5006,vI 3 1 ([] : List Int)),(5062,vI 3 1 L79)],M := M80,ds := [],ats := [(6,b46)] } s' ∧ Mem.le M72 M80 ∧ p28_l1 k u0_1 u3 j76 v9 v10 v11 v12 v50 v67 n81 x77 x78 L79 = some r) (k:=k) ⟨u2,(0 : Int),([] : List Int),M72,keep_sub (ts:=[4,6,7,8,10,13,16,17]) (hs:=[4,6,8,16]) (vs:=[5005,5006,5062]) (by kernel_rfl),(Mem.le_refl _),h⟩ ?_
         rintro n81 s' ⟨x77,x78,L79,M80,hsub,hM80,h⟩
         cases n81 with
         | zero => rw [p28_l1] at h;cases h
         | succ n81 =>
          rw [p28_l1] at h
          refine T_sub hsub ?_
          refine SQ (SQ (RG ?_))
          refine SG 1 { σ := [(4,lO 4),(6,lO 6),(7,lP b7),(8,lO 8),(10,lP b22),(13,.lf (.v (.int .u64 v50))),(16,lO 16),(17,lP b71),(62,vi x77)],H := [(4,[oI u0_0,oS Au0_1 u0_1 cu0_1,oS Au0_2 u0_2 cu0_2]),(6,[oI x77]),(8,[.one (.vec 5005),.one (.vec 5006),oI (0 : Int),oI (0 : Int)]),(16,[.one (.vec 5062),oS A59 v58 c60,oI v51,oI x78])],V := [(5005,vI 3 1 ([] : List Int)),(5006,vI 3 1 ([] : List Int)),(5062,vI 3 1 L79)],M := M80,ds := [],ats := [(6,b46)] } ?_
          refine AT 63 (vi u3) (At_ldP (b:=b7) (off:=0) (m:=1) (v:=(.int .i64 u3)) (by kernel_rfl) (cell_blk (hM80 _ _ (hM72 _ _ (hM70 _ _ (hM66 _ _ (hM61 _ _ (hM57 _ _ (hM54 _ _ (hM49 _ _ (hM35 _ _ (hM23 _ _ (hM21 _ _ fb7))))))))))) ⟨rfl,trivial⟩ (by kernel_rfl))) ?_
          obtain ⟨b82,e_b82,h⟩ := lt_some h
          refine SH 3 [(4,lO 4),(6,lO 6),(7,lP b7),(8,lO 8),(10,lP b22),(13,.lf (.v (.int .u64 v50))),(16,lO 16),(17,lP b71),(64,vb b82)] [(4,[oI u0_0,oS Au0_1 u0_1 cu0_1,oS Au0_2 u0_2 cu0_2]),(6,[oI x77]),(8,[.one (.vec 5005),.one (.vec 5006),oI (0 : Int),oI (0 : Int)]),(16,[.one (.vec 5062),oS A59 v58 c60,oI v51,oI x78])] ?_ (by subst e_b82;kernel_rfl)
          refine EN ?_
          cases b82 with
          | true =>
           replace h := sp_t h
           refine CT ?_
           refine KS [(4,lO 4),(6,lO 6),(7,lP b7),(8,lO 8),(10,lP b22),(13,.lf (.v (.int .u64 v50))),(16,lO 16),(17,lP b71)] ?_
           refine SN (BK 1 (SQ (RG ?_)))
           refine SS 2 [(4,lO 4),(6,lO 6),(7,lP b7),(8,lO 8),(10,lP b22),(13,.lf (.v (.int .u64 v50))),(16,lO 16),(17,lP b71),(66,lS Au0_1 u0_1 cu0_1)] ?_
           refine TI_turn (turn_at 6 (n:=6) (b:=b46) (off:=0) (by kernel_rfl) (by kernel_rfl)) ?_
           rintro _ rfl
           refine SG 3 { σ := [(4,lO 4),(6,lP b46),(7,lP b7),(8,lO 8),(10,lP b22),(13,.lf (.v (.int .u64 v50))),(16,lO 16),(17,lP b71),(66,lS Au0_1 u0_1 cu0_1),(67,.lf (.v (.func (.func 81) #[] #[(.pointer (some ⟨b46,0,none⟩)),(.pointer (some ⟨b71,0,none⟩))])))],H := [(4,[oI u0_0,oS Au0_1 u0_1 cu0_1,oS Au0_2 u0_2 cu0_2]),(6,[oI x77]),(8,[.one (.vec 5005),.one (.vec 5006),oI (0 : Int),oI (0 : Int)]),(16,[.one (.vec 5062),oS A59 v58 c60,oI v51,oI x78])],V := [(5005,vI 3 1 ([] : List Int)),(5006,vI 3 1 ([] : List Int)),(5062,vI 3 1 L79)],M := M80,ds := [],ats := [(6,b46)] } ?_
           refine TI_turn (turn_back 6 (n:=6) (b:=b46) (off:=0) (by kernel_rfl) (by kernel_rfl)) ?_
           rintro _ rfl
           obtain ⟨v83,c_v83,h⟩ := cl_some h
           refine TI_of (i:=3) (by kernel_rfl) (TE_lendT (d:=68) (f:=80) 6 b46 (c:=[oI x77]) (args:=[rval (lS Au0_1 u0_1 cu0_1),rval (.lf (.v (.func (.func 81) #[] #[(.pointer (some ⟨b46,0,none⟩)),(.pointer (some ⟨b71,0,none⟩))])))]) (by kernel_rfl) (by kernel_rfl) (by kernel_rfl) (by kernel_rfl) (by kernel_rfl) (fun hb0 => w80a k (((((((((((((hu0_1.le hM8).le hM21).le hM23).le hM35).le hM49).le hM54).le hM57).le hM61).le hM66).le hM70).le hM72).le hM80).le (addM_le hb0)) (addM_at _ _ _) (((fA68.le hM72).le hM80).le (addM_le hb0)) ((addM_le hb0) _ _ (hM80 _ _ fb71)) c_v83) ?_)
           rintro _ M84 M85 hb0 - e_M85 hM85 ⟨rfl⟩ -
           refine SG 5 { σ := [(4,lO 4),(6,lO 6),(7,lP b7),(8,lO 8),(10,lP b22),(13,.lf (.v (.int .u64 v50))),(16,lO 16),(17,lP b71),(18,vi v83)],H := [(4,[oI u0_0,oS Au0_1 u0_1 cu0_1,oS Au0_2 u0_2 cu0_2]),(6,[oI x77]),(8,[.one (.vec 5005),.one (.vec 5006),oI (0 : Int),oI (0 : Int)]),(16,[.one (.vec 5062),oS A59 v58 c60,oI v51,oI x78])],V := [(5005,vI 3 1 ([] : List Int)),(5006,vI 3 1 ([] : List Int)),(5062,vI 3 1 L79)],M := M85,ds := [],ats := [(6,b46)] } ?_
           refine EN (SQ ?_)
           obtain ⟨j88,e_j88,h⟩ := jn_some h
           refine T_bcut (id:=2) (c1:=(sub [1,1,1,1,1,1,1,1,0,0,0,1,0,1,0,0] Bd28)) (fun s' => ∃ (x86 : Int) (M87 : Mem),Sub { σ := [(4,lO 4),(6,lO 6),(7,lP b7),(8,lO 8),(10,lP b22),(13,.lf (.v (.int .u64 v50))),(16,lO 16),(17,lP b71),(18,vi x86)],H := [(4,[oI u0_0,oS Au0_1 u0_1 cu0_1,oS Au0_2 u0_2 cu0_2]),(6,[oI x77]),(8,[.one (.vec 5005),.one (.vec 5006),oI (0 : Int),oI (0 : Int)]),(16,[.one (.vec 5062),oS A59 v58 c60,oI v51,oI x78])],V := [(5005,vI 3 1 ([] : List Int)),(5006,vI 3 1 ([] : List Int)),(5062,vI 3 1 L79)],M := M87,ds := [],ats := [(6,b46)] } s' ∧ Mem.le M85 M87 ∧ j88 x86 = some r) (by kernel_rfl) ?_ ?_
           ·refine T_loop (c1:=(sub [1,1,1,1,1,1,1,1,0,0,0,1,0,1,0,0,0] Bd28)) (by kernel_rfl) (fun n91 s' => ∃ (x89 : Int) (M90 : Mem),Sub { σ := [(4,lO 4),(6,lO 6),(7,lP b7),(8,lO 8),(10,lP b22),(13,.lf (.v (.int .u64 v50))),(16,lO 16),(17,lP b71),(18,vi x89)],H := [(4,[oI u0_0,oS Au0_1 u0_1 cu0_1,oS Au0_2 u0_2 cu0_2]),(6,[oI x77]),(8,[.one (.vec 5005),.one (.vec 5006),oI (0 : Int),oI (0 : Int)]),(16,[.one (.vec 5062),oS A59 v58 c60,oI v51,oI x78])],V := [(5005,vI 3 1 ([] : List Int)),(5006,vI 3 1 ([] : List Int)),(5062,vI 3 1 L79)],M := M90,ds := [],ats := [(6,b46)] } s' ∧ Mem.le M85 M90 ∧ p28_l2 k u0_1 x77 j88 v9 v10 v11 v12 v50 v67 n91 x89 = some r) (k:=k) ⟨v83,M85,keep_sub (ts:=[4,6,7,8,10,13,16,17,18]) (hs:=[4,6,8,16]) (vs:=[5005,5006,5062]) (by kernel_rfl),(Mem.le_refl _),h⟩ ?_
            rintro n91 s' ⟨x89,M90,hsub,hM90,h⟩
            cases n91 with
            | zero => rw [p28_l2] at h;cases h
            | succ n91 =>
             rw [p28_l2] at h
             refine T_sub hsub ?_
             refine SQ (SQ (RG ?_))
             refine AT 69 (.agg [oI v9,oS A14 v10 c15,oS A16 v11 c17,.arr .i64 6 v12]) (At_ldPR (b:=b22) (off:=0) (m:=9) (c:=[oI v9,oS A14 v10 c15,oS A16 v11 c17,.arr .i64 6 v12]) (by kernel_rfl) (by kernel_rfl) (sgCells_length ⟨rfl,⟨rfl,⟨rfl,⟨g20,trivial⟩⟩⟩⟩) (cells_blk (m:=9) (hM90 _ _ (hM85 _ _ (hM80 _ _ (hM72 _ _ (hM70 _ _ (hM66 _ _ (hM61 _ _ (hM57 _ _ (hM54 _ _ (hM49 _ _ (hM35 _ _ fb22))))))))))) ⟨rfl,⟨rfl,⟨rfl,⟨g20,trivial⟩⟩⟩⟩ (by kernel_rfl) rfl)) ?_ (hx:=⟨rfl,⟨rfl,⟨rfl,⟨g20,trivial⟩⟩⟩⟩)
             refine SG 3 { σ := [(4,lO 4),(6,lO 6),(7,lP b7),(8,lO 8),(10,lP b22),(13,.lf (.v (.int .u64 v50))),(16,lO 16),(17,lP b71),(18,vi x89),(69,.agg [oI v9,oS A14 v10 c15,oS A16 v11 c17,.arr .i64 6 v12]),(70,.lf (.v (.int .u64 v50))),(71,vi x89)],H := [(4,[oI u0_0,oS Au0_1 u0_1 cu0_1,oS Au0_2 u0_2 cu0_2]),(6,[oI x77]),(8,[.one (.vec 5005),.one (.vec 5006),oI (0 : Int),oI (0 : Int)]),(16,[.one (.vec 5062),oS A59 v58 c60,oI v51,oI x78])],V := [(5005,vI 3 1 ([] : List Int)),(5006,vI 3 1 ([] : List Int)),(5062,vI 3 1 L79)],M := M90,ds := [],ats := [(6,b46)] } ?_
             obtain ⟨v92,c_v92,h⟩ := cl_some h
             refine AC 72 (vb v92) (w55 k ((((((((((((fA14.le hM23).le hM35).le hM49).le hM54).le hM57).le hM61).le hM66).le hM70).le hM72).le hM80).le hM85).le hM90) ((((((((((((fA16.le hM23).le hM35).le hM49).le hM54).le hM57).le hM61).le hM66).le hM70).le hM72).le hM80).le hM85).le hM90) g20 c_v92) ?_
             refine SH 5 [(4,lO 4),(6,lO 6),(7,lP b7),(8,lO 8),(10,lP b22),(13,.lf (.v (.int .u64 v50))),(16,lO 16),(17,lP b71),(18,vi x89),(73,vb (!v92))] [(4,[oI u0_0,oS Au0_1 u0_1 cu0_1,oS Au0_2 u0_2 cu0_2]),(6,[oI x77]),(8,[.one (.vec 5005),.one (.vec 5006),oI (0 : Int),oI (0 : Int)]),(16,[.one (.vec 5062),oS A59 v58 c60,oI v51,oI x78])] ?_
             refine EN ?_
             cases v92 with
             | true =>
              replace h := sp_t h
              refine CF ?_
              refine KS [(4,lO 4),(6,lO 6),(7,lP b7),(8,lO 8),(10,lP b22),(13,.lf (.v (.int .u64 v50))),(16,lO 16),(17,lP b71),(18,vi x89)] ?_
              refine XI 2 (thenQ_x (thenQ_x (blockQ_x (thenQ_n ?_))))
              exact ⟨x89,M90,keep_sub (ts:=[4,6,7,8,10,13,16,17,18]) (hs:=[4,6,8,16]) (vs:=[5005,5006,5062]) (by kernel_rfl),(Mem.le_trans (Mem.le_refl _) hM90),h⟩
             | false =>
              replace h := sp_f h
              refine CT ?_
              refine KS [(4,lO 4),(6,lO 6),(7,lP b7),(8,lO 8),(10,lP b22),(13,.lf (.v (.int .u64 v50))),(16,lO 16),(17,lP b71),(18,vi x89)] ?_
              refine SN (BK 3 (RG ?_))
              obtain ⟨x93,e_x93,h⟩ := lt_some h
              refine SS 5 [(4,lO 4),(6,lO 6),(7,lP b7),(8,lO 8),(10,lP b22),(13,.lf (.v (.int .u64 v50))),(16,lO 16),(17,lP b71),(74,vi x89),(76,lS Au0_1 u0_1 cu0_1),(78,vi x93)] ?_ (by subst e_x93;kernel_rfl)
              obtain ⟨g94,h⟩ := gd_some h
              obtain ⟨P95,e_P95,h⟩ := lt_some h
              refine AT 79 (lS (cutA Au0_1 cu0_1 ((x93).toNat) 12) P95 (cu0_1 - (x93).toNat)) (At_slR (a:=(some x93)) (b:=none) (P:=P95) (by subst e_P95;kernel_rfl) ((((((((((((((hu0_1.le hM8).le hM21).le hM23).le hM35).le hM49).le hM54).le hM57).le hM61).le hM66).le hM70).le hM72).le hM80).le hM85).le hM90) (some_nn g94.1) none_nn g94.2.2.1 g94.2.2.2 e_P95) ?_
              refine SH 6 [(4,lO 4),(6,lO 6),(7,lP b7),(8,lO 8),(10,lP b22),(13,.lf (.v (.int .u64 v50))),(16,lO 16),(17,lP b71),(74,vi x89),(79,lS (cutA Au0_1 cu0_1 ((x93).toNat) 12) P95 (cu0_1 - (x93).toNat))] [(4,[oI u0_0,oS Au0_1 u0_1 cu0_1,oS Au0_2 u0_2 cu0_2]),(6,[oI x77]),(8,[.one (.vec 5005),.one (.vec 5006),oI (0 : Int),oI (0 : Int)]),(16,[.one (.vec 5062),oS A59 v58 c60,oI v51,oI x78])] ?_
              refine TI_turn (turn_at 6 (n:=6) (b:=b46) (off:=0) (by kernel_rfl) (by kernel_rfl)) ?_
              rintro _ rfl
              refine SG 7 { σ := [(4,lO 4),(6,lP b46),(7,lP b7),(8,lO 8),(10,lP b22),(13,.lf (.v (.int .u64 v50))),(16,lO 16),(17,lP b71),(74,vi x89),(79,lS (cutA Au0_1 cu0_1 ((x93).toNat) 12) P95 (cu0_1 - (x93).toNat)),(80,.lf (.v (.func (.func 82) #[] #[(.pointer (some ⟨b46,0,none⟩)),(.pointer (some ⟨b71,0,none⟩))])))],H := [(4,[oI u0_0,oS Au0_1 u0_1 cu0_1,oS Au0_2 u0_2 cu0_2]),(6,[oI x77]),(8,[.one (.vec 5005),.one (.vec 5006),oI (0 : Int),oI (0 : Int)]),(16,[.one (.vec 5062),oS A59 v58 c60,oI v51,oI x78])],V := [(5005,vI 3 1 ([] : List Int)),(5006,vI 3 1 ([] : List Int)),(5062,vI 3 1 L79)],M := M90,ds := [],ats := [(6,b46)] } ?_
              refine TI_turn (turn_back 6 (n:=6) (b:=b46) (off:=0) (by kernel_rfl) (by kernel_rfl)) ?_
              rintro _ rfl
              obtain ⟨v96,c_v96,h⟩ := cl_some h
              refine TI_of (i:=7) (by kernel_rfl) (TE_lendT (d:=81) (f:=80) 6 b46 (c:=[oI x77]) (args:=[rval (lS (cutA Au0_1 cu0_1 ((x93).toNat) 12) P95 (cu0_1 - (x93).toNat)),rval (.lf (.v (.func (.func 82) #[] #[(.pointer (some ⟨b46,0,none⟩)),(.pointer (some ⟨b71,0,none⟩))])))]) (by kernel_rfl) (by kernel_rfl) (by kernel_rfl) (by kernel_rfl) (by kernel_rfl) (fun hb0 => w80b k ((SlR.part ((((((((((((((hu0_1.le hM8).le hM21).le hM23).le hM35).le hM49).le hM54).le hM57).le hM61).le hM66).le hM70).le hM72).le hM80).le hM85).le hM90) e_P95 g94.2.2.1 g94.2.2.2).le (addM_le hb0)) (addM_at _ _ _) (((((fA68.le hM72).le hM80).le hM85).le hM90).le (addM_le hb0)) ((addM_le hb0) _ _ (hM90 _ _ (hM85 _ _ (hM80 _ _ fb71)))) c_v96) ?_)
              rintro _ M97 M98 hb0 - e_M98 hM98 ⟨rfl⟩ -
              obtain ⟨x99,e_x99,h⟩ := lt_some h
              obtain ⟨x100,e_x100,h⟩ := lt_some h
              refine SG 11 { σ := [(4,lO 4),(6,lO 6),(7,lP b7),(8,lO 8),(10,lP b22),(13,.lf (.v (.int .u64 v50))),(16,lO 16),(17,lP b71),(18,vi x100)],H := [(4,[oI u0_0,oS Au0_1 u0_1 cu0_1,oS Au0_2 u0_2 cu0_2]),(6,[oI x77]),(8,[.one (.vec 5005),.one (.vec 5006),oI (0 : Int),oI (0 : Int)]),(16,[.one (.vec 5062),oS A59 v58 c60,oI v51,oI x78])],V := [(5005,vI 3 1 ([] : List Int)),(5006,vI 3 1 ([] : List Int)),(5062,vI 3 1 L79)],M := M98,ds := [],ats := [(6,b46)] } ?_ (by subst e_x100 e_x99;kernel_rfl)
              refine E0 (blockQ_n (thenQ_n ?_))
              exact ⟨n91,Nat.lt_succ_self _,x100,M98,keep_sub (ts:=[4,6,7,8,10,13,16,17,18]) (hs:=[4,6,8,16]) (vs:=[5005,5006,5062]) (by kernel_rfl),(Mem.le_trans (Mem.le_trans (Mem.le_refl _) hM90) hM98),h⟩
           ·rintro s' ⟨x86,M87,hsub,hM87,h⟩
            subst e_j88
            refine thenQ_n ?_
            refine T_sub hsub ?_
            refine SQ (RG ?_)
            refine SG 3 { σ := [(4,lO 4),(6,lO 6),(7,lP b7),(8,lO 8),(10,lP b22),(13,.lf (.v (.int .u64 v50))),(16,lO 16),(17,lP b71),(18,vi x86),(85,lV 5062),(86,vi x86)],H := [(4,[oI u0_0,oS Au0_1 u0_1 cu0_1,oS Au0_2 u0_2 cu0_2]),(6,[oI x77]),(8,[.one (.vec 5005),.one (.vec 5006),oI (0 : Int),oI (0 : Int)]),(16,[.one (.vec 5062),oS A59 v58 c60,oI v51,oI x78])],V := [(5005,vI 3 1 ([] : List Int)),(5006,vI 3 1 ([] : List Int)),(5062,vI 3 1 L79)],M := M87,ds := [],ats := [(6,b46)] } ?_
            refine TI_of (i:=3) (by kernel_rfl) (TE_litC (d:=87) (e:=3) (sz:=1) (len:=1) (cs:=ints .i64 ([x86])) (by kernel_rfl) (by kernel_rfl) (by kernel_rfl) ?_)
            obtain ⟨g101,h⟩ := gd_some h
            obtain ⟨W102,e_W102,h⟩ := lt_some h
            refine TI_of (i:=4) (by kernel_rfl) (TE_appC (d:=88) (e:=3) (sz:=1) (bytes:=8) (n:=5062) (x:=(.tmp 87)) (len:=List.length L79) (cs0:=ints .i64 L79) (cs2:=ints .i64 W102) (by subst e_W102;kernel_rfl) (by kernel_rfl) (by subst e_W102;kernel_rfl) (vecI_src (n:=87) (e:=3) (k:=.i64) (L:=[x86]) (by subst e_W102;kernel_rfl) (by subst e_W102;kernel_rfl)) g101 rfl (len_app_eq e_W102) (ints_app_eq e_W102) ?_)
            refine SG 7 { σ := [(4,lO 4),(6,lO 6),(7,lP b7),(8,lO 8),(10,lP b22),(13,.lf (.v (.int .u64 v50))),(16,lO 16),(17,lP b71),(18,vi x86)],H := [(4,[oI u0_0,oS Au0_1 u0_1 cu0_1,oS Au0_2 u0_2 cu0_2]),(6,[oI x77]),(8,[.one (.vec 5005),.one (.vec 5006),oI (0 : Int),oI (0 : Int)]),(16,[.one (.vec 88),oS A59 v58 c60,oI v51,oI x78])],V := [(88,vI 3 1 W102),(5005,vI 3 1 ([] : List Int)),(5006,vI 3 1 ([] : List Int))],M := M87,ds := [],ats := [(6,b46)] } ?_
            refine EN (SQ ?_)
            obtain ⟨g103,h⟩ := gd_some h
            obtain ⟨x104,e_x104,h⟩ := lt_some h
            obtain ⟨x105,e_x105,h⟩ := lt_some h
            refine T_draw' (id:=17) [10] [0,0,0,0,0,0,0,0,0,0,0] (by kernel_rfl) (by kernel_rfl) (by kernel_rfl) (by kernel_rfl) [(90,.lf (.own 16 3)),(91,vi x78),(92,.lf (.own 4 1)),(93,lS Au0_1 u0_1 cu0_1),(94,vi x86),(95,.lf (.ep (.slice Au0_1 (u0_1.length) cu0_1) 12 ((x86).toNat) 0)),(96,.lf (.ep (.slice Au0_1 (u0_1.length) cu0_1) 12 ((x86).toNat) 3)),(97,vi x104),(98,vi x105),(99,.lf (.own 16 3))] (by kernel_rfl) (wfs_lf _ (by kernel_rfl)) ?_
            refine Stage_ex (stage_all' [0,1,2,3,4,6,8,9] [5,7] (by kernel_rfl) (by subst e_x105 e_x104; kernel_rfl) (by kernel_rfl) ⟨QF_at (i:=5) (d:=95) (x:=.lf (.ep (.slice Au0_1 (u0_1.length) cu0_1) 12 ((x86).toNat) 0)) (show OpAt _ _ _ 5 95 _ from by exact At_idxR (d:=95) (z:=x86) (by subst e_x105 e_x104; kernel_rfl) g103 ((((((((((((((hu0_1.le hM8).le hM21).le hM23).le hM35).le hM49).le hM54).le hM57).le hM61).le hM66).le hM70).le hM72).le hM80).le hM85).le hM87)) (by kernel_rfl) (by subst e_x105 e_x104; kernel_rfl),⟨QF_at (i:=7) (d:=97) (x:=vi x104) (show OpAt _ _ _ 7 97 _ from by rw [e_x104]; exact At_ldR1 (d:=97) (q:=(x86).toNat) (j:=3) (by subst e_x105 e_x104; kernel_rfl) rfl (toNat_lt g103) ((((((((((((((hu0_1.le hM8).le hM21).le hM23).le hM35).le hM49).le hM54).le hM57).le hM61).le hM66).le hM70).le hM72).le hM80).le hM85).le hM87)) (by kernel_rfl) (by subst e_x105 e_x104; kernel_rfl),trivial⟩⟩) ({ σ := [(90,.lf (.own 16 3)),(91,vi x78),(92,.lf (.own 4 1)),(93,lS Au0_1 u0_1 cu0_1),(94,vi x86),(95,.lf (.ep (.slice Au0_1 (u0_1.length) cu0_1) 12 ((x86).toNat) 0)),(96,.lf (.ep (.slice Au0_1 (u0_1.length) cu0_1) 12 ((x86).toNat) 3)),(97,vi x104),(98,vi x105),(99,.lf (.own 16 3)),(4,lO 4),(6,lO 6),(7,lP b7),(8,lO 8),(10,lP b22),(13,.lf (.v (.int .u64 v50))),(16,lO 16),(17,lP b71),(18,vi x86)],H := [(16,[.one (.vec 88),oS A59 v58 c60,oI v51,oI x105]),(4,[oI u0_0,oS Au0_1 u0_1 cu0_1,oS Au0_2 u0_2 cu0_2]),(6,[oI x77]),(8,[.one (.vec 5005),.one (.vec 5006),oI (0 : Int),oI (0 : Int)]),(16,[.one (.vec 88),oS A59 v58 c60,oI v51,oI x78])],V := [(88,vI 3 1 W102),(5005,vI 3 1 ([] : List Int)),(5006,vI 3 1 ([] : List Int))],M := M87,ds := [],ats := [(6,b46)] }) (by subst e_x105 e_x104; kernel_rfl) [] (by kernel_rfl) trivial ?_
            refine Stage_nil (stage_all' [] [] (by kernel_rfl) (by subst e_x105 e_x104;kernel_rfl) (by kernel_rfl) trivial) ?_
            refine thenQ_n ?_
            refine KG { σ := [(4,lO 4),(6,lO 6),(7,lP b7),(8,lO 8),(10,lP b22),(13,.lf (.v (.int .u64 v50))),(16,lO 16),(17,lP b71),(18,vi x86)],H := [(4,[oI u0_0,oS Au0_1 u0_1 cu0_1,oS Au0_2 u0_2 cu0_2]),(6,[oI x77]),(8,[.one (.vec 5005),.one (.vec 5006),oI (0 : Int),oI (0 : Int)]),(16,[.one (.vec 88),oS A59 v58 c60,oI v51,oI x105])],V := [(88,vI 3 1 W102),(5005,vI 3 1 ([] : List Int)),(5006,vI 3 1 ([] : List Int))],M := M87,ds := [],ats := [(6,b46)] } ?_ (by subst e_x105 e_x104;kernel_rfl)
            refine RG ?_
            refine SS 3 [(4,lO 4),(6,lO 6),(7,lP b7),(8,lO 8),(10,lP b22),(13,.lf (.v (.int .u64 v50))),(16,lO 16),(17,lP b71),(101,lS Au0_1 u0_1 cu0_1),(102,vi x86)] ?_
            obtain ⟨g106,h⟩ := gd_some h
            refine AT 103 (.lf (.ep (.slice Au0_1 (u0_1.length) cu0_1) 12 ((x86).toNat) 0)) (At_idxR (z:=x86) (by kernel_rfl) g106 ((((((((((((((hu0_1.le hM8).le hM21).le hM23).le hM35).le hM49).le hM54).le hM57).le hM61).le hM66).le hM70).le hM72).le hM80).le hM85).le hM87)) ?_
            refine SH 5 [(4,lO 4),(6,lO 6),(7,lP b7),(8,lO 8),(10,lP b22),(13,.lf (.v (.int .u64 v50))),(16,lO 16),(17,lP b71),(104,.lf (.ep (.slice Au0_1 (u0_1.length) cu0_1) 12 ((x86).toNat) 1))] [(4,[oI u0_0,oS Au0_1 u0_1 cu0_1,oS Au0_2 u0_2 cu0_2]),(6,[oI x77]),(8,[.one (.vec 5005),.one (.vec 5006),oI (0 : Int),oI (0 : Int)]),(16,[.one (.vec 88),oS A59 v58 c60,oI v51,oI x105])] ?_
            obtain ⟨x107,e_x107,h⟩ := lt_some h
            refine AT 105 (vi x107) (by rw [e_x107]; exact At_ldR1 (q:=(x86).toNat) (j:=1) (by subst e_x107; kernel_rfl) rfl (toNat_lt g106) ((((((((((((((hu0_1.le hM8).le hM21).le hM23).le hM35).le hM49).le hM54).le hM57).le hM61).le hM66).le hM70).le hM72).le hM80).le hM85).le hM87)) ?_
            refine SH 7 [(4,lO 4),(6,lO 6),(7,lP b7),(8,lO 8),(10,lP b22),(13,.lf (.v (.int .u64 v50))),(16,lO 16),(17,lP b71)] [(4,[oI u0_0,oS Au0_1 u0_1 cu0_1,oS Au0_2 u0_2 cu0_2]),(6,[oI x107]),(8,[.one (.vec 5005),.one (.vec 5006),oI (0 : Int),oI (0 : Int)]),(16,[.one (.vec 88),oS A59 v58 c60,oI v51,oI x105])] ?_
            refine E0 (blockQ_n (thenQ_n ?_))
            exact ⟨n81,Nat.lt_succ_self _,x107,x105,W102,M87,Sub.trans (keep_sub (ts:=[4,6,7,8,10,13,16,17]) (hs:=[4,6,8,16]) (vs:=[5005,5006,5062]) (by kernel_rfl)) (Sub.trans (ren_sub 88 5062 (s':={ σ := [(4,lO 4),(6,lO 6),(7,lP b7),(8,lO 8),(10,lP b22),(13,.lf (.v (.int .u64 v50))),(16,lO 16),(17,lP b71)],H := [(4,[oI u0_0,oS Au0_1 u0_1 cu0_1,oS Au0_2 u0_2 cu0_2]),(6,[oI x107]),(8,[.one (.vec 5005),.one (.vec 5006),oI (0 : Int),oI (0 : Int)]),(16,[.one (.vec 5062),oS A59 v58 c60,oI v51,oI x105])],V := [(5062,vI 3 1 W102),(5005,vI 3 1 ([] : List Int)),(5006,vI 3 1 ([] : List Int))],M := M87,ds := [],ats := [(6,b46)] }) (by kernel_rfl) (by kernel_rfl)) (keep_sub (s':={ σ := [(4,lO 4),(6,lO 6),(7,lP b7),(8,lO 8),(10,lP b22),(13,.lf (.v (.int .u64 v50))),(16,lO 16),(17,lP b71)],H := [(4,[oI u0_0,oS Au0_1 u0_1 cu0_1,oS Au0_2 u0_2 cu0_2]),(6,[oI x107]),(8,[.one (.vec 5005),.one (.vec 5006),oI (0 : Int),oI (0 : Int)]),(16,[.one (.vec 88),oS A59 v58 c60,oI v51,oI x105])],V := [(88,vI 3 1 W102),(5005,vI 3 1 ([] : List Int)),(5006,vI 3 1 ([] : List Int))],M := M87,ds := [],ats := [(6,b46)] }) (ts:=[4,6,7,8,10,13,16,17]) (hs:=[4,6,8,16]) (vs:=[88,5005,5006]) (by kernel_rfl))),(Mem.le_trans (Mem.le_trans (Mem.le_trans (Mem.le_refl _) hM80) hM85) hM87),h⟩
          | false =>
           replace h := sp_f h
           refine CF ?_
           refine KP [(8,lO 8),(16,lO 16)] [(8,[.one (.vec 5005),.one (.vec 5006),oI (0 : Int),oI (0 : Int)]),(16,[.one (.vec 5062),oS A59 v58 c60,oI v51,oI x78])] [(5005,vI 3 1 ([] : List Int)),(5006,vI 3 1 ([] : List Int)),(5062,vI 3 1 L79)] ?_
           refine XI 0 (thenQ_x (thenQ_x (blockQ_x (thenQ_n ?_))))
           exact ⟨x78,L79,M80,keep_sub (ts:=[8,16]) (hs:=[8,16]) (vs:=[5005,5006,5062]) (by kernel_rfl),(Mem.le_trans (Mem.le_refl _) hM80),h⟩
        ·rintro s' ⟨x73,L74,M75,hsub,hM75,h⟩
         subst e_j76
         refine thenQ_n ?_
         refine T_sub hsub ?_
         refine SQ (RG ?_)
         refine SG 3 { σ := [(8,lO 8),(9,vi (0 : Int))],H := [(8,[.one (.vec 5062),oS A59 v58 c60,oI v51,oI x73])],V := [(5062,vI 3 1 L74)],M := M75,ds := [],ats := [(6,b46)] } ?_
         refine EN ?_
         refine T_turn (turn_pubV 5062 (v:=vI 3 1 L74) (by kernel_rfl)) ?_
         rintro _ ⟨A108,c109,M110,rfl,hSA108,hcA108,-,hNA108,hM110⟩
         have fA108 : SlI M110 A108 c109 .i64 L74 := ⟨hSA108,hcA108⟩
         refine KG { σ := [(8,lO 8),(9,vi (0 : Int))],H := [(8,[oS A108 L74 c109,oS A59 v58 c60,oI v51,oI x73])],V := [],M := M110,ds := [],ats := [(6,b46)] } ?_
         refine RT ?_
         obtain rfl := sj h
         refine FT (.tup [(none,[oS A108 L74 c109,oS A59 v58 c60,oI v51,oI x73]),(some (.v (.int .i64 (0 : Int))),[])]) ?_
         exact ⟨A108,c109,A59,c60,rfl,fA108,(((((fA59.le hM66).le hM70).le hM72).le hM75).le hM110)⟩
   | false =>
    replace h := sp_f h
    refine CT ?_
    refine KP [(8,lO 8)] [(8,[.one (.vec 5005),.one (.vec 5006),oI (0 : Int),oI (0 : Int)])] [(5005,vI 3 1 ([] : List Int)),(5006,vI 3 1 ([] : List Int))] ?_
    refine SQ (RG ?_)
    refine SK 3 [(8,lO 8),(9,vi (15 : Int))] [(8,[oS none ([] : List Int) 0,oS none ([] : List Int) 0,oI (0 : Int),oI (0 : Int)])] [] ?_
    refine EN ?_
    refine T_turn (turn_nil 5111 3 1 [(8,lO 8),(9,vi (15 : Int))] [(8,[.one (.vec 5111),oS none ([] : List Int) 0,oI (0 : Int),oI (0 : Int)])] (by kernel_rfl) (by kernel_rfl) (by kernel_rfl)) ?_
    rintro _ rfl
    refine T_turn (turn_nil 5112 3 1 [(8,lO 8),(9,vi (15 : Int))] [(8,[.one (.vec 5111),.one (.vec 5112),oI (0 : Int),oI (0 : Int)])] (by kernel_rfl) (by kernel_rfl) (by kernel_rfl)) ?_
    rintro _ rfl
    refine KG { σ := [(8,lO 8),(9,vi (15 : Int))],H := [(8,[.one (.vec 5111),.one (.vec 5112),oI (0 : Int),oI (0 : Int)])],V := [(5111,vI 3 1 ([] : List Int)),(5112,vI 3 1 ([] : List Int))],M := M54,ds := [],ats := [(6,b46)] } ?_
    refine T_turn (turn_pubV 5111 (v:=vI 3 1 ([] : List Int)) (by kernel_rfl)) ?_
    rintro _ ⟨A113,c114,M115,rfl,hSA113,hcA113,-,hNA113,hM115⟩
    have fA113 : SlI M115 A113 c114 .i64 ([] : List Int) := ⟨hSA113,hcA113⟩
    refine KG { σ := [(8,lO 8),(9,vi (15 : Int))],H := [(8,[oS A113 ([] : List Int) c114,.one (.vec 5112),oI (0 : Int),oI (0 : Int)])],V := [(5112,vI 3 1 ([] : List Int))],M := M115,ds := [],ats := [(6,b46)] } ?_
    refine T_turn (turn_pubV 5112 (v:=vI 3 1 ([] : List Int)) (by kernel_rfl)) ?_
    rintro _ ⟨A116,c117,M118,rfl,hSA116,hcA116,-,hNA116,hM118⟩
    have fA116 : SlI M118 A116 c117 .i64 ([] : List Int) := ⟨hSA116,hcA116⟩
    refine KG { σ := [(8,lO 8),(9,vi (15 : Int))],H := [(8,[oS A113 ([] : List Int) c114,oS A116 ([] : List Int) c117,oI (0 : Int),oI (0 : Int)])],V := [],M := M118,ds := [],ats := [(6,b46)] } ?_
    refine RT (thenQ_r ?_)
    obtain rfl := sj h
    refine FT (.tup [(none,[oS A113 ([] : List Int) c114,oS A116 ([] : List Int) c117,oI (0 : Int),oI (0 : Int)]),(some (.v (.int .i64 (15 : Int))),[])]) ?_
    exact ⟨A113,c114,A116,c117,rfl,(fA113.le hM118),fA116⟩
end Go.Proofs.Ythniebmammmacaa
namespace Go.Proofs.Ythniebmammmacaa
open Go.RowKit
def p23 (k : Nat) (u0_0 : Int) (u0_1 : List (List Int)) (u0_2 : List WT) (u1 : List Int) (u2 : Int) (u3 : Int) : Option Bool :=
 jn (fun (b1 : Bool) => some b1) fun j2 => cl (p13 k u0_0 u0_1 u0_2) fun v3 => sp v3 (j2 false) (cl (p29 k u0_0 u0_1 u0_2) fun v4 => lt' (v4 == (0 : Int)) fun b5 => sp b5 (cl (p40 k u1) fun v6 => lt' (v6 == (0 : Int)) fun b7 => sp b7 (lt' (decide (u2 ≥ (0 : Int))) fun b8 => sp b8 (lt' (decide (u2 < u0_0)) fun b9 => sp b9 (lt' (decide (u3 ≥ (0 : Int))) fun b10 => sp b10 (lt' (decide (u3 < u0_0)) fun b11 => j2 b11) (j2 false)) (j2 false)) (j2 false)) (j2 false)) (j2 false))
theorem hf23 : Try.prog.funcs[23]? = some Try.f23 := by kernel_rfl
theorem w23 (k : Nat) {M : Mem} {Au0_1 Au0_2 : Option Addr} {cu0_1 cu0_2 : Nat} {Hu0_2 : Nat → Option Addr} {Cu0_2 : Nat → Nat} {u0_0 u2 u3 : Int} {u0_1 : List (List Int)} {u0_2 : List WT} {u1 : List Int} (hu0_1 : SlR M Au0_1 cu0_1 .i64 12 u0_1) (hu0_2 : SlW M 3 Au0_2 cu0_2 Hu0_2 Cu0_2 u0_2) (hu1 : u1.length = 6) {r} (h : p23 k u0_0 u0_1 u0_2 u1 u2 u3 = some r) :
  Fn Try.prog 23 [rval (.agg [oI u0_0,oS Au0_1 u0_1 cu0_1,oS Au0_2 u0_2 cu0_2]),rval (.agg [.arr .i64 6 u1]),rval (vi u2),rval (vi u3)] M (fun x _ => x = vb r) := by
 unfold p23 at h
 refine FO [.agg [oI u0_0,oS Au0_1 u0_1 cu0_1,oS Au0_2 u0_2 cu0_2],.agg [.arr .i64 6 u1],vi u2,vi u3] hf23 ⟨⟨rfl,⟨rfl,⟨rfl,trivial⟩⟩⟩,⟨⟨hu1,trivial⟩,⟨trivial,⟨trivial,trivial⟩⟩⟩⟩ fun w => ?_
 refine SQ0 (RG ?_)
 refine SG 3 (S4 [(2,vi u2),(3,vi u3),(4,lO 4),(5,lO 5)] [(4,[oI u0_0,oS Au0_1 u0_1 cu0_1,oS Au0_2 u0_2 cu0_2]),(5,[.arr .i64 6 u1])] [] M) ?_
 refine EN ?_
 obtain ⟨j2,e_j2,h⟩ := jn_some h
 refine T_cut (c1:=(sub [1,0] Bd23)) (c2:=(sub [1,1] Bd23)) (fun s' => ∃ (b1 : Bool),Sub { σ := [(8,vb b1)],H := [],V := [],M := M,ds := [] } s' ∧ j2 b1 = some r) (by kernel_rfl) ?_ ?_
 ·refine RG ?_
  refine SG 1 (S4 [(2,vi u2),(3,vi u3),(4,lO 4),(5,lO 5),(9,.agg [oI u0_0,oS Au0_1 u0_1 cu0_1,oS Au0_2 u0_2 cu0_2])] [(4,[oI u0_0,oS Au0_1 u0_1 cu0_1,oS Au0_2 u0_2 cu0_2]),(5,[.arr .i64 6 u1])] [] M) ?_
  obtain ⟨v3,c_v3,h⟩ := cl_some h
  refine AC 10 (vb v3) (w13 k hu0_1 hu0_2 c_v3) ?_
  refine SH 4 [(2,vi u2),(3,vi u3),(4,lO 4),(5,lO 5),(12,vb (!v3))] [(4,[oI u0_0,oS Au0_1 u0_1 cu0_1,oS Au0_2 u0_2 cu0_2]),(5,[.arr .i64 6 u1])] ?_
  cases v3 with
  | true =>
   replace h := sp_t h
   refine SH 34 [(8,vb false)] [] ?_
   refine EN ?_
   exact ⟨false,keep_sub (ts:=[8]) (hs:=[]) (vs:=[]) (by kernel_rfl),h⟩
  | false =>
   replace h := sp_f h
   refine SS 5 [(2,vi u2),(3,vi u3),(4,lO 4),(5,lO 5),(12,vb true),(13,.agg [oI u0_0,oS Au0_1 u0_1 cu0_1,oS Au0_2 u0_2 cu0_2])] ?_
   obtain ⟨v4,c_v4,h⟩ := cl_some h
   refine AC 14 (vi v4) (w29 k hu0_1 hu0_2 c_v4) ?_
   obtain ⟨b5,e_b5,h⟩ := lt_some h
   refine SH 9 [(2,vi u2),(3,vi u3),(4,lO 4),(5,lO 5),(17,vb b5)] [(4,[oI u0_0,oS Au0_1 u0_1 cu0_1,oS Au0_2 u0_2 cu0_2]),(5,[.arr .i64 6 u1])] ?_ (by subst e_b5;kernel_rfl)
   cases b5 with
   | true =>
    replace h := sp_t h
    refine SH 10 [(2,vi u2),(3,vi u3),(4,lO 4),(17,vb true),(18,.agg [.arr .i64 6 u1])] [(4,[oI u0_0,oS Au0_1 u0_1 cu0_1,oS Au0_2 u0_2 cu0_2])] ?_
    obtain ⟨v6,c_v6,h⟩ := cl_some h
    refine AC 19 (vi v6) (w40 k hu1 c_v6) ?_
    obtain ⟨b7,e_b7,h⟩ := lt_some h
    refine SH 14 [(2,vi u2),(3,vi u3),(4,lO 4),(22,vb b7)] [(4,[oI u0_0,oS Au0_1 u0_1 cu0_1,oS Au0_2 u0_2 cu0_2])] ?_ (by subst e_b7;kernel_rfl)
    cases b7 with
    | true =>
     replace h := sp_t h
     obtain ⟨b8,e_b8,h⟩ := lt_some h
     refine SS 18 [(2,vi u2),(3,vi u3),(4,lO 4),(26,vb b8)] ?_ (by subst e_b8;kernel_rfl)
     cases b8 with
     | true =>
      replace h := sp_t h
      obtain ⟨b9,e_b9,h⟩ := lt_some h
      refine SS 24 [(3,vi u3),(4,lO 4),(32,vb b9)] ?_ (by subst e_b9;kernel_rfl)
      cases b9 with
      | true =>
       replace h := sp_t h
       obtain ⟨b10,e_b10,h⟩ := lt_some h
       refine SS 28 [(3,vi u3),(4,lO 4),(36,vb b10)] ?_ (by subst e_b10;kernel_rfl)
       cases b10 with
       | true =>
        replace h := sp_t h
        obtain ⟨b11,e_b11,h⟩ := lt_some h
        refine SH 34 [(8,vb b11)] [] ?_ (by subst e_b11;kernel_rfl)
        refine EN ?_
        exact ⟨b11,keep_sub (ts:=[8]) (hs:=[]) (vs:=[]) (by kernel_rfl),h⟩
       | false =>
        replace h := sp_f h
        refine SH 34 [(8,vb false)] [] ?_
        refine EN ?_
        exact ⟨false,keep_sub (ts:=[8]) (hs:=[]) (vs:=[]) (by kernel_rfl),h⟩
      | false =>
       replace h := sp_f h
       refine SH 34 [(8,vb false)] [] ?_
       refine EN ?_
       exact ⟨false,keep_sub (ts:=[8]) (hs:=[]) (vs:=[]) (by kernel_rfl),h⟩
     | false =>
      replace h := sp_f h
      refine SH 34 [(8,vb false)] [] ?_
      refine EN ?_
      exact ⟨false,keep_sub (ts:=[8]) (hs:=[]) (vs:=[]) (by kernel_rfl),h⟩
    | false =>
     replace h := sp_f h
     refine SH 34 [(8,vb false)] [] ?_
     refine EN ?_
     exact ⟨false,keep_sub (ts:=[8]) (hs:=[]) (vs:=[]) (by kernel_rfl),h⟩
   | false =>
    replace h := sp_f h
    refine SH 34 [(8,vb false)] [] ?_
    refine EN ?_
    exact ⟨false,keep_sub (ts:=[8]) (hs:=[]) (vs:=[]) (by kernel_rfl),h⟩
 ·rintro s' ⟨b1,hsub,h⟩
  subst e_j2
  refine T_sub hsub ?_
  refine RT ?_
  obtain rfl := sj h
  exact FT (vb b1) rfl
def p51_l1 (k : Nat) (j8 : List (List Int) → Option (Int × List (List Int) × List WT)) : Nat → Int → List (List Int) → Option (Int × List (List Int) × List WT)
 | 0,_,_ => none
 | n11 + 1,x9,R10 => lt' (decide (x9 < (3 : Int))) fun b12 => sp b12 (gd ((0 : Int) ≤ x9 ∧ x9 < (R10.length : Int)) <| lt' (rowSet R10 ((x9).toNat) 3 [(60 : Int)]) fun R14 => gd ((0 : Int) ≤ x9 ∧ x9 < (R14.length : Int)) <| lt' (rowSet R14 ((x9).toNat) 4 [(480 : Int)]) fun R16 => gd ((0 : Int) ≤ x9 ∧ x9 < (R16.length : Int)) <| lt' (rowSet R16 ((x9).toNat) 5 [(600 : Int)]) fun R18 => gd ((0 : Int) ≤ x9 ∧ x9 < (R18.length : Int)) <| lt' (rowSet R18 ((x9).toNat) 6 ([(5000 : Int),(5000 : Int),(5000 : Int),(5000 : Int),(5000 : Int),(5000 : Int)])) fun R20 => lt' (wr .i64 (x9 + (1 : Int))) fun x21 => p51_l1 k j8 n11 x21 R20) (j8 R10)
def p51 (k : Nat) : Option (Int × List (List Int) × List WT) :=
 jn (fun (R7 : List (List Int)) => gd ((0 : Int) ≤ (1 : Int) ∧ (1 : Int) < (R7.length : Int)) <| gd ((0 : Int) ≤ (1 : Int) ∧ (1 : Int) < ((6 : Nat) : Int)) <| lt' (rowSet R7 1 (6 + 1) [(3000 : Int)]) fun R24 => gd ((0 : Int) ≤ (2 : Int) ∧ (2 : Int) < (R24.length : Int)) <| gd ((0 : Int) ≤ (1 : Int) ∧ (1 : Int) < ((6 : Nat) : Int)) <| lt' (rowSet R24 2 (6 + 1) [(2000 : Int)]) fun R27 => some ((3 : Int),R27,([([(1 : Int)],[(1 : Int),(4000 : Int),(4 : Int)]),([(2 : Int)],[(1 : Int),(4000 : Int),(12 : Int)])] : List WT))) fun j8 => p51_l1 k j8 k (0 : Int) ([[(0 : Int),(1 : Int),(10 : Int),(0 : Int),(0 : Int),(0 : Int),(0 : Int),(0 : Int),(0 : Int),(0 : Int),(0 : Int),(0 : Int)],[(1 : Int),(2 : Int),(10 : Int),(0 : Int),(0 : Int),(0 : Int),(0 : Int),(0 : Int),(0 : Int),(0 : Int),(0 : Int),(0 : Int)],[(0 : Int),(2 : Int),(15 : Int),(0 : Int),(0 : Int),(0 : Int),(0 : Int),(0 : Int),(0 : Int),(0 : Int),(0 : Int),(0 : Int)]])
theorem hf51 : Try.prog.funcs[51]? = some Try.f51 := by kernel_rfl
theorem w51 (k : Nat) {M : Mem} {r} (h : p51 k = some r) :
  Fn Try.prog 51 [] M (fun x M' => ∃ (A1 : Option Addr) (c2 : Nat) (A3 : Option Addr) (c4 : Nat) (H5 : Nat → Option Addr) (C6 : Nat → Nat),x = .agg [oI r.1,oS A1 r.2.1 c2,oS A3 r.2.2 c4] ∧ SlR M' A1 c2 .i64 12 r.2.1 ∧ SlW M' 3 A3 c4 H5 C6 r.2.2) := by
 unfold p51 at h
 refine FO [] hf51 trivial fun w => ?_
 refine SQ0 (RG ?_)
 refine SG 1 (S4 [(0,lO 0)] [(0,[oI (0 : Int),oS none ([] : List (List Int)) 0,oS none ([] : List WT) 0])] [] M) ?_
 refine EN (SQ (RG ?_))
 refine SH 3 [(0,lO 0),(1,lO 1)] [(0,[oI (0 : Int),oS none ([] : List (List Int)) 0,oS none ([] : List WT) 0]),(1,[.arr .i64 6 [(5000 : Int),(5000 : Int),(5000 : Int),(5000 : Int),(5000 : Int),(5000 : Int)]])] ?_
 refine EN (SQ (RG ?_))
 refine SS 3 [(0,lO 0),(1,lO 1),(5,.agg [.arr .i64 12 [(0 : Int),(1 : Int),(10 : Int),(0 : Int),(0 : Int),(0 : Int),(0 : Int),(0 : Int),(0 : Int),(0 : Int),(0 : Int),(0 : Int)]]),(6,.agg [.arr .i64 12 [(1 : Int),(2 : Int),(10 : Int),(0 : Int),(0 : Int),(0 : Int),(0 : Int),(0 : Int),(0 : Int),(0 : Int),(0 : Int),(0 : Int)]]),(7,.agg [.arr .i64 12 [(0 : Int),(2 : Int),(15 : Int),(0 : Int),(0 : Int),(0 : Int),(0 : Int),(0 : Int),(0 : Int),(0 : Int),(0 : Int),(0 : Int)]])] ?_
 refine TI_of (i:=3) (by kernel_rfl) (TE_litC (d:=8) (e:=76) (sz:=12) (len:=3) (cs:=rowsC .i64 ([[(0 : Int),(1 : Int),(10 : Int),(0 : Int),(0 : Int),(0 : Int),(0 : Int),(0 : Int),(0 : Int),(0 : Int),(0 : Int),(0 : Int)],[(1 : Int),(2 : Int),(10 : Int),(0 : Int),(0 : Int),(0 : Int),(0 : Int),(0 : Int),(0 : Int),(0 : Int),(0 : Int),(0 : Int)],[(0 : Int),(2 : Int),(15 : Int),(0 : Int),(0 : Int),(0 : Int),(0 : Int),(0 : Int),(0 : Int),(0 : Int),(0 : Int),(0 : Int)]])) (by kernel_rfl) (by kernel_rfl) (by kernel_rfl) ?_)
 refine SG 7 (S4 [(0,lO 0),(1,lO 1),(2,lO 2)] [(0,[oI (0 : Int),oS none ([] : List (List Int)) 0,oS none ([] : List WT) 0]),(1,[.arr .i64 6 [(5000 : Int),(5000 : Int),(5000 : Int),(5000 : Int),(5000 : Int),(5000 : Int)]]),(2,[oI (3 : Int),.one (.vec 8),oS none ([] : List WT) 0])] [(8,⟨76,12,List.length ([[(0 : Int),(1 : Int),(10 : Int),(0 : Int),(0 : Int),(0 : Int),(0 : Int),(0 : Int),(0 : Int),(0 : Int),(0 : Int),(0 : Int)],[(1 : Int),(2 : Int),(10 : Int),(0 : Int),(0 : Int),(0 : Int),(0 : Int),(0 : Int),(0 : Int),(0 : Int),(0 : Int),(0 : Int)],[(0 : Int),(2 : Int),(15 : Int),(0 : Int),(0 : Int),(0 : Int),(0 : Int),(0 : Int),(0 : Int),(0 : Int),(0 : Int),(0 : Int)]]),rowsC .i64 ([[(0 : Int),(1 : Int),(10 : Int),(0 : Int),(0 : Int),(0 : Int),(0 : Int),(0 : Int),(0 : Int),(0 : Int),(0 : Int),(0 : Int)],[(1 : Int),(2 : Int),(10 : Int),(0 : Int),(0 : Int),(0 : Int),(0 : Int),(0 : Int),(0 : Int),(0 : Int),(0 : Int),(0 : Int)],[(0 : Int),(2 : Int),(15 : Int),(0 : Int),(0 : Int),(0 : Int),(0 : Int),(0 : Int),(0 : Int),(0 : Int),(0 : Int),(0 : Int)]])⟩)] M) ?_
 refine EN (SQ (SQ (RG ?_)))
 refine SS 1 [(0,lO 0),(1,lO 1),(2,lO 2),(3,vi (0 : Int))] ?_
 refine EN ?_
 obtain ⟨j8,e_j8,h⟩ := jn_some h
 refine T_bcut (id:=0) (c1:=(sub [1,1,1,0,1,0] Bd51)) (fun s' => ∃ (R7 : List (List Int)),Sub { σ := [(0,lO 0),(2,lO 2)],H := [(0,[oI (0 : Int),oS none ([] : List (List Int)) 0,oS none ([] : List WT) 0]),(2,[oI (3 : Int),.one (.vec 8),oS none ([] : List WT) 0])],V := [(8,⟨76,12,List.length R7,rowsC .i64 R7⟩)],M := M,ds := [] } s' ∧ (∀ r ∈ R7,r.length = 12) ∧ j8 R7 = some r) (by kernel_rfl) ?_ ?_
 ·refine T_loop (c1:=(sub [1,1,1,0,1,0,0] Bd51)) (by kernel_rfl) (fun n11 s' => ∃ (x9 : Int) (R10 : List (List Int)),Sub { σ := [(0,lO 0),(1,lO 1),(2,lO 2),(3,vi x9)],H := [(0,[oI (0 : Int),oS none ([] : List (List Int)) 0,oS none ([] : List WT) 0]),(1,[.arr .i64 6 [(5000 : Int),(5000 : Int),(5000 : Int),(5000 : Int),(5000 : Int),(5000 : Int)]]),(2,[oI (3 : Int),.one (.vec 8),oS none ([] : List WT) 0])],V := [(8,⟨76,12,List.length R10,rowsC .i64 R10⟩)],M := M,ds := [] } s' ∧ (∀ r ∈ R10,r.length = 12) ∧ p51_l1 k j8 n11 x9 R10 = some r) (k:=k) ⟨(0 : Int),([[(0 : Int),(1 : Int),(10 : Int),(0 : Int),(0 : Int),(0 : Int),(0 : Int),(0 : Int),(0 : Int),(0 : Int),(0 : Int),(0 : Int)],[(1 : Int),(2 : Int),(10 : Int),(0 : Int),(0 : Int),(0 : Int),(0 : Int),(0 : Int),(0 : Int),(0 : Int),(0 : Int),(0 : Int)],[(0 : Int),(2 : Int),(15 : Int),(0 : Int),(0 : Int),(0 : Int),(0 : Int),(0 : Int),(0 : Int),(0 : Int),(0 : Int),(0 : Int)]]),keep_sub (ts:=[0,1,2,3]) (hs:=[0,1,2]) (vs:=[8]) (by kernel_rfl),(rows_cons rfl (rows_cons rfl (rows_cons rfl rows_nil))),h⟩ ?_
  rintro n11 s' ⟨x9,R10,hsub,r_R10,h⟩
  cases n11 with
  | zero => rw [p51_l1] at h;cases h
  | succ n11 =>
   rw [p51_l1] at h
   refine T_sub hsub ?_
   refine SQ (SQ (RG ?_))
   obtain ⟨b12,e_b12,h⟩ := lt_some h
   refine SG 2 (S4 [(0,lO 0),(1,lO 1),(2,lO 2),(3,vi x9),(11,vb b12)] [(0,[oI (0 : Int),oS none ([] : List (List Int)) 0,oS none ([] : List WT) 0]),(1,[.arr .i64 6 [(5000 : Int),(5000 : Int),(5000 : Int),(5000 : Int),(5000 : Int),(5000 : Int)]]),(2,[oI (3 : Int),.one (.vec 8),oS none ([] : List WT) 0])] [(8,⟨76,12,List.length R10,rowsC .i64 R10⟩)] M) ?_ (by subst e_b12;kernel_rfl)
   refine EN ?_
   cases b12 with
   | true =>
    replace h := sp_t h
    refine CT ?_
    refine KS [(0,lO 0),(1,lO 1),(2,lO 2),(3,vi x9)] ?_
    refine SN (SQ (BK 1 ?_))
    obtain ⟨g13,h⟩ := gd_some h
    obtain ⟨R14,e_R14,h⟩ := lt_some h
    have r_R14 : ∀ r ∈ R14,r.length = 12 := by rw [e_R14]; exact rowSet_rows r_R10 (toNat_lt g13) (Nat.le_of_ble_eq_true rfl)
    obtain ⟨g15,h⟩ := gd_some h
    obtain ⟨R16,e_R16,h⟩ := lt_some h
    have r_R16 : ∀ r ∈ R16,r.length = 12 := by rw [e_R16]; exact rowSet_rows r_R14 (toNat_lt g15) (Nat.le_of_ble_eq_true rfl)
    obtain ⟨g17,h⟩ := gd_some h
    obtain ⟨R18,e_R18,h⟩ := lt_some h
    have r_R18 : ∀ r ∈ R18,r.length = 12 := by rw [e_R18]; exact rowSet_rows r_R16 (toNat_lt g17) (Nat.le_of_ble_eq_true rfl)
    obtain ⟨g19,h⟩ := gd_some h
    obtain ⟨R20,e_R20,h⟩ := lt_some h
    have r_R20 : ∀ r ∈ R20,r.length = 12 := by rw [e_R20]; exact rowSet_rows r_R18 (toNat_lt g19) (by have hz : ([(5000 : Int),(5000 : Int),(5000 : Int),(5000 : Int),(5000 : Int),(5000 : Int)]).length = 6 := rfl; rw [hz]; exact Nat.le_of_ble_eq_true rfl)
    refine T_draw' (id:=6) [15,18,21,24] [0,0,0,0,0,0,0,0,0,0,0,0,0,0,0,0,1,1,0,2,2,0,3,3,0] (by kernel_rfl) (by kernel_rfl) (by kernel_rfl) (by kernel_rfl) [(14,.lf (.own 2 1)),(15,lV 8),(16,vi x9),(17,.lf (.own 2 1)),(18,lV 8),(19,vi x9),(20,.lf (.own 2 1)),(21,lV 8),(22,vi x9),(23,.lf (.own 2 1)),(24,lV 8),(25,vi x9),(26,.agg [.arr .i64 6 [(5000 : Int),(5000 : Int),(5000 : Int),(5000 : Int),(5000 : Int),(5000 : Int)]]),(27,.lf (.vel 8 12 ((x9).toNat) 0)),(28,.lf (.vel 8 12 ((x9).toNat) 3))] (by kernel_rfl) ⟨trivial,⟨trivial,⟨trivial,⟨trivial,⟨trivial,⟨trivial,⟨trivial,⟨trivial,⟨trivial,⟨trivial,⟨trivial,⟨trivial,⟨⟨rfl,trivial⟩,⟨trivial,⟨trivial,trivial⟩⟩⟩⟩⟩⟩⟩⟩⟩⟩⟩⟩⟩⟩⟩ ?_
    refine Stage_te (stage_all' [0,1,2,3,4,5,6,7,8,9,10,11,12,14] [13] (by kernel_rfl) (by subst_vars; kernel_rfl) (by kernel_rfl) ⟨QF_at (i:=13) (d:=27) (x:=.lf (.vel 8 12 ((x9).toNat) 0)) (show OpAt _ _ _ 13 27 _ from by exact At_idxV (d:=27) (z:=x9) (n:=8) (sz:=12) (v:=⟨76,12,List.length R10,rowsC .i64 R10⟩) (by subst_vars; kernel_rfl) (by subst_vars; kernel_rfl) g13) (by kernel_rfl) (by subst_vars; kernel_rfl),trivial⟩) (TE_stC (len2:=List.length R14) (m:=1) (n:=8) (sz:=12) (j:=(x9).toNat) (q:=3) (e:=76) (len:=List.length R10) (c:=[oI (60 : Int)]) (cs0:=rowsC .i64 R10) (cs2:=rowsC .i64 R14) (by subst_vars; kernel_rfl) (by kernel_rfl) (by subst_vars; kernel_rfl) (vle2 (toNat_lt g13) (Nat.le_of_ble_eq_true rfl)) (by kernel_rfl) (by rw [e_R14]; exact setp_one r_R10 (toNat_lt g13) (Nat.le_of_ble_eq_true rfl)) (by rw [e_R14,rowSet_length]) ?_) 
    refine TL_nil (stageQ_of [(29,.lf (.vel 8 12 ((x9).toNat) 0)),(30,.lf (.vel 8 12 ((x9).toNat) 4))] (by kernel_rfl) ⟨trivial,⟨trivial,trivial⟩⟩ ?_)
    refine Stage_te (stage_all' [3,4,5,6,7,8,9,10,11,12,17] [16] (by kernel_rfl) (by subst_vars; kernel_rfl) (by kernel_rfl) ⟨QF_at (i:=16) (d:=29) (x:=.lf (.vel 8 12 ((x9).toNat) 0)) (show OpAt _ _ _ 16 29 _ from by exact At_idxV (d:=29) (z:=x9) (n:=8) (sz:=12) (v:=⟨76,12,List.length R14,rowsC .i64 R14⟩) (by subst_vars; kernel_rfl) (by subst_vars; kernel_rfl) g15) (by kernel_rfl) (by subst_vars; kernel_rfl),trivial⟩) (TE_stC (len2:=List.length R16) (m:=1) (n:=8) (sz:=12) (j:=(x9).toNat) (q:=4) (e:=76) (len:=List.length R14) (c:=[oI (480 : Int)]) (cs0:=rowsC .i64 R14) (cs2:=rowsC .i64 R16) (by subst_vars; kernel_rfl) (by kernel_rfl) (by subst_vars; kernel_rfl) (vle2 (toNat_lt g15) (Nat.le_of_ble_eq_true rfl)) (by kernel_rfl) (by rw [e_R16]; exact setp_one r_R14 (toNat_lt g15) (Nat.le_of_ble_eq_true rfl)) (by rw [e_R16,rowSet_length]) ?_) 
    refine TL_nil (stageQ_of [(31,.lf (.vel 8 12 ((x9).toNat) 0)),(32,.lf (.vel 8 12 ((x9).toNat) 5))] (by kernel_rfl) ⟨trivial,⟨trivial,trivial⟩⟩ ?_)
    refine Stage_te (stage_all' [6,7,8,9,10,11,12,20] [19] (by kernel_rfl) (by subst_vars; kernel_rfl) (by kernel_rfl) ⟨QF_at (i:=19) (d:=31) (x:=.lf (.vel 8 12 ((x9).toNat) 0)) (show OpAt _ _ _ 19 31 _ from by exact At_idxV (d:=31) (z:=x9) (n:=8) (sz:=12) (v:=⟨76,12,List.length R16,rowsC .i64 R16⟩) (by subst_vars; kernel_rfl) (by subst_vars; kernel_rfl) g17) (by kernel_rfl) (by subst_vars; kernel_rfl),trivial⟩) (TE_stC (len2:=List.length R18) (m:=1) (n:=8) (sz:=12) (j:=(x9).toNat) (q:=5) (e:=76) (len:=List.length R16) (c:=[oI (600 : Int)]) (cs0:=rowsC .i64 R16) (cs2:=rowsC .i64 R18) (by subst_vars; kernel_rfl) (by kernel_rfl) (by subst_vars; kernel_rfl) (vle2 (toNat_lt g17) (Nat.le_of_ble_eq_true rfl)) (by kernel_rfl) (by rw [e_R18]; exact setp_one r_R16 (toNat_lt g17) (Nat.le_of_ble_eq_true rfl)) (by rw [e_R18,rowSet_length]) ?_) 
    refine TL_nil (stageQ_of [(33,.lf (.vel 8 12 ((x9).toNat) 0)),(34,.lf (.vel 8 12 ((x9).toNat) 6))] (by kernel_rfl) ⟨trivial,⟨trivial,trivial⟩⟩ ?_)
    refine Stage_te (stage_all' [9,10,11,12,23] [22] (by kernel_rfl) (by subst_vars; kernel_rfl) (by kernel_rfl) ⟨QF_at (i:=22) (d:=33) (x:=.lf (.vel 8 12 ((x9).toNat) 0)) (show OpAt _ _ _ 22 33 _ from by exact At_idxV (d:=33) (z:=x9) (n:=8) (sz:=12) (v:=⟨76,12,List.length R18,rowsC .i64 R18⟩) (by subst_vars; kernel_rfl) (by subst_vars; kernel_rfl) g19) (by kernel_rfl) (by subst_vars; kernel_rfl),trivial⟩) (TE_stC (len2:=List.length R20) (m:=6) (n:=8) (sz:=12) (j:=(x9).toNat) (q:=6) (e:=76) (len:=List.length R18) (c:=[.arr .i64 6 [(5000 : Int),(5000 : Int),(5000 : Int),(5000 : Int),(5000 : Int),(5000 : Int)]]) (cs0:=rowsC .i64 R18) (cs2:=rowsC .i64 R20) (by subst_vars; kernel_rfl) (by kernel_rfl) (by subst_vars; kernel_rfl) (vle2 (toNat_lt g19) (Nat.le_of_ble_eq_true rfl)) (by kernel_rfl) (by rw [e_R20]; exact setp_arr r_R18 (toNat_lt g19) rfl (Nat.le_of_ble_eq_true rfl)) (by rw [e_R20,rowSet_length]) ?_) 
    refine TL_nil (stageQ_of [] (by kernel_rfl) trivial ?_)
    refine Stage_nil (stage_all' [] [] (by kernel_rfl) (by subst_vars;kernel_rfl) (by kernel_rfl) trivial) ?_
    refine blockQ_n (thenQ_n ?_)
    refine KG (S4 [(0,lO 0),(1,lO 1),(2,lO 2),(3,vi x9)] [(0,[oI (0 : Int),oS none ([] : List (List Int)) 0,oS none ([] : List WT) 0]),(1,[.arr .i64 6 [(5000 : Int),(5000 : Int),(5000 : Int),(5000 : Int),(5000 : Int),(5000 : Int)]]),(2,[oI (3 : Int),.one (.vec 8),oS none ([] : List WT) 0])] [(8,⟨76,12,List.length R20,rowsC .i64 R20⟩)] M) ?_ (by subst_vars;kernel_rfl)
    refine RG ?_
    obtain ⟨x21,e_x21,h⟩ := lt_some h
    refine SS 3 [(0,lO 0),(1,lO 1),(2,lO 2),(3,vi x21)] ?_ (by subst e_x21;kernel_rfl)
    refine EN ?_
    exact ⟨n11,Nat.lt_succ_self _,x21,R20,keep_sub (ts:=[0,1,2,3]) (hs:=[0,1,2]) (vs:=[8]) (by kernel_rfl),r_R20,h⟩
   | false =>
    replace h := sp_f h
    refine CF ?_
    refine KP [(0,lO 0),(2,lO 2)] [(0,[oI (0 : Int),oS none ([] : List (List Int)) 0,oS none ([] : List WT) 0]),(2,[oI (3 : Int),.one (.vec 8),oS none ([] : List WT) 0])] [(8,⟨76,12,List.length R10,rowsC .i64 R10⟩)] ?_
    refine XI 0 (thenQ_x (thenQ_x (blockQ_x (thenQ_n ?_))))
    exact ⟨R10,keep_sub (ts:=[0,2]) (hs:=[0,2]) (vs:=[8]) (by kernel_rfl),r_R10,h⟩
 ·rintro s' ⟨R7,hsub,r_R7,h⟩
  subst e_j8
  refine thenQ_n ?_
  refine T_sub hsub ?_
  refine SQ ?_
  obtain ⟨g22,h⟩ := gd_some h
  obtain ⟨g23,h⟩ := gd_some h
  obtain ⟨R24,e_R24,h⟩ := lt_some h
  have r_R24 : ∀ r ∈ R24,r.length = 12 := by rw [e_R24]; exact rowSet_rows r_R7 (toNat_lt g22) (by show 6 + 1 + 1 ≤ 12; omega)
  obtain ⟨g25,h⟩ := gd_some h
  obtain ⟨g26,h⟩ := gd_some h
  obtain ⟨R27,e_R27,h⟩ := lt_some h
  have r_R27 : ∀ r ∈ R27,r.length = 12 := by rw [e_R27]; exact rowSet_rows r_R24 (toNat_lt g25) (by show 6 + 1 + 1 ≤ 12; omega)
  refine T_draw' (id:=7) [7,11] [0,0,0,0,0,0,0,0,0,0,1,0] (by kernel_rfl) (by kernel_rfl) (by kernel_rfl) (by kernel_rfl) [(35,.lf (.own 2 1)),(36,lV 8),(37,.lf (.own 2 1)),(38,lV 8),(39,.lf (.vel 8 12 1 0)),(40,.lf (.vel 8 12 1 6)),(41,.lf (.vel 8 12 1 (6 + 1))),(42,.lf (.vel 8 12 2 0)),(43,.lf (.vel 8 12 2 6))] (by kernel_rfl) (wfs_lf _ (by kernel_rfl)) ?_
  refine Stage_te (stage_all' [0,1,2,3,5,9] [4,6,8] (by kernel_rfl) (by subst e_R27 e_R24; kernel_rfl) (by kernel_rfl) ⟨QF_at (i:=4) (d:=39) (x:=.lf (.vel 8 12 1 0)) (show OpAt _ _ _ 4 39 _ from by exact At_idxV (d:=39) (z:=(1 : Int)) (n:=8) (sz:=12) (v:=⟨76,12,List.length R7,rowsC .i64 R7⟩) (by subst e_R27 e_R24; kernel_rfl) (by subst e_R27 e_R24; kernel_rfl) g22) (by kernel_rfl) (by subst e_R27 e_R24; kernel_rfl),⟨QF_at (i:=6) (d:=41) (x:=.lf (.vel 8 12 1 (6 + 1))) (show OpAt _ _ _ 6 41 _ from by exact At_idxW (d:=41) (z:=(1 : Int)) (m:=8) (sz:=12) (q:=1) (j:=6) (es:=1) (n:=6) (by subst e_R27 e_R24; kernel_rfl) g23) (by kernel_rfl) (by subst e_R27 e_R24; kernel_rfl),⟨QF_at (i:=8) (d:=42) (x:=.lf (.vel 8 12 2 0)) (show OpAt _ _ _ 8 42 _ from by exact At_idxV (d:=42) (z:=(2 : Int)) (n:=8) (sz:=12) (v:=⟨76,12,List.length R7,rowsC .i64 R7⟩) (by subst e_R27 e_R24; kernel_rfl) (by subst e_R27 e_R24; kernel_rfl) (by have q9 := g25; simp only [e_R24,e_R27,List.length_set,rowSet_length] at q9 ⊢; exact q9)) (by kernel_rfl) (by subst e_R27 e_R24; kernel_rfl),trivial⟩⟩⟩) (TE_stC (len2:=List.length R24) (m:=1) (n:=8) (sz:=12) (j:=1) (q:=6 + 1) (e:=76) (len:=List.length R7) (c:=[oI (3000 : Int)]) (cs0:=rowsC .i64 R7) (cs2:=rowsC .i64 R24) (by subst e_R27 e_R24; kernel_rfl) (by kernel_rfl) (by subst e_R27 e_R24; kernel_rfl) (vle2 (toNat_lt g22) (by omega)) (by kernel_rfl) (by rw [e_R24]; exact setp_one r_R7 (toNat_lt g22) (by omega)) (by rw [e_R24,rowSet_length]) ?_) 
  refine TL_nil (stageQ_of [(44,.lf (.vel 8 12 2 (6 + 1)))] (by kernel_rfl) ⟨trivial,trivial⟩ ?_)
  refine Stage_te (stage_all' [2,3,9] [8,10] (by kernel_rfl) (by subst e_R27 e_R24; kernel_rfl) (by kernel_rfl) ⟨QF_at (i:=8) (d:=42) (x:=.lf (.vel 8 12 2 0)) (show OpAt _ _ _ 8 42 _ from by exact At_idxV (d:=42) (z:=(2 : Int)) (n:=8) (sz:=12) (v:=⟨76,12,List.length R24,rowsC .i64 R24⟩) (by subst e_R27 e_R24; kernel_rfl) (by subst e_R27 e_R24; kernel_rfl) g25) (by kernel_rfl) (by subst e_R27 e_R24; kernel_rfl),⟨QF_at (i:=10) (d:=44) (x:=.lf (.vel 8 12 2 (6 + 1))) (show OpAt _ _ _ 10 44 _ from by exact At_idxW (d:=44) (z:=(1 : Int)) (m:=8) (sz:=12) (q:=2) (j:=6) (es:=1) (n:=6) (by subst e_R27 e_R24; kernel_rfl) g26) (by kernel_rfl) (by subst e_R27 e_R24; kernel_rfl),trivial⟩⟩) (TE_stC (len2:=List.length R27) (m:=1) (n:=8) (sz:=12) (j:=2) (q:=6 + 1) (e:=76) (len:=List.length R24) (c:=[oI (2000 : Int)]) (cs0:=rowsC .i64 R24) (cs2:=rowsC .i64 R27) (by subst e_R27 e_R24; kernel_rfl) (by kernel_rfl) (by subst e_R27 e_R24; kernel_rfl) (vle2 (toNat_lt g25) (by omega)) (by kernel_rfl) (by rw [e_R27]; exact setp_one r_R24 (toNat_lt g25) (by omega)) (by rw [e_R27,rowSet_length]) ?_) 
  refine TL_nil (stageQ_of [] (by kernel_rfl) trivial ?_)
  refine Stage_nil (stage_all' [] [] (by kernel_rfl) (by subst e_R27 e_R24;kernel_rfl) (by kernel_rfl) trivial) ?_
  refine thenQ_n ?_
  refine KG (S4 [(0,lO 0),(2,lO 2)] [(0,[oI (0 : Int),oS none ([] : List (List Int)) 0,oS none ([] : List WT) 0]),(2,[oI (3 : Int),.one (.vec 8),oS none ([] : List WT) 0])] [(8,⟨76,12,List.length R27,rowsC .i64 R27⟩)] M) ?_ (by subst e_R27 e_R24;kernel_rfl)
  refine SQ (RG ?_)
  refine TI_of (i:=0) (by kernel_rfl) (TE_litC (d:=45) (e:=3) (sz:=1) (len:=1) (cs:=ints .i64 ([(1 : Int)])) (by kernel_rfl) (by kernel_rfl) (by kernel_rfl) ?_)
  refine SG 2 (S4 [(0,lO 0),(2,lO 2),(46,.agg [.one (.vec 45),oI (1 : Int),oI (4000 : Int),oI (4 : Int)])] [(0,[oI (0 : Int),oS none ([] : List (List Int)) 0,oS none ([] : List WT) 0]),(2,[oI (3 : Int),.one (.vec 8),oS none ([] : List WT) 0])] [(8,⟨76,12,List.length R27,rowsC .i64 R27⟩),(45,⟨3,1,List.length ([(1 : Int)]),ints .i64 ([(1 : Int)])⟩)] M) ?_
  refine TI_of (i:=2) (by kernel_rfl) (TE_litC (d:=47) (e:=3) (sz:=1) (len:=1) (cs:=ints .i64 ([(2 : Int)])) (by kernel_rfl) (by kernel_rfl) (by kernel_rfl) ?_)
  refine SG 4 (S4 [(0,lO 0),(2,lO 2),(46,.agg [.one (.vec 45),oI (1 : Int),oI (4000 : Int),oI (4 : Int)]),(48,.agg [.one (.vec 47),oI (1 : Int),oI (4000 : Int),oI (12 : Int)])] [(0,[oI (0 : Int),oS none ([] : List (List Int)) 0,oS none ([] : List WT) 0]),(2,[oI (3 : Int),.one (.vec 8),oS none ([] : List WT) 0])] [(8,⟨76,12,List.length R27,rowsC .i64 R27⟩),(45,⟨3,1,List.length ([(1 : Int)]),ints .i64 ([(1 : Int)])⟩),(47,⟨3,1,List.length ([(2 : Int)]),ints .i64 ([(2 : Int)])⟩)] M) ?_
  refine TI_turn (turn_pubV 45 (v:=⟨3,1,List.length ([(1 : Int)]),ints .i64 ([(1 : Int)])⟩) (by kernel_rfl)) ?_
  rintro _ ⟨A28,c29,M30,rfl,hSA28,hcA28,-,hNA28,hM30⟩
  have fA28 : SlI M30 A28 c29 .i64 ([(1 : Int)]) := ⟨hSA28,hcA28⟩
  refine TI_turn (turn_pubV 47 (v:=⟨3,1,List.length ([(2 : Int)]),ints .i64 ([(2 : Int)])⟩) (by kernel_rfl)) ?_
  rintro _ ⟨A31,c32,M33,rfl,hSA31,hcA31,-,hNA31,hM33⟩
  have fA31 : SlI M33 A31 c32 .i64 ([(2 : Int)]) := ⟨hSA31,hcA31⟩
  refine TI_of (i:=4) (by kernel_rfl) (TE_litC (d:=49) (e:=54) (sz:=4) (len:=2) (cs:=xC ([((A28,c29),([(1 : Int)],[(1 : Int),(4000 : Int),(4 : Int)])),((A31,c32),([(2 : Int)],[(1 : Int),(4000 : Int),(12 : Int)]))] : List XT)) (by kernel_rfl) (by kernel_rfl) (by kernel_rfl) ?_)
  have fx49_q34 : XOK M33 3 ([((A28,c29),([(1 : Int)],[(1 : Int),(4000 : Int),(4 : Int)])),((A31,c32),([(2 : Int)],[(1 : Int),(4000 : Int),(12 : Int)]))] : List XT) ([([(1 : Int)],[(1 : Int),(4000 : Int),(4 : Int)]),([(2 : Int)],[(1 : Int),(4000 : Int),(12 : Int)])] : List WT) := (XOK.cons (fA28.le hM33) rfl (XOK.cons fA31 rfl (XOK.nil _ _)))
  refine SG 7 (S4 [(0,lO 0),(2,lO 2)] [(0,[oI (0 : Int),oS none ([] : List (List Int)) 0,oS none ([] : List WT) 0]),(2,[oI (3 : Int),.one (.vec 8),.one (.vec 49)])] [(8,⟨76,12,List.length R27,rowsC .i64 R27⟩),(49,⟨54,4,List.length ([([(1 : Int)],[(1 : Int),(4000 : Int),(4 : Int)]),([(2 : Int)],[(1 : Int),(4000 : Int),(12 : Int)])] : List WT),xC ([((A28,c29),([(1 : Int)],[(1 : Int),(4000 : Int),(4 : Int)])),((A31,c32),([(2 : Int)],[(1 : Int),(4000 : Int),(12 : Int)]))] : List XT)⟩)] M33) ?_
  refine EN (SQ (RG ?_))
  refine SH 2 [(0,lO 0)] [(0,[oI (3 : Int),.one (.vec 8),.one (.vec 49)])] ?_
  refine EN ?_
  refine T_turn (turn_pubV 8 (v:=⟨76,12,List.length R27,rowsC .i64 R27⟩) (by kernel_rfl)) ?_
  rintro _ ⟨A35,c36,M37,rfl,hSA35,hcA35,-,hNA35,hM37⟩
  have fA35 : SlR M37 A35 c36 .i64 12 R27 := ⟨r_R27,hSA35,hcA35⟩
  refine KG (S4 [(0,lO 0)] [(0,[oI (3 : Int),oS A35 R27 c36,.one (.vec 49)])] [(49,⟨54,4,List.length ([([(1 : Int)],[(1 : Int),(4000 : Int),(4 : Int)]),([(2 : Int)],[(1 : Int),(4000 : Int),(12 : Int)])] : List WT),xC ([((A28,c29),([(1 : Int)],[(1 : Int),(4000 : Int),(4 : Int)])),((A31,c32),([(2 : Int)],[(1 : Int),(4000 : Int),(12 : Int)]))] : List XT)⟩)] M37) ?_
  refine T_turn (turn_pubV 49 (v:=⟨54,4,List.length ([([(1 : Int)],[(1 : Int),(4000 : Int),(4 : Int)]),([(2 : Int)],[(1 : Int),(4000 : Int),(12 : Int)])] : List WT),xC ([((A28,c29),([(1 : Int)],[(1 : Int),(4000 : Int),(4 : Int)])),((A31,c32),([(2 : Int)],[(1 : Int),(4000 : Int),(12 : Int)]))] : List XT)⟩) (by kernel_rfl)) ?_
  rintro _ ⟨A38,c39,M40,rfl,hSA38,hcA38,-,hNA38,hM40⟩
  have fA38 : SlW M40 3 A38 c39 (hx ([((A28,c29),([(1 : Int)],[(1 : Int),(4000 : Int),(4 : Int)])),((A31,c32),([(2 : Int)],[(1 : Int),(4000 : Int),(12 : Int)]))] : List XT)) (cx ([((A28,c29),([(1 : Int)],[(1 : Int),(4000 : Int),(4 : Int)])),((A31,c32),([(2 : Int)],[(1 : Int),(4000 : Int),(12 : Int)]))] : List XT)) ([([(1 : Int)],[(1 : Int),(4000 : Int),(4 : Int)]),([(2 : Int)],[(1 : Int),(4000 : Int),(12 : Int)])] : List WT) := XOK.slW ((fx49_q34.le hM37).le hM40) hSA38 hcA38
  refine KG (S4 [(0,lO 0)] [(0,[oI (3 : Int),oS A35 R27 c36,oS A38 ([([(1 : Int)],[(1 : Int),(4000 : Int),(4 : Int)]),([(2 : Int)],[(1 : Int),(4000 : Int),(12 : Int)])] : List WT) c39])] [] M40) ?_
  refine RT ?_
  obtain rfl := sj h
  refine FT (.agg [oI (3 : Int),oS A35 R27 c36,oS A38 ([([(1 : Int)],[(1 : Int),(4000 : Int),(4 : Int)]),([(2 : Int)],[(1 : Int),(4000 : Int),(12 : Int)])] : List WT) c39]) ?_
  exact ⟨A35,c36,A38,c39,(hx ([((A28,c29),([(1 : Int)],[(1 : Int),(4000 : Int),(4 : Int)])),((A31,c32),([(2 : Int)],[(1 : Int),(4000 : Int),(12 : Int)]))] : List XT)),(cx ([((A28,c29),([(1 : Int)],[(1 : Int),(4000 : Int),(4 : Int)])),((A31,c32),([(2 : Int)],[(1 : Int),(4000 : Int),(12 : Int)]))] : List XT)),rfl,(fA35.le hM40),fA38⟩
def p14 (k : Nat) : Option Bool :=
 cl3 (p51 k ) fun v1 v2 v3 => cl5 (p28 k v1 v2 v3 ([(0 : Int),(4000 : Int),(0 : Int),(0 : Int),(0 : Int),(0 : Int)]) (0 : Int) (2 : Int)) fun v11 v12 v13 v14 v15 => cl3 (p51 k ) fun v21 v22 v23 => cl2 (p24 k v21 v22 v23 ([(0 : Int),(1 : Int)]) (500 : Int)) fun v34 v35 => jn (fun (b36 : Bool) => some b36) fun j37 => lt' (v15 == (0 : Int)) fun b38 => sp b38 (lt' (v35 == (0 : Int)) fun b39 => sp b39 (lt' (v13 == (24 : Int)) fun b40 => sp b40 (lt' ((v11.length : Int) == (2 : Int)) fun b41 => sp b41 (lt' ((v12.length : Int) == (1 : Int)) fun b42 => sp b42 (lt' (v34 == (1980 : Int)) fun b43 => j37 b43) (j37 false)) (j37 false)) (j37 false)) (j37 false)) (j37 false)
theorem hf14 : Try.prog.funcs[14]? = some Try.f14 := by kernel_rfl
theorem w14 (k : Nat) {M : Mem} {r} (h : p14 k = some r) :
  Fn Try.prog 14 [] M (fun x _ => x = vb r) := by
 unfold p14 at h
 refine FO [] hf14 trivial fun w => ?_
 refine SQ0 (RG ?_)
 refine SG 1 (S4 [] [] [] M) ?_
 refine EN (SQ (RG ?_))
 obtain ⟨v1,v2,v3,c_v1,h⟩ := cl3_some h
 refine TI_of (i:=0) (by kernel_rfl) (TE_callR (d:=6) (f:=51) (args:=[]) (by kernel_rfl) (by kernel_rfl) (w51 k  c_v1) ?_)
 rintro _ M10 _ hM10 _ ⟨A4,c5,A6,c7,H8,C9,rfl,fA4,fA6⟩
 refine SG 2 (S4 [(6,.agg [oI v1,oS A4 v2 c5,oS A6 v3 c7]),(7,.agg [.arr .i64 6 [(0 : Int),(4000 : Int),(0 : Int),(0 : Int),(0 : Int),(0 : Int)]])] [] [] M10) ?_
 obtain ⟨v11,v12,v13,v14,v15,c_v11,h⟩ := cl5_some h
 refine TI_of (i:=2) (by kernel_rfl) (TE_callR (d:=8) (f:=28) (args:=[rval (.agg [oI v1,oS A4 v2 c5,oS A6 v3 c7]),rval (.agg [.arr .i64 6 [(0 : Int),(4000 : Int),(0 : Int),(0 : Int),(0 : Int),(0 : Int)]]),rval (vi (0 : Int)),rval (vi (2 : Int))]) (by kernel_rfl) (by kernel_rfl) (w28 k fA4 fA6 rfl c_v11) ?_)
 rintro _ M20 _ hM20 _ ⟨A16,c17,A18,c19,rfl,fA16,fA18⟩
 refine SG 9 (S4 [(1,lO 1),(2,vi v15)] [(1,[oS A16 v11 c17,oS A18 v12 c19,oI v13,oI v14])] [] M20) ?_
 refine EN (SQ (RG ?_))
 obtain ⟨v21,v22,v23,c_v21,h⟩ := cl3_some h
 refine TI_of (i:=0) (by kernel_rfl) (TE_callR (d:=12) (f:=51) (args:=[]) (by kernel_rfl) (by kernel_rfl) (w51 k  c_v21) ?_)
 rintro _ M30 _ hM30 _ ⟨A24,c25,A26,c27,H28,C29,rfl,fA24,fA26⟩
 refine TI_of (i:=1) (by kernel_rfl) (TE_litC (d:=13) (e:=3) (sz:=1) (len:=2) (cs:=ints .i64 ([(0 : Int),(1 : Int)])) (by kernel_rfl) (by kernel_rfl) (by kernel_rfl) ?_)
 refine SG 2 (S4 [(1,lO 1),(2,vi v15),(12,.agg [oI v21,oS A24 v22 c25,oS A26 v23 c27]),(13,lV 13)] [(1,[oS A16 v11 c17,oS A18 v12 c19,oI v13,oI v14])] [(13,⟨3,1,List.length ([(0 : Int),(1 : Int)]),ints .i64 ([(0 : Int),(1 : Int)])⟩)] M30) ?_
 refine TI_turn (turn_pubV 13 (v:=⟨3,1,List.length ([(0 : Int),(1 : Int)]),ints .i64 ([(0 : Int),(1 : Int)])⟩) (by kernel_rfl)) ?_
 rintro _ ⟨A31,c32,M33,rfl,hSA31,hcA31,-,hNA31,hM33⟩
 have fA31 : SlI M33 A31 c32 .i64 ([(0 : Int),(1 : Int)]) := ⟨hSA31,hcA31⟩
 obtain ⟨v34,v35,c_v34,h⟩ := cl2_some h
 refine AC 14 (.tup [(some (.v (.int .i64 v34)),[]),(some (.v (.int .i64 v35)),[])]) (w24 k (fA24.le hM33) (fA26.le hM33) fA31 c_v34) ?_ (hx:=(by intro y hy; simp only [List.mem_cons,List.mem_nil_iff,or_false] at hy; rcases hy with rfl | rfl <;> exact trivial))
 refine SG 8 (S4 [(1,lO 1),(2,vi v15),(3,vi v34),(4,vi v35)] [(1,[oS A16 v11 c17,oS A18 v12 c19,oI v13,oI v14])] [] M33) ?_
 refine EN ?_
 obtain ⟨j37,e_j37,h⟩ := jn_some h
 refine T_cut (c1:=(sub [1,1,1,0] Bd14)) (c2:=(sub [1,1,1,1] Bd14)) (fun s' => ∃ (b36 : Bool),Sub { σ := [(0,vb b36)],H := [],V := [],M := M33,ds := [] } s' ∧ j37 b36 = some r) (by kernel_rfl) ?_ ?_
 ·refine RG ?_
  obtain ⟨b38,e_b38,h⟩ := lt_some h
  refine SG 3 (S4 [(1,lO 1),(3,vi v34),(4,vi v35),(19,vb b38)] [(1,[oS A16 v11 c17,oS A18 v12 c19,oI v13,oI v14])] [] M33) ?_ (by subst e_b38;kernel_rfl)
  cases b38 with
  | true =>
   replace h := sp_t h
   obtain ⟨b39,e_b39,h⟩ := lt_some h
   refine SS 7 [(1,lO 1),(3,vi v34),(23,vb b39)] ?_ (by subst e_b39;kernel_rfl)
   cases b39 with
   | true =>
    replace h := sp_t h
    obtain ⟨b40,e_b40,h⟩ := lt_some h
    refine SS 12 [(1,lO 1),(3,vi v34),(28,vb b40)] ?_ (by subst e_b40;kernel_rfl)
    cases b40 with
    | true =>
     replace h := sp_t h
     obtain ⟨b41,e_b41,h⟩ := lt_some h
     refine SS 18 [(1,lO 1),(3,vi v34),(34,vb b41)] ?_ (by subst e_b41;kernel_rfl)
     cases b41 with
     | true =>
      replace h := sp_t h
      obtain ⟨b42,e_b42,h⟩ := lt_some h
      refine SH 24 [(3,vi v34),(40,vb b42)] [] ?_ (by subst e_b42;kernel_rfl)
      cases b42 with
      | true =>
       replace h := sp_t h
       obtain ⟨b43,e_b43,h⟩ := lt_some h
       refine SS 28 [(0,vb b43)] ?_ (by subst e_b43;kernel_rfl)
       refine EN ?_
       exact ⟨b43,keep_sub (ts:=[0]) (hs:=[]) (vs:=[]) (by kernel_rfl),h⟩
      | false =>
       replace h := sp_f h
       refine SS 28 [(0,vb false)] ?_
       refine EN ?_
       exact ⟨false,keep_sub (ts:=[0]) (hs:=[]) (vs:=[]) (by kernel_rfl),h⟩
     | false =>
      replace h := sp_f h
      refine SH 28 [(0,vb false)] [] ?_
      refine EN ?_
      exact ⟨false,keep_sub (ts:=[0]) (hs:=[]) (vs:=[]) (by kernel_rfl),h⟩
    | false =>
     replace h := sp_f h
     refine SH 28 [(0,vb false)] [] ?_
     refine EN ?_
     exact ⟨false,keep_sub (ts:=[0]) (hs:=[]) (vs:=[]) (by kernel_rfl),h⟩
   | false =>
    replace h := sp_f h
    refine SH 28 [(0,vb false)] [] ?_
    refine EN ?_
    exact ⟨false,keep_sub (ts:=[0]) (hs:=[]) (vs:=[]) (by kernel_rfl),h⟩
  | false =>
   replace h := sp_f h
   refine SH 28 [(0,vb false)] [] ?_
   refine EN ?_
   exact ⟨false,keep_sub (ts:=[0]) (hs:=[]) (vs:=[]) (by kernel_rfl),h⟩
 ·rintro s' ⟨b36,hsub,h⟩
  subst e_j37
  refine T_sub hsub ?_
  refine RT ?_
  obtain rfl := sj h
  exact FT (vb b36) rfl
end Go.Proofs.Ythniebmammmacaa
namespace Go.Proofs.Ythniebmammmacaa
open Go.RowKit
end Go.Proofs.Ythniebmammmacaa
namespace Go.Proofs.Ythniebmammmacaa
open Go.RowKit
def p27_l1 (k : Nat) (u0_0 : Int) (u0_1 : List (List Int)) (u0_2 : List WT) (u1 : Int) (u2 : Int) (u3 : List Int) (u4 : Int) (self : Int → (List (List Int)) → (List WT) → Int → Int → (List Int) → Int → (List Bool) → Option (List WT)) (j21 : List WT → Option (List WT)) (L14 : List Bool) : Nat → Int → List WT → Option (List WT)
 | 0,_,_ => none
 | n26 + 1,x22,L23 => jn (fun (b27 : Bool) => sp b27 (jn (fun (L31 : List WT) => lt' (wr .i64 (x22 + (1 : Int))) fun x62 => p27_l1 k u0_0 u0_1 u0_2 u1 u2 u3 u4 self j21 L14 n26 x62 L31) fun j34 => jn (fun (b35 : Bool) => sp b35 (lt' (wr .i64 (u2 - (L23.length : Int))) fun x44 => gd ((List.length ([] : List Int) + List.length u3) * 8 ≤ 140737488355328) <| lt' (([] : List Int) ++ u3) fun W46 => gd ((W46.length + List.length ([x22])) * 8 ≤ 140737488355328) <| lt' (W46 ++ ([x22])) fun W48 => gd ((0 : Int) ≤ x22 ∧ x22 < (u0_1.length : Int)) <| lt' (List.getD (List.getD u0_1 ((x22).toNat) []) 1 0) fun x53 => cl (self u0_0 u0_1 u0_2 u1 x44 W48 x53 L14) fun v54 => gd ((L23.length + List.length v54) * 24 ≤ 140737488355328) <| lt' (L23 ++ v54) fun W61 => j34 W61) (j34 L23)) fun j36 => gd ((0 : Int) ≤ x22 ∧ x22 < (u0_1.length : Int)) <| lt' (List.getD (List.getD u0_1 ((x22).toNat) []) 0 0) fun x38 => lt' (x38 == u4) fun b39 => sp b39 (gd ((0 : Int) ≤ x22 ∧ x22 < (u0_1.length : Int)) <| lt' (List.getD (List.getD u0_1 ((x22).toNat) []) 1 0) fun x41 => gd ((0 : Int) ≤ x41 ∧ x41 < (L14.length : Int)) <| lt' (List.getD L14 ((x41).toNat) false) fun b43 => j36 (!b43)) (j36 false)) (j21 L23)) fun j28 => lt' (decide (x22 < (u0_1.length : Int))) fun b29 => sp b29 (lt' (decide ((L23.length : Int) < u2)) fun b30 => j28 b30) (j28 false)
def p27 : Nat → Int → (List (List Int)) → (List WT) → Int → Int → (List Int) → Int → (List Bool) → Option (List WT)
 | 0,_,_,_,_,_,_,_,_ => none
 | k + 1,u0_0,u0_1,u0_2,u1,u2,u3,u4,u5 => lt' (p27 k) fun self => lt' (u4 == u1) fun b5 => sp b5 (some ([(u3,[])] : List WT)) (gd ((List.length ([] : List Bool) + List.length u5) * 1 ≤ 140737488355328) <| lt' (([] : List Bool) ++ u5) fun W12 => gd ((0 : Int) ≤ u4 ∧ u4 < (W12.length : Int)) <| lt' (List.set W12 ((u4).toNat) true) fun L14 => jn (fun (L18 : List WT) => some L18) fun j21 => p27_l1 k u0_0 u0_1 u0_2 u1 u2 u3 u4 self j21 L14 k (0 : Int) ([] : List WT))
theorem hf27 : Try.prog.funcs[27]? = some Try.f27 := by kernel_rfl
theorem w27 (k : Nat)  : ∀ {M : Mem} {Au0_1 : Option Addr} {cu0_1 : Nat} {Au0_2 : Option Addr} {cu0_2 : Nat} {Hu0_2 : Nat → Option Addr} {Cu0_2 : Nat → Nat} {Au3 : Option Addr} {cu3 : Nat} {Au5 : Option Addr} {cu5 : Nat} {u0_0 : Int} {u0_1 : List (List Int)} {u0_2 : List WT} {u1 : Int} {u2 : Int} {u3 : List Int} {u4 : Int} {u5 : List Bool} (hu0_1 : SlR M Au0_1 cu0_1 .i64 12 u0_1) (hu0_2 : SlW M 3 Au0_2 cu0_2 Hu0_2 Cu0_2 u0_2) (hu3 : SlI M Au3 cu3 .i64 u3) (hu5 : SlB M Au5 cu5 u5) {r} (h : p27 k u0_0 u0_1 u0_2 u1 u2 u3 u4 u5 = some r),
  Fn Try.prog 27 [rval (.agg [oI u0_0,oS Au0_1 u0_1 cu0_1,oS Au0_2 u0_2 cu0_2]),rval (vi u1),rval (vi u2),rval (lS Au3 u3 cu3),rval (vi u4),rval (lS Au5 u5 cu5)] M (fun x M' => ∃ (A1 : Option Addr) (c2 : Nat) (H3 : Nat → Option Addr) (C4 : Nat → Nat),x = lS A1 r c2 ∧ SlW M' 0 A1 c2 H3 C4 r) := by
 induction k with
 | zero => intros;rename_i h;cases h
 | succ k ih =>
 intro M Au0_1 cu0_1 Au0_2 cu0_2 Hu0_2 Cu0_2 Au3 cu3 Au5 cu5 u0_0 u0_1 u0_2 u1 u2 u3 u4 u5 hu0_1 hu0_2 hu3 hu5 r h
 rw [p27] at h
 obtain ⟨self,e_self,h⟩ := lt_some h
 refine FO [.agg [oI u0_0,oS Au0_1 u0_1 cu0_1,oS Au0_2 u0_2 cu0_2],vi u1,vi u2,lS Au3 u3 cu3,vi u4,lS Au5 u5 cu5] hf27 ⟨⟨rfl,⟨rfl,⟨rfl,trivial⟩⟩⟩,⟨trivial,⟨trivial,⟨trivial,⟨trivial,⟨trivial,trivial⟩⟩⟩⟩⟩⟩ fun w => ?_
 refine SQ0 (RG ?_)
 refine SG 2 (S4 [(1,vi u1),(2,vi u2),(3,lS Au3 u3 cu3),(4,vi u4),(5,lS Au5 u5 cu5),(6,lO 6)] [(6,[oI u0_0,oS Au0_1 u0_1 cu0_1,oS Au0_2 u0_2 cu0_2])] [] M) ?_
 refine EN (SQ (SQ (RG ?_)))
 obtain ⟨b5,e_b5,h⟩ := lt_some h
 refine SS 3 [(1,vi u1),(2,vi u2),(3,lS Au3 u3 cu3),(4,vi u4),(5,lS Au5 u5 cu5),(6,lO 6),(18,vb b5)] ?_ (by subst e_b5;kernel_rfl)
 refine EN ?_
 cases b5 with
 | true =>
  replace h := sp_t h
  refine CT ?_
  refine KP [(3,lS Au3 u3 cu3)] [] [] ?_
  refine SQ (RG ?_)
  refine SS 1 [(19,lS Au3 u3 cu3)] ?_
  refine TI_of (i:=1) (by kernel_rfl) (TE_litC (d:=20) (e:=27) (sz:=1) (len:=1) (cs:=xC ([((Au3,cu3),(u3,[]))] : List XT)) (by kernel_rfl) (by kernel_rfl) (by kernel_rfl) ?_)
  have fx20_q6 : XOK M 0 ([((Au3,cu3),(u3,[]))] : List XT) ([(u3,[])] : List WT) := (XOK.cons hu3 rfl (XOK.nil _ _))
  refine SG 3 (S4 [(12,lV 20)] [] [(20,⟨27,1,List.length ([(u3,[])] : List WT),xC ([((Au3,cu3),(u3,[]))] : List XT)⟩)] M) ?_
  refine EN ?_
  refine T_turn (turn_pubV 20 (v:=⟨27,1,List.length ([(u3,[])] : List WT),xC ([((Au3,cu3),(u3,[]))] : List XT)⟩) (by kernel_rfl)) ?_
  rintro _ ⟨A7,c8,M9,rfl,hSA7,hcA7,-,hNA7,hM9⟩
  have fA7 : SlW M9 0 A7 c8 (hx ([((Au3,cu3),(u3,[]))] : List XT)) (cx ([((Au3,cu3),(u3,[]))] : List XT)) ([(u3,[])] : List WT) := XOK.slW (fx20_q6.le hM9) hSA7 hcA7
  refine KG (S4 [(12,lS A7 ([(u3,[])] : List WT) c8)] [] [] M9) ?_
  refine RT (thenQ_r ?_)
  obtain rfl := sj h
  refine FT (lS A7 ([(u3,[])] : List WT) c8) ?_
  exact ⟨A7,c8,(hx ([((Au3,cu3),(u3,[]))] : List XT)),(cx ([((Au3,cu3),(u3,[]))] : List XT)),rfl,fA7⟩
 | false =>
  replace h := sp_f h
  refine CF ?_
  refine KS [(1,vi u1),(2,vi u2),(3,lS Au3 u3 cu3),(4,vi u4),(5,lS Au5 u5 cu5),(6,lO 6)] ?_
  refine SN (SQ (RG ?_))
  refine SS 1 [(1,vi u1),(2,vi u2),(3,lS Au3 u3 cu3),(4,vi u4),(5,lS Au5 u5 cu5),(6,lO 6),(13,lS none ([] : List WT) 0)] ?_
  refine EN ?_
  refine T_turn (turn_nil 5010 27 1 [(1,vi u1),(2,vi u2),(3,lS Au3 u3 cu3),(4,vi u4),(5,lS Au5 u5 cu5),(6,lO 6),(13,lV 5010)] [(6,[oI u0_0,oS Au0_1 u0_1 cu0_1,oS Au0_2 u0_2 cu0_2])] (by kernel_rfl) (by kernel_rfl) (by kernel_rfl)) ?_
  rintro _ rfl
  refine KG (S4 [(1,vi u1),(2,vi u2),(3,lS Au3 u3 cu3),(4,vi u4),(5,lS Au5 u5 cu5),(6,lO 6),(13,lV 5010)] [(6,[oI u0_0,oS Au0_1 u0_1 cu0_1,oS Au0_2 u0_2 cu0_2])] [(5010,⟨27,1,List.length ([] : List WT),xC ([] : List XT)⟩)] M) ?_
  refine SQ (RG ?_)
  refine TI_of (i:=0) (by kernel_rfl) (TE_litC (d:=21) (e:=4) (sz:=1) (len:=0) (cs:=bools ([] : List Bool)) (by kernel_rfl) (by kernel_rfl) (by kernel_rfl) ?_)
  refine SG 2 (S4 [(1,vi u1),(2,vi u2),(3,lS Au3 u3 cu3),(4,vi u4),(6,lO 6),(13,lV 5010),(21,lV 21),(22,lS Au5 u5 cu5)] [(6,[oI u0_0,oS Au0_1 u0_1 cu0_1,oS Au0_2 u0_2 cu0_2])] [(21,⟨4,1,List.length ([] : List Bool),bools ([] : List Bool)⟩),(5010,⟨27,1,List.length ([] : List WT),xC ([] : List XT)⟩)] M) ?_
  obtain ⟨g11,h⟩ := gd_some h
  obtain ⟨W12,e_W12,h⟩ := lt_some h
  refine TI_of (i:=2) (by kernel_rfl) (TE_appC (d:=23) (e:=4) (sz:=1) (bytes:=1) (n:=21) (x:=(.tmp 22)) (len:=List.length ([] : List Bool)) (cs0:=bools ([] : List Bool)) (cs2:=bools W12) (by subst e_W12;kernel_rfl) (by kernel_rfl) (by subst e_W12;kernel_rfl) (SlB.src (by subst e_W12;kernel_rfl) hu5) g11 rfl (len_app_eq e_W12) (bools_app_eq e_W12) ?_)
  refine SG 4 (S4 [(1,vi u1),(2,vi u2),(3,lS Au3 u3 cu3),(4,vi u4),(6,lO 6),(13,lV 5010),(14,lV 23)] [(6,[oI u0_0,oS Au0_1 u0_1 cu0_1,oS Au0_2 u0_2 cu0_2])] [(23,⟨4,1,List.length W12,bools W12⟩),(5010,⟨27,1,List.length ([] : List WT),xC ([] : List XT)⟩)] M) ?_
  refine EN (SQ (RG ?_))
  refine SS 2 [(1,vi u1),(2,vi u2),(3,lS Au3 u3 cu3),(4,vi u4),(6,lO 6),(13,lV 5010),(14,lV 23),(24,lV 23),(25,vi u4)] ?_
  obtain ⟨g13,h⟩ := gd_some h
  refine AT 26 (.lf (.vel 23 1 ((u4).toNat) 0)) (At_idxV (z:=u4) (n:=23) (sz:=1) (v:=⟨4,1,List.length W12,bools W12⟩) (by kernel_rfl) (by kernel_rfl) g13) ?_
  obtain ⟨L14,e_L14,h⟩ := lt_some h
  refine TI_of (i:=3) (by kernel_rfl) (TE_stC (len2:=List.length L14) (m:=1) (n:=23) (sz:=1) (j:=(u4).toNat) (q:=0) (e:=4) (len:=List.length W12) (c:=[.one (.v (.bool true))]) (cs0:=bools W12) (cs2:=bools L14) (by subst e_L14; kernel_rfl) (by kernel_rfl) (by subst e_L14; kernel_rfl) (vle (toNat_lt g13)) (by kernel_rfl) (by rw [e_L14]; exact set1_bools (toNat_lt g13)) (by rw [e_L14,List.length_set]) ?_)
  refine SG 4 (S4 [(1,vi u1),(2,vi u2),(3,lS Au3 u3 cu3),(4,vi u4),(6,lO 6),(13,lV 5010),(14,lV 23)] [(6,[oI u0_0,oS Au0_1 u0_1 cu0_1,oS Au0_2 u0_2 cu0_2])] [(23,⟨4,1,List.length L14,bools L14⟩),(5010,⟨27,1,List.length ([] : List WT),xC ([] : List XT)⟩)] M) ?_
  refine EN ?_
  refine T_turn (turn_pubV 23 (v:=⟨4,1,List.length L14,bools L14⟩) (by kernel_rfl)) ?_
  rintro _ ⟨A15,c16,M17,rfl,hSA15,hcA15,-,hNA15,hM17⟩
  have fA15 : SlB M17 A15 c16 L14 := ⟨hSA15,hcA15⟩
  refine KG (S4 [(1,vi u1),(2,vi u2),(3,lS Au3 u3 cu3),(4,vi u4),(6,lO 6),(13,lV 5010),(14,lS A15 L14 c16)] [(6,[oI u0_0,oS Au0_1 u0_1 cu0_1,oS Au0_2 u0_2 cu0_2])] [(5010,⟨27,1,List.length ([] : List WT),xC ([] : List XT)⟩)] M17) ?_
  refine SQ (SQ (RG ?_))
  refine SS 1 [(1,vi u1),(2,vi u2),(3,lS Au3 u3 cu3),(4,vi u4),(6,lO 6),(13,lV 5010),(14,lS A15 L14 c16),(15,vi (0 : Int))] ?_
  refine EN ?_
  obtain ⟨j21,e_j21,h⟩ := jn_some h
  refine T_bcut (id:=0) (c1:=(sub [1,1,1,1,1,0,1,0] Bd27)) (fun s' => ∃ (L18 : List WT) (X19 : List XT) (M20 : Mem),Sub { σ := [(13,lV 5010)],H := [],V := [(5010,⟨27,1,List.length L18,xC X19⟩)],M := M20,ds := [] } s' ∧ Mem.le M17 M20 ∧ XOK M20 0 X19 L18 ∧ j21 L18 = some r) (by kernel_rfl) ?_ ?_
  ·refine T_loop (c1:=(sub [1,1,1,1,1,0,1,0,0] Bd27)) (by kernel_rfl) (fun n26 s' => ∃ (x22 : Int) (L23 : List WT) (X24 : List XT) (M25 : Mem),Sub { σ := [(1,vi u1),(2,vi u2),(3,lS Au3 u3 cu3),(4,vi u4),(6,lO 6),(13,lV 5010),(14,lS A15 L14 c16),(15,vi x22)],H := [(6,[oI u0_0,oS Au0_1 u0_1 cu0_1,oS Au0_2 u0_2 cu0_2])],V := [(5010,⟨27,1,List.length L23,xC X24⟩)],M := M25,ds := [] } s' ∧ Mem.le M17 M25 ∧ XOK M25 0 X24 L23 ∧ p27_l1 k u0_0 u0_1 u0_2 u1 u2 u3 u4 self j21 L14 n26 x22 L23 = some r) (k:=k) ⟨(0 : Int),([] : List WT),([] : List XT),M17,keep_sub (ts:=[1,2,3,4,6,13,14,15]) (hs:=[6]) (vs:=[5010]) (by kernel_rfl),(Mem.le_refl _),((XOK.nil _ _).le hM17),h⟩ ?_
   rintro n26 s' ⟨x22,L23,X24,M25,hsub,hM25,f_X24,h⟩
   cases n26 with
   | zero => rw [p27_l1] at h;cases h
   | succ n26 =>
    rw [p27_l1] at h
    refine T_sub hsub ?_
    refine SQ ?_
    obtain ⟨j28,e_j28,h⟩ := jn_some h
    refine T_cut (c1:=(sub [1,1,1,1,1,0,1,0,0,0,0] Bd27)) (c2:=(sub [1,1,1,1,1,0,1,0,0,0,1] Bd27)) (fun s' => ∃ (b27 : Bool),Sub { σ := [(1,vi u1),(2,vi u2),(3,lS Au3 u3 cu3),(4,vi u4),(6,lO 6),(13,lV 5010),(14,lS A15 L14 c16),(15,vi x22),(37,vb b27)],H := [(6,[oI u0_0,oS Au0_1 u0_1 cu0_1,oS Au0_2 u0_2 cu0_2])],V := [(5010,⟨27,1,List.length L23,xC X24⟩)],M := M25,ds := [] } s' ∧ j28 b27 = some r) (by kernel_rfl) ?_ ?_
    ·refine RG ?_
     obtain ⟨b29,e_b29,h⟩ := lt_some h
     refine SG 6 (S4 [(1,vi u1),(2,vi u2),(3,lS Au3 u3 cu3),(4,vi u4),(6,lO 6),(13,lV 5010),(14,lS A15 L14 c16),(15,vi x22),(32,vb b29)] [(6,[oI u0_0,oS Au0_1 u0_1 cu0_1,oS Au0_2 u0_2 cu0_2])] [(5010,⟨27,1,List.length L23,xC X24⟩)] M25) ?_ (by subst e_b29;kernel_rfl)
     cases b29 with
     | true =>
      replace h := sp_t h
      obtain ⟨b30,e_b30,h⟩ := lt_some h
      refine SS 11 [(1,vi u1),(2,vi u2),(3,lS Au3 u3 cu3),(4,vi u4),(6,lO 6),(13,lV 5010),(14,lS A15 L14 c16),(15,vi x22),(37,vb b30)] ?_ (by subst e_b30;kernel_rfl)
      refine EN ?_
      exact ⟨b30,keep_sub (ts:=[1,2,3,4,6,13,14,15,37]) (hs:=[6]) (vs:=[5010]) (by kernel_rfl),h⟩
     | false =>
      replace h := sp_f h
      refine SS 11 [(1,vi u1),(2,vi u2),(3,lS Au3 u3 cu3),(4,vi u4),(6,lO 6),(13,lV 5010),(14,lS A15 L14 c16),(15,vi x22),(37,vb false)] ?_
      refine EN ?_
      exact ⟨false,keep_sub (ts:=[1,2,3,4,6,13,14,15,37]) (hs:=[6]) (vs:=[5010]) (by kernel_rfl),h⟩
    ·rintro s' ⟨b27,hsub,h⟩
     subst e_j28
     refine T_sub hsub ?_
     cases b27 with
     | true =>
      replace h := sp_t h
      refine CT ?_
      refine KG (S4 [(1,vi u1),(2,vi u2),(3,lS Au3 u3 cu3),(4,vi u4),(6,lO 6),(13,lV 5010),(14,lS A15 L14 c16),(15,vi x22)] [(6,[oI u0_0,oS Au0_1 u0_1 cu0_1,oS Au0_2 u0_2 cu0_2])] [(5010,⟨27,1,List.length L23,xC X24⟩)] M25) ?_
      refine SN ?_
      obtain ⟨j34,e_j34,h⟩ := jn_some h
      refine T_cut (c1:=(sub [1,1,1,1,1,0,1,0,0,1,0] Bd27)) (c2:=(sub [1,1,1,1,1,0,1,0,0,1,1] Bd27)) (fun s' => ∃ (L31 : List WT) (X32 : List XT) (M33 : Mem),Sub { σ := [(1,vi u1),(2,vi u2),(3,lS Au3 u3 cu3),(4,vi u4),(6,lO 6),(13,lV 81),(14,lS A15 L14 c16),(15,vi x22)],H := [(6,[oI u0_0,oS Au0_1 u0_1 cu0_1,oS Au0_2 u0_2 cu0_2])],V := [(81,⟨27,1,List.length L31,xC X32⟩)],M := M33,ds := [] } s' ∧ Mem.le M25 M33 ∧ XOK M33 0 X32 L31 ∧ j34 L31 = some r) (by kernel_rfl) ?_ ?_
      ·refine BK 1 ?_
       obtain ⟨j36,e_j36,h⟩ := jn_some h
       refine T_cut (c1:=(sub [1,1,1,1,1,0,1,0,0,1,0,0,0] Bd27)) (c2:=(sub [1,1,1,1,1,0,1,0,0,1,0,0,1] Bd27)) (fun s' => ∃ (b35 : Bool),Sub { σ := [(1,vi u1),(2,vi u2),(3,lS Au3 u3 cu3),(4,vi u4),(6,lO 6),(13,lV 5010),(14,lS A15 L14 c16),(15,vi x22),(59,vb b35)],H := [(6,[oI u0_0,oS Au0_1 u0_1 cu0_1,oS Au0_2 u0_2 cu0_2])],V := [(5010,⟨27,1,List.length L23,xC X24⟩)],M := M25,ds := [] } s' ∧ j36 b35 = some r) (by kernel_rfl) ?_ ?_
       ·refine RG ?_
        refine SG 3 (S4 [(1,vi u1),(2,vi u2),(3,lS Au3 u3 cu3),(4,vi u4),(6,lO 6),(13,lV 5010),(14,lS A15 L14 c16),(15,vi x22),(41,lS Au0_1 u0_1 cu0_1),(42,vi x22)] [(6,[oI u0_0,oS Au0_1 u0_1 cu0_1,oS Au0_2 u0_2 cu0_2])] [(5010,⟨27,1,List.length L23,xC X24⟩)] M25) ?_
        obtain ⟨g37,h⟩ := gd_some h
        refine AT 43 (.lf (.ep (.slice Au0_1 (u0_1.length) cu0_1) 12 ((x22).toNat) 0)) (At_idxR (z:=x22) (by kernel_rfl) g37 ((hu0_1.le hM17).le hM25)) ?_
        refine SH 5 [(1,vi u1),(2,vi u2),(3,lS Au3 u3 cu3),(4,vi u4),(6,lO 6),(13,lV 5010),(14,lS A15 L14 c16),(15,vi x22),(44,.lf (.ep (.slice Au0_1 (u0_1.length) cu0_1) 12 ((x22).toNat) 0))] [(6,[oI u0_0,oS Au0_1 u0_1 cu0_1,oS Au0_2 u0_2 cu0_2])] ?_
        obtain ⟨x38,e_x38,h⟩ := lt_some h
        refine AT 45 (vi x38) (by rw [e_x38]; exact At_ldR1 (q:=(x22).toNat) (j:=0) (by subst e_x38; kernel_rfl) rfl (toNat_lt g37) ((hu0_1.le hM17).le hM25)) ?_
        obtain ⟨b39,e_b39,h⟩ := lt_some h
        refine SH 9 [(1,vi u1),(2,vi u2),(3,lS Au3 u3 cu3),(4,vi u4),(6,lO 6),(13,lV 5010),(14,lS A15 L14 c16),(15,vi x22),(48,vb b39)] [(6,[oI u0_0,oS Au0_1 u0_1 cu0_1,oS Au0_2 u0_2 cu0_2])] ?_ (by subst e_b39;kernel_rfl)
        cases b39 with
        | true =>
         replace h := sp_t h
         refine SS 13 [(1,vi u1),(2,vi u2),(3,lS Au3 u3 cu3),(4,vi u4),(6,lO 6),(13,lV 5010),(14,lS A15 L14 c16),(15,vi x22),(48,vb true),(49,lS A15 L14 c16),(51,lS Au0_1 u0_1 cu0_1),(52,vi x22)] ?_
         obtain ⟨g40,h⟩ := gd_some h
         refine AT 53 (.lf (.ep (.slice Au0_1 (u0_1.length) cu0_1) 12 ((x22).toNat) 0)) (At_idxR (z:=x22) (by kernel_rfl) g40 ((hu0_1.le hM17).le hM25)) ?_
         refine SH 15 [(1,vi u1),(2,vi u2),(3,lS Au3 u3 cu3),(4,vi u4),(6,lO 6),(13,lV 5010),(14,lS A15 L14 c16),(15,vi x22),(48,vb true),(49,lS A15 L14 c16),(54,.lf (.ep (.slice Au0_1 (u0_1.length) cu0_1) 12 ((x22).toNat) 1))] [(6,[oI u0_0,oS Au0_1 u0_1 cu0_1,oS Au0_2 u0_2 cu0_2])] ?_
         obtain ⟨x41,e_x41,h⟩ := lt_some h
         refine AT 55 (vi x41) (by rw [e_x41]; exact At_ldR1 (q:=(x22).toNat) (j:=1) (by subst e_x41; kernel_rfl) rfl (toNat_lt g40) ((hu0_1.le hM17).le hM25)) ?_
         obtain ⟨g42,h⟩ := gd_some h
         refine AT 56 (.lf (.ep (.slice A15 (L14.length) c16) 1 ((x41).toNat) 0)) (At_idxB (z:=x41) (by kernel_rfl) g42 (fA15.le hM25)) ?_
         obtain ⟨b43,e_b43,h⟩ := lt_some h
         refine AT 57 (vb b43) (by rw [e_b43]; exact At_ldB (q:=(x41).toNat) (by subst e_b43; kernel_rfl) (toNat_lt g42) (fA15.le hM25)) ?_
         refine SH 20 [(1,vi u1),(2,vi u2),(3,lS Au3 u3 cu3),(4,vi u4),(6,lO 6),(13,lV 5010),(14,lS A15 L14 c16),(15,vi x22),(59,vb (!b43))] [(6,[oI u0_0,oS Au0_1 u0_1 cu0_1,oS Au0_2 u0_2 cu0_2])] ?_
         refine EN ?_
         exact ⟨(!b43),keep_sub (ts:=[1,2,3,4,6,13,14,15,59]) (hs:=[6]) (vs:=[5010]) (by kernel_rfl),h⟩
        | false =>
         replace h := sp_f h
         refine SS 20 [(1,vi u1),(2,vi u2),(3,lS Au3 u3 cu3),(4,vi u4),(6,lO 6),(13,lV 5010),(14,lS A15 L14 c16),(15,vi x22),(59,vb false)] ?_
         refine EN ?_
         exact ⟨false,keep_sub (ts:=[1,2,3,4,6,13,14,15,59]) (hs:=[6]) (vs:=[5010]) (by kernel_rfl),h⟩
       ·rintro s' ⟨b35,hsub,h⟩
        subst e_j36
        refine T_sub hsub ?_
        cases b35 with
        | true =>
         replace h := sp_t h
         refine CT ?_
         refine KG (S4 [(1,vi u1),(2,vi u2),(3,lS Au3 u3 cu3),(4,vi u4),(6,lO 6),(13,lV 5010),(14,lS A15 L14 c16),(15,vi x22)] [(6,[oI u0_0,oS Au0_1 u0_1 cu0_1,oS Au0_2 u0_2 cu0_2])] [(5010,⟨27,1,List.length L23,xC X24⟩)] M25) ?_
         obtain ⟨x44,e_x44,h⟩ := lt_some h
         obtain ⟨g45,h⟩ := gd_some h
         obtain ⟨W46,e_W46,h⟩ := lt_some h
         obtain ⟨g47,h⟩ := gd_some h
         obtain ⟨W48,e_W48,h⟩ := lt_some h
         obtain ⟨g52,h⟩ := gd_some h
         obtain ⟨x53,e_x53,h⟩ := lt_some h
         obtain ⟨v54,c_v54,h⟩ := cl_some h
         obtain ⟨g60,h⟩ := gd_some h
         obtain ⟨W61,e_W61,h⟩ := lt_some h
         refine T_drawT (id:=10) 7 [7,9,11,12,20,21,22] [[],[],[],[],[],[],[],[],[],[],[],[],[],[],[],[],[],[],[],[],[],[],[]] (by kernel_rfl) (by kernel_rfl) (by kernel_rfl) (by kernel_rfl) [(60,lV 5010),(61,.agg [oI u0_0,oS Au0_1 u0_1 cu0_1,oS Au0_2 u0_2 cu0_2]),(62,vi u1),(63,vi u2),(64,lV 5010),(65,vi (L23.length : Int)),(66,vi x44),(68,lS Au3 u3 cu3),(70,vi x22),(73,.lf (.own 6 1)),(74,lS Au0_1 u0_1 cu0_1),(75,vi x22),(76,.lf (.ep (.slice Au0_1 (u0_1.length) cu0_1) 12 ((x22).toNat) 0)),(77,.lf (.ep (.slice Au0_1 (u0_1.length) cu0_1) 12 ((x22).toNat) 1)),(78,vi x53),(79,lS A15 L14 c16)] (by kernel_rfl) ⟨trivial,⟨⟨rfl,⟨rfl,⟨rfl,trivial⟩⟩⟩,⟨trivial,⟨trivial,⟨trivial,⟨trivial,⟨trivial,⟨trivial,⟨trivial,⟨trivial,⟨trivial,⟨trivial,⟨trivial,⟨trivial,⟨trivial,⟨trivial,trivial⟩⟩⟩⟩⟩⟩⟩⟩⟩⟩⟩⟩⟩⟩⟩⟩ ?_
         refine StageT_cons [7,11] (stageT_all [0,1,2,3,4,5,6,8,10,13,14,15,17,19] [16,18] (by kernel_rfl) (by subst_vars; kernel_rfl) (by kernel_rfl) ⟨QF_at (i:=16) (d:=76) (x:=.lf (.ep (.slice Au0_1 (u0_1.length) cu0_1) 12 ((x22).toNat) 0)) (show OpAt _ _ _ 16 76 _ from by exact At_idxR (d:=76) (z:=x22) (by subst_vars; kernel_rfl) g52 ((hu0_1.le hM17).le hM25)) (by kernel_rfl) (by subst_vars; kernel_rfl),⟨QF_at (i:=18) (d:=78) (x:=vi x53) (show OpAt _ _ _ 18 78 _ from by rw [e_x53]; exact At_ldR1 (d:=78) (q:=(x22).toNat) (j:=1) (by subst_vars; kernel_rfl) rfl (toNat_lt g52) ((hu0_1.le hM17).le hM25)) (by kernel_rfl) (by subst_vars; kernel_rfl),trivial⟩⟩) (by kernel_rfl) (by kernel_rfl) ⟨?_,?_,trivial⟩
         ·refine TE_litC (d:=67) (e:=3) (sz:=1) (len:=0) (cs:=ints .i64 ([] : List Int)) (by subst_vars;kernel_rfl) (by kernel_rfl) (by kernel_rfl) ?_
          refine TL_nil (stageTQ_of [] (by kernel_rfl) trivial ?_)
          refine StageT_cons [9,11] (stageT_all [0,1,2,3,4,5,6,8,10,13,14,15,17,19] [16,18] (by kernel_rfl) (by subst_vars; kernel_rfl) (by kernel_rfl) ⟨QF_at (i:=16) (d:=76) (x:=.lf (.ep (.slice Au0_1 (u0_1.length) cu0_1) 12 ((x22).toNat) 0)) (show OpAt _ _ _ 16 76 _ from by exact At_idxR (d:=76) (z:=x22) (by subst_vars; kernel_rfl) g52 ((hu0_1.le hM17).le hM25)) (by kernel_rfl) (by subst_vars; kernel_rfl),⟨QF_at (i:=18) (d:=78) (x:=vi x53) (show OpAt _ _ _ 18 78 _ from by rw [e_x53]; exact At_ldR1 (d:=78) (q:=(x22).toNat) (j:=1) (by subst_vars; kernel_rfl) rfl (toNat_lt g52) ((hu0_1.le hM17).le hM25)) (by kernel_rfl) (by subst_vars; kernel_rfl),trivial⟩⟩) (by kernel_rfl) (by kernel_rfl) ⟨?_,?_,trivial⟩
          ·refine TE_appC (d:=69) (e:=3) (sz:=1) (bytes:=8) (n:=67) (x:=(.tmp 68)) (len:=List.length ([] : List Int)) (cs0:=ints .i64 ([] : List Int)) (cs2:=ints .i64 W46) (by subst_vars;kernel_rfl) (by kernel_rfl) (by subst_vars;kernel_rfl) (SlI.src (by subst_vars;kernel_rfl) ((hu3.le hM17).le hM25)) g45 rfl (len_app_eq e_W46) (ints_app_eq e_W46) ?_
           refine TL_nil (stageTQ_of [] (by kernel_rfl) trivial ?_)
           refine StageT_cons [11] (stageT_all [0,1,2,3,4,5,6,10,13,14,15,17,19] [16,18] (by kernel_rfl) (by subst_vars; kernel_rfl) (by kernel_rfl) ⟨QF_at (i:=16) (d:=76) (x:=.lf (.ep (.slice Au0_1 (u0_1.length) cu0_1) 12 ((x22).toNat) 0)) (show OpAt _ _ _ 16 76 _ from by exact At_idxR (d:=76) (z:=x22) (by subst_vars; kernel_rfl) g52 ((hu0_1.le hM17).le hM25)) (by kernel_rfl) (by subst_vars; kernel_rfl),⟨QF_at (i:=18) (d:=78) (x:=vi x53) (show OpAt _ _ _ 18 78 _ from by rw [e_x53]; exact At_ldR1 (d:=78) (q:=(x22).toNat) (j:=1) (by subst_vars; kernel_rfl) rfl (toNat_lt g52) ((hu0_1.le hM17).le hM25)) (by kernel_rfl) (by subst_vars; kernel_rfl),trivial⟩⟩) (by kernel_rfl) (by kernel_rfl) ⟨?_,trivial⟩
           ·refine TE_litC (d:=71) (e:=3) (sz:=1) (len:=1) (cs:=ints .i64 ([x22])) (by subst_vars;kernel_rfl) (by kernel_rfl) (by kernel_rfl) ?_
            refine TL_nil (stageTQ_of [] (by kernel_rfl) trivial ?_)
            refine StageT_cons [12] (stageT_all [0,1,2,3,4,5,6,13,14,15,17,19] [16,18] (by kernel_rfl) (by subst_vars; kernel_rfl) (by kernel_rfl) ⟨QF_at (i:=16) (d:=76) (x:=.lf (.ep (.slice Au0_1 (u0_1.length) cu0_1) 12 ((x22).toNat) 0)) (show OpAt _ _ _ 16 76 _ from by exact At_idxR (d:=76) (z:=x22) (by subst_vars; kernel_rfl) g52 ((hu0_1.le hM17).le hM25)) (by kernel_rfl) (by subst_vars; kernel_rfl),⟨QF_at (i:=18) (d:=78) (x:=vi x53) (show OpAt _ _ _ 18 78 _ from by rw [e_x53]; exact At_ldR1 (d:=78) (q:=(x22).toNat) (j:=1) (by subst_vars; kernel_rfl) rfl (toNat_lt g52) ((hu0_1.le hM17).le hM25)) (by kernel_rfl) (by subst_vars; kernel_rfl),trivial⟩⟩) (by kernel_rfl) (by kernel_rfl) ⟨?_,trivial⟩
            ·refine TE_appC (d:=72) (e:=3) (sz:=1) (bytes:=8) (n:=69) (x:=(.tmp 71)) (len:=List.length W46) (cs0:=ints .i64 W46) (cs2:=ints .i64 W48) (by subst_vars;kernel_rfl) (by kernel_rfl) (by subst_vars;kernel_rfl) (vecI_src (n:=71) (e:=3) (k:=.i64) (L:=[x22]) (by subst_vars;kernel_rfl) (by subst_vars;kernel_rfl)) g47 rfl (len_app_eq e_W48) (ints_app_eq e_W48) ?_
             refine TL_turn (turn_pubV 72 (v:=vI 3 1 W48) (by subst_vars;kernel_rfl)) ?_
             rintro _ ⟨A49,c50,M51,rfl,hSA49,hcA49,-,hNA49,hM51⟩
             have fA49 : SlI M51 A49 c50 .i64 W48 := ⟨hSA49,hcA49⟩
             refine TL_nil (stageTQ_of [] (by kernel_rfl) trivial ?_)
             refine StageT_cons [20] (stageT_all [0,1,2,3,4,5,6,13,14,15,17,19] [16,18] (by kernel_rfl) (by subst_vars; kernel_rfl) (by kernel_rfl) ⟨QF_at (i:=16) (d:=76) (x:=.lf (.ep (.slice Au0_1 (u0_1.length) cu0_1) 12 ((x22).toNat) 0)) (show OpAt _ _ _ 16 76 _ from by exact At_idxR (d:=76) (z:=x22) (by subst_vars; kernel_rfl) g52 (((hu0_1.le hM17).le hM25).le hM51)) (by kernel_rfl) (by subst_vars; kernel_rfl),⟨QF_at (i:=18) (d:=78) (x:=vi x53) (show OpAt _ _ _ 18 78 _ from by rw [e_x53]; exact At_ldR1 (d:=78) (q:=(x22).toNat) (j:=1) (by subst_vars; kernel_rfl) rfl (toNat_lt g52) (((hu0_1.le hM17).le hM25).le hM51)) (by kernel_rfl) (by subst_vars; kernel_rfl),trivial⟩⟩) (by kernel_rfl) (by kernel_rfl) ⟨?_,trivial⟩
             ·refine TE_callR (d:=80) (f:=27) (args:=[rval (.agg [oI u0_0,oS Au0_1 u0_1 cu0_1,oS Au0_2 u0_2 cu0_2]),rval (vi u1),rval (vi x44),rval (lS A49 W48 c50),rval (vi x53),rval (lS A15 L14 c16)]) (by subst_vars; kernel_rfl) (by subst_vars; kernel_rfl) (ih (((hu0_1.le hM17).le hM25).le hM51) (((hu0_2.le hM17).le hM25).le hM51) fA49 ((fA15.le hM25).le hM51) (show p27 k u0_0 u0_1 u0_2 u1 x44 W48 x53 L14 = _ from by rw [← e_self]; exact c_v54)) ?_
              rintro _ M59 _ hM59 _ ⟨A55,c56,H57,C58,rfl,fA55⟩
              refine TL_nil (stageTQ_of [] (by kernel_rfl) trivial ?_)
              refine StageT_cons [21] (stageT_all [0] [] (by kernel_rfl) (by subst_vars;kernel_rfl) (by kernel_rfl) trivial) (by kernel_rfl) (by kernel_rfl) ⟨?_,trivial⟩
              ·refine TE_appC (d:=81) (e:=27) (sz:=1) (bytes:=24) (n:=5010) (x:=(.tmp 80)) (len:=List.length L23) (cs0:=xC X24) (cs2:=xC (X24 ++ (toX H57 C58 0 v54))) (by subst_vars;kernel_rfl) (by kernel_rfl) (by subst_vars;kernel_rfl) (SlW.src (m:=0) (by subst_vars;kernel_rfl) fA55) g60 rfl (len_app_eq e_W61) (xC_app _ _) ?_
               have fx_W61 : XOK M59 0 (X24 ++ (toX H57 C58 0 v54)) W61 := XOK.app ((f_X24.le hM51).le hM59) (SlW.xok fA55) e_W61
               refine TL_nil (stageTQ_of [] (by kernel_rfl) trivial ?_)
               refine StageT_cons [22] (stageT_all [] [] (by kernel_rfl) (by subst_vars;kernel_rfl) (by kernel_rfl) trivial) (by kernel_rfl) (by kernel_rfl) ⟨?_,trivial⟩
               ·refine StepT_ex ({ σ := ((13,lV 81)::(81,lV 81)::(80,lS A55 v54 c56)::(72,lS A49 W48 c50)::(71,lV 71)::(69,lV 69)::(67,lV 67)::(60,lV 5010)::(61,.agg [oI u0_0,oS Au0_1 u0_1 cu0_1,oS Au0_2 u0_2 cu0_2])::(62,vi u1)::(63,vi u2)::(64,lV 5010)::(65,vi (L23.length : Int))::(66,vi x44)::(68,lS Au3 u3 cu3)::(70,vi x22)::(73,.lf (.own 6 1))::(74,lS Au0_1 u0_1 cu0_1)::(75,vi x22)::(76,.lf (.ep (.slice Au0_1 (u0_1.length) cu0_1) 12 ((x22).toNat) 0))::(77,.lf (.ep (.slice Au0_1 (u0_1.length) cu0_1) 12 ((x22).toNat) 1))::(78,vi x53)::(79,lS A15 L14 c16)::(1,vi u1)::(2,vi u2)::(3,lS Au3 u3 cu3)::(4,vi u4)::(6,lO 6)::(13,lV 5010)::(14,lS A15 L14 c16)::(15,vi x22)::[]),H := [(6,[oI u0_0,oS Au0_1 u0_1 cu0_1,oS Au0_2 u0_2 cu0_2])],V := [(81,⟨27,1,List.length W61,xC (X24 ++ (toX H57 C58 0 v54))⟩),(71,vI 3 1 ([x22]))],M := M59,ds := [] }) (by subst_vars;kernel_rfl) [] (by kernel_rfl) trivial ?_
                refine StageT_leaf (stageT_all [] [] (by kernel_rfl) (by subst_vars;kernel_rfl) (by kernel_rfl) trivial) (by kernel_rfl) ?_
                refine blockQ_n (thenQ_n ?_)
                exact ⟨W61,(X24 ++ (toX H57 C58 0 v54)),M59,keep_sub (ts:=[1,2,3,4,6,13,14,15]) (hs:=[6]) (vs:=[81]) (by subst_vars;kernel_rfl),(Mem.le_trans (Mem.le_trans (Mem.le_refl _) hM51) hM59),fx_W61,h⟩
          ·refine TE_litC (d:=71) (e:=3) (sz:=1) (len:=1) (cs:=ints .i64 ([x22])) (by subst_vars;kernel_rfl) (by kernel_rfl) (by kernel_rfl) ?_
           refine TL_nil (stageTQ_of [] (by kernel_rfl) trivial ?_)
           refine StageT_cons [9] (stageT_all [0,1,2,3,4,5,6,8,13,14,15,17,19] [16,18] (by kernel_rfl) (by subst_vars; kernel_rfl) (by kernel_rfl) ⟨QF_at (i:=16) (d:=76) (x:=.lf (.ep (.slice Au0_1 (u0_1.length) cu0_1) 12 ((x22).toNat) 0)) (show OpAt _ _ _ 16 76 _ from by exact At_idxR (d:=76) (z:=x22) (by subst_vars; kernel_rfl) g52 ((hu0_1.le hM17).le hM25)) (by kernel_rfl) (by subst_vars; kernel_rfl),⟨QF_at (i:=18) (d:=78) (x:=vi x53) (show OpAt _ _ _ 18 78 _ from by rw [e_x53]; exact At_ldR1 (d:=78) (q:=(x22).toNat) (j:=1) (by subst_vars; kernel_rfl) rfl (toNat_lt g52) ((hu0_1.le hM17).le hM25)) (by kernel_rfl) (by subst_vars; kernel_rfl),trivial⟩⟩) (by kernel_rfl) (by kernel_rfl) ⟨?_,trivial⟩
           ·refine TE_appC (d:=69) (e:=3) (sz:=1) (bytes:=8) (n:=67) (x:=(.tmp 68)) (len:=List.length ([] : List Int)) (cs0:=ints .i64 ([] : List Int)) (cs2:=ints .i64 W46) (by subst_vars;kernel_rfl) (by kernel_rfl) (by subst_vars;kernel_rfl) (SlI.src (by subst_vars;kernel_rfl) ((hu3.le hM17).le hM25)) g45 rfl (len_app_eq e_W46) (ints_app_eq e_W46) ?_
            refine TL_nil (stageTQ_of [] (by kernel_rfl) trivial ?_)
            refine StageT_cons [12] (stageT_all [0,1,2,3,4,5,6,13,14,15,17,19] [16,18] (by kernel_rfl) (by subst_vars; kernel_rfl) (by kernel_rfl) ⟨QF_at (i:=16) (d:=76) (x:=.lf (.ep (.slice Au0_1 (u0_1.length) cu0_1) 12 ((x22).toNat) 0)) (show OpAt _ _ _ 16 76 _ from by exact At_idxR (d:=76) (z:=x22) (by subst_vars; kernel_rfl) g52 ((hu0_1.le hM17).le hM25)) (by kernel_rfl) (by subst_vars; kernel_rfl),⟨QF_at (i:=18) (d:=78) (x:=vi x53) (show OpAt _ _ _ 18 78 _ from by rw [e_x53]; exact At_ldR1 (d:=78) (q:=(x22).toNat) (j:=1) (by subst_vars; kernel_rfl) rfl (toNat_lt g52) ((hu0_1.le hM17).le hM25)) (by kernel_rfl) (by subst_vars; kernel_rfl),trivial⟩⟩) (by kernel_rfl) (by kernel_rfl) ⟨?_,trivial⟩
            ·refine TE_appC (d:=72) (e:=3) (sz:=1) (bytes:=8) (n:=69) (x:=(.tmp 71)) (len:=List.length W46) (cs0:=ints .i64 W46) (cs2:=ints .i64 W48) (by subst_vars;kernel_rfl) (by kernel_rfl) (by subst_vars;kernel_rfl) (vecI_src (n:=71) (e:=3) (k:=.i64) (L:=[x22]) (by subst_vars;kernel_rfl) (by subst_vars;kernel_rfl)) g47 rfl (len_app_eq e_W48) (ints_app_eq e_W48) ?_
             refine TL_turn (turn_pubV 72 (v:=vI 3 1 W48) (by subst_vars;kernel_rfl)) ?_
             rintro _ ⟨A49,c50,M51,rfl,hSA49,hcA49,-,hNA49,hM51⟩
             have fA49 : SlI M51 A49 c50 .i64 W48 := ⟨hSA49,hcA49⟩
             refine TL_nil (stageTQ_of [] (by kernel_rfl) trivial ?_)
             refine StageT_cons [20] (stageT_all [0,1,2,3,4,5,6,13,14,15,17,19] [16,18] (by kernel_rfl) (by subst_vars; kernel_rfl) (by kernel_rfl) ⟨QF_at (i:=16) (d:=76) (x:=.lf (.ep (.slice Au0_1 (u0_1.length) cu0_1) 12 ((x22).toNat) 0)) (show OpAt _ _ _ 16 76 _ from by exact At_idxR (d:=76) (z:=x22) (by subst_vars; kernel_rfl) g52 (((hu0_1.le hM17).le hM25).le hM51)) (by kernel_rfl) (by subst_vars; kernel_rfl),⟨QF_at (i:=18) (d:=78) (x:=vi x53) (show OpAt _ _ _ 18 78 _ from by rw [e_x53]; exact At_ldR1 (d:=78) (q:=(x22).toNat) (j:=1) (by subst_vars; kernel_rfl) rfl (toNat_lt g52) (((hu0_1.le hM17).le hM25).le hM51)) (by kernel_rfl) (by subst_vars; kernel_rfl),trivial⟩⟩) (by kernel_rfl) (by kernel_rfl) ⟨?_,trivial⟩
             ·refine TE_callR (d:=80) (f:=27) (args:=[rval (.agg [oI u0_0,oS Au0_1 u0_1 cu0_1,oS Au0_2 u0_2 cu0_2]),rval (vi u1),rval (vi x44),rval (lS A49 W48 c50),rval (vi x53),rval (lS A15 L14 c16)]) (by subst_vars; kernel_rfl) (by subst_vars; kernel_rfl) (ih (((hu0_1.le hM17).le hM25).le hM51) (((hu0_2.le hM17).le hM25).le hM51) fA49 ((fA15.le hM25).le hM51) (show p27 k u0_0 u0_1 u0_2 u1 x44 W48 x53 L14 = _ from by rw [← e_self]; exact c_v54)) ?_
              rintro _ M59 _ hM59 _ ⟨A55,c56,H57,C58,rfl,fA55⟩
              refine TL_nil (stageTQ_of [] (by kernel_rfl) trivial ?_)
              refine StageT_cons [21] (stageT_all [0] [] (by kernel_rfl) (by subst_vars;kernel_rfl) (by kernel_rfl) trivial) (by kernel_rfl) (by kernel_rfl) ⟨?_,trivial⟩
              ·refine TE_appC (d:=81) (e:=27) (sz:=1) (bytes:=24) (n:=5010) (x:=(.tmp 80)) (len:=List.length L23) (cs0:=xC X24) (cs2:=xC (X24 ++ (toX H57 C58 0 v54))) (by subst_vars;kernel_rfl) (by kernel_rfl) (by subst_vars;kernel_rfl) (SlW.src (m:=0) (by subst_vars;kernel_rfl) fA55) g60 rfl (len_app_eq e_W61) (xC_app _ _) ?_
               have fx_W61 : XOK M59 0 (X24 ++ (toX H57 C58 0 v54)) W61 := XOK.app ((f_X24.le hM51).le hM59) (SlW.xok fA55) e_W61
               refine TL_nil (stageTQ_of [] (by kernel_rfl) trivial ?_)
               refine StageT_cons [22] (stageT_all [] [] (by kernel_rfl) (by subst_vars;kernel_rfl) (by kernel_rfl) trivial) (by kernel_rfl) (by kernel_rfl) ⟨?_,trivial⟩
               ·refine StepT_ex ({ σ := ((13,lV 81)::(81,lV 81)::(80,lS A55 v54 c56)::(72,lS A49 W48 c50)::(69,lV 69)::(71,lV 71)::(67,lV 67)::(60,lV 5010)::(61,.agg [oI u0_0,oS Au0_1 u0_1 cu0_1,oS Au0_2 u0_2 cu0_2])::(62,vi u1)::(63,vi u2)::(64,lV 5010)::(65,vi (L23.length : Int))::(66,vi x44)::(68,lS Au3 u3 cu3)::(70,vi x22)::(73,.lf (.own 6 1))::(74,lS Au0_1 u0_1 cu0_1)::(75,vi x22)::(76,.lf (.ep (.slice Au0_1 (u0_1.length) cu0_1) 12 ((x22).toNat) 0))::(77,.lf (.ep (.slice Au0_1 (u0_1.length) cu0_1) 12 ((x22).toNat) 1))::(78,vi x53)::(79,lS A15 L14 c16)::(1,vi u1)::(2,vi u2)::(3,lS Au3 u3 cu3)::(4,vi u4)::(6,lO 6)::(13,lV 5010)::(14,lS A15 L14 c16)::(15,vi x22)::[]),H := [(6,[oI u0_0,oS Au0_1 u0_1 cu0_1,oS Au0_2 u0_2 cu0_2])],V := [(81,⟨27,1,List.length W61,xC (X24 ++ (toX H57 C58 0 v54))⟩),(71,vI 3 1 ([x22]))],M := M59,ds := [] }) (by subst_vars;kernel_rfl) [] (by kernel_rfl) trivial ?_
                refine StageT_leaf (stageT_all [] [] (by kernel_rfl) (by subst_vars;kernel_rfl) (by kernel_rfl) trivial) (by kernel_rfl) ?_
                refine blockQ_n (thenQ_n ?_)
                exact ⟨W61,(X24 ++ (toX H57 C58 0 v54)),M59,keep_sub (ts:=[1,2,3,4,6,13,14,15]) (hs:=[6]) (vs:=[81]) (by subst_vars;kernel_rfl),(Mem.le_trans (Mem.le_trans (Mem.le_refl _) hM51) hM59),fx_W61,h⟩
         ·refine TE_litC (d:=71) (e:=3) (sz:=1) (len:=1) (cs:=ints .i64 ([x22])) (by subst_vars;kernel_rfl) (by kernel_rfl) (by kernel_rfl) ?_
          refine TL_nil (stageTQ_of [] (by kernel_rfl) trivial ?_)
          refine StageT_cons [7] (stageT_all [0,1,2,3,4,5,6,8,13,14,15,17,19] [16,18] (by kernel_rfl) (by subst_vars; kernel_rfl) (by kernel_rfl) ⟨QF_at (i:=16) (d:=76) (x:=.lf (.ep (.slice Au0_1 (u0_1.length) cu0_1) 12 ((x22).toNat) 0)) (show OpAt _ _ _ 16 76 _ from by exact At_idxR (d:=76) (z:=x22) (by subst_vars; kernel_rfl) g52 ((hu0_1.le hM17).le hM25)) (by kernel_rfl) (by subst_vars; kernel_rfl),⟨QF_at (i:=18) (d:=78) (x:=vi x53) (show OpAt _ _ _ 18 78 _ from by rw [e_x53]; exact At_ldR1 (d:=78) (q:=(x22).toNat) (j:=1) (by subst_vars; kernel_rfl) rfl (toNat_lt g52) ((hu0_1.le hM17).le hM25)) (by kernel_rfl) (by subst_vars; kernel_rfl),trivial⟩⟩) (by kernel_rfl) (by kernel_rfl) ⟨?_,trivial⟩
          ·refine TE_litC (d:=67) (e:=3) (sz:=1) (len:=0) (cs:=ints .i64 ([] : List Int)) (by subst_vars;kernel_rfl) (by kernel_rfl) (by kernel_rfl) ?_
           refine TL_nil (stageTQ_of [] (by kernel_rfl) trivial ?_)
           refine StageT_cons [9] (stageT_all [0,1,2,3,4,5,6,8,13,14,15,17,19] [16,18] (by kernel_rfl) (by subst_vars; kernel_rfl) (by kernel_rfl) ⟨QF_at (i:=16) (d:=76) (x:=.lf (.ep (.slice Au0_1 (u0_1.length) cu0_1) 12 ((x22).toNat) 0)) (show OpAt _ _ _ 16 76 _ from by exact At_idxR (d:=76) (z:=x22) (by subst_vars; kernel_rfl) g52 ((hu0_1.le hM17).le hM25)) (by kernel_rfl) (by subst_vars; kernel_rfl),⟨QF_at (i:=18) (d:=78) (x:=vi x53) (show OpAt _ _ _ 18 78 _ from by rw [e_x53]; exact At_ldR1 (d:=78) (q:=(x22).toNat) (j:=1) (by subst_vars; kernel_rfl) rfl (toNat_lt g52) ((hu0_1.le hM17).le hM25)) (by kernel_rfl) (by subst_vars; kernel_rfl),trivial⟩⟩) (by kernel_rfl) (by kernel_rfl) ⟨?_,trivial⟩
           ·refine TE_appC (d:=69) (e:=3) (sz:=1) (bytes:=8) (n:=67) (x:=(.tmp 68)) (len:=List.length ([] : List Int)) (cs0:=ints .i64 ([] : List Int)) (cs2:=ints .i64 W46) (by subst_vars;kernel_rfl) (by kernel_rfl) (by subst_vars;kernel_rfl) (SlI.src (by subst_vars;kernel_rfl) ((hu3.le hM17).le hM25)) g45 rfl (len_app_eq e_W46) (ints_app_eq e_W46) ?_
            refine TL_nil (stageTQ_of [] (by kernel_rfl) trivial ?_)
            refine StageT_cons [12] (stageT_all [0,1,2,3,4,5,6,13,14,15,17,19] [16,18] (by kernel_rfl) (by subst_vars; kernel_rfl) (by kernel_rfl) ⟨QF_at (i:=16) (d:=76) (x:=.lf (.ep (.slice Au0_1 (u0_1.length) cu0_1) 12 ((x22).toNat) 0)) (show OpAt _ _ _ 16 76 _ from by exact At_idxR (d:=76) (z:=x22) (by subst_vars; kernel_rfl) g52 ((hu0_1.le hM17).le hM25)) (by kernel_rfl) (by subst_vars; kernel_rfl),⟨QF_at (i:=18) (d:=78) (x:=vi x53) (show OpAt _ _ _ 18 78 _ from by rw [e_x53]; exact At_ldR1 (d:=78) (q:=(x22).toNat) (j:=1) (by subst_vars; kernel_rfl) rfl (toNat_lt g52) ((hu0_1.le hM17).le hM25)) (by kernel_rfl) (by subst_vars; kernel_rfl),trivial⟩⟩) (by kernel_rfl) (by kernel_rfl) ⟨?_,trivial⟩
            ·refine TE_appC (d:=72) (e:=3) (sz:=1) (bytes:=8) (n:=69) (x:=(.tmp 71)) (len:=List.length W46) (cs0:=ints .i64 W46) (cs2:=ints .i64 W48) (by subst_vars;kernel_rfl) (by kernel_rfl) (by subst_vars;kernel_rfl) (vecI_src (n:=71) (e:=3) (k:=.i64) (L:=[x22]) (by subst_vars;kernel_rfl) (by subst_vars;kernel_rfl)) g47 rfl (len_app_eq e_W48) (ints_app_eq e_W48) ?_
             refine TL_turn (turn_pubV 72 (v:=vI 3 1 W48) (by subst_vars;kernel_rfl)) ?_
             rintro _ ⟨A49,c50,M51,rfl,hSA49,hcA49,-,hNA49,hM51⟩
             have fA49 : SlI M51 A49 c50 .i64 W48 := ⟨hSA49,hcA49⟩
             refine TL_nil (stageTQ_of [] (by kernel_rfl) trivial ?_)
             refine StageT_cons [20] (stageT_all [0,1,2,3,4,5,6,13,14,15,17,19] [16,18] (by kernel_rfl) (by subst_vars; kernel_rfl) (by kernel_rfl) ⟨QF_at (i:=16) (d:=76) (x:=.lf (.ep (.slice Au0_1 (u0_1.length) cu0_1) 12 ((x22).toNat) 0)) (show OpAt _ _ _ 16 76 _ from by exact At_idxR (d:=76) (z:=x22) (by subst_vars; kernel_rfl) g52 (((hu0_1.le hM17).le hM25).le hM51)) (by kernel_rfl) (by subst_vars; kernel_rfl),⟨QF_at (i:=18) (d:=78) (x:=vi x53) (show OpAt _ _ _ 18 78 _ from by rw [e_x53]; exact At_ldR1 (d:=78) (q:=(x22).toNat) (j:=1) (by subst_vars; kernel_rfl) rfl (toNat_lt g52) (((hu0_1.le hM17).le hM25).le hM51)) (by kernel_rfl) (by subst_vars; kernel_rfl),trivial⟩⟩) (by kernel_rfl) (by kernel_rfl) ⟨?_,trivial⟩
             ·refine TE_callR (d:=80) (f:=27) (args:=[rval (.agg [oI u0_0,oS Au0_1 u0_1 cu0_1,oS Au0_2 u0_2 cu0_2]),rval (vi u1),rval (vi x44),rval (lS A49 W48 c50),rval (vi x53),rval (lS A15 L14 c16)]) (by subst_vars; kernel_rfl) (by subst_vars; kernel_rfl) (ih (((hu0_1.le hM17).le hM25).le hM51) (((hu0_2.le hM17).le hM25).le hM51) fA49 ((fA15.le hM25).le hM51) (show p27 k u0_0 u0_1 u0_2 u1 x44 W48 x53 L14 = _ from by rw [← e_self]; exact c_v54)) ?_
              rintro _ M59 _ hM59 _ ⟨A55,c56,H57,C58,rfl,fA55⟩
              refine TL_nil (stageTQ_of [] (by kernel_rfl) trivial ?_)
              refine StageT_cons [21] (stageT_all [0] [] (by kernel_rfl) (by subst_vars;kernel_rfl) (by kernel_rfl) trivial) (by kernel_rfl) (by kernel_rfl) ⟨?_,trivial⟩
              ·refine TE_appC (d:=81) (e:=27) (sz:=1) (bytes:=24) (n:=5010) (x:=(.tmp 80)) (len:=List.length L23) (cs0:=xC X24) (cs2:=xC (X24 ++ (toX H57 C58 0 v54))) (by subst_vars;kernel_rfl) (by kernel_rfl) (by subst_vars;kernel_rfl) (SlW.src (m:=0) (by subst_vars;kernel_rfl) fA55) g60 rfl (len_app_eq e_W61) (xC_app _ _) ?_
               have fx_W61 : XOK M59 0 (X24 ++ (toX H57 C58 0 v54)) W61 := XOK.app ((f_X24.le hM51).le hM59) (SlW.xok fA55) e_W61
               refine TL_nil (stageTQ_of [] (by kernel_rfl) trivial ?_)
               refine StageT_cons [22] (stageT_all [] [] (by kernel_rfl) (by subst_vars;kernel_rfl) (by kernel_rfl) trivial) (by kernel_rfl) (by kernel_rfl) ⟨?_,trivial⟩
               ·refine StepT_ex ({ σ := ((13,lV 81)::(81,lV 81)::(80,lS A55 v54 c56)::(72,lS A49 W48 c50)::(69,lV 69)::(67,lV 67)::(71,lV 71)::(60,lV 5010)::(61,.agg [oI u0_0,oS Au0_1 u0_1 cu0_1,oS Au0_2 u0_2 cu0_2])::(62,vi u1)::(63,vi u2)::(64,lV 5010)::(65,vi (L23.length : Int))::(66,vi x44)::(68,lS Au3 u3 cu3)::(70,vi x22)::(73,.lf (.own 6 1))::(74,lS Au0_1 u0_1 cu0_1)::(75,vi x22)::(76,.lf (.ep (.slice Au0_1 (u0_1.length) cu0_1) 12 ((x22).toNat) 0))::(77,.lf (.ep (.slice Au0_1 (u0_1.length) cu0_1) 12 ((x22).toNat) 1))::(78,vi x53)::(79,lS A15 L14 c16)::(1,vi u1)::(2,vi u2)::(3,lS Au3 u3 cu3)::(4,vi u4)::(6,lO 6)::(13,lV 5010)::(14,lS A15 L14 c16)::(15,vi x22)::[]),H := [(6,[oI u0_0,oS Au0_1 u0_1 cu0_1,oS Au0_2 u0_2 cu0_2])],V := [(81,⟨27,1,List.length W61,xC (X24 ++ (toX H57 C58 0 v54))⟩),(71,vI 3 1 ([x22]))],M := M59,ds := [] }) (by subst_vars;kernel_rfl) [] (by kernel_rfl) trivial ?_
                refine StageT_leaf (stageT_all [] [] (by kernel_rfl) (by subst_vars;kernel_rfl) (by kernel_rfl) trivial) (by kernel_rfl) ?_
                refine blockQ_n (thenQ_n ?_)
                exact ⟨W61,(X24 ++ (toX H57 C58 0 v54)),M59,keep_sub (ts:=[1,2,3,4,6,13,14,15]) (hs:=[6]) (vs:=[81]) (by subst_vars;kernel_rfl),(Mem.le_trans (Mem.le_trans (Mem.le_refl _) hM51) hM59),fx_W61,h⟩
        | false =>
         replace h := sp_f h
         refine CF ?_
         refine KG (S4 [(1,vi u1),(2,vi u2),(3,lS Au3 u3 cu3),(4,vi u4),(6,lO 6),(13,lV 5010),(14,lS A15 L14 c16),(15,vi x22)] [(6,[oI u0_0,oS Au0_1 u0_1 cu0_1,oS Au0_2 u0_2 cu0_2])] [(5010,⟨27,1,List.length L23,xC X24⟩)] M25) ?_
         refine S0 (blockQ_n (thenQ_n ?_))
         exact ⟨L23,X24,M25,Sub.trans (keep_sub (ts:=[1,2,3,4,6,13,14,15]) (hs:=[6]) (vs:=[81]) (by kernel_rfl)) (Sub.trans (ren_sub 5010 81 (s':={ σ := [(1,vi u1),(2,vi u2),(3,lS Au3 u3 cu3),(4,vi u4),(6,lO 6),(13,lV 81),(14,lS A15 L14 c16),(15,vi x22)],H := [(6,[oI u0_0,oS Au0_1 u0_1 cu0_1,oS Au0_2 u0_2 cu0_2])],V := [(81,⟨27,1,List.length L23,xC X24⟩)],M := M25,ds := [] }) (by kernel_rfl) (by kernel_rfl)) (keep_sub (s':={ σ := [(1,vi u1),(2,vi u2),(3,lS Au3 u3 cu3),(4,vi u4),(6,lO 6),(13,lV 5010),(14,lS A15 L14 c16),(15,vi x22)],H := [(6,[oI u0_0,oS Au0_1 u0_1 cu0_1,oS Au0_2 u0_2 cu0_2])],V := [(5010,⟨27,1,List.length L23,xC X24⟩)],M := M25,ds := [] }) (ts:=[1,2,3,4,6,13,14,15]) (hs:=[6]) (vs:=[5010]) (by kernel_rfl))),(Mem.le_refl _),f_X24,h⟩
      ·rintro s' ⟨L31,X32,M33,hsub,hM33,f_X32,h⟩
       subst e_j34
       refine T_sub hsub ?_
       refine RG ?_
       obtain ⟨x62,e_x62,h⟩ := lt_some h
       refine SG 3 (S4 [(1,vi u1),(2,vi u2),(3,lS Au3 u3 cu3),(4,vi u4),(6,lO 6),(13,lV 81),(14,lS A15 L14 c16),(15,vi x62)] [(6,[oI u0_0,oS Au0_1 u0_1 cu0_1,oS Au0_2 u0_2 cu0_2])] [(81,⟨27,1,List.length L31,xC X32⟩)] M33) ?_ (by subst e_x62;kernel_rfl)
       refine EN ?_
       exact ⟨n26,Nat.lt_succ_self _,x62,L31,X32,M33,Sub.trans (keep_sub (ts:=[1,2,3,4,6,13,14,15]) (hs:=[6]) (vs:=[5010]) (by kernel_rfl)) (Sub.trans (ren_sub 81 5010 (s':={ σ := [(1,vi u1),(2,vi u2),(3,lS Au3 u3 cu3),(4,vi u4),(6,lO 6),(13,lV 5010),(14,lS A15 L14 c16),(15,vi x62)],H := [(6,[oI u0_0,oS Au0_1 u0_1 cu0_1,oS Au0_2 u0_2 cu0_2])],V := [(5010,⟨27,1,List.length L31,xC X32⟩)],M := M33,ds := [] }) (by kernel_rfl) (by kernel_rfl)) (keep_sub (s':={ σ := [(1,vi u1),(2,vi u2),(3,lS Au3 u3 cu3),(4,vi u4),(6,lO 6),(13,lV 81),(14,lS A15 L14 c16),(15,vi x62)],H := [(6,[oI u0_0,oS Au0_1 u0_1 cu0_1,oS Au0_2 u0_2 cu0_2])],V := [(81,⟨27,1,List.length L31,xC X32⟩)],M := M33,ds := [] }) (ts:=[1,2,3,4,6,13,14,15]) (hs:=[6]) (vs:=[81]) (by kernel_rfl))),(Mem.le_trans (Mem.le_trans (Mem.le_refl _) hM25) hM33),f_X32,h⟩
     | false =>
      replace h := sp_f h
      refine CF ?_
      refine KG (S4 [(13,lV 5010)] [] [(5010,⟨27,1,List.length L23,xC X24⟩)] M25) ?_
      refine XI 0 (thenQ_x (thenQ_x (blockQ_x (thenQ_n ?_))))
      exact ⟨L23,X24,M25,keep_sub (ts:=[13]) (hs:=[]) (vs:=[5010]) (by kernel_rfl),(Mem.le_trans (Mem.le_refl _) hM25),f_X24,h⟩
  ·rintro s' ⟨L18,X19,M20,hsub,hM20,f_X19,h⟩
   subst e_j21
   refine thenQ_n ?_
   refine T_sub hsub ?_
   refine SQ (RG ?_)
   refine SG 2 (S4 [(12,lV 5010)] [] [(5010,⟨27,1,List.length L18,xC X19⟩)] M20) ?_
   refine EN ?_
   refine T_turn (turn_pubV 5010 (v:=⟨27,1,List.length L18,xC X19⟩) (by kernel_rfl)) ?_
   rintro _ ⟨A63,c64,M65,rfl,hSA63,hcA63,-,hNA63,hM65⟩
   have fA63 : SlW M65 0 A63 c64 (hx X19) (cx X19) L18 := XOK.slW (f_X19.le hM65) hSA63 hcA63
   refine KG (S4 [(12,lS A63 L18 c64)] [] [] M65) ?_
   refine RT ?_
   obtain rfl := sj h
   refine FT (lS A63 L18 c64) ?_
   exact ⟨A63,c64,(hx X19),(cx X19),rfl,fA63⟩
end Go.Proofs.Ythniebmammmacaa
namespace Go.Proofs.Ythniebmammmacaa
open Go.RowKit
def p86 (k : Nat) (u0 : Int) (u1g0 : Int) (u1g1 : List (List Int)) (u1g2 : List WT) (u1g3 : List Int) (u2G : Int) : Option Bool :=
 cl (p55 k u1g0 u1g1 u1g2 u1g3 u2G u0) fun v1 => some (!v1)
theorem hf86 : Try.prog.funcs[86]? = some Try.f86 := by kernel_rfl
theorem w86 (k : Nat) {M : Mem} {Au1g1 Au1g2 : Option Addr} {cu1g1 cu1g2 bu1 bu2 : Nat} {Hu1g2 : Nat → Option Addr} {Cu1g2 : Nat → Nat} {u0 u1g0 u2G : Int} {u1g1 : List (List Int)} {u1g2 : List WT} {u1g3 : List Int} (hu1g1 : SlR M Au1g1 cu1g1 .i64 12 u1g1) (hu1g2 : SlW M 3 Au1g2 cu1g2 Hu1g2 Cu1g2 u1g2) (hu1g3 : u1g3.length = 6) (hbu1 : MB M bu1 [oI u1g0,oS Au1g1 u1g1 cu1g1,oS Au1g2 u1g2 cu1g2,.arr .i64 6 u1g3]) (hbu2 : MB M bu2 [.one (.v (.int .u64 u2G))]) {r} (h : p86 k u0 u1g0 u1g1 u1g2 u1g3 u2G = some r) :
  Fn Try.prog 86 [rval (vi u0),rval (lP bu1),rval (lP bu2)] M (fun x _ => x = vb r) := by
 unfold p86 at h
 refine FO [vi u0,lP bu1,lP bu2] hf86 ⟨trivial,⟨trivial,⟨trivial,trivial⟩⟩⟩ fun w => ?_
 refine SQ0 (RG ?_)
 refine SG 1 (S4 [(0,vi u0),(1,lP bu1),(2,lP bu2)] [] [] M) ?_
 refine EN (SQ (RG ?_))
 refine AT 5 (.agg [oI u1g0,oS Au1g1 u1g1 cu1g1,oS Au1g2 u1g2 cu1g2,.arr .i64 6 u1g3]) (At_ldPR (b:=bu1) (off:=0) (m:=9) (c:=[oI u1g0,oS Au1g1 u1g1 cu1g1,oS Au1g2 u1g2 cu1g2,.arr .i64 6 u1g3]) (by kernel_rfl) (by kernel_rfl) (sgCells_length ⟨rfl,⟨rfl,⟨rfl,⟨hu1g3,trivial⟩⟩⟩⟩) (cells_blk (m:=9) hbu1 ⟨rfl,⟨rfl,⟨rfl,⟨hu1g3,trivial⟩⟩⟩⟩ (by kernel_rfl) rfl)) ?_ (hx:=⟨rfl,⟨rfl,⟨rfl,⟨hu1g3,trivial⟩⟩⟩⟩)
 refine AT 6 (.lf (.v (.int .u64 u2G))) (At_ldP (b:=bu2) (off:=0) (m:=1) (v:=(.int .u64 u2G)) (by kernel_rfl) (cell_blk hbu2 ⟨rfl,trivial⟩ (by kernel_rfl))) ?_
 refine SH 3 [(5,.agg [oI u1g0,oS Au1g1 u1g1 cu1g1,oS Au1g2 u1g2 cu1g2,.arr .i64 6 u1g3]),(6,.lf (.v (.int .u64 u2G))),(7,vi u0)] [] ?_
 obtain ⟨v1,c_v1,h⟩ := cl_some h
 refine AC 8 (vb v1) (w55 k hu1g1 hu1g2 hu1g3 c_v1) ?_
 refine SH 6 [(4,vb (!v1))] [] ?_
 refine EN (RT ?_)
 obtain rfl := sj h
 exact FT (vb (!v1)) rfl
def p125c_l1 (k : Nat) (u0 : List Int) (u1y0 : Int) (u1y1 : List (List Int)) (u1y2 : List WT) (u1y3 : List Int) (u1Z : Int) (j1 : Option Int) : Nat → Int → Option Int
 | 0,_ => none
 | n3 + 1,x2 => lt' (decide (x2 < (u0.length : Int))) fun b4 => sp b4 (gd ((0 : Int) ≤ x2 ∧ x2 < (u0.length : Int)) <| lt' (List.getD u0 ((x2).toNat) 0) fun x6 => cl (p86 k x6 u1y0 u1y1 u1y2 u1y3 u1Z) fun v7 => sp v7 (some x2) (lt' (wr .i64 (x2 + (1 : Int))) fun x8 => p125c_l1 k u0 u1y0 u1y1 u1y2 u1y3 u1Z j1 n3 x8)) (j1)
def p125c (k : Nat) (u0 : List Int) (u1y0 : Int) (u1y1 : List (List Int)) (u1y2 : List WT) (u1y3 : List Int) (u1Z : Int) : Option Int :=
 jn (some (-1 : Int)) fun j1 => p125c_l1 k u0 u1y0 u1y1 u1y2 u1y3 u1Z j1 k (0 : Int)
theorem hf125c : Try.prog.funcs[125]? = some Try.f125 := by kernel_rfl
theorem w125c (k : Nat) {M : Mem} {Au0 Au1y1 Au1y2 : Option Addr} {cu0 cu1y1 cu1y2 bu1C bu1D : Nat} {Hu1y2 : Nat → Option Addr} {Cu1y2 : Nat → Nat} {u0 u1y3 : List Int} {u1y0 u1Z : Int} {u1y1 : List (List Int)} {u1y2 : List WT} (hu0 : SlI M Au0 cu0 .i64 u0) (hu1y1 : SlR M Au1y1 cu1y1 .i64 12 u1y1) (hu1y2 : SlW M 3 Au1y2 cu1y2 Hu1y2 Cu1y2 u1y2) (hu1y3 : u1y3.length = 6) (hbu1C : MB M bu1C [oI u1y0,oS Au1y1 u1y1 cu1y1,oS Au1y2 u1y2 cu1y2,.arr .i64 6 u1y3]) (hbu1D : MB M bu1D [.one (.v (.int .u64 u1Z))]) {r} (h : p125c k u0 u1y0 u1y1 u1y2 u1y3 u1Z = some r) :
  Fn Try.prog 125 [rval (lS Au0 u0 cu0),rval (.lf (.v (.func (.func 86) #[] #[(.pointer (some ⟨bu1C,0,none⟩)),(.pointer (some ⟨bu1D,0,none⟩))])))] M (fun x _ => x = vi r) := by
 unfold p125c at h
 refine FO [lS Au0 u0 cu0,.lf (.v (.func (.func 86) #[] #[(.pointer (some ⟨bu1C,0,none⟩)),(.pointer (some ⟨bu1D,0,none⟩))]))] hf125c ⟨trivial,⟨trivial,trivial⟩⟩ fun w => ?_
 refine SQ0 (RG ?_)
 refine SG 1 (S4 [(0,lS Au0 u0 cu0),(1,.lf (.v (.func (.func 86) #[] #[(.pointer (some ⟨bu1C,0,none⟩)),(.pointer (some ⟨bu1D,0,none⟩))])))] [] [] M) ?_
 refine EN (SQ (SQ (RG ?_)))
 refine SS 3 [(0,lS Au0 u0 cu0),(1,.lf (.v (.func (.func 86) #[] #[(.pointer (some ⟨bu1C,0,none⟩)),(.pointer (some ⟨bu1D,0,none⟩))]))),(7,vi (u0.length : Int)),(8,vi (0 : Int))] ?_
 refine EN ?_
 obtain ⟨j1,e_j1,h⟩ := jn_some h
 refine T_bcut (id:=0) (c1:=(sub [1,0,1,0] Bd125)) (fun s' => Sub { σ := [],H := [],V := [],M := M,ds := [] } s' ∧ j1 = some r) (by kernel_rfl) ?_ ?_
 ·refine T_loop (c1:=(sub [1,0,1,0,0] Bd125)) (by kernel_rfl) (fun n3 s' => ∃ (x2 : Int),Sub { σ := [(0,lS Au0 u0 cu0),(1,.lf (.v (.func (.func 86) #[] #[(.pointer (some ⟨bu1C,0,none⟩)),(.pointer (some ⟨bu1D,0,none⟩))]))),(7,vi (u0.length : Int)),(8,vi x2)],H := [],V := [],M := M,ds := [] } s' ∧ p125c_l1 k u0 u1y0 u1y1 u1y2 u1y3 u1Z j1 n3 x2 = some r) (k:=k) ⟨(0 : Int),keep_sub (ts:=[0,1,7,8]) (hs:=[]) (vs:=[]) (by kernel_rfl),h⟩ ?_
  rintro n3 s' ⟨x2,hsub,h⟩
  cases n3 with
  | zero => rw [p125c_l1] at h;cases h
  | succ n3 =>
   rw [p125c_l1] at h
   refine T_sub hsub ?_
   refine SQ (RG ?_)
   obtain ⟨b4,e_b4,h⟩ := lt_some h
   refine SG 1 (S4 [(0,lS Au0 u0 cu0),(1,.lf (.v (.func (.func 86) #[] #[(.pointer (some ⟨bu1C,0,none⟩)),(.pointer (some ⟨bu1D,0,none⟩))]))),(7,vi (u0.length : Int)),(8,vi x2),(9,vb b4)] [] [] M) ?_ (by subst e_b4;kernel_rfl)
   refine EN (SQ ?_)
   cases b4 with
   | true =>
    replace h := sp_t h
    refine CT ?_
    refine KS [(0,lS Au0 u0 cu0),(1,.lf (.v (.func (.func 86) #[] #[(.pointer (some ⟨bu1C,0,none⟩)),(.pointer (some ⟨bu1D,0,none⟩))]))),(7,vi (u0.length : Int)),(8,vi x2)] ?_
    refine SN (SQ (BK 1 (SQ (RG ?_))))
    refine SS 2 [(0,lS Au0 u0 cu0),(1,.lf (.v (.func (.func 86) #[] #[(.pointer (some ⟨bu1C,0,none⟩)),(.pointer (some ⟨bu1D,0,none⟩))]))),(5,vi x2),(7,vi (u0.length : Int)),(8,vi x2)] ?_
    refine EN (SQ (RG ?_))
    refine SS 3 [(0,lS Au0 u0 cu0),(1,.lf (.v (.func (.func 86) #[] #[(.pointer (some ⟨bu1C,0,none⟩)),(.pointer (some ⟨bu1D,0,none⟩))]))),(5,vi x2),(7,vi (u0.length : Int)),(8,vi x2),(11,.lf (.v (.func (.func 86) #[] #[(.pointer (some ⟨bu1C,0,none⟩)),(.pointer (some ⟨bu1D,0,none⟩))]))),(12,lS Au0 u0 cu0),(13,vi x2)] ?_
    obtain ⟨g5,h⟩ := gd_some h
    refine AT 14 (.lf (.ep (.slice Au0 (u0.length) cu0) 1 ((x2).toNat) 0)) (At_idxI (z:=x2) (by kernel_rfl) g5 hu0) ?_
    obtain ⟨x6,e_x6,h⟩ := lt_some h
    refine AT 15 (vi x6) (by rw [e_x6]; exact At_ldI (q:=(x2).toNat) (by subst e_x6; kernel_rfl) (toNat_lt g5) hu0) ?_
    obtain ⟨v7,c_v7,h⟩ := cl_some h
    refine AC 16 (vb v7) (w86 k hu1y1 hu1y2 hu1y3 hbu1C hbu1D c_v7) ?_
    refine SH 6 [(0,lS Au0 u0 cu0),(1,.lf (.v (.func (.func 86) #[] #[(.pointer (some ⟨bu1C,0,none⟩)),(.pointer (some ⟨bu1D,0,none⟩))]))),(5,vi x2),(7,vi (u0.length : Int)),(8,vi x2),(16,vb v7)] [] ?_
    refine EN ?_
    cases v7 with
    | true =>
     replace h := sp_t h
     refine CT ?_
     refine KS [(5,vi x2)] ?_
     refine SQ (RG ?_)
     refine SS 2 [(4,vi x2)] ?_
     refine EN (RT (blockQ_r (thenQ_r (thenQ_r (blockQ_r (thenQ_r (thenQ_r ?_)))))))
     obtain rfl := sj h
     exact FT (vi x2) rfl
    | false =>
     replace h := sp_f h
     refine CF ?_
     refine KS [(0,lS Au0 u0 cu0),(1,.lf (.v (.func (.func 86) #[] #[(.pointer (some ⟨bu1C,0,none⟩)),(.pointer (some ⟨bu1D,0,none⟩))]))),(7,vi (u0.length : Int)),(8,vi x2)] ?_
     refine S0 (blockQ_n (thenQ_n (RG ?_)))
     obtain ⟨x8,e_x8,h⟩ := lt_some h
     refine SS 2 [(0,lS Au0 u0 cu0),(1,.lf (.v (.func (.func 86) #[] #[(.pointer (some ⟨bu1C,0,none⟩)),(.pointer (some ⟨bu1D,0,none⟩))]))),(7,vi (u0.length : Int)),(8,vi x8)] ?_ (by subst e_x8;kernel_rfl)
     refine EN ?_
     exact ⟨n3,Nat.lt_succ_self _,x8,keep_sub (ts:=[0,1,7,8]) (hs:=[]) (vs:=[]) (by kernel_rfl),h⟩
   | false =>
    replace h := sp_f h
    refine CF ?_
    refine KS [] ?_
    refine XI 0 (thenQ_x (thenQ_x (blockQ_x (thenQ_n ?_))))
    exact ⟨keep_sub (ts:=[]) (hs:=[]) (vs:=[]) (by kernel_rfl),h⟩
 ·rintro s' ⟨hsub,h⟩
  subst e_j1
  refine thenQ_n ?_
  refine T_sub hsub ?_
  refine SQ (RG ?_)
  refine SG 1 (S4 [(4,vi (-1 : Int))] [] [] M) ?_
  refine EN (RT ?_)
  obtain rfl := sj h
  exact FT (vi (-1 : Int)) rfl
def p85c (k : Nat) (u0 : List Int) (u1y0 : Int) (u1y1 : List (List Int)) (u1y2 : List WT) (u1y3 : List Int) (u1Z : Int) : Option Bool :=
 cl (p125c k u0 u1y0 u1y1 u1y2 u1y3 u1Z) fun v1 => lt' (decide (v1 ≥ (0 : Int))) fun b2 => some b2
theorem hf85c : Try.prog.funcs[85]? = some Try.f85 := by kernel_rfl
theorem w85c (k : Nat) {M : Mem} {Au0 Au1y1 Au1y2 : Option Addr} {cu0 cu1y1 cu1y2 bu1C bu1D : Nat} {Hu1y2 : Nat → Option Addr} {Cu1y2 : Nat → Nat} {u0 u1y3 : List Int} {u1y0 u1Z : Int} {u1y1 : List (List Int)} {u1y2 : List WT} (hu0 : SlI M Au0 cu0 .i64 u0) (hu1y1 : SlR M Au1y1 cu1y1 .i64 12 u1y1) (hu1y2 : SlW M 3 Au1y2 cu1y2 Hu1y2 Cu1y2 u1y2) (hu1y3 : u1y3.length = 6) (hbu1C : MB M bu1C [oI u1y0,oS Au1y1 u1y1 cu1y1,oS Au1y2 u1y2 cu1y2,.arr .i64 6 u1y3]) (hbu1D : MB M bu1D [.one (.v (.int .u64 u1Z))]) {r} (h : p85c k u0 u1y0 u1y1 u1y2 u1y3 u1Z = some r) :
  Fn Try.prog 85 [rval (lS Au0 u0 cu0),rval (.lf (.v (.func (.func 86) #[] #[(.pointer (some ⟨bu1C,0,none⟩)),(.pointer (some ⟨bu1D,0,none⟩))])))] M (fun x _ => x = vb r) := by
 unfold p85c at h
 refine FO [lS Au0 u0 cu0,.lf (.v (.func (.func 86) #[] #[(.pointer (some ⟨bu1C,0,none⟩)),(.pointer (some ⟨bu1D,0,none⟩))]))] hf85c ⟨trivial,⟨trivial,trivial⟩⟩ fun w => ?_
 refine SQ0 (RG ?_)
 refine SG 1 (S4 [(0,lS Au0 u0 cu0),(1,.lf (.v (.func (.func 86) #[] #[(.pointer (some ⟨bu1C,0,none⟩)),(.pointer (some ⟨bu1D,0,none⟩))])))] [] [] M) ?_
 refine EN (SQ (RG ?_))
 refine SS 2 [(5,lS Au0 u0 cu0),(6,.lf (.v (.func (.func 86) #[] #[(.pointer (some ⟨bu1C,0,none⟩)),(.pointer (some ⟨bu1D,0,none⟩))])))] ?_
 obtain ⟨v1,c_v1,h⟩ := cl_some h
 refine AC 7 (vi v1) (w125c k hu0 hu1y1 hu1y2 hu1y3 hbu1C hbu1D c_v1) ?_
 obtain ⟨b2,e_b2,h⟩ := lt_some h
 refine SH 5 [(4,vb b2)] [] ?_ (by subst e_b2;kernel_rfl)
 refine EN (RT ?_)
 obtain rfl := sj h
 exact FT (vb b2) rfl
end Go.Proofs.Ythniebmammmacaa
