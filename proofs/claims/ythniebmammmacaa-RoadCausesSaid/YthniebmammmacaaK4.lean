/- Lemmas and walks for the law RoadCauses (part 4). No condition: every theorem names its own hypotheses. -/
import Derived.Test.YthniebmammmacaaK3
import Derived.Test.YthniebmammmacaaProg
set_option linter.unusedVariables false
set_option linter.unusedSimpArgs false
set_option maxHeartbeats 4000000
namespace Go.Proofs.Ythniebmammmacaa
open Go.RowKit
def p75a_l1 (k : Nat) (j6 : List Int → Option (List Int)) (W4 : List Int) : Nat → Int → List Int → Option (List Int)
 | 0,_,_ => none
 | n9 + 1,x7,L8 => lt' (decide (x7 < (W4.length : Int))) fun b10 => sp b10 (gd ((0 : Int) ≤ x7 ∧ x7 < (L8.length : Int)) <| lt' (List.set L8 ((x7).toNat) (1125899906842624 : Int)) fun L12 => lt' (wr .i64 (x7 + (1 : Int))) fun x13 => p75a_l1 k j6 W4 n9 x13 L12) (j6 L8)
def p75a_l2 (k : Nat) (u3y0 : Int) (u3y1 : List (List Int)) (u3y2 : List WT) (u3y3 : List Int) (u3Z : Int) (j19 : List Int → Option (List Int)) (W17 : List Int) : Nat → Int → List Int → Option (List Int)
 | 0,_,_ => none
 | n22 + 1,x20,L21 => lt' (decide (x20 < (W17.length : Int))) fun b23 => sp b23 (cl (p122 k x20 u3y0 u3y1 u3y2 u3y3 u3Z) fun v24 => gd ((0 : Int) ≤ x20 ∧ x20 < (L21.length : Int)) <| lt' (List.set L21 ((x20).toNat) v24) fun L26 => lt' (wr .i64 (x20 + (1 : Int))) fun x27 => p75a_l2 k u3y0 u3y1 u3y2 u3y3 u3Z j19 W17 n22 x27 L26) (j19 L21)
def p75a_l4 (k : Nat) (u0_1 : List (List Int)) (L18 : List Int) (j37 : Bool → Bool → List Int → Option (List Int)) : Nat → Bool → Bool → Int → List Int → Option (List Int)
 | 0,_,_,_,_ => none
 | n42 + 1,b38,b39,x40,L41 => lt' (decide (x40 < (u0_1.length : Int))) fun b43 => sp b43 (jn (fun (b44 : Bool) (b45 : Bool) (L46 : List Int) => lt' (wr .i64 (x40 + (1 : Int))) fun x78 => p75a_l4 k u0_1 L18 j37 n42 b44 b45 x78 L46) fun j47 => jn (fun (b48 : Bool) (b49 : Bool) (L50 : List Int) => j47 b48 b49 L50) fun j51 => gd ((0 : Int) ≤ x40 ∧ x40 < (u0_1.length : Int)) <| lt' (List.getD u0_1 ((x40).toNat) []) fun L53 => gd ((0 : Int) ≤ x40 ∧ x40 < (L18.length : Int)) <| lt' (List.getD L18 ((x40).toNat) 0) fun x55 => lt' (decide (x55 < (0 : Int))) fun b56 => sp b56 (j51 b38 b39 L41) (lt' (List.getD L53 0 0) fun x57 => lt' (List.getD L53 1 0) fun x58 => jn (fun (b59 : Bool) (x60 : Int) (x61 : Int) => gd ((0 : Int) ≤ x60 ∧ x60 < (L41.length : Int)) <| lt' (List.getD L41 ((x60).toNat) 0) fun x64 => gd ((0 : Int) ≤ x40 ∧ x40 < (L18.length : Int)) <| lt' (List.getD L18 ((x40).toNat) 0) fun x66 => lt' (wr .i64 (x64 + x66)) fun x67 => jn (fun (b68 : Bool) => sp b68 (gd ((0 : Int) ≤ x61 ∧ x61 < (L41.length : Int)) <| lt' (List.set L41 ((x61).toNat) x67) fun L77 => j51 b59 true L77) (j51 b59 b39 L41)) fun j69 => gd ((0 : Int) ≤ x60 ∧ x60 < (L41.length : Int)) <| lt' (List.getD L41 ((x60).toNat) 0) fun x71 => lt' (decide (x71 < (1125899906842624 : Int))) fun b72 => sp b72 (gd ((0 : Int) ≤ x61 ∧ x61 < (L41.length : Int)) <| lt' (List.getD L41 ((x61).toNat) 0) fun x74 => lt' (decide (x67 < x74)) fun b75 => j69 b75) (j69 false)) fun j62 => sp b38 (j62 true x58 x57) (j62 false x57 x58))) (j37 b38 b39 L41)
def p75a_l3 (k : Nat) (u0_1 : List (List Int)) (L18 : List Int) (j29 : List Int → Option (List Int)) : Nat → Bool → Bool → List Int → Option (List Int)
 | 0,_,_,_ => none
 | n33 + 1,b30,b31,L32 => sp b31 (jn (fun (b34 : Bool) (b35 : Bool) (L36 : List Int) => p75a_l3 k u0_1 L18 j29 n33 b34 b35 L36) fun j37 => p75a_l4 k u0_1 L18 j37 k b30 false (0 : Int) L32) (j29 L32)
def p75a (k : Nat) (u0_0 : Int) (u0_1 : List (List Int)) (u0_2 : List WT) (u0_3 : List Int) (u1 : Int) (u2 : Bool) (u3y0 : Int) (u3y1 : List (List Int)) (u3y2 : List WT) (u3y3 : List Int) (u3Z : Int) : Option (List Int) :=
 gd ((0 : Int) ≤ u0_0 ∧ 8 * (u0_0).toNat ≤ 281474976710656) <| lt' (List.replicate (u0_0).toNat (0 : Int)) fun W4 => jn (fun (L5 : List Int) => gd ((0 : Int) ≤ u1 ∧ u1 < (L5.length : Int)) <| lt' (List.set L5 ((u1).toNat) (0 : Int)) fun L15 => gd ((0 : Int) ≤ (u0_1.length : Int) ∧ 8 * ((u0_1.length : Int)).toNat ≤ 281474976710656) <| lt' (List.replicate ((u0_1.length : Int)).toNat (0 : Int)) fun W17 => jn (fun (L18 : List Int) => jn (fun (L28 : List Int) => some L28) fun j29 => p75a_l3 k u0_1 L18 j29 k u2 true L15) fun j19 => p75a_l2 k u3y0 u3y1 u3y2 u3y3 u3Z j19 W17 k (0 : Int) W17) fun j6 => p75a_l1 k j6 W4 k (0 : Int) W4
theorem hf75a : Try.prog.funcs[75]? = some Try.f75 := by kernel_rfl
theorem w75a (k : Nat) {M : Mem} {Au0_1 Au0_2 Au3y1 Au3y2 : Option Addr} {cu0_1 cu0_2 cu3y1 cu3y2 bu3C bu3D : Nat} {Hu0_2 Hu3y2 : Nat → Option Addr} {Cu0_2 Cu3y2 : Nat → Nat} {u0_0 u1 u3y0 u3Z : Int} {u0_1 u3y1 : List (List Int)} {u0_2 u3y2 : List WT} {u0_3 u3y3 : List Int} {u2 : Bool} (hu0_1 : SlR M Au0_1 cu0_1 .i64 12 u0_1) (hu0_2 : SlW M 3 Au0_2 cu0_2 Hu0_2 Cu0_2 u0_2) (hu0_3 : u0_3.length = 6) (hu3y1 : SlR M Au3y1 cu3y1 .i64 12 u3y1) (hu3y2 : SlW M 3 Au3y2 cu3y2 Hu3y2 Cu3y2 u3y2) (hu3y3 : u3y3.length = 6) (hbu3C : MB M bu3C [oI u3y0,oS Au3y1 u3y1 cu3y1,oS Au3y2 u3y2 cu3y2,.arr .i64 6 u3y3]) (hbu3D : MB M bu3D [.one (.v (.int .u64 u3Z))]) {r} (h : p75a k u0_0 u0_1 u0_2 u0_3 u1 u2 u3y0 u3y1 u3y2 u3y3 u3Z = some r) :
  Fn Try.prog 75 [rval (.agg [oI u0_0,oS Au0_1 u0_1 cu0_1,oS Au0_2 u0_2 cu0_2,.arr .i64 6 u0_3]),rval (vi u1),rval (vb u2),rval (.lf (.v (.func (.func 122) #[] #[(.pointer (some ⟨bu3C,0,none⟩)),(.pointer (some ⟨bu3D,0,none⟩))])))] M (fun x M' => ∃ (A1 : Option Addr) (c2 : Nat),x = lS A1 r c2 ∧ SlI M' A1 c2 .i64 r) := by
 unfold p75a at h
 refine FO [.agg [oI u0_0,oS Au0_1 u0_1 cu0_1,oS Au0_2 u0_2 cu0_2,.arr .i64 6 u0_3],vi u1,vb u2,.lf (.v (.func (.func 122) #[] #[(.pointer (some ⟨bu3C,0,none⟩)),(.pointer (some ⟨bu3D,0,none⟩))]))] hf75a ⟨⟨rfl,⟨rfl,⟨rfl,⟨hu0_3,trivial⟩⟩⟩⟩,⟨trivial,⟨trivial,⟨trivial,trivial⟩⟩⟩⟩ fun w => ?_
 refine SQ0 (RG ?_)
 refine SG 2 (S4 [(1,vi u1),(2,vb u2),(3,.lf (.v (.func (.func 122) #[] #[(.pointer (some ⟨bu3C,0,none⟩)),(.pointer (some ⟨bu3D,0,none⟩))]))),(4,lO 4)] [(4,[oI u0_0,oS Au0_1 u0_1 cu0_1,oS Au0_2 u0_2 cu0_2,.arr .i64 6 u0_3])] [] M) ?_
 refine EN (SQ (RG ?_))
 refine SS 3 [(1,vi u1),(2,vb u2),(3,.lf (.v (.func (.func 122) #[] #[(.pointer (some ⟨bu3C,0,none⟩)),(.pointer (some ⟨bu3D,0,none⟩))]))),(4,lO 4),(21,vi u0_0)] ?_
 obtain ⟨g3,h⟩ := gd_some h
 obtain ⟨W4,e_W4,h⟩ := lt_some h
 refine TI_of (i:=3) (by kernel_rfl) (TE_makeC (len2:=List.length W4) (d:=22) (e:=2) (sz:=1) (bytes:=8) (zs:=[.int .i64 0]) (cs:=ints .i64 W4) (z:=u0_0) (by subst e_W4;kernel_rfl) (by kernel_rfl) g3.1 g3.2 rfl (rep_ints' e_W4) (by rw [e_W4,List.length_replicate]) ?_)
 refine SG 5 (S4 [(1,vi u1),(2,vb u2),(3,.lf (.v (.func (.func 122) #[] #[(.pointer (some ⟨bu3C,0,none⟩)),(.pointer (some ⟨bu3D,0,none⟩))]))),(4,lO 4),(9,lV 22)] [(4,[oI u0_0,oS Au0_1 u0_1 cu0_1,oS Au0_2 u0_2 cu0_2,.arr .i64 6 u0_3])] [(22,vI 2 1 W4)] M) ?_
 refine EN (SQ (SQ (RG ?_)))
 refine SS 3 [(1,vi u1),(2,vb u2),(3,.lf (.v (.func (.func 122) #[] #[(.pointer (some ⟨bu3C,0,none⟩)),(.pointer (some ⟨bu3D,0,none⟩))]))),(4,lO 4),(9,lV 22),(24,vi (W4.length : Int)),(25,vi (0 : Int))] ?_
 refine EN ?_
 obtain ⟨j6,e_j6,h⟩ := jn_some h
 refine T_bcut (id:=0) (c1:=(sub [1,1,0,1,0] Bd75)) (fun s' => ∃ (L5 : List Int),Sub { σ := [(1,vi u1),(2,vb u2),(3,.lf (.v (.func (.func 122) #[] #[(.pointer (some ⟨bu3C,0,none⟩)),(.pointer (some ⟨bu3D,0,none⟩))]))),(4,lO 4),(9,lV 22)],H := [(4,[oI u0_0,oS Au0_1 u0_1 cu0_1,oS Au0_2 u0_2 cu0_2,.arr .i64 6 u0_3])],V := [(22,vI 2 1 L5)],M := M,ds := [] } s' ∧ j6 L5 = some r) (by kernel_rfl) ?_ ?_
 ·refine T_loop (c1:=(sub [1,1,0,1,0,0] Bd75)) (by kernel_rfl) (fun n9 s' => ∃ (x7 : Int) (L8 : List Int),Sub { σ := [(1,vi u1),(2,vb u2),(3,.lf (.v (.func (.func 122) #[] #[(.pointer (some ⟨bu3C,0,none⟩)),(.pointer (some ⟨bu3D,0,none⟩))]))),(4,lO 4),(9,lV 22),(24,vi (W4.length : Int)),(25,vi x7)],H := [(4,[oI u0_0,oS Au0_1 u0_1 cu0_1,oS Au0_2 u0_2 cu0_2,.arr .i64 6 u0_3])],V := [(22,vI 2 1 L8)],M := M,ds := [] } s' ∧ p75a_l1 k j6 W4 n9 x7 L8 = some r) (k:=k) ⟨(0 : Int),W4,keep_sub (ts:=[1,2,3,4,9,24,25]) (hs:=[4]) (vs:=[22]) (by kernel_rfl),h⟩ ?_
  rintro n9 s' ⟨x7,L8,hsub,h⟩
  cases n9 with
  | zero => rw [p75a_l1] at h;cases h
  | succ n9 =>
   rw [p75a_l1] at h
   refine T_sub hsub ?_
   refine SQ (RG ?_)
   obtain ⟨b10,e_b10,h⟩ := lt_some h
   refine SG 1 (S4 [(1,vi u1),(2,vb u2),(3,.lf (.v (.func (.func 122) #[] #[(.pointer (some ⟨bu3C,0,none⟩)),(.pointer (some ⟨bu3D,0,none⟩))]))),(4,lO 4),(9,lV 22),(24,vi (W4.length : Int)),(25,vi x7),(26,vb b10)] [(4,[oI u0_0,oS Au0_1 u0_1 cu0_1,oS Au0_2 u0_2 cu0_2,.arr .i64 6 u0_3])] [(22,vI 2 1 L8)] M) ?_ (by subst e_b10;kernel_rfl)
   refine EN (SQ ?_)
   cases b10 with
   | true =>
    replace h := sp_t h
    refine CT ?_
    refine KS [(1,vi u1),(2,vb u2),(3,.lf (.v (.func (.func 122) #[] #[(.pointer (some ⟨bu3C,0,none⟩)),(.pointer (some ⟨bu3D,0,none⟩))]))),(4,lO 4),(9,lV 22),(24,vi (W4.length : Int)),(25,vi x7)] ?_
    refine SN (SQ (BK 1 (SQ (RG ?_))))
    refine SS 2 [(1,vi u1),(2,vb u2),(3,.lf (.v (.func (.func 122) #[] #[(.pointer (some ⟨bu3C,0,none⟩)),(.pointer (some ⟨bu3D,0,none⟩))]))),(4,lO 4),(9,lV 22),(10,vi x7),(24,vi (W4.length : Int)),(25,vi x7)] ?_
    refine EN (RG ?_)
    refine SS 2 [(1,vi u1),(2,vb u2),(3,.lf (.v (.func (.func 122) #[] #[(.pointer (some ⟨bu3C,0,none⟩)),(.pointer (some ⟨bu3D,0,none⟩))]))),(4,lO 4),(9,lV 22),(24,vi (W4.length : Int)),(25,vi x7),(28,lV 22),(29,vi x7)] ?_
    obtain ⟨g11,h⟩ := gd_some h
    refine AT 30 (.lf (.vel 22 1 ((x7).toNat) 0)) (At_idxV (z:=x7) (n:=22) (sz:=1) (v:=vI 2 1 L8) (by kernel_rfl) (by kernel_rfl) g11) ?_
    obtain ⟨L12,e_L12,h⟩ := lt_some h
    refine TI_of (i:=3) (by kernel_rfl) (TE_stC (len2:=List.length L12) (m:=1) (n:=22) (sz:=1) (j:=(x7).toNat) (q:=0) (e:=2) (len:=List.length L8) (c:=[oI (1125899906842624 : Int)]) (cs0:=ints .i64 L8) (cs2:=ints .i64 L12) (by subst e_L12; kernel_rfl) (by kernel_rfl) (by subst e_L12; kernel_rfl) (vle (toNat_lt g11)) (by kernel_rfl) (by rw [e_L12]; exact set1_ints (toNat_lt g11)) (by rw [e_L12,List.length_set]) ?_)
    refine SG 4 (S4 [(1,vi u1),(2,vb u2),(3,.lf (.v (.func (.func 122) #[] #[(.pointer (some ⟨bu3C,0,none⟩)),(.pointer (some ⟨bu3D,0,none⟩))]))),(4,lO 4),(9,lV 22),(24,vi (W4.length : Int)),(25,vi x7)] [(4,[oI u0_0,oS Au0_1 u0_1 cu0_1,oS Au0_2 u0_2 cu0_2,.arr .i64 6 u0_3])] [(22,vI 2 1 L12)] M) ?_
    refine E0 (blockQ_n (thenQ_n (RG ?_)))
    obtain ⟨x13,e_x13,h⟩ := lt_some h
    refine SS 2 [(1,vi u1),(2,vb u2),(3,.lf (.v (.func (.func 122) #[] #[(.pointer (some ⟨bu3C,0,none⟩)),(.pointer (some ⟨bu3D,0,none⟩))]))),(4,lO 4),(9,lV 22),(24,vi (W4.length : Int)),(25,vi x13)] ?_ (by subst e_x13;kernel_rfl)
    refine EN ?_
    exact ⟨n9,Nat.lt_succ_self _,x13,L12,keep_sub (ts:=[1,2,3,4,9,24,25]) (hs:=[4]) (vs:=[22]) (by kernel_rfl),h⟩
   | false =>
    replace h := sp_f h
    refine CF ?_
    refine KS [(1,vi u1),(2,vb u2),(3,.lf (.v (.func (.func 122) #[] #[(.pointer (some ⟨bu3C,0,none⟩)),(.pointer (some ⟨bu3D,0,none⟩))]))),(4,lO 4),(9,lV 22)] ?_
    refine XI 0 (thenQ_x (thenQ_x (blockQ_x (thenQ_n ?_))))
    exact ⟨L8,keep_sub (ts:=[1,2,3,4,9]) (hs:=[4]) (vs:=[22]) (by kernel_rfl),h⟩
 ·rintro s' ⟨L5,hsub,h⟩
  subst e_j6
  refine thenQ_n ?_
  refine T_sub hsub ?_
  refine SQ (RG ?_)
  refine SG 2 (S4 [(2,vb u2),(3,.lf (.v (.func (.func 122) #[] #[(.pointer (some ⟨bu3C,0,none⟩)),(.pointer (some ⟨bu3D,0,none⟩))]))),(4,lO 4),(9,lV 22),(32,lV 22),(33,vi u1)] [(4,[oI u0_0,oS Au0_1 u0_1 cu0_1,oS Au0_2 u0_2 cu0_2,.arr .i64 6 u0_3])] [(22,vI 2 1 L5)] M) ?_
  obtain ⟨g14,h⟩ := gd_some h
  refine AT 34 (.lf (.vel 22 1 ((u1).toNat) 0)) (At_idxV (z:=u1) (n:=22) (sz:=1) (v:=vI 2 1 L5) (by kernel_rfl) (by kernel_rfl) g14) ?_
  obtain ⟨L15,e_L15,h⟩ := lt_some h
  refine TI_of (i:=3) (by kernel_rfl) (TE_stC (len2:=List.length L15) (m:=1) (n:=22) (sz:=1) (j:=(u1).toNat) (q:=0) (e:=2) (len:=List.length L5) (c:=[oI (0 : Int)]) (cs0:=ints .i64 L5) (cs2:=ints .i64 L15) (by subst e_L15; kernel_rfl) (by kernel_rfl) (by subst e_L15; kernel_rfl) (vle (toNat_lt g14)) (by kernel_rfl) (by rw [e_L15]; exact set1_ints (toNat_lt g14)) (by rw [e_L15,List.length_set]) ?_)
  refine SG 4 (S4 [(2,vb u2),(3,.lf (.v (.func (.func 122) #[] #[(.pointer (some ⟨bu3C,0,none⟩)),(.pointer (some ⟨bu3D,0,none⟩))]))),(4,lO 4),(9,lV 22)] [(4,[oI u0_0,oS Au0_1 u0_1 cu0_1,oS Au0_2 u0_2 cu0_2,.arr .i64 6 u0_3])] [(22,vI 2 1 L15)] M) ?_
  refine EN (SQ (RG ?_))
  refine SS 4 [(2,vb u2),(3,.lf (.v (.func (.func 122) #[] #[(.pointer (some ⟨bu3C,0,none⟩)),(.pointer (some ⟨bu3D,0,none⟩))]))),(4,lO 4),(9,lV 22),(38,vi (u0_1.length : Int))] ?_
  obtain ⟨g16,h⟩ := gd_some h
  obtain ⟨W17,e_W17,h⟩ := lt_some h
  refine TI_of (i:=4) (by kernel_rfl) (TE_makeC (len2:=List.length W17) (d:=39) (e:=2) (sz:=1) (bytes:=8) (zs:=[.int .i64 0]) (cs:=ints .i64 W17) (z:=(u0_1.length : Int)) (by subst e_W17;kernel_rfl) (by kernel_rfl) g16.1 g16.2 rfl (rep_ints' e_W17) (by rw [e_W17,List.length_replicate]) ?_)
  refine SG 6 (S4 [(2,vb u2),(3,.lf (.v (.func (.func 122) #[] #[(.pointer (some ⟨bu3C,0,none⟩)),(.pointer (some ⟨bu3D,0,none⟩))]))),(4,lO 4),(9,lV 22),(11,lV 39)] [(4,[oI u0_0,oS Au0_1 u0_1 cu0_1,oS Au0_2 u0_2 cu0_2,.arr .i64 6 u0_3])] [(22,vI 2 1 L15),(39,vI 2 1 W17)] M) ?_
  refine EN (SQ (SQ (RG ?_)))
  refine SS 3 [(2,vb u2),(3,.lf (.v (.func (.func 122) #[] #[(.pointer (some ⟨bu3C,0,none⟩)),(.pointer (some ⟨bu3D,0,none⟩))]))),(4,lO 4),(9,lV 22),(11,lV 39),(41,vi (W17.length : Int)),(42,vi (0 : Int))] ?_
  refine EN ?_
  obtain ⟨j19,e_j19,h⟩ := jn_some h
  refine T_bcut (id:=2) (c1:=(sub [1,1,1,1,1,0,1,0] Bd75)) (fun s' => ∃ (L18 : List Int),Sub { σ := [(2,vb u2),(4,lO 4),(9,lV 22),(11,lV 39)],H := [(4,[oI u0_0,oS Au0_1 u0_1 cu0_1,oS Au0_2 u0_2 cu0_2,.arr .i64 6 u0_3])],V := [(22,vI 2 1 L15),(39,vI 2 1 L18)],M := M,ds := [] } s' ∧ j19 L18 = some r) (by kernel_rfl) ?_ ?_
  ·refine T_loop (c1:=(sub [1,1,1,1,1,0,1,0,0] Bd75)) (by kernel_rfl) (fun n22 s' => ∃ (x20 : Int) (L21 : List Int),Sub { σ := [(2,vb u2),(3,.lf (.v (.func (.func 122) #[] #[(.pointer (some ⟨bu3C,0,none⟩)),(.pointer (some ⟨bu3D,0,none⟩))]))),(4,lO 4),(9,lV 22),(11,lV 39),(41,vi (W17.length : Int)),(42,vi x20)],H := [(4,[oI u0_0,oS Au0_1 u0_1 cu0_1,oS Au0_2 u0_2 cu0_2,.arr .i64 6 u0_3])],V := [(22,vI 2 1 L15),(39,vI 2 1 L21)],M := M,ds := [] } s' ∧ p75a_l2 k u3y0 u3y1 u3y2 u3y3 u3Z j19 W17 n22 x20 L21 = some r) (k:=k) ⟨(0 : Int),W17,keep_sub (ts:=[2,3,4,9,11,41,42]) (hs:=[4]) (vs:=[22,39]) (by kernel_rfl),h⟩ ?_
   rintro n22 s' ⟨x20,L21,hsub,h⟩
   cases n22 with
   | zero => rw [p75a_l2] at h;cases h
   | succ n22 =>
    rw [p75a_l2] at h
    refine T_sub hsub ?_
    refine SQ (RG ?_)
    obtain ⟨b23,e_b23,h⟩ := lt_some h
    refine SG 1 (S4 [(2,vb u2),(3,.lf (.v (.func (.func 122) #[] #[(.pointer (some ⟨bu3C,0,none⟩)),(.pointer (some ⟨bu3D,0,none⟩))]))),(4,lO 4),(9,lV 22),(11,lV 39),(41,vi (W17.length : Int)),(42,vi x20),(43,vb b23)] [(4,[oI u0_0,oS Au0_1 u0_1 cu0_1,oS Au0_2 u0_2 cu0_2,.arr .i64 6 u0_3])] [(22,vI 2 1 L15),(39,vI 2 1 L21)] M) ?_ (by subst e_b23;kernel_rfl)
    refine EN (SQ ?_)
    cases b23 with
    | true =>
     replace h := sp_t h
     refine CT ?_
     refine KS [(2,vb u2),(3,.lf (.v (.func (.func 122) #[] #[(.pointer (some ⟨bu3C,0,none⟩)),(.pointer (some ⟨bu3D,0,none⟩))]))),(4,lO 4),(9,lV 22),(11,lV 39),(41,vi (W17.length : Int)),(42,vi x20)] ?_
     refine SN (SQ (BK 3 (SQ (RG ?_))))
     refine SS 2 [(2,vb u2),(3,.lf (.v (.func (.func 122) #[] #[(.pointer (some ⟨bu3C,0,none⟩)),(.pointer (some ⟨bu3D,0,none⟩))]))),(4,lO 4),(9,lV 22),(11,lV 39),(12,vi x20),(41,vi (W17.length : Int)),(42,vi x20)] ?_
     refine EN (RG ?_)
     refine SS 4 [(2,vb u2),(3,.lf (.v (.func (.func 122) #[] #[(.pointer (some ⟨bu3C,0,none⟩)),(.pointer (some ⟨bu3D,0,none⟩))]))),(4,lO 4),(9,lV 22),(11,lV 39),(41,vi (W17.length : Int)),(42,vi x20),(45,lV 39),(46,vi x20),(47,.lf (.v (.func (.func 122) #[] #[(.pointer (some ⟨bu3C,0,none⟩)),(.pointer (some ⟨bu3D,0,none⟩))]))),(48,vi x20)] ?_
     obtain ⟨v24,c_v24,h⟩ := cl_some h
     refine AC 49 (vi v24) (w122 k hu3y1 hu3y2 hu3y3 hbu3C hbu3D c_v24) ?_
     obtain ⟨g25,h⟩ := gd_some h
     refine AT 50 (.lf (.vel 39 1 ((x20).toNat) 0)) (At_idxV (z:=x20) (n:=39) (sz:=1) (v:=vI 2 1 L21) (by kernel_rfl) (by kernel_rfl) g25) ?_
     obtain ⟨L26,e_L26,h⟩ := lt_some h
     refine TI_of (i:=6) (by kernel_rfl) (TE_stC (len2:=List.length L26) (m:=1) (n:=39) (sz:=1) (j:=(x20).toNat) (q:=0) (e:=2) (len:=List.length L21) (c:=[oI v24]) (cs0:=ints .i64 L21) (cs2:=ints .i64 L26) (by subst e_L26; kernel_rfl) (by kernel_rfl) (by subst e_L26; kernel_rfl) (vle (toNat_lt g25)) (by kernel_rfl) (by rw [e_L26]; exact set1_ints (toNat_lt g25)) (by rw [e_L26,List.length_set]) ?_)
     refine SG 7 (S4 [(2,vb u2),(3,.lf (.v (.func (.func 122) #[] #[(.pointer (some ⟨bu3C,0,none⟩)),(.pointer (some ⟨bu3D,0,none⟩))]))),(4,lO 4),(9,lV 22),(11,lV 39),(41,vi (W17.length : Int)),(42,vi x20)] [(4,[oI u0_0,oS Au0_1 u0_1 cu0_1,oS Au0_2 u0_2 cu0_2,.arr .i64 6 u0_3])] [(22,vI 2 1 L15),(39,vI 2 1 L26)] M) ?_
     refine E0 (blockQ_n (thenQ_n (RG ?_)))
     obtain ⟨x27,e_x27,h⟩ := lt_some h
     refine SS 2 [(2,vb u2),(3,.lf (.v (.func (.func 122) #[] #[(.pointer (some ⟨bu3C,0,none⟩)),(.pointer (some ⟨bu3D,0,none⟩))]))),(4,lO 4),(9,lV 22),(11,lV 39),(41,vi (W17.length : Int)),(42,vi x27)] ?_ (by subst e_x27;kernel_rfl)
     refine EN ?_
     exact ⟨n22,Nat.lt_succ_self _,x27,L26,keep_sub (ts:=[2,3,4,9,11,41,42]) (hs:=[4]) (vs:=[22,39]) (by kernel_rfl),h⟩
    | false =>
     replace h := sp_f h
     refine CF ?_
     refine KS [(2,vb u2),(4,lO 4),(9,lV 22),(11,lV 39)] ?_
     refine XI 2 (thenQ_x (thenQ_x (blockQ_x (thenQ_n ?_))))
     exact ⟨L21,keep_sub (ts:=[2,4,9,11]) (hs:=[4]) (vs:=[22,39]) (by kernel_rfl),h⟩
  ·rintro s' ⟨L18,hsub,h⟩
   subst e_j19
   refine thenQ_n ?_
   refine T_sub hsub ?_
   refine SQ (SQ (RG ?_))
   refine SG 1 (S4 [(2,vb u2),(4,lO 4),(9,lV 22),(11,lV 39),(13,vb true)] [(4,[oI u0_0,oS Au0_1 u0_1 cu0_1,oS Au0_2 u0_2 cu0_2,.arr .i64 6 u0_3])] [(22,vI 2 1 L15),(39,vI 2 1 L18)] M) ?_
   refine EN ?_
   obtain ⟨j29,e_j29,h⟩ := jn_some h
   refine T_bcut (id:=4) (c1:=(sub [1,1,1,1,1,1,0,1,0] Bd75)) (fun s' => ∃ (L28 : List Int),Sub { σ := [(9,lV 22)],H := [],V := [(22,vI 2 1 L28)],M := M,ds := [] } s' ∧ j29 L28 = some r) (by kernel_rfl) ?_ ?_
   ·refine T_loop (c1:=(sub [1,1,1,1,1,1,0,1,0,0] Bd75)) (by kernel_rfl) (fun n33 s' => ∃ (b30 : Bool) (b31 : Bool) (L32 : List Int),Sub { σ := [(2,vb b30),(4,lO 4),(9,lV 22),(11,lV 39),(13,vb b31)],H := [(4,[oI u0_0,oS Au0_1 u0_1 cu0_1,oS Au0_2 u0_2 cu0_2,.arr .i64 6 u0_3])],V := [(22,vI 2 1 L32),(39,vI 2 1 L18)],M := M,ds := [] } s' ∧ p75a_l3 k u0_1 L18 j29 n33 b30 b31 L32 = some r) (k:=k) ⟨u2,true,L15,keep_sub (ts:=[2,4,9,11,13]) (hs:=[4]) (vs:=[22,39]) (by kernel_rfl),h⟩ ?_
    rintro n33 s' ⟨b30,b31,L32,hsub,h⟩
    cases n33 with
    | zero => rw [p75a_l3] at h;cases h
    | succ n33 =>
     rw [p75a_l3] at h
     refine T_sub hsub ?_
     refine SQ (SQ (RG ?_))
     refine SG 1 (S4 [(2,vb b30),(4,lO 4),(9,lV 22),(11,lV 39),(52,vb b31)] [(4,[oI u0_0,oS Au0_1 u0_1 cu0_1,oS Au0_2 u0_2 cu0_2,.arr .i64 6 u0_3])] [(22,vI 2 1 L32),(39,vI 2 1 L18)] M) ?_
     refine EN ?_
     cases b31 with
     | true =>
      replace h := sp_t h
      refine CT ?_
      refine KS [(2,vb b30),(4,lO 4),(9,lV 22),(11,lV 39)] ?_
      refine SN (BK 5 ?_)
      refine T_scope (c1:=(sub [1,1,1,1,1,1,0,1,0,0,1,0,0] Bd75)) (by kernel_rfl) ?_
      refine SQ (RG ?_)
      refine SG 1 (S4 [(2,vb b30),(4,lO 4),(9,lV 22),(11,lV 39),(13,vb false)] [(4,[oI u0_0,oS Au0_1 u0_1 cu0_1,oS Au0_2 u0_2 cu0_2,.arr .i64 6 u0_3])] [(22,vI 2 1 L32),(39,vI 2 1 L18)] M) ?_
      refine EN (SQ ?_)
      refine T_label (l:=0) (by kernel_rfl) ?_
      refine thenQ_n (SQ (RG ?_))
      refine SG 5 (S4 [(2,vb b30),(4,lO 4),(9,lV 22),(11,lV 39),(13,vb false),(55,lS Au0_1 u0_1 cu0_1),(56,vi (u0_1.length : Int)),(57,vi (0 : Int))] [(4,[oI u0_0,oS Au0_1 u0_1 cu0_1,oS Au0_2 u0_2 cu0_2,.arr .i64 6 u0_3])] [(22,vI 2 1 L32),(39,vI 2 1 L18)] M) ?_
      refine EN ?_
      obtain ⟨j37,e_j37,h⟩ := jn_some h
      refine T_bcut (id:=6) (c1:=(sub [1,1,1,1,1,1,0,1,0,0,1,0,0,1,1,1,0] Bd75)) (fun s' => ∃ (b34 : Bool) (b35 : Bool) (L36 : List Int),Sub { σ := [(2,vb b34),(4,lO 4),(9,lV 22),(11,lV 39),(13,vb b35)],H := [(4,[oI u0_0,oS Au0_1 u0_1 cu0_1,oS Au0_2 u0_2 cu0_2,.arr .i64 6 u0_3])],V := [(22,vI 2 1 L36),(39,vI 2 1 L18)],M := M,ds := [] } s' ∧ j37 b34 b35 L36 = some r) (by kernel_rfl) ?_ ?_
      ·refine T_loop (c1:=(sub [1,1,1,1,1,1,0,1,0,0,1,0,0,1,1,1,0,0] Bd75)) (by kernel_rfl) (fun n42 s' => ∃ (b38 : Bool) (b39 : Bool) (x40 : Int) (L41 : List Int),Sub { σ := [(2,vb b38),(4,lO 4),(9,lV 22),(11,lV 39),(13,vb b39),(55,lS Au0_1 u0_1 cu0_1),(56,vi (u0_1.length : Int)),(57,vi x40)],H := [(4,[oI u0_0,oS Au0_1 u0_1 cu0_1,oS Au0_2 u0_2 cu0_2,.arr .i64 6 u0_3])],V := [(22,vI 2 1 L41),(39,vI 2 1 L18)],M := M,ds := [] } s' ∧ p75a_l4 k u0_1 L18 j37 n42 b38 b39 x40 L41 = some r) (k:=k) ⟨b30,false,(0 : Int),L32,keep_sub (ts:=[2,4,9,11,13,55,56,57]) (hs:=[4]) (vs:=[22,39]) (by kernel_rfl),h⟩ ?_
       rintro n42 s' ⟨b38,b39,x40,L41,hsub,h⟩
       cases n42 with
       | zero => rw [p75a_l4] at h;cases h
       | succ n42 =>
        rw [p75a_l4] at h
        refine T_sub hsub ?_
        refine SQ (RG ?_)
        obtain ⟨b43,e_b43,h⟩ := lt_some h
        refine SG 1 (S4 [(2,vb b38),(4,lO 4),(9,lV 22),(11,lV 39),(13,vb b39),(55,lS Au0_1 u0_1 cu0_1),(56,vi (u0_1.length : Int)),(57,vi x40),(58,vb b43)] [(4,[oI u0_0,oS Au0_1 u0_1 cu0_1,oS Au0_2 u0_2 cu0_2,.arr .i64 6 u0_3])] [(22,vI 2 1 L41),(39,vI 2 1 L18)] M) ?_ (by subst e_b43;kernel_rfl)
        refine EN (SQ ?_)
        cases b43 with
        | true =>
         replace h := sp_t h
         refine CT ?_
         refine KS [(2,vb b38),(4,lO 4),(9,lV 22),(11,lV 39),(13,vb b39),(55,lS Au0_1 u0_1 cu0_1),(56,vi (u0_1.length : Int)),(57,vi x40)] ?_
         refine SN ?_
         obtain ⟨j47,e_j47,h⟩ := jn_some h
         refine T_cut (c1:=(sub [1,1,1,1,1,1,0,1,0,0,1,0,0,1,1,1,0,0,1,1,0] Bd75)) (c2:=(sub [1,1,1,1,1,1,0,1,0,0,1,0,0,1,1,1,0,0,1,1,1] Bd75)) (fun s' => ∃ (b44 : Bool) (b45 : Bool) (L46 : List Int),Sub { σ := [(2,vb b44),(4,lO 4),(9,lV 22),(11,lV 39),(13,vb b45),(55,lS Au0_1 u0_1 cu0_1),(56,vi (u0_1.length : Int)),(57,vi x40)],H := [(4,[oI u0_0,oS Au0_1 u0_1 cu0_1,oS Au0_2 u0_2 cu0_2,.arr .i64 6 u0_3])],V := [(22,vI 2 1 L46),(39,vI 2 1 L18)],M := M,ds := [] } s' ∧ j47 b44 b45 L46 = some r) (by kernel_rfl) ?_ ?_
         ·obtain ⟨j51,e_j51,h⟩ := jn_some h
          refine T_bcut (id:=7) (c1:=(sub [1,1,1,1,1,1,0,1,0,0,1,0,0,1,1,1,0,0,1,1,0,0] Bd75)) (fun s' => ∃ (b48 : Bool) (b49 : Bool) (L50 : List Int),Sub { σ := [(2,vb b48),(4,lO 4),(9,lV 22),(11,lV 39),(13,vb b49),(55,lS Au0_1 u0_1 cu0_1),(56,vi (u0_1.length : Int)),(57,vi x40)],H := [(4,[oI u0_0,oS Au0_1 u0_1 cu0_1,oS Au0_2 u0_2 cu0_2,.arr .i64 6 u0_3])],V := [(22,vI 2 1 L50),(39,vI 2 1 L18)],M := M,ds := [] } s' ∧ j51 b48 b49 L50 = some r) (by kernel_rfl) ?_ ?_
          ·refine T_seq (c1:=(sub [1,1,1,1,1,1,0,1,0,0,1,0,0,1,1,1,0,0,1,1,0,0,0] Bd75)) (c2:=(sub [1,1,1,1,1,1,0,1,0,0,1,0,0,1,1,1,0,0,1,1,0,0,1] Bd75)) (by kernel_rfl) ?_
           refine RG ?_
           refine SG 1 (S4 [(2,vb b38),(4,lO 4),(9,lV 22),(11,lV 39),(13,vb b39),(55,lS Au0_1 u0_1 cu0_1),(56,vi (u0_1.length : Int)),(57,vi x40),(59,vi x40)] [(4,[oI u0_0,oS Au0_1 u0_1 cu0_1,oS Au0_2 u0_2 cu0_2,.arr .i64 6 u0_3])] [(22,vI 2 1 L41),(39,vI 2 1 L18)] M) ?_
           obtain ⟨g52,h⟩ := gd_some h
           refine AT 60 (.lf (.ep (.slice Au0_1 (u0_1.length) cu0_1) 12 ((x40).toNat) 0)) (At_idxR (z:=x40) (by kernel_rfl) g52 hu0_1) ?_
           obtain ⟨L53,e_L53,h⟩ := lt_some h
           have l_L53 : (L53).length = 12 := by rw [e_L53]; exact SlR_row hu0_1 (toNat_lt g52)
           refine AT 61 (.agg [.arr .i64 12 L53]) (by rw [e_L53]; exact At_ldRow (q:=(x40).toNat) (by subst e_L53; kernel_rfl) (toNat_lt g52) hu0_1) ?_ (hx:=⟨l_L53,trivial⟩)
           refine SH 6 [(2,vb b38),(4,lO 4),(9,lV 22),(11,lV 39),(13,vb b39),(14,vi x40),(15,lO 15),(55,lS Au0_1 u0_1 cu0_1),(56,vi (u0_1.length : Int)),(57,vi x40)] [(4,[oI u0_0,oS Au0_1 u0_1 cu0_1,oS Au0_2 u0_2 cu0_2,.arr .i64 6 u0_3]),(15,[.arr .i64 12 L53])] ?_
           refine EN (SQ (SQ (RG ?_)))
           refine SS 2 [(2,vb b38),(4,lO 4),(9,lV 22),(11,lV 39),(13,vb b39),(14,vi x40),(15,lO 15),(55,lS Au0_1 u0_1 cu0_1),(56,vi (u0_1.length : Int)),(57,vi x40),(62,lV 39),(63,vi x40)] ?_
           obtain ⟨g54,h⟩ := gd_some h
           refine AT 64 (.lf (.vel 39 1 ((x40).toNat) 0)) (At_idxV (z:=x40) (n:=39) (sz:=1) (v:=vI 2 1 L18) (by kernel_rfl) (by kernel_rfl) g54) ?_
           obtain ⟨x55,e_x55,h⟩ := lt_some h
           refine AT 65 (vi x55) (by rw [e_x55]; exact At_ldVI (n:=39) (q:=(x40).toNat) (k:=.i64) (L:=L18) (by subst e_x55; kernel_rfl) (v:=vI 2 1 L18) (by subst e_x55; kernel_rfl) rfl (toNat_lt g54)) ?_
           obtain ⟨b56,e_b56,h⟩ := lt_some h
           refine SH 5 [(2,vb b38),(4,lO 4),(9,lV 22),(11,lV 39),(13,vb b39),(14,vi x40),(15,lO 15),(55,lS Au0_1 u0_1 cu0_1),(56,vi (u0_1.length : Int)),(57,vi x40),(66,vb b56)] [(4,[oI u0_0,oS Au0_1 u0_1 cu0_1,oS Au0_2 u0_2 cu0_2,.arr .i64 6 u0_3]),(15,[.arr .i64 12 L53])] ?_ (by subst e_b56;kernel_rfl)
           refine EN ?_
           cases b56 with
           | true =>
            replace h := sp_t h
            refine CT ?_
            refine KP [(2,vb b38),(4,lO 4),(9,lV 22),(11,lV 39),(13,vb b39),(55,lS Au0_1 u0_1 cu0_1),(56,vi (u0_1.length : Int)),(57,vi x40)] [(4,[oI u0_0,oS Au0_1 u0_1 cu0_1,oS Au0_2 u0_2 cu0_2,.arr .i64 6 u0_3])] [(22,vI 2 1 L41),(39,vI 2 1 L18)] ?_
            refine XI 7 (thenQ_x (blockQ_x (thenQ_n ?_)))
            exact ⟨b38,b39,L41,keep_sub (ts:=[2,4,9,11,13,55,56,57]) (hs:=[4]) (vs:=[22,39]) (by kernel_rfl),h⟩
           | false =>
            replace h := sp_f h
            refine CF ?_
            refine KS [(2,vb b38),(4,lO 4),(9,lV 22),(11,lV 39),(13,vb b39),(14,vi x40),(15,lO 15),(55,lS Au0_1 u0_1 cu0_1),(56,vi (u0_1.length : Int)),(57,vi x40)] ?_
            refine SN (SQ ?_)
            obtain ⟨x57,e_x57,h⟩ := lt_some h
            obtain ⟨x58,e_x58,h⟩ := lt_some h
            refine T_draw' (id:=21) [] [0,0,0,0,0,0] (by kernel_rfl) (by kernel_rfl) (by kernel_rfl) (by kernel_rfl) [(67,lO 15),(68,vi x57),(69,.lf (.own 15 1)),(70,vi x58),(16,vi x57),(17,vi x58)] (by kernel_rfl) (wfs_lf _ (by kernel_rfl)) ?_
            refine Stage_nil (stage_all' [0,1,2,3,4,5] [] (by kernel_rfl) (by subst e_x58 e_x57;kernel_rfl) (by kernel_rfl) trivial) ?_
            refine thenQ_n ?_
            refine KG (S4 [(2,vb b38),(4,lO 4),(9,lV 22),(11,lV 39),(13,vb b39),(14,vi x40),(16,vi x57),(17,vi x58),(55,lS Au0_1 u0_1 cu0_1),(56,vi (u0_1.length : Int)),(57,vi x40)] [(4,[oI u0_0,oS Au0_1 u0_1 cu0_1,oS Au0_2 u0_2 cu0_2,.arr .i64 6 u0_3])] [(22,vI 2 1 L41),(39,vI 2 1 L18)] M) ?_ (by subst e_x58 e_x57;kernel_rfl)
            obtain ⟨j62,e_j62,h⟩ := jn_some h
            refine T_cut (c1:=(sub [1,1,1,1,1,1,0,1,0,0,1,0,0,1,1,1,0,0,1,1,0,0,1,1,1,0] Bd75)) (c2:=(sub [1,1,1,1,1,1,0,1,0,0,1,0,0,1,1,1,0,0,1,1,0,0,1,1,1,1] Bd75)) (fun s' => ∃ (b59 : Bool) (x60 : Int) (x61 : Int),Sub { σ := [(2,vb b59),(4,lO 4),(9,lV 22),(11,lV 39),(13,vb b39),(14,vi x40),(16,vi x60),(17,vi x61),(55,lS Au0_1 u0_1 cu0_1),(56,vi (u0_1.length : Int)),(57,vi x40)],H := [(4,[oI u0_0,oS Au0_1 u0_1 cu0_1,oS Au0_2 u0_2 cu0_2,.arr .i64 6 u0_3])],V := [(22,vI 2 1 L41),(39,vI 2 1 L18)],M := M,ds := [] } s' ∧ j62 b59 x60 x61 = some r) (by kernel_rfl) ?_ ?_
            ·refine T_seq (c1:=(sub [1,1,1,1,1,1,0,1,0,0,1,0,0,1,1,1,0,0,1,1,0,0,1,1,1,0,0] Bd75)) (c2:=(sub [1,1,1,1,1,1,0,1,0,0,1,0,0,1,1,1,0,0,1,1,0,0,1,1,1,0,1] Bd75)) (by kernel_rfl) ?_
             refine RG ?_
             refine SG 1 (S4 [(2,vb b38),(4,lO 4),(9,lV 22),(11,lV 39),(13,vb b39),(14,vi x40),(16,vi x57),(17,vi x58),(55,lS Au0_1 u0_1 cu0_1),(56,vi (u0_1.length : Int)),(57,vi x40),(71,vb b38)] [(4,[oI u0_0,oS Au0_1 u0_1 cu0_1,oS Au0_2 u0_2 cu0_2,.arr .i64 6 u0_3])] [(22,vI 2 1 L41),(39,vI 2 1 L18)] M) ?_
             refine EN ?_
             cases b38 with
             | true =>
              replace h := sp_t h
              refine CT ?_
              refine KS [(2,vb true),(4,lO 4),(9,lV 22),(11,lV 39),(13,vb b39),(14,vi x40),(16,vi x57),(17,vi x58),(55,lS Au0_1 u0_1 cu0_1),(56,vi (u0_1.length : Int)),(57,vi x40)] ?_
              refine RG ?_
              refine SS 4 [(2,vb true),(4,lO 4),(9,lV 22),(11,lV 39),(13,vb b39),(14,vi x40),(16,vi x58),(17,vi x57),(55,lS Au0_1 u0_1 cu0_1),(56,vi (u0_1.length : Int)),(57,vi x40)] ?_
              refine EN ?_
              exact ⟨true,x58,x57,keep_sub (ts:=[2,4,9,11,13,14,16,17,55,56,57]) (hs:=[4]) (vs:=[22,39]) (by kernel_rfl),h⟩
             | false =>
              replace h := sp_f h
              refine CF ?_
              refine KS [(2,vb false),(4,lO 4),(9,lV 22),(11,lV 39),(13,vb b39),(14,vi x40),(16,vi x57),(17,vi x58),(55,lS Au0_1 u0_1 cu0_1),(56,vi (u0_1.length : Int)),(57,vi x40)] ?_
              refine SN ?_
              exact ⟨false,x57,x58,keep_sub (ts:=[2,4,9,11,13,14,16,17,55,56,57]) (hs:=[4]) (vs:=[22,39]) (by kernel_rfl),h⟩
            ·rintro s' ⟨b59,x60,x61,hsub,h⟩
             subst e_j62
             refine T_sub hsub ?_
             refine SQ ?_
             obtain ⟨g63,h⟩ := gd_some h
             obtain ⟨x64,e_x64,h⟩ := lt_some h
             obtain ⟨g65,h⟩ := gd_some h
             obtain ⟨x66,e_x66,h⟩ := lt_some h
             obtain ⟨x67,e_x67,h⟩ := lt_some h
             refine T_draw' (id:=24) [] [0,0,0,0,0,0,0,0,0,0] (by kernel_rfl) (by kernel_rfl) (by kernel_rfl) (by kernel_rfl) [(74,lV 22),(75,vi x60),(76,.lf (.vel 22 1 ((x60).toNat) 0)),(77,vi x64),(78,lV 39),(79,vi x40),(80,.lf (.vel 39 1 ((x40).toNat) 0)),(81,vi x66),(82,vi x67),(18,vi x67)] (by kernel_rfl) (wfs_lf _ (by kernel_rfl)) ?_
             refine Stage_nil (stage_all' [0,1,4,5,8,9] [2,3,6,7] (by kernel_rfl) (by subst_vars; kernel_rfl) (by kernel_rfl) ⟨QF_at (i:=2) (d:=76) (x:=.lf (.vel 22 1 ((x60).toNat) 0)) (show OpAt _ _ _ 2 76 _ from by exact At_idxV (d:=76) (z:=x60) (n:=22) (sz:=1) (v:=vI 2 1 L41) (by subst_vars; kernel_rfl) (by subst_vars; kernel_rfl) g63) (by kernel_rfl) (by subst_vars; kernel_rfl),⟨QF_at (i:=3) (d:=77) (x:=vi x64) (show OpAt _ _ _ 3 77 _ from by rw [e_x64]; exact At_ldVI (d:=77) (n:=22) (q:=(x60).toNat) (k:=.i64) (L:=L41) (by subst_vars; kernel_rfl) (v:=vI 2 1 L41) (by subst_vars; kernel_rfl) rfl (toNat_lt g63)) (by kernel_rfl) (by subst_vars; kernel_rfl),⟨QF_at (i:=6) (d:=80) (x:=.lf (.vel 39 1 ((x40).toNat) 0)) (show OpAt _ _ _ 6 80 _ from by exact At_idxV (d:=80) (z:=x40) (n:=39) (sz:=1) (v:=vI 2 1 L18) (by subst_vars; kernel_rfl) (by subst_vars; kernel_rfl) g65) (by kernel_rfl) (by subst_vars; kernel_rfl),⟨QF_at (i:=7) (d:=81) (x:=vi x66) (show OpAt _ _ _ 7 81 _ from by rw [e_x66]; exact At_ldVI (d:=81) (n:=39) (q:=(x40).toNat) (k:=.i64) (L:=L18) (by subst_vars; kernel_rfl) (v:=vI 2 1 L18) (by subst_vars; kernel_rfl) rfl (toNat_lt g65)) (by kernel_rfl) (by subst_vars; kernel_rfl),trivial⟩⟩⟩⟩) ?_
             refine thenQ_n ?_
             refine KG (S4 [(2,vb b59),(4,lO 4),(9,lV 22),(11,lV 39),(13,vb b39),(16,vi x60),(17,vi x61),(18,vi x67),(55,lS Au0_1 u0_1 cu0_1),(56,vi (u0_1.length : Int)),(57,vi x40)] [(4,[oI u0_0,oS Au0_1 u0_1 cu0_1,oS Au0_2 u0_2 cu0_2,.arr .i64 6 u0_3])] [(22,vI 2 1 L41),(39,vI 2 1 L18)] M) ?_ (by subst_vars;kernel_rfl)
             obtain ⟨j69,e_j69,h⟩ := jn_some h
             refine T_cut (c1:=(sub [1,1,1,1,1,1,0,1,0,0,1,0,0,1,1,1,0,0,1,1,0,0,1,1,1,1,1,0] Bd75)) (c2:=(sub [1,1,1,1,1,1,0,1,0,0,1,0,0,1,1,1,0,0,1,1,0,0,1,1,1,1,1,1] Bd75)) (fun s' => ∃ (b68 : Bool),Sub { σ := [(2,vb b59),(4,lO 4),(9,lV 22),(11,lV 39),(13,vb b39),(17,vi x61),(18,vi x67),(55,lS Au0_1 u0_1 cu0_1),(56,vi (u0_1.length : Int)),(57,vi x40),(95,vb b68)],H := [(4,[oI u0_0,oS Au0_1 u0_1 cu0_1,oS Au0_2 u0_2 cu0_2,.arr .i64 6 u0_3])],V := [(22,vI 2 1 L41),(39,vI 2 1 L18)],M := M,ds := [] } s' ∧ j69 b68 = some r) (by kernel_rfl) ?_ ?_
             ·refine RG ?_
              refine SG 2 (S4 [(2,vb b59),(4,lO 4),(9,lV 22),(11,lV 39),(13,vb b39),(17,vi x61),(18,vi x67),(55,lS Au0_1 u0_1 cu0_1),(56,vi (u0_1.length : Int)),(57,vi x40),(83,lV 22),(84,vi x60)] [(4,[oI u0_0,oS Au0_1 u0_1 cu0_1,oS Au0_2 u0_2 cu0_2,.arr .i64 6 u0_3])] [(22,vI 2 1 L41),(39,vI 2 1 L18)] M) ?_
              obtain ⟨g70,h⟩ := gd_some h
              refine AT 85 (.lf (.vel 22 1 ((x60).toNat) 0)) (At_idxV (z:=x60) (n:=22) (sz:=1) (v:=vI 2 1 L41) (by kernel_rfl) (by kernel_rfl) g70) ?_
              obtain ⟨x71,e_x71,h⟩ := lt_some h
              refine AT 86 (vi x71) (by rw [e_x71]; exact At_ldVI (n:=22) (q:=(x60).toNat) (k:=.i64) (L:=L41) (by subst e_x71; kernel_rfl) (v:=vI 2 1 L41) (by subst e_x71; kernel_rfl) rfl (toNat_lt g70)) ?_
              obtain ⟨b72,e_b72,h⟩ := lt_some h
              refine SH 6 [(2,vb b59),(4,lO 4),(9,lV 22),(11,lV 39),(13,vb b39),(17,vi x61),(18,vi x67),(55,lS Au0_1 u0_1 cu0_1),(56,vi (u0_1.length : Int)),(57,vi x40),(88,vb b72)] [(4,[oI u0_0,oS Au0_1 u0_1 cu0_1,oS Au0_2 u0_2 cu0_2,.arr .i64 6 u0_3])] ?_ (by subst e_b72;kernel_rfl)
              cases b72 with
              | true =>
               replace h := sp_t h
               refine SS 9 [(2,vb b59),(4,lO 4),(9,lV 22),(11,lV 39),(13,vb b39),(17,vi x61),(18,vi x67),(55,lS Au0_1 u0_1 cu0_1),(56,vi (u0_1.length : Int)),(57,vi x40),(88,vb true),(89,vi x67),(90,lV 22),(91,vi x61)] ?_
               obtain ⟨g73,h⟩ := gd_some h
               refine AT 92 (.lf (.vel 22 1 ((x61).toNat) 0)) (At_idxV (z:=x61) (n:=22) (sz:=1) (v:=vI 2 1 L41) (by kernel_rfl) (by kernel_rfl) g73) ?_
               obtain ⟨x74,e_x74,h⟩ := lt_some h
               refine AT 93 (vi x74) (by rw [e_x74]; exact At_ldVI (n:=22) (q:=(x61).toNat) (k:=.i64) (L:=L41) (by subst e_x74; kernel_rfl) (v:=vI 2 1 L41) (by subst e_x74; kernel_rfl) rfl (toNat_lt g73)) ?_
               obtain ⟨b75,e_b75,h⟩ := lt_some h
               refine SH 13 [(2,vb b59),(4,lO 4),(9,lV 22),(11,lV 39),(13,vb b39),(17,vi x61),(18,vi x67),(55,lS Au0_1 u0_1 cu0_1),(56,vi (u0_1.length : Int)),(57,vi x40),(95,vb b75)] [(4,[oI u0_0,oS Au0_1 u0_1 cu0_1,oS Au0_2 u0_2 cu0_2,.arr .i64 6 u0_3])] ?_ (by subst e_b75;kernel_rfl)
               refine EN ?_
               exact ⟨b75,keep_sub (ts:=[2,4,9,11,13,17,18,55,56,57,95]) (hs:=[4]) (vs:=[22,39]) (by kernel_rfl),h⟩
              | false =>
               replace h := sp_f h
               refine SS 13 [(2,vb b59),(4,lO 4),(9,lV 22),(11,lV 39),(13,vb b39),(17,vi x61),(18,vi x67),(55,lS Au0_1 u0_1 cu0_1),(56,vi (u0_1.length : Int)),(57,vi x40),(95,vb false)] ?_
               refine EN ?_
               exact ⟨false,keep_sub (ts:=[2,4,9,11,13,17,18,55,56,57,95]) (hs:=[4]) (vs:=[22,39]) (by kernel_rfl),h⟩
             ·rintro s' ⟨b68,hsub,h⟩
              subst e_j69
              refine T_sub hsub ?_
              cases b68 with
              | true =>
               replace h := sp_t h
               refine CT ?_
               refine KG (S4 [(2,vb b59),(4,lO 4),(9,lV 22),(11,lV 39),(17,vi x61),(18,vi x67),(55,lS Au0_1 u0_1 cu0_1),(56,vi (u0_1.length : Int)),(57,vi x40)] [(4,[oI u0_0,oS Au0_1 u0_1 cu0_1,oS Au0_2 u0_2 cu0_2,.arr .i64 6 u0_3])] [(22,vI 2 1 L41),(39,vI 2 1 L18)] M) ?_
               refine RG ?_
               refine SS 3 [(2,vb b59),(4,lO 4),(9,lV 22),(11,lV 39),(55,lS Au0_1 u0_1 cu0_1),(56,vi (u0_1.length : Int)),(57,vi x40),(96,lV 22),(97,vi x61),(98,vi x67)] ?_
               obtain ⟨g76,h⟩ := gd_some h
               refine AT 99 (.lf (.vel 22 1 ((x61).toNat) 0)) (At_idxV (z:=x61) (n:=22) (sz:=1) (v:=vI 2 1 L41) (by kernel_rfl) (by kernel_rfl) g76) ?_
               obtain ⟨L77,e_L77,h⟩ := lt_some h
               refine TI_of (i:=4) (by kernel_rfl) (TE_stC (len2:=List.length L77) (m:=1) (n:=22) (sz:=1) (j:=(x61).toNat) (q:=0) (e:=2) (len:=List.length L41) (c:=[oI x67]) (cs0:=ints .i64 L41) (cs2:=ints .i64 L77) (by subst e_L77; kernel_rfl) (by kernel_rfl) (by subst e_L77; kernel_rfl) (vle (toNat_lt g76)) (by kernel_rfl) (by rw [e_L77]; exact set1_ints (toNat_lt g76)) (by rw [e_L77,List.length_set]) ?_)
               refine SG 6 (S4 [(2,vb b59),(4,lO 4),(9,lV 22),(11,lV 39),(13,vb true),(55,lS Au0_1 u0_1 cu0_1),(56,vi (u0_1.length : Int)),(57,vi x40)] [(4,[oI u0_0,oS Au0_1 u0_1 cu0_1,oS Au0_2 u0_2 cu0_2,.arr .i64 6 u0_3])] [(22,vI 2 1 L77),(39,vI 2 1 L18)] M) ?_
               refine E0 (blockQ_n (thenQ_n ?_))
               exact ⟨b59,true,L77,keep_sub (ts:=[2,4,9,11,13,55,56,57]) (hs:=[4]) (vs:=[22,39]) (by kernel_rfl),h⟩
              | false =>
               replace h := sp_f h
               refine CF ?_
               refine KG (S4 [(2,vb b59),(4,lO 4),(9,lV 22),(11,lV 39),(13,vb b39),(55,lS Au0_1 u0_1 cu0_1),(56,vi (u0_1.length : Int)),(57,vi x40)] [(4,[oI u0_0,oS Au0_1 u0_1 cu0_1,oS Au0_2 u0_2 cu0_2,.arr .i64 6 u0_3])] [(22,vI 2 1 L41),(39,vI 2 1 L18)] M) ?_
               refine S0 (blockQ_n (thenQ_n ?_))
               exact ⟨b59,b39,L41,keep_sub (ts:=[2,4,9,11,13,55,56,57]) (hs:=[4]) (vs:=[22,39]) (by kernel_rfl),h⟩
          ·rintro s' ⟨b48,b49,L50,hsub,h⟩
           subst e_j51
           refine thenQ_n ?_
           exact ⟨b48,b49,L50,Sub.trans (keep_sub (s:={ σ := [(2,vb b48),(4,lO 4),(9,lV 22),(11,lV 39),(13,vb b49),(55,lS Au0_1 u0_1 cu0_1),(56,vi (u0_1.length : Int)),(57,vi x40)],H := [(4,[oI u0_0,oS Au0_1 u0_1 cu0_1,oS Au0_2 u0_2 cu0_2,.arr .i64 6 u0_3])],V := [(22,vI 2 1 L50),(39,vI 2 1 L18)],M := M,ds := [] }) (ts:=[2,4,9,11,13,55,56,57]) (hs:=[4]) (vs:=[22,39]) (by kernel_rfl)) hsub,h⟩
         ·rintro s' ⟨b44,b45,L46,hsub,h⟩
          subst e_j47
          refine T_sub hsub ?_
          refine RG ?_
          obtain ⟨x78,e_x78,h⟩ := lt_some h
          refine SG 2 (S4 [(2,vb b44),(4,lO 4),(9,lV 22),(11,lV 39),(13,vb b45),(55,lS Au0_1 u0_1 cu0_1),(56,vi (u0_1.length : Int)),(57,vi x78)] [(4,[oI u0_0,oS Au0_1 u0_1 cu0_1,oS Au0_2 u0_2 cu0_2,.arr .i64 6 u0_3])] [(22,vI 2 1 L46),(39,vI 2 1 L18)] M) ?_ (by subst e_x78;kernel_rfl)
          refine EN ?_
          exact ⟨n42,Nat.lt_succ_self _,b44,b45,x78,L46,keep_sub (ts:=[2,4,9,11,13,55,56,57]) (hs:=[4]) (vs:=[22,39]) (by kernel_rfl),h⟩
        | false =>
         replace h := sp_f h
         refine CF ?_
         refine KS [(2,vb b38),(4,lO 4),(9,lV 22),(11,lV 39),(13,vb b39)] ?_
         refine XI 6 (thenQ_x (thenQ_x (blockQ_x (thenQ_n ?_))))
         exact ⟨b38,b39,L41,keep_sub (ts:=[2,4,9,11,13]) (hs:=[4]) (vs:=[22,39]) (by kernel_rfl),h⟩
      ·rintro s' ⟨b34,b35,L36,hsub,h⟩
       subst e_j37
       refine scopeQ_n ?_
       refine blockQ_n (thenQ_n ?_)
       exact ⟨n33,Nat.lt_succ_self _,b34,b35,L36,Sub.trans (keep_sub (s:={ σ := [(2,vb b34),(4,lO 4),(9,lV 22),(11,lV 39),(13,vb b35)],H := [(4,[oI u0_0,oS Au0_1 u0_1 cu0_1,oS Au0_2 u0_2 cu0_2,.arr .i64 6 u0_3])],V := [(22,vI 2 1 L36),(39,vI 2 1 L18)],M := M,ds := [] }) (ts:=[2,4,9,11,13]) (hs:=[4]) (vs:=[22,39]) (by kernel_rfl)) hsub,h⟩
     | false =>
      replace h := sp_f h
      refine CF ?_
      refine KP [(9,lV 22)] [] [(22,vI 2 1 L32)] ?_
      refine XI 4 (thenQ_x (thenQ_x (blockQ_x (thenQ_n ?_))))
      exact ⟨L32,keep_sub (ts:=[9]) (hs:=[]) (vs:=[22]) (by kernel_rfl),h⟩
   ·rintro s' ⟨L28,hsub,h⟩
    subst e_j29
    refine thenQ_n ?_
    refine T_sub hsub ?_
    refine SQ (RG ?_)
    refine SG 2 (S4 [(8,lV 22)] [] [(22,vI 2 1 L28)] M) ?_
    refine EN ?_
    refine T_turn (turn_pubV 22 (v:=vI 2 1 L28) (by kernel_rfl)) ?_
    rintro _ ⟨A79,c80,M81,rfl,hSA79,hcA79,-,hNA79,hM81⟩
    have fA79 : SlI M81 A79 c80 .i64 L28 := ⟨hSA79,hcA79⟩
    refine KG (S4 [(8,lS A79 L28 c80)] [] [] M81) ?_
    refine RT ?_
    obtain rfl := sj h
    refine FT (lS A79 L28 c80) ?_
    exact ⟨A79,c80,rfl,fA79⟩
end Go.Proofs.Ythniebmammmacaa
namespace Go.Proofs.Ythniebmammmacaa
open Go.RowKit
def p74 (k : Nat) (u0 : Int) (u1g0 : Int) (u1g1 : List (List Int)) (u1g2 : List WT) (u1g3 : List Int) (u2G : Int) (u3G : Int) : Option (Int × Bool) :=
 cl (p76 k u1g0 u1g1 u1g2 u1g3 u0) fun v1 => cl (p75a k u1g0 u1g1 u1g2 u1g3 u2G true u1g0 u1g1 u1g2 u1g3 u0) fun v5 => gd ((0 : Int) ≤ u3G ∧ u3G < (v5.length : Int)) <| lt' (List.getD v5 ((u3G).toNat) 0) fun x10 => cl (p77 k u1g0 u1g1 u1g2 u1g3 u0) fun v11 => lt' (wr .i64 (x10 + v11)) fun x12 => lt' (decide (x10 < (1125899906842624 : Int))) fun b13 => some (x12,b13)
theorem hf74 : Try.prog.funcs[74]? = some Try.f74 := by kernel_rfl
theorem w74 (k : Nat) {M : Mem} {Au1g1 Au1g2 : Option Addr} {cu1g1 cu1g2 bu1 bu2 bu3 : Nat} {Hu1g2 : Nat → Option Addr} {Cu1g2 : Nat → Nat} {u0 u1g0 u2G u3G : Int} {u1g1 : List (List Int)} {u1g2 : List WT} {u1g3 : List Int} (hu1g1 : SlR M Au1g1 cu1g1 .i64 12 u1g1) (hu1g2 : SlW M 3 Au1g2 cu1g2 Hu1g2 Cu1g2 u1g2) (hu1g3 : u1g3.length = 6) (hbu1 : MB M bu1 [oI u1g0,oS Au1g1 u1g1 cu1g1,oS Au1g2 u1g2 cu1g2,.arr .i64 6 u1g3]) (hbu2 : MB M bu2 [oI u2G]) (hbu3 : MB M bu3 [oI u3G]) {r} (h : p74 k u0 u1g0 u1g1 u1g2 u1g3 u2G u3G = some r) :
  Fn Try.prog 74 [rval (.lf (.v (.int .u64 u0))),rval (lP bu1),rval (lP bu2),rval (lP bu3)] M (fun x _ => x = .tup [(some (.v (.int .i64 r.1)),[]),(some (.v (.bool r.2)),[])]) := by
 unfold p74 at h
 refine FO [.lf (.v (.int .u64 u0)),lP bu1,lP bu2,lP bu3] hf74 (wfa_lf _ (by kernel_rfl)) fun w => ?_
 refine SQ0 (RG ?_)
 refine SG 2 (S4 [(0,.lf (.v (.int .u64 u0))),(1,lP bu1),(2,lP bu2),(3,lP bu3)] [] [] M) ?_
 refine EN (SQ ?_)
 obtain ⟨v1,c_v1,h⟩ := cl_some h
 obtain ⟨v5,c_v5,h⟩ := cl_some h
 obtain ⟨g9,h⟩ := gd_some h
 obtain ⟨x10,e_x10,h⟩ := lt_some h
 refine T_draw' (id:=1) [4,5] [0,0,0,0,0,0,0,2,2,2] (by kernel_rfl) (by kernel_rfl) (by kernel_rfl) (by kernel_rfl) [(8,.agg [oI u1g0,oS Au1g1 u1g1 cu1g1,oS Au1g2 u1g2 cu1g2,.arr .i64 6 u1g3]),(9,vi u2G),(10,.agg [oI u1g0,oS Au1g1 u1g1 cu1g1,oS Au1g2 u1g2 cu1g2,.arr .i64 6 u1g3]),(11,.lf (.v (.int .u64 u0))),(14,vi u3G)] (by kernel_rfl) ⟨⟨rfl,⟨rfl,⟨rfl,⟨hu1g3,trivial⟩⟩⟩⟩,⟨trivial,⟨⟨rfl,⟨rfl,⟨rfl,⟨hu1g3,trivial⟩⟩⟩⟩,⟨trivial,⟨trivial,trivial⟩⟩⟩⟩⟩ ?_
 refine Stage_te (stage_all' [3] [0,1,2,6] (by kernel_rfl) (by subst e_x10;kernel_rfl) (by kernel_rfl) ⟨QF_at (i:=0) (d:=8) (x:=.agg [oI u1g0,oS Au1g1 u1g1 cu1g1,oS Au1g2 u1g2 cu1g2,.arr .i64 6 u1g3]) (show OpAt _ _ _ 0 8 _ from by exact At_ldPR (d:=8) (b:=bu1) (off:=0) (m:=9) (c:=[oI u1g0,oS Au1g1 u1g1 cu1g1,oS Au1g2 u1g2 cu1g2,.arr .i64 6 u1g3]) (by subst e_x10;kernel_rfl) (by kernel_rfl) (sgCells_length ⟨rfl,⟨rfl,⟨rfl,⟨hu1g3,trivial⟩⟩⟩⟩) (cells_blk (m:=9) hbu1 ⟨rfl,⟨rfl,⟨rfl,⟨hu1g3,trivial⟩⟩⟩⟩ (by kernel_rfl) rfl)) (by kernel_rfl) (by subst e_x10;kernel_rfl),⟨QF_at (i:=1) (d:=9) (x:=vi u2G) (show OpAt _ _ _ 1 9 _ from by exact At_ldP (d:=9) (b:=bu2) (off:=0) (m:=1) (v:=(.int .i64 u2G)) (by subst e_x10;kernel_rfl) (cell_blk hbu2 ⟨rfl,trivial⟩ (by kernel_rfl))) (by kernel_rfl) (by subst e_x10;kernel_rfl),⟨QF_at (i:=2) (d:=10) (x:=.agg [oI u1g0,oS Au1g1 u1g1 cu1g1,oS Au1g2 u1g2 cu1g2,.arr .i64 6 u1g3]) (show OpAt _ _ _ 2 10 _ from by exact At_ldPR (d:=10) (b:=bu1) (off:=0) (m:=9) (c:=[oI u1g0,oS Au1g1 u1g1 cu1g1,oS Au1g2 u1g2 cu1g2,.arr .i64 6 u1g3]) (by subst e_x10;kernel_rfl) (by kernel_rfl) (sgCells_length ⟨rfl,⟨rfl,⟨rfl,⟨hu1g3,trivial⟩⟩⟩⟩) (cells_blk (m:=9) hbu1 ⟨rfl,⟨rfl,⟨rfl,⟨hu1g3,trivial⟩⟩⟩⟩ (by kernel_rfl) rfl)) (by kernel_rfl) (by subst e_x10;kernel_rfl),⟨QF_at (i:=6) (d:=14) (x:=vi u3G) (show OpAt _ _ _ 6 14 _ from by exact At_ldP (d:=14) (b:=bu3) (off:=0) (m:=1) (v:=(.int .i64 u3G)) (by subst e_x10;kernel_rfl) (cell_blk hbu3 ⟨rfl,trivial⟩ (by kernel_rfl))) (by kernel_rfl) (by subst e_x10;kernel_rfl),trivial⟩⟩⟩⟩) (TE_callR (d:=12) (f:=76) (args:=[rval (.agg [oI u1g0,oS Au1g1 u1g1 cu1g1,oS Au1g2 u1g2 cu1g2,.arr .i64 6 u1g3]),rval (.lf (.v (.int .u64 u0)))]) (by subst e_x10;kernel_rfl) (by subst e_x10;kernel_rfl) (w76 k hu1g1 hu1g2 hu1g3 c_v1) ?_) 
 rintro _ M4 _ hM4 _ ⟨b2,b3,rfl,fb2,fb3⟩
 refine TL_nil (stageQ_of [] (by kernel_rfl) trivial ?_)
 refine Stage_te (stage_all' [] [0,1,6] (by kernel_rfl) (by subst e_x10;kernel_rfl) (by kernel_rfl) ⟨QF_at (i:=0) (d:=8) (x:=.agg [oI u1g0,oS Au1g1 u1g1 cu1g1,oS Au1g2 u1g2 cu1g2,.arr .i64 6 u1g3]) (show OpAt _ _ _ 0 8 _ from by exact At_ldPR (d:=8) (b:=bu1) (off:=0) (m:=9) (c:=[oI u1g0,oS Au1g1 u1g1 cu1g1,oS Au1g2 u1g2 cu1g2,.arr .i64 6 u1g3]) (by subst e_x10;kernel_rfl) (by kernel_rfl) (sgCells_length ⟨rfl,⟨rfl,⟨rfl,⟨hu1g3,trivial⟩⟩⟩⟩) (cells_blk (m:=9) (hM4 _ _ hbu1) ⟨rfl,⟨rfl,⟨rfl,⟨hu1g3,trivial⟩⟩⟩⟩ (by kernel_rfl) rfl)) (by kernel_rfl) (by subst e_x10;kernel_rfl),⟨QF_at (i:=1) (d:=9) (x:=vi u2G) (show OpAt _ _ _ 1 9 _ from by exact At_ldP (d:=9) (b:=bu2) (off:=0) (m:=1) (v:=(.int .i64 u2G)) (by subst e_x10;kernel_rfl) (cell_blk (hM4 _ _ hbu2) ⟨rfl,trivial⟩ (by kernel_rfl))) (by kernel_rfl) (by subst e_x10;kernel_rfl),⟨QF_at (i:=6) (d:=14) (x:=vi u3G) (show OpAt _ _ _ 6 14 _ from by exact At_ldP (d:=14) (b:=bu3) (off:=0) (m:=1) (v:=(.int .i64 u3G)) (by subst e_x10;kernel_rfl) (cell_blk (hM4 _ _ hbu3) ⟨rfl,trivial⟩ (by kernel_rfl))) (by kernel_rfl) (by subst e_x10;kernel_rfl),trivial⟩⟩⟩) (TE_callR (d:=13) (f:=75) (args:=[rval (.agg [oI u1g0,oS Au1g1 u1g1 cu1g1,oS Au1g2 u1g2 cu1g2,.arr .i64 6 u1g3]),rval (vi u2G),rval (vb true),rval (.lf (.v (.func (.func 122) #[] #[(.pointer (some ⟨b2,0,none⟩)),(.pointer (some ⟨b3,0,none⟩))])))]) (by subst e_x10;kernel_rfl) (by subst e_x10;kernel_rfl) (w75a k (hu1g1.le hM4) (hu1g2.le hM4) hu1g3 (hu1g1.le hM4) (hu1g2.le hM4) hu1g3 fb2 fb3 c_v5) ?_) 
 rintro _ M8 _ hM8 _ ⟨A6,c7,rfl,fA6⟩
 refine TL_nil (stageQ_of [(15,.lf (.ep (.slice A6 (v5.length) c7) 1 ((u3G).toNat) 0)),(16,vi x10),(7,vi x10)] (by kernel_rfl) ⟨trivial,⟨trivial,⟨trivial,trivial⟩⟩⟩ ?_)
 refine Stage_nil (stage_all' [9] [6,7,8] (by kernel_rfl) (by subst e_x10; kernel_rfl) (by kernel_rfl) ⟨QF_at (i:=6) (d:=14) (x:=vi u3G) (show OpAt _ _ _ 6 14 _ from by exact At_ldP (d:=14) (b:=bu3) (off:=0) (m:=1) (v:=(.int .i64 u3G)) (by subst e_x10; kernel_rfl) (cell_blk (hM8 _ _ (hM4 _ _ hbu3)) ⟨rfl,trivial⟩ (by kernel_rfl))) (by kernel_rfl) (by subst e_x10; kernel_rfl),⟨QF_at (i:=7) (d:=15) (x:=.lf (.ep (.slice A6 (v5.length) c7) 1 ((u3G).toNat) 0)) (show OpAt _ _ _ 7 15 _ from by exact At_idxI (d:=15) (z:=u3G) (by subst e_x10; kernel_rfl) g9 fA6) (by kernel_rfl) (by subst e_x10; kernel_rfl),⟨QF_at (i:=8) (d:=16) (x:=vi x10) (show OpAt _ _ _ 8 16 _ from by rw [e_x10]; exact At_ldI (d:=16) (q:=(u3G).toNat) (by subst e_x10; kernel_rfl) (toNat_lt g9) fA6) (by kernel_rfl) (by subst e_x10; kernel_rfl),trivial⟩⟩⟩) ?_
 refine thenQ_n ?_
 refine KG (S4 [(0,.lf (.v (.int .u64 u0))),(1,lP bu1),(7,vi x10)] [] [] M8) ?_ (by subst e_x10;kernel_rfl)
 refine SQ (RG ?_)
 refine SS 1 [(0,.lf (.v (.int .u64 u0))),(1,lP bu1),(7,vi x10),(17,vi x10)] ?_
 refine AT 18 (.agg [oI u1g0,oS Au1g1 u1g1 cu1g1,oS Au1g2 u1g2 cu1g2,.arr .i64 6 u1g3]) (At_ldPR (b:=bu1) (off:=0) (m:=9) (c:=[oI u1g0,oS Au1g1 u1g1 cu1g1,oS Au1g2 u1g2 cu1g2,.arr .i64 6 u1g3]) (by kernel_rfl) (by kernel_rfl) (sgCells_length ⟨rfl,⟨rfl,⟨rfl,⟨hu1g3,trivial⟩⟩⟩⟩) (cells_blk (m:=9) (hM8 _ _ (hM4 _ _ hbu1)) ⟨rfl,⟨rfl,⟨rfl,⟨hu1g3,trivial⟩⟩⟩⟩ (by kernel_rfl) rfl)) ?_ (hx:=⟨rfl,⟨rfl,⟨rfl,⟨hu1g3,trivial⟩⟩⟩⟩)
 refine SH 3 [(7,vi x10),(17,vi x10),(18,.agg [oI u1g0,oS Au1g1 u1g1 cu1g1,oS Au1g2 u1g2 cu1g2,.arr .i64 6 u1g3]),(19,.lf (.v (.int .u64 u0)))] [] ?_
 obtain ⟨v11,c_v11,h⟩ := cl_some h
 refine AC 20 (vi v11) (w77 k ((hu1g1.le hM4).le hM8) ((hu1g2.le hM4).le hM8) hu1g3 c_v11) ?_
 obtain ⟨x12,e_x12,h⟩ := lt_some h
 obtain ⟨b13,e_b13,h⟩ := lt_some h
 refine SH 9 [(5,vi x12),(6,vb b13)] [] ?_ (by subst e_b13 e_x12;kernel_rfl)
 refine EN (RT ?_)
 obtain rfl := sj h
 exact FT (.tup [(some (.v (.int .i64 x12)),[]),(some (.v (.bool b13)),[])]) rfl
end Go.Proofs.Ythniebmammmacaa
namespace Go.Proofs.Ythniebmammmacaa
open Go.RowKit
def p72a_r1 (k : Nat) (j6 : Int → Int → Bool → Option (Int × Int × Bool)) (u1y0 : Int) (u1y1 : List (List Int)) (u1y2 : List WT) (u1y3 : List Int) (u1Z : Int) (u1X : Int) : List (Int) → Int → Int → Bool → Option (Int × Int × Bool)
 | [],x1,x2,b3 => j6 x1 x2 b3
 | x5::rest4,x1,x2,b3 => cl2 (p74 k x5 u1y0 u1y1 u1y2 u1y3 u1Z u1X) fun v10 v11 => jn (fun (b12 : Bool) (b13 : Bool) => sp b12 (p72a_r1 k j6 u1y0 u1y1 u1y2 u1y3 u1Z u1X rest4 x5 v10 true) (p72a_r1 k j6 u1y0 u1y1 u1y2 u1y3 u1Z u1X rest4 x1 x2 b13)) fun j14 => sp v11 (sp b3 (lt' (decide (v10 < x2)) fun b15 => j14 b15 true) (j14 true false)) (j14 false b3)
def p72a (k : Nat) (u0 : List (Int)) (u1y0 : Int) (u1y1 : List (List Int)) (u1y2 : List WT) (u1y3 : List Int) (u1Z : Int) (u1X : Int) : Option (Int × Int × Bool) :=
 jn (fun (x1 : Int) (x2 : Int) (b3 : Bool) => some (x1,x2,b3)) fun j6 => p72a_r1 k j6 u1y0 u1y1 u1y2 u1y3 u1Z u1X u0 (0 : Int) (0 : Int) false
theorem hf72a : Try.prog.funcs[72]? = some Try.f72 := by kernel_rfl
theorem w72a (k : Nat) {M : Mem} {lbu0 : List Value} {Au1y1 Au1y2 : Option Addr} {cu1y1 cu1y2 bu1C bu1D bu1_c2 : Nat} {Hu1y2 : Nat → Option Addr} {Cu1y2 : Nat → Nat} {u0 : List (Int)} {u1y0 u1Z u1X : Int} {u1y1 : List (List Int)} {u1y2 : List WT} {u1y3 : List Int} (hu0 : IterE enU Try.prog 120 lbu0 M u0) (hu1y1 : SlR M Au1y1 cu1y1 .i64 12 u1y1) (hu1y2 : SlW M 3 Au1y2 cu1y2 Hu1y2 Cu1y2 u1y2) (hu1y3 : u1y3.length = 6) (hbu1C : MB M bu1C [oI u1y0,oS Au1y1 u1y1 cu1y1,oS Au1y2 u1y2 cu1y2,.arr .i64 6 u1y3]) (hbu1D : MB M bu1D [oI u1Z]) (hbu1_c2 : MB M bu1_c2 [oI u1X]) {r} (h : p72a k u0 u1y0 u1y1 u1y2 u1y3 u1Z u1X = some r) :
  Fn Try.prog 72 [rval (.lf (.v (.func (.func 120) #[] (List.toArray lbu0)))),rval (.lf (.v (.func (.func 74) #[] #[(.pointer (some ⟨bu1C,0,none⟩)),(.pointer (some ⟨bu1D,0,none⟩)),(.pointer (some ⟨bu1_c2,0,none⟩))])))] M (fun x _ => x = .tup [(some (.v (.int .u64 r.1)),[]),(some (.v (.int .i64 r.2.1)),[]),(some (.v (.bool r.2.2)),[])]) := by
 unfold p72a at h
 refine FO [.lf (.v (.func (.func 120) #[] (List.toArray lbu0))),.lf (.v (.func (.func 74) #[] #[(.pointer (some ⟨bu1C,0,none⟩)),(.pointer (some ⟨bu1D,0,none⟩)),(.pointer (some ⟨bu1_c2,0,none⟩))]))] hf72a ⟨trivial,⟨trivial,trivial⟩⟩ fun w => ?_
 refine SQ0 (RG ?_)
 refine SG 4 (S4 [(0,.lf (.v (.func (.func 120) #[] (List.toArray lbu0)))),(3,lO 3),(4,lO 4),(5,lO 5),(6,lO 6)] [(3,[.one (.v (.func (.func 74) #[] #[(.pointer (some ⟨bu1C,0,none⟩)),(.pointer (some ⟨bu1D,0,none⟩)),(.pointer (some ⟨bu1_c2,0,none⟩))]))]),(4,[.one (.v (.int .u64 (0 : Int)))]),(5,[oI (0 : Int)]),(6,[.one (.v (.bool false))])] [] M) ?_
 refine EN (SQ (SQ (RG ?_)))
 refine SS 1 [(3,lO 3),(4,lO 4),(5,lO 5),(6,lO 6),(10,.lf (.v (.func (.func 120) #[] (List.toArray lbu0))))] ?_
 refine EN (BK 0 ?_)
 refine KS [(3,lO 3),(4,lO 4),(5,lO 5),(6,lO 6),(10,.lf (.v (.func (.func 120) #[] (List.toArray lbu0))))] ?_
 obtain ⟨j6,e_j6,h⟩ := jn_some h
 refine T_rangeE enU (p:=11) (g:=10) (gf:=120) (lb:=lbu0) (ks:=u0) [3,4,5,6] (assign:=(sub [1,0,1,0,0] Bd72)) (body:=(sub [1,0,1,0,1] Bd72)) (by kernel_rfl) rfl (by kernel_rfl) (by kernel_rfl) (by kernel_rfl) hu0 (enU_ok _) (by kernel_rfl) (by kernel_rfl) (fun (pre : List (Int)) (H : List (Nat × List Sg)) (V : List (Nat × Vc)) (M' : Mem) => ∃ (x1 : Int) (x2 : Int) (b3 : Bool) (rest : List (Int)),pre ++ rest = u0 ∧ H = [(3,[.one (.v (.func (.func 74) #[] #[(.pointer (some ⟨bu1C,0,none⟩)),(.pointer (some ⟨bu1D,0,none⟩)),(.pointer (some ⟨bu1_c2,0,none⟩))]))]),(4,[.one (.v (.int .u64 x1))]),(5,[oI x2]),(6,[.one (.v (.bool b3))])] ∧ V = [] ∧ Mem.le M M' ∧ p72a_r1 k j6 u1y0 u1y1 u1y2 u1y3 u1Z u1X rest x1 x2 b3 = some r) (fun (c : Code) (H : List (Nat × List Sg)) (V : List (Nat × Vc)) (M' : Mem) => False) ⟨(0 : Int),(0 : Int),false,u0,List.nil_append _,rfl,rfl,(Mem.le_refl _),h⟩ ?_ ?_ ?_ ?_
 ·rintro pre H V M' M'' ⟨x1,x2,b3,rest,hks,e1,e2,hM,h⟩ hMM
  exact ⟨x1,x2,b3,rest,hks,e1,e2,(Mem.le_trans hM hMM),h⟩
 ·rintro l O8 bs pr x5 H V M7 ⟨rest4,hrr⟩ ⟨x1,x2,b3,rest0,hks,rfl,rfl,hM7,h⟩
  have hre : rest0 = x5::rest4 := List.append_cancel_left (hks.trans (by rw [← hrr,List.append_assoc]; rfl))
  subst hre
  rw [p72a_r1] at h
  refine RG ?_
  refine SG 1 { σ := [(3,lO 3),(4,lO 4),(5,lO 5),(6,lO 6),(7,.lf (.v (.int .u64 x5))),(10,.lf (.v (.func (.func 120) #[] (List.toArray lbu0))))],H := [(3,[.one (.v (.func (.func 74) #[] #[(.pointer (some ⟨bu1C,0,none⟩)),(.pointer (some ⟨bu1D,0,none⟩)),(.pointer (some ⟨bu1_c2,0,none⟩))]))]),(4,[.one (.v (.int .u64 x1))]),(5,[oI x2]),(6,[.one (.v (.bool b3))])],V := [],M := M7,ds := [],os := O8,ats := tiesOf [3,4,5,6] bs } ?_
  refine E0 ?_
  refine ⟨rfl,rfl,rfl,fun O9 => ?_⟩
  refine BK 1 (SQ (RG ?_))
  refine SG 2 { σ := [(3,lO 3),(4,lO 4),(5,lO 5),(6,lO 6),(7,.lf (.v (.int .u64 x5))),(10,.lf (.v (.func (.func 120) #[] (List.toArray lbu0)))),(13,.lf (.v (.func (.func 74) #[] #[(.pointer (some ⟨bu1C,0,none⟩)),(.pointer (some ⟨bu1D,0,none⟩)),(.pointer (some ⟨bu1_c2,0,none⟩))]))),(14,.lf (.v (.int .u64 x5)))],H := [(3,[.one (.v (.func (.func 74) #[] #[(.pointer (some ⟨bu1C,0,none⟩)),(.pointer (some ⟨bu1D,0,none⟩)),(.pointer (some ⟨bu1_c2,0,none⟩))]))]),(4,[.one (.v (.int .u64 x1))]),(5,[oI x2]),(6,[.one (.v (.bool b3))])],V := [],M := M7,ds := [],os := O9,ats := tiesOf [3,4,5,6] bs } ?_
  obtain ⟨v10,v11,c_v10,h⟩ := cl2_some h
  refine AC 15 (.tup [(some (.v (.int .i64 v10)),[]),(some (.v (.bool v11)),[])]) (w74 k (hu1y1.le hM7) (hu1y2.le hM7) hu1y3 (hM7 _ _ hbu1C) (hM7 _ _ hbu1D) (hM7 _ _ hbu1_c2) c_v10) ?_ (hx:=(by intro y hy; simp only [List.mem_cons,List.mem_nil_iff,or_false] at hy; rcases hy with rfl | rfl <;> exact trivial))
  refine SH 8 [(3,lO 3),(4,lO 4),(5,lO 5),(6,lO 6),(7,.lf (.v (.int .u64 x5))),(8,vi v10),(9,vb v11),(10,.lf (.v (.func (.func 120) #[] (List.toArray lbu0))))] [(3,[.one (.v (.func (.func 74) #[] #[(.pointer (some ⟨bu1C,0,none⟩)),(.pointer (some ⟨bu1D,0,none⟩)),(.pointer (some ⟨bu1_c2,0,none⟩))]))]),(4,[.one (.v (.int .u64 x1))]),(5,[oI x2]),(6,[.one (.v (.bool b3))])] ?_
  refine EN ?_
  obtain ⟨j14,e_j14,h⟩ := jn_some h
  refine T_cut (c1:=(sub [1,0,1,0,1,0,1,0] Bd72)) (c2:=(sub [1,0,1,0,1,0,1,1] Bd72)) (fun s' => ∃ (b12 : Bool) (b13 : Bool),Sub { σ := [(3,lO 3),(4,lO 4),(5,lO 5),(6,lO 6),(7,.lf (.v (.int .u64 x5))),(8,vi v10),(10,.lf (.v (.func (.func 120) #[] (List.toArray lbu0)))),(27,vb b12)],H := [(3,[.one (.v (.func (.func 74) #[] #[(.pointer (some ⟨bu1C,0,none⟩)),(.pointer (some ⟨bu1D,0,none⟩)),(.pointer (some ⟨bu1_c2,0,none⟩))]))]),(4,[.one (.v (.int .u64 x1))]),(5,[oI x2]),(6,[.one (.v (.bool b13))])],V := [],M := M7,ds := [],os := O9,ats := tiesOf [3,4,5,6] bs } s' ∧ j14 b12 b13 = some r) (by kernel_rfl) ?_ ?_
  ·refine RG ?_
   refine SG 2 { σ := [(3,lO 3),(4,lO 4),(5,lO 5),(6,lO 6),(7,.lf (.v (.int .u64 x5))),(8,vi v10),(10,.lf (.v (.func (.func 120) #[] (List.toArray lbu0)))),(19,vb v11)],H := [(3,[.one (.v (.func (.func 74) #[] #[(.pointer (some ⟨bu1C,0,none⟩)),(.pointer (some ⟨bu1D,0,none⟩)),(.pointer (some ⟨bu1_c2,0,none⟩))]))]),(4,[.one (.v (.int .u64 x1))]),(5,[oI x2]),(6,[.one (.v (.bool b3))])],V := [],M := M7,ds := [],os := O9,ats := tiesOf [3,4,5,6] bs } ?_
   cases v11 with
   | true =>
    replace h := sp_t h
    refine SS 5 [(3,lO 3),(4,lO 4),(5,lO 5),(6,lO 6),(7,.lf (.v (.int .u64 x5))),(8,vi v10),(10,.lf (.v (.func (.func 120) #[] (List.toArray lbu0)))),(19,vb true),(22,vb (!b3))] ?_
    cases b3 with
    | true =>
     replace h := sp_t h
     obtain ⟨b15,e_b15,h⟩ := lt_some h
     refine SH 10 [(3,lO 3),(4,lO 4),(5,lO 5),(6,lO 6),(7,.lf (.v (.int .u64 x5))),(8,vi v10),(10,.lf (.v (.func (.func 120) #[] (List.toArray lbu0)))),(27,vb b15)] [(3,[.one (.v (.func (.func 74) #[] #[(.pointer (some ⟨bu1C,0,none⟩)),(.pointer (some ⟨bu1D,0,none⟩)),(.pointer (some ⟨bu1_c2,0,none⟩))]))]),(4,[.one (.v (.int .u64 x1))]),(5,[oI x2]),(6,[.one (.v (.bool true))])] ?_ (by subst e_b15;kernel_rfl)
     refine EN ?_
     exact ⟨b15,true,keep_sub (ts:=[3,4,5,6,7,8,10,27]) (hs:=[3,4,5,6]) (vs:=[]) (by kernel_rfl),h⟩
    | false =>
     replace h := sp_f h
     refine SH 10 [(3,lO 3),(4,lO 4),(5,lO 5),(6,lO 6),(7,.lf (.v (.int .u64 x5))),(8,vi v10),(10,.lf (.v (.func (.func 120) #[] (List.toArray lbu0)))),(27,vb true)] [(3,[.one (.v (.func (.func 74) #[] #[(.pointer (some ⟨bu1C,0,none⟩)),(.pointer (some ⟨bu1D,0,none⟩)),(.pointer (some ⟨bu1_c2,0,none⟩))]))]),(4,[.one (.v (.int .u64 x1))]),(5,[oI x2]),(6,[.one (.v (.bool false))])] ?_
     refine EN ?_
     exact ⟨true,false,keep_sub (ts:=[3,4,5,6,7,8,10,27]) (hs:=[3,4,5,6]) (vs:=[]) (by kernel_rfl),h⟩
   | false =>
    replace h := sp_f h
    refine SS 10 [(3,lO 3),(4,lO 4),(5,lO 5),(6,lO 6),(7,.lf (.v (.int .u64 x5))),(8,vi v10),(10,.lf (.v (.func (.func 120) #[] (List.toArray lbu0)))),(27,vb false)] ?_
    refine EN ?_
    exact ⟨false,b3,keep_sub (ts:=[3,4,5,6,7,8,10,27]) (hs:=[3,4,5,6]) (vs:=[]) (by kernel_rfl),h⟩
  ·rintro s' ⟨b12,b13,hsub,h⟩
   subst e_j14
   refine T_sub hsub ?_
   cases b12 with
   | true =>
    replace h := sp_t h
    refine CT ?_
    refine KG { σ := [(3,lO 3),(4,lO 4),(5,lO 5),(6,lO 6),(7,.lf (.v (.int .u64 x5))),(8,vi v10),(10,.lf (.v (.func (.func 120) #[] (List.toArray lbu0))))],H := [(3,[.one (.v (.func (.func 74) #[] #[(.pointer (some ⟨bu1C,0,none⟩)),(.pointer (some ⟨bu1D,0,none⟩)),(.pointer (some ⟨bu1_c2,0,none⟩))]))]),(4,[.one (.v (.int .u64 x1))]),(5,[oI x2]),(6,[.one (.v (.bool b13))])],V := [],M := M7,ds := [],os := O9,ats := tiesOf [3,4,5,6] bs } ?_
    refine RG ?_
    refine SH 5 [(3,lO 3),(4,lO 4),(5,lO 5),(6,lO 6),(10,.lf (.v (.func (.func 120) #[] (List.toArray lbu0))))] [(3,[.one (.v (.func (.func 74) #[] #[(.pointer (some ⟨bu1C,0,none⟩)),(.pointer (some ⟨bu1D,0,none⟩)),(.pointer (some ⟨bu1_c2,0,none⟩))]))]),(4,[.one (.v (.int .u64 x5))]),(5,[oI v10]),(6,[.one (.v (.bool true))])] ?_
    refine E0 (blockQ_n ?_)
    refine ⟨_,keep_sub (s':={ σ := [],H := [(3,[.one (.v (.func (.func 74) #[] #[(.pointer (some ⟨bu1C,0,none⟩)),(.pointer (some ⟨bu1D,0,none⟩)),(.pointer (some ⟨bu1_c2,0,none⟩))]))]),(4,[.one (.v (.int .u64 x5))]),(5,[oI v10]),(6,[.one (.v (.bool true))])],V := [],M := M7,ds := [],os := O9,ats := tiesOf [3,4,5,6] bs }) (ts:=[]) (hs:=[3,4,5,6]) (vs:=[]) (by kernel_rfl),rfl,rfl,(Mem.le_refl _),?_⟩
    show (fun (pre : List (Int)) (H : List (Nat × List Sg)) (V : List (Nat × Vc)) (M' : Mem) => ∃ (x1 : Int) (x2 : Int) (b3 : Bool) (rest : List (Int)),pre ++ rest = u0 ∧ H = [(3,[.one (.v (.func (.func 74) #[] #[(.pointer (some ⟨bu1C,0,none⟩)),(.pointer (some ⟨bu1D,0,none⟩)),(.pointer (some ⟨bu1_c2,0,none⟩))]))]),(4,[.one (.v (.int .u64 x1))]),(5,[oI x2]),(6,[.one (.v (.bool b3))])] ∧ V = [] ∧ Mem.le M M' ∧ p72a_r1 k j6 u1y0 u1y1 u1y2 u1y3 u1Z u1X rest x1 x2 b3 = some r) (pr ++ [x5]) _ _ _
    exact ⟨x5,v10,true,rest4,by rw [List.append_assoc]; exact hks,rfl,rfl,(Mem.le_trans (Mem.le_refl _) hM7),h⟩
   | false =>
    replace h := sp_f h
    refine CF ?_
    refine KG { σ := [(3,lO 3),(4,lO 4),(5,lO 5),(6,lO 6),(10,.lf (.v (.func (.func 120) #[] (List.toArray lbu0))))],H := [(3,[.one (.v (.func (.func 74) #[] #[(.pointer (some ⟨bu1C,0,none⟩)),(.pointer (some ⟨bu1D,0,none⟩)),(.pointer (some ⟨bu1_c2,0,none⟩))]))]),(4,[.one (.v (.int .u64 x1))]),(5,[oI x2]),(6,[.one (.v (.bool b13))])],V := [],M := M7,ds := [],os := O9,ats := tiesOf [3,4,5,6] bs } ?_
    refine S0 (blockQ_n ?_)
    refine ⟨_,keep_sub (s':={ σ := [],H := [(3,[.one (.v (.func (.func 74) #[] #[(.pointer (some ⟨bu1C,0,none⟩)),(.pointer (some ⟨bu1D,0,none⟩)),(.pointer (some ⟨bu1_c2,0,none⟩))]))]),(4,[.one (.v (.int .u64 x1))]),(5,[oI x2]),(6,[.one (.v (.bool b13))])],V := [],M := M7,ds := [],os := O9,ats := tiesOf [3,4,5,6] bs }) (ts:=[]) (hs:=[3,4,5,6]) (vs:=[]) (by kernel_rfl),rfl,rfl,(Mem.le_refl _),?_⟩
    show (fun (pre : List (Int)) (H : List (Nat × List Sg)) (V : List (Nat × Vc)) (M' : Mem) => ∃ (x1 : Int) (x2 : Int) (b3 : Bool) (rest : List (Int)),pre ++ rest = u0 ∧ H = [(3,[.one (.v (.func (.func 74) #[] #[(.pointer (some ⟨bu1C,0,none⟩)),(.pointer (some ⟨bu1D,0,none⟩)),(.pointer (some ⟨bu1_c2,0,none⟩))]))]),(4,[.one (.v (.int .u64 x1))]),(5,[oI x2]),(6,[.one (.v (.bool b3))])] ∧ V = [] ∧ Mem.le M M' ∧ p72a_r1 k j6 u1y0 u1y1 u1y2 u1y3 u1Z u1X rest x1 x2 b3 = some r) (pr ++ [x5]) _ _ _
    exact ⟨x1,x2,b13,rest4,by rw [List.append_assoc]; exact hks,rfl,rfl,(Mem.le_trans (Mem.le_refl _) hM7),h⟩
 ·rintro D H V M7 ⟨x1,x2,b3,rest0,hks,rfl,rfl,hM7,h⟩
  have hre : rest0 = [] := by have := congrArg List.length hks;simp at this;exact this
  subst hre
  rw [p72a_r1] at h
  subst e_j6
  refine blockQ_n (thenQ_n (SQ ?_))
  refine T_draw' (id:=6) [3,4,5] [0,0,0,0,0,0] (by kernel_rfl) (by kernel_rfl) (by kernel_rfl) (by kernel_rfl) [(30,.lf (.v (.int .u64 x1))),(31,vi x2),(32,vb b3)] (by kernel_rfl) ⟨trivial,⟨trivial,⟨trivial,trivial⟩⟩⟩ ?_
  refine Stage_ex (stage_all' [0,1,2] [] (by kernel_rfl) (by kernel_rfl) (by kernel_rfl) trivial) ({ σ := [(30,.lf (.v (.int .u64 x1))),(31,vi x2),(32,vb b3),(3,lO 3),(4,lO 4),(5,lO 5),(6,lO 6),(10,.lf (.v (.func (.func 120) #[] (List.toArray lbu0))))],H := [(4,[.one (.v (.int .u64 x1))]),(3,[.one (.v (.func (.func 74) #[] #[(.pointer (some ⟨bu1C,0,none⟩)),(.pointer (some ⟨bu1D,0,none⟩)),(.pointer (some ⟨bu1_c2,0,none⟩))]))]),(4,[.one (.v (.int .u64 x1))]),(5,[oI x2]),(6,[.one (.v (.bool b3))])],V := [],M := M7,ds := [D] }) (by kernel_rfl) [] (by kernel_rfl) trivial ?_
  refine Stage_ex (stage_all' [1,2] [] (by kernel_rfl) (by kernel_rfl) (by kernel_rfl) trivial) ({ σ := [(30,.lf (.v (.int .u64 x1))),(31,vi x2),(32,vb b3),(3,lO 3),(4,lO 4),(5,lO 5),(6,lO 6),(10,.lf (.v (.func (.func 120) #[] (List.toArray lbu0))))],H := [(5,[oI x2]),(4,[.one (.v (.int .u64 x1))]),(3,[.one (.v (.func (.func 74) #[] #[(.pointer (some ⟨bu1C,0,none⟩)),(.pointer (some ⟨bu1D,0,none⟩)),(.pointer (some ⟨bu1_c2,0,none⟩))]))]),(4,[.one (.v (.int .u64 x1))]),(5,[oI x2]),(6,[.one (.v (.bool b3))])],V := [],M := M7,ds := [D] }) (by kernel_rfl) [] (by kernel_rfl) trivial ?_
  refine Stage_ex (stage_all' [2] [] (by kernel_rfl) (by kernel_rfl) (by kernel_rfl) trivial) ({ σ := [(30,.lf (.v (.int .u64 x1))),(31,vi x2),(32,vb b3),(3,lO 3),(4,lO 4),(5,lO 5),(6,lO 6),(10,.lf (.v (.func (.func 120) #[] (List.toArray lbu0))))],H := [(6,[.one (.v (.bool b3))]),(5,[oI x2]),(4,[.one (.v (.int .u64 x1))]),(3,[.one (.v (.func (.func 74) #[] #[(.pointer (some ⟨bu1C,0,none⟩)),(.pointer (some ⟨bu1D,0,none⟩)),(.pointer (some ⟨bu1_c2,0,none⟩))]))]),(4,[.one (.v (.int .u64 x1))]),(5,[oI x2]),(6,[.one (.v (.bool b3))])],V := [],M := M7,ds := [D] }) (by kernel_rfl) [] (by kernel_rfl) trivial ?_
  refine Stage_nil (stage_all' [] [] (by kernel_rfl) (by kernel_rfl) (by kernel_rfl) trivial) ?_
  refine thenQ_n ?_
  refine KG { σ := [(4,lO 4),(5,lO 5),(6,lO 6)],H := [(4,[.one (.v (.int .u64 x1))]),(5,[oI x2]),(6,[.one (.v (.bool b3))])],V := [],M := M7,ds := [D] } ?_
  refine RT ?_
  obtain rfl := sj h
  refine fin_retD (.tup [(some (.v (.int .u64 x1)),[]),(some (.v (.int .i64 x2)),[]),(some (.v (.bool b3)),[])]) D (by kernel_rfl) (by kernel_rfl) rfl ?_
  rfl
 ·intro D c H V M' hI
  exact hI.elim
end Go.Proofs.Ythniebmammmacaa
namespace Go.Proofs.Ythniebmammmacaa
open Go.RowKit
def p98 (k : Nat) (u0 : Int) : Option Bool :=
 cl (p64 k u0 (0 : Int) (1073741824 : Int)) fun v1 => some (!v1)
theorem hf98 : Try.prog.funcs[98]? = some Try.f98 := by kernel_rfl
theorem w98 (k : Nat) {M : Mem} {u0 : Int} {r} (h : p98 k u0 = some r) :
  Fn Try.prog 98 [rval (vi u0)] M (fun x _ => x = vb r) := by
 unfold p98 at h
 refine FO [vi u0] hf98 ⟨trivial,trivial⟩ fun w => ?_
 refine SQ0 (RG ?_)
 refine SG 1 (S4 [(0,vi u0)] [] [] M) ?_
 refine EN (SQ (RG ?_))
 refine SS 1 [(3,vi u0)] ?_
 obtain ⟨v1,c_v1,h⟩ := cl_some h
 refine AC 4 (vb v1) (w64 k  c_v1) ?_
 refine SH 4 [(2,vb (!v1))] [] ?_
 refine EN (RT ?_)
 obtain rfl := sj h
 exact FT (vb (!v1)) rfl
def p115a_l1 (k : Nat) (u0 : List Int) (j1 : Option Int) : Nat → Int → Option Int
 | 0,_ => none
 | n3 + 1,x2 => lt' (decide (x2 < (u0.length : Int))) fun b4 => sp b4 (gd ((0 : Int) ≤ x2 ∧ x2 < (u0.length : Int)) <| lt' (List.getD u0 ((x2).toNat) 0) fun x6 => cl (p98 k x6) fun v7 => sp v7 (some x2) (lt' (wr .i64 (x2 + (1 : Int))) fun x8 => p115a_l1 k u0 j1 n3 x8)) (j1)
def p115a (k : Nat) (u0 : List Int) : Option Int :=
 jn (some (-1 : Int)) fun j1 => p115a_l1 k u0 j1 k (0 : Int)
theorem hf115a : Try.prog.funcs[115]? = some Try.f115 := by kernel_rfl
theorem w115a (k : Nat) {M : Mem} {Au0 : Option Addr} {cu0 : Nat} {u0 : List Int} (hu0 : SlI M Au0 cu0 .i64 u0) {r} (h : p115a k u0 = some r) :
  Fn Try.prog 115 [rval (lS Au0 u0 cu0),rval (.lf (.v (.func (.func 98) #[] #[])))] M (fun x _ => x = vi r) := by
 unfold p115a at h
 refine FO [lS Au0 u0 cu0,.lf (.v (.func (.func 98) #[] #[]))] hf115a ⟨trivial,⟨trivial,trivial⟩⟩ fun w => ?_
 refine SQ0 (RG ?_)
 refine SG 1 (S4 [(0,lS Au0 u0 cu0),(1,.lf (.v (.func (.func 98) #[] #[])))] [] [] M) ?_
 refine EN (SQ (SQ (RG ?_)))
 refine SS 3 [(0,lS Au0 u0 cu0),(1,.lf (.v (.func (.func 98) #[] #[]))),(7,vi (u0.length : Int)),(8,vi (0 : Int))] ?_
 refine EN ?_
 obtain ⟨j1,e_j1,h⟩ := jn_some h
 refine T_bcut (id:=0) (c1:=(sub [1,0,1,0] Bd115)) (fun s' => Sub { σ := [],H := [],V := [],M := M,ds := [] } s' ∧ j1 = some r) (by kernel_rfl) ?_ ?_
 ·refine T_loop (c1:=(sub [1,0,1,0,0] Bd115)) (by kernel_rfl) (fun n3 s' => ∃ (x2 : Int),Sub { σ := [(0,lS Au0 u0 cu0),(1,.lf (.v (.func (.func 98) #[] #[]))),(7,vi (u0.length : Int)),(8,vi x2)],H := [],V := [],M := M,ds := [] } s' ∧ p115a_l1 k u0 j1 n3 x2 = some r) (k:=k) ⟨(0 : Int),keep_sub (ts:=[0,1,7,8]) (hs:=[]) (vs:=[]) (by kernel_rfl),h⟩ ?_
  rintro n3 s' ⟨x2,hsub,h⟩
  cases n3 with
  | zero => rw [p115a_l1] at h;cases h
  | succ n3 =>
   rw [p115a_l1] at h
   refine T_sub hsub ?_
   refine SQ (RG ?_)
   obtain ⟨b4,e_b4,h⟩ := lt_some h
   refine SG 1 (S4 [(0,lS Au0 u0 cu0),(1,.lf (.v (.func (.func 98) #[] #[]))),(7,vi (u0.length : Int)),(8,vi x2),(9,vb b4)] [] [] M) ?_ (by subst e_b4;kernel_rfl)
   refine EN (SQ ?_)
   cases b4 with
   | true =>
    replace h := sp_t h
    refine CT ?_
    refine KS [(0,lS Au0 u0 cu0),(1,.lf (.v (.func (.func 98) #[] #[]))),(7,vi (u0.length : Int)),(8,vi x2)] ?_
    refine SN (SQ (BK 1 (SQ (RG ?_))))
    refine SS 2 [(0,lS Au0 u0 cu0),(1,.lf (.v (.func (.func 98) #[] #[]))),(5,vi x2),(7,vi (u0.length : Int)),(8,vi x2)] ?_
    refine EN (SQ (RG ?_))
    refine SS 3 [(0,lS Au0 u0 cu0),(1,.lf (.v (.func (.func 98) #[] #[]))),(5,vi x2),(7,vi (u0.length : Int)),(8,vi x2),(11,.lf (.v (.func (.func 98) #[] #[]))),(12,lS Au0 u0 cu0),(13,vi x2)] ?_
    obtain ⟨g5,h⟩ := gd_some h
    refine AT 14 (.lf (.ep (.slice Au0 (u0.length) cu0) 1 ((x2).toNat) 0)) (At_idxI (z:=x2) (by kernel_rfl) g5 hu0) ?_
    obtain ⟨x6,e_x6,h⟩ := lt_some h
    refine AT 15 (vi x6) (by rw [e_x6]; exact At_ldI (q:=(x2).toNat) (by subst e_x6; kernel_rfl) (toNat_lt g5) hu0) ?_
    obtain ⟨v7,c_v7,h⟩ := cl_some h
    refine AC 16 (vb v7) (w98 k  c_v7) ?_
    refine SH 6 [(0,lS Au0 u0 cu0),(1,.lf (.v (.func (.func 98) #[] #[]))),(5,vi x2),(7,vi (u0.length : Int)),(8,vi x2),(16,vb v7)] [] ?_
    refine EN ?_
    cases v7 with
    | true =>
     replace h := sp_t h
     refine CT ?_
     refine KS [(5,vi x2)] ?_
     refine SQ (RG ?_)
     refine SS 2 [(4,vi x2)] ?_
     refine EN (RT (blockQ_r (thenQ_r (thenQ_r (blockQ_r (thenQ_r (thenQ_r ?_)))))))
     obtain rfl := sj h
     exact FT (vi x2) rfl
    | false =>
     replace h := sp_f h
     refine CF ?_
     refine KS [(0,lS Au0 u0 cu0),(1,.lf (.v (.func (.func 98) #[] #[]))),(7,vi (u0.length : Int)),(8,vi x2)] ?_
     refine S0 (blockQ_n (thenQ_n (RG ?_)))
     obtain ⟨x8,e_x8,h⟩ := lt_some h
     refine SS 2 [(0,lS Au0 u0 cu0),(1,.lf (.v (.func (.func 98) #[] #[]))),(7,vi (u0.length : Int)),(8,vi x8)] ?_ (by subst e_x8;kernel_rfl)
     refine EN ?_
     exact ⟨n3,Nat.lt_succ_self _,x8,keep_sub (ts:=[0,1,7,8]) (hs:=[]) (vs:=[]) (by kernel_rfl),h⟩
   | false =>
    replace h := sp_f h
    refine CF ?_
    refine KS [] ?_
    refine XI 0 (thenQ_x (thenQ_x (blockQ_x (thenQ_n ?_))))
    exact ⟨keep_sub (ts:=[]) (hs:=[]) (vs:=[]) (by kernel_rfl),h⟩
 ·rintro s' ⟨hsub,h⟩
  subst e_j1
  refine thenQ_n ?_
  refine T_sub hsub ?_
  refine SQ (RG ?_)
  refine SG 1 (S4 [(4,vi (-1 : Int))] [] [] M) ?_
  refine EN (RT ?_)
  obtain rfl := sj h
  exact FT (vi (-1 : Int)) rfl
def p62a (k : Nat) (u0 : List Int) : Option Bool :=
 cl (p115a k u0) fun v1 => lt' (decide (v1 ≥ (0 : Int))) fun b2 => some b2
theorem hf62a : Try.prog.funcs[62]? = some Try.f62 := by kernel_rfl
theorem w62a (k : Nat) {M : Mem} {Au0 : Option Addr} {cu0 : Nat} {u0 : List Int} (hu0 : SlI M Au0 cu0 .i64 u0) {r} (h : p62a k u0 = some r) :
  Fn Try.prog 62 [rval (lS Au0 u0 cu0),rval (.lf (.v (.func (.func 98) #[] #[])))] M (fun x _ => x = vb r) := by
 unfold p62a at h
 refine FO [lS Au0 u0 cu0,.lf (.v (.func (.func 98) #[] #[]))] hf62a ⟨trivial,⟨trivial,trivial⟩⟩ fun w => ?_
 refine SQ0 (RG ?_)
 refine SG 1 (S4 [(0,lS Au0 u0 cu0),(1,.lf (.v (.func (.func 98) #[] #[])))] [] [] M) ?_
 refine EN (SQ (RG ?_))
 refine SS 2 [(5,lS Au0 u0 cu0),(6,.lf (.v (.func (.func 98) #[] #[])))] ?_
 obtain ⟨v1,c_v1,h⟩ := cl_some h
 refine AC 7 (vi v1) (w115a k hu0 c_v1) ?_
 obtain ⟨b2,e_b2,h⟩ := lt_some h
 refine SH 5 [(4,vb b2)] [] ?_ (by subst e_b2;kernel_rfl)
 refine EN (RT ?_)
 obtain rfl := sj h
 exact FT (vb b2) rfl
def p39 (k : Nat) (u0 : List Int) : Option Int :=
 cl (p62a k u0) fun v3 => sp v3 (some (2 : Int)) (some (0 : Int))
theorem hf39 : Try.prog.funcs[39]? = some Try.f39 := by kernel_rfl
theorem w39 (k : Nat) {M : Mem} {u0 : List Int} (hu0 : u0.length = 6) {r} (h : p39 k u0 = some r) :
  Fn Try.prog 39 [rval (.agg [.arr .i64 6 u0])] M (fun x _ => x = vi r) := by
 unfold p39 at h
 refine FO [.agg [.arr .i64 6 u0]] hf39 ⟨⟨hu0,trivial⟩,trivial⟩ fun w => ?_
 refine SQ0 (RG ?_)
 refine SG 2 (S4 [(1,lO 1)] [(1,[.arr .i64 6 u0])] [] M) ?_
 refine EN ?_
 refine T_turn (turn_pubH 1 (c:=[.arr .i64 6 u0]) (by kernel_rfl) (by kernel_rfl)) ?_
 rintro _ ⟨b1,M2,rfl,-,e_M2,-,hM2⟩
 have fb1 : MB M2 b1 [.arr .i64 6 u0] := by rw [e_M2]; exact addM_at _ _ _
 refine KG (S4 [(1,lP b1)] [] [] M2) ?_
 refine SQ (SQ (RG ?_))
 refine AT 3 (lS (some ⟨b1,0,none⟩) u0 6) (At_slA (b:=b1) (off:=0) (n:=6) (L:=u0) (by kernel_rfl) hu0) ?_
 obtain ⟨v3,c_v3,h⟩ := cl_some h
 refine AC (args:=[rval (lS (some ⟨b1,0,none⟩) u0 6),rval (.lf (.v (.func (.func 98) #[] #[])))]) 4 (vb v3) (w62a k (SlI_blk fb1 ⟨hu0,trivial⟩ (by kernel_rfl) rfl hu0 rfl) c_v3) ?_
 refine SH 2 [(4,vb v3)] [] ?_
 refine EN ?_
 cases v3 with
 | true =>
  replace h := sp_t h
  refine CT ?_
  refine KS [] ?_
  refine SQ (RG ?_)
  refine SS 1 [(2,vi (2 : Int))] ?_
  refine EN (RT (thenQ_r ?_))
  obtain rfl := sj h
  exact FT (vi (2 : Int)) rfl
 | false =>
  replace h := sp_f h
  refine CF ?_
  refine KS [] ?_
  refine SN (SQ (RG ?_))
  refine SS 1 [(2,vi (0 : Int))] ?_
  refine EN (RT ?_)
  obtain rfl := sj h
  exact FT (vi (0 : Int)) rfl
def p93 (k : Nat) (u0_0 : List Int) (u0_1 : Int) (u0_2 : Int) (u0_3 : Int) : Option Bool :=
 lt' (decide ((u0_0.length : Int) > (16 : Int))) fun b1 => some b1
theorem hf93 : Try.prog.funcs[93]? = some Try.f93 := by kernel_rfl
theorem w93 (k : Nat) {M : Mem} {Au0_0 : Option Addr} {cu0_0 : Nat} {u0_0 : List Int} {u0_1 u0_2 u0_3 : Int} (hu0_0 : SlI M Au0_0 cu0_0 .i64 u0_0) {r} (h : p93 k u0_0 u0_1 u0_2 u0_3 = some r) :
  Fn Try.prog 93 [rval (.agg [oS Au0_0 u0_0 cu0_0,oI u0_1,oI u0_2,oI u0_3])] M (fun x _ => x = vb r) := by
 unfold p93 at h
 refine FO [.agg [oS Au0_0 u0_0 cu0_0,oI u0_1,oI u0_2,oI u0_3]] hf93 ⟨⟨rfl,⟨rfl,⟨rfl,⟨rfl,trivial⟩⟩⟩⟩,trivial⟩ fun w => ?_
 refine SQ0 (RG ?_)
 refine SG 2 (S4 [(1,lO 1)] [(1,[oS Au0_0 u0_0 cu0_0,oI u0_1,oI u0_2,oI u0_3])] [] M) ?_
 refine EN (SQ (RG ?_))
 obtain ⟨b1,e_b1,h⟩ := lt_some h
 refine SH 5 [(2,vb b1)] [] ?_ (by subst e_b1;kernel_rfl)
 refine EN (RT ?_)
 obtain rfl := sj h
 exact FT (vb b1) rfl
def p127a_l1 (k : Nat) (u0 : List WT) (j1 : Option Int) : Nat → Int → Option Int
 | 0,_ => none
 | n3 + 1,x2 => lt' (decide (x2 < (u0.length : Int))) fun b4 => sp b4 (gd ((0 : Int) ≤ x2 ∧ x2 < (u0.length : Int)) <| lt' ((List.getD u0 ((x2).toNat) ([],[])).1) fun L6 => lt' (List.getD (List.getD u0 ((x2).toNat) ([],[])).2 0 0) fun x7 => lt' (List.getD (List.getD u0 ((x2).toNat) ([],[])).2 1 0) fun x8 => lt' (List.getD (List.getD u0 ((x2).toNat) ([],[])).2 2 0) fun x9 => cl (p93 k L6 x7 x8 x9) fun v10 => sp v10 (some x2) (lt' (wr .i64 (x2 + (1 : Int))) fun x11 => p127a_l1 k u0 j1 n3 x11)) (j1)
def p127a (k : Nat) (u0 : List WT) : Option Int :=
 jn (some (-1 : Int)) fun j1 => p127a_l1 k u0 j1 k (0 : Int)
theorem hf127a : Try.prog.funcs[127]? = some Try.f127 := by kernel_rfl
theorem w127a (k : Nat) {M : Mem} {Au0 : Option Addr} {cu0 : Nat} {Hu0 : Nat → Option Addr} {Cu0 : Nat → Nat} {u0 : List WT} (hu0 : SlW M 3 Au0 cu0 Hu0 Cu0 u0) {r} (h : p127a k u0 = some r) :
  Fn Try.prog 127 [rval (lS Au0 u0 cu0),rval (.lf (.v (.func (.func 93) #[] #[])))] M (fun x _ => x = vi r) := by
 unfold p127a at h
 refine FO [lS Au0 u0 cu0,.lf (.v (.func (.func 93) #[] #[]))] hf127a ⟨trivial,⟨trivial,trivial⟩⟩ fun w => ?_
 refine SQ0 (RG ?_)
 refine SG 1 (S4 [(0,lS Au0 u0 cu0),(1,.lf (.v (.func (.func 93) #[] #[])))] [] [] M) ?_
 refine EN (SQ (SQ (RG ?_)))
 refine SS 3 [(0,lS Au0 u0 cu0),(1,.lf (.v (.func (.func 93) #[] #[]))),(7,vi (u0.length : Int)),(8,vi (0 : Int))] ?_
 refine EN ?_
 obtain ⟨j1,e_j1,h⟩ := jn_some h
 refine T_bcut (id:=0) (c1:=(sub [1,0,1,0] Bd127)) (fun s' => Sub { σ := [],H := [],V := [],M := M,ds := [] } s' ∧ j1 = some r) (by kernel_rfl) ?_ ?_
 ·refine T_loop (c1:=(sub [1,0,1,0,0] Bd127)) (by kernel_rfl) (fun n3 s' => ∃ (x2 : Int),Sub { σ := [(0,lS Au0 u0 cu0),(1,.lf (.v (.func (.func 93) #[] #[]))),(7,vi (u0.length : Int)),(8,vi x2)],H := [],V := [],M := M,ds := [] } s' ∧ p127a_l1 k u0 j1 n3 x2 = some r) (k:=k) ⟨(0 : Int),keep_sub (ts:=[0,1,7,8]) (hs:=[]) (vs:=[]) (by kernel_rfl),h⟩ ?_
  rintro n3 s' ⟨x2,hsub,h⟩
  cases n3 with
  | zero => rw [p127a_l1] at h;cases h
  | succ n3 =>
   rw [p127a_l1] at h
   refine T_sub hsub ?_
   refine SQ (RG ?_)
   obtain ⟨b4,e_b4,h⟩ := lt_some h
   refine SG 1 (S4 [(0,lS Au0 u0 cu0),(1,.lf (.v (.func (.func 93) #[] #[]))),(7,vi (u0.length : Int)),(8,vi x2),(9,vb b4)] [] [] M) ?_ (by subst e_b4;kernel_rfl)
   refine EN (SQ ?_)
   cases b4 with
   | true =>
    replace h := sp_t h
    refine CT ?_
    refine KS [(0,lS Au0 u0 cu0),(1,.lf (.v (.func (.func 93) #[] #[]))),(7,vi (u0.length : Int)),(8,vi x2)] ?_
    refine SN (SQ (BK 1 (SQ (RG ?_))))
    refine SS 2 [(0,lS Au0 u0 cu0),(1,.lf (.v (.func (.func 93) #[] #[]))),(5,vi x2),(7,vi (u0.length : Int)),(8,vi x2)] ?_
    refine EN (SQ (RG ?_))
    refine SS 3 [(0,lS Au0 u0 cu0),(1,.lf (.v (.func (.func 93) #[] #[]))),(5,vi x2),(7,vi (u0.length : Int)),(8,vi x2),(11,.lf (.v (.func (.func 93) #[] #[]))),(12,lS Au0 u0 cu0),(13,vi x2)] ?_
    obtain ⟨g5,h⟩ := gd_some h
    refine AT 14 (.lf (.ep (.slice Au0 (u0.length) cu0) 4 ((x2).toNat) 0)) (At_idxSW (m:=3) (z:=x2) (by kernel_rfl) g5 hu0) ?_
    obtain ⟨L6,e_L6,h⟩ := lt_some h
    have f_L6 : SlI M (Hu0 ((x2).toNat)) (Cu0 ((x2).toNat)) .i64 L6 := by rw [e_L6]; exact (hu0).rows _ (toNat_lt g5)
    obtain ⟨x7,e_x7,h⟩ := lt_some h
    obtain ⟨x8,e_x8,h⟩ := lt_some h
    obtain ⟨x9,e_x9,h⟩ := lt_some h
    refine AT 15 (.agg [oS (Hu0 ((x2).toNat)) L6 (Cu0 ((x2).toNat)),oI x7,oI x8,oI x9]) (by rw [e_L6,e_x7,e_x8,e_x9]; exact At_ldSWa (q:=(x2).toNat) (by subst_vars; kernel_rfl) (toNat_lt g5) hu0) ?_ (hx:=⟨rfl,⟨rfl,⟨rfl,⟨rfl,trivial⟩⟩⟩⟩)
    obtain ⟨v10,c_v10,h⟩ := cl_some h
    refine AC 16 (vb v10) (w93 k f_L6 c_v10) ?_
    refine SH 6 [(0,lS Au0 u0 cu0),(1,.lf (.v (.func (.func 93) #[] #[]))),(5,vi x2),(7,vi (u0.length : Int)),(8,vi x2),(16,vb v10)] [] ?_
    refine EN ?_
    cases v10 with
    | true =>
     replace h := sp_t h
     refine CT ?_
     refine KS [(5,vi x2)] ?_
     refine SQ (RG ?_)
     refine SS 2 [(4,vi x2)] ?_
     refine EN (RT (blockQ_r (thenQ_r (thenQ_r (blockQ_r (thenQ_r (thenQ_r ?_)))))))
     obtain rfl := sj h
     exact FT (vi x2) rfl
    | false =>
     replace h := sp_f h
     refine CF ?_
     refine KS [(0,lS Au0 u0 cu0),(1,.lf (.v (.func (.func 93) #[] #[]))),(7,vi (u0.length : Int)),(8,vi x2)] ?_
     refine S0 (blockQ_n (thenQ_n (RG ?_)))
     obtain ⟨x11,e_x11,h⟩ := lt_some h
     refine SS 2 [(0,lS Au0 u0 cu0),(1,.lf (.v (.func (.func 93) #[] #[]))),(7,vi (u0.length : Int)),(8,vi x11)] ?_ (by subst e_x11;kernel_rfl)
     refine EN ?_
     exact ⟨n3,Nat.lt_succ_self _,x11,keep_sub (ts:=[0,1,7,8]) (hs:=[]) (vs:=[]) (by kernel_rfl),h⟩
   | false =>
    replace h := sp_f h
    refine CF ?_
    refine KS [] ?_
    refine XI 0 (thenQ_x (thenQ_x (blockQ_x (thenQ_n ?_))))
    exact ⟨keep_sub (ts:=[]) (hs:=[]) (vs:=[]) (by kernel_rfl),h⟩
 ·rintro s' ⟨hsub,h⟩
  subst e_j1
  refine thenQ_n ?_
  refine T_sub hsub ?_
  refine SQ (RG ?_)
  refine SG 1 (S4 [(4,vi (-1 : Int))] [] [] M) ?_
  refine EN (RT ?_)
  obtain rfl := sj h
  exact FT (vi (-1 : Int)) rfl
def p92a (k : Nat) (u0 : List WT) : Option Bool :=
 cl (p127a k u0) fun v1 => lt' (decide (v1 ≥ (0 : Int))) fun b2 => some b2
theorem hf92a : Try.prog.funcs[92]? = some Try.f92 := by kernel_rfl
theorem w92a (k : Nat) {M : Mem} {Au0 : Option Addr} {cu0 : Nat} {Hu0 : Nat → Option Addr} {Cu0 : Nat → Nat} {u0 : List WT} (hu0 : SlW M 3 Au0 cu0 Hu0 Cu0 u0) {r} (h : p92a k u0 = some r) :
  Fn Try.prog 92 [rval (lS Au0 u0 cu0),rval (.lf (.v (.func (.func 93) #[] #[])))] M (fun x _ => x = vb r) := by
 unfold p92a at h
 refine FO [lS Au0 u0 cu0,.lf (.v (.func (.func 93) #[] #[]))] hf92a ⟨trivial,⟨trivial,trivial⟩⟩ fun w => ?_
 refine SQ0 (RG ?_)
 refine SG 1 (S4 [(0,lS Au0 u0 cu0),(1,.lf (.v (.func (.func 93) #[] #[])))] [] [] M) ?_
 refine EN (SQ (RG ?_))
 refine SS 2 [(5,lS Au0 u0 cu0),(6,.lf (.v (.func (.func 93) #[] #[])))] ?_
 obtain ⟨v1,c_v1,h⟩ := cl_some h
 refine AC 7 (vi v1) (w127a k hu0 c_v1) ?_
 obtain ⟨b2,e_b2,h⟩ := lt_some h
 refine SH 5 [(4,vb b2)] [] ?_ (by subst e_b2;kernel_rfl)
 refine EN (RT ?_)
 obtain rfl := sj h
 exact FT (vb b2) rfl
def p94 (k : Nat) (u0 : Int) (u1g0 : Int) (u1g1 : List (List Int)) (u1g2 : List WT) : Option Bool :=
 jn (fun (b1 : Bool) => some b1) fun j2 => lt' (decide (u0 ≥ (0 : Int))) fun b3 => sp b3 (lt' (decide (u0 < u1g0)) fun b4 => j2 b4) (j2 false)
theorem hf94 : Try.prog.funcs[94]? = some Try.f94 := by kernel_rfl
theorem w94 (k : Nat) {M : Mem} {Au1g1 Au1g2 : Option Addr} {cu1g1 cu1g2 bu1 : Nat} {Hu1g2 : Nat → Option Addr} {Cu1g2 : Nat → Nat} {u0 u1g0 : Int} {u1g1 : List (List Int)} {u1g2 : List WT} (hu1g1 : SlR M Au1g1 cu1g1 .i64 12 u1g1) (hu1g2 : SlW M 3 Au1g2 cu1g2 Hu1g2 Cu1g2 u1g2) (hbu1 : MB M bu1 [oI u1g0,oS Au1g1 u1g1 cu1g1,oS Au1g2 u1g2 cu1g2]) {r} (h : p94 k u0 u1g0 u1g1 u1g2 = some r) :
  Fn Try.prog 94 [rval (vi u0),rval (lP bu1)] M (fun x _ => x = vb r) := by
 unfold p94 at h
 refine FO [vi u0,lP bu1] hf94 ⟨trivial,⟨trivial,trivial⟩⟩ fun w => ?_
 refine SQ0 (RG ?_)
 refine SG 1 (S4 [(0,vi u0),(1,lP bu1)] [] [] M) ?_
 refine EN ?_
 obtain ⟨j2,e_j2,h⟩ := jn_some h
 refine T_cut (c1:=(sub [1,0] Bd94)) (c2:=(sub [1,1] Bd94)) (fun s' => ∃ (b1 : Bool),Sub { σ := [(3,vb b1)],H := [],V := [],M := M,ds := [] } s' ∧ j2 b1 = some r) (by kernel_rfl) ?_ ?_
 ·refine RG ?_
  obtain ⟨b3,e_b3,h⟩ := lt_some h
  refine SG 3 (S4 [(0,vi u0),(1,lP bu1),(6,vb b3)] [] [] M) ?_ (by subst e_b3;kernel_rfl)
  cases b3 with
  | true =>
   replace h := sp_t h
   refine SS 5 [(6,vb true),(7,vi u0),(8,lP bu1)] ?_
   refine AT 9 (vi u1g0) (At_ldP (b:=bu1) (off:=0) (m:=1) (v:=(.int .i64 u1g0)) (by kernel_rfl) (cell_blk hbu1 ⟨rfl,⟨rfl,⟨rfl,trivial⟩⟩⟩ (by kernel_rfl))) ?_
   obtain ⟨b4,e_b4,h⟩ := lt_some h
   refine SH 9 [(3,vb b4)] [] ?_ (by subst e_b4;kernel_rfl)
   refine EN ?_
   exact ⟨b4,keep_sub (ts:=[3]) (hs:=[]) (vs:=[]) (by kernel_rfl),h⟩
  | false =>
   replace h := sp_f h
   refine SS 9 [(3,vb false)] ?_
   refine EN ?_
   exact ⟨false,keep_sub (ts:=[3]) (hs:=[]) (vs:=[]) (by kernel_rfl),h⟩
 ·rintro s' ⟨b1,hsub,h⟩
  subst e_j2
  refine T_sub hsub ?_
  refine RT ?_
  obtain rfl := sj h
  exact FT (vb b1) rfl
def p95 (k : Nat) (u0 : List Int) (u1w0 : Int) (u1w1 : List (List Int)) (u1w2 : List WT) : Option Bool :=
 jn (fun (b1 : Bool) => jn (fun (b16 : Bool) => some b16) fun j17 => lt' (List.getD u0 0 0) fun x18 => cl (p94 k x18 u1w0 u1w1 u1w2) fun v19 => sp v19 (lt' (List.getD u0 1 0) fun x20 => cl (p94 k x20 u1w0 u1w1 u1w2) fun v21 => sp v21 (lt' (List.getD u0 0 0) fun x22 => lt' (List.getD u0 1 0) fun x23 => lt' (x22 == x23) fun b24 => sp b24 (j17 true) (lt' (List.getD u0 2 0) fun x25 => cl (p64 k x25 (1 : Int) (1073741824 : Int)) fun v26 => sp v26 (sp b1 (cl (p39 k (List.take 6 (List.drop 6 u0))) fun v27 => lt' (v27 != (0 : Int)) fun b28 => j17 b28) (j17 true)) (j17 true))) (j17 true)) (j17 true)) fun j2 => lt' (List.getD u0 4 0) fun x3 => lt' (decide (x3 ≥ (0 : Int))) fun b4 => sp b4 (lt' (List.getD u0 4 0) fun x5 => lt' (List.getD u0 5 0) fun x6 => lt' (decide (x5 < x6)) fun b7 => sp b7 (lt' (List.getD u0 5 0) fun x8 => lt' (decide (x8 ≤ (1440 : Int))) fun b9 => sp b9 (lt' (List.getD u0 3 0) fun x10 => lt' (List.getD u0 5 0) fun x11 => lt' (List.getD u0 4 0) fun x12 => lt' (wr .i64 (x11 - x12)) fun x13 => lt' (mn (1440 : Int) x13) fun x14 => cl (p64 k x10 (1 : Int) x14) fun v15 => j2 v15) (j2 false)) (j2 false)) (j2 false)
theorem hf95 : Try.prog.funcs[95]? = some Try.f95 := by kernel_rfl
theorem w95 (k : Nat) {M : Mem} {Au1w1 Au1w2 : Option Addr} {cu1w1 cu1w2 bu1W bu1 : Nat} {Hu1w2 : Nat → Option Addr} {Cu1w2 : Nat → Nat} {u0 : List Int} {u1w0 : Int} {u1w1 : List (List Int)} {u1w2 : List WT} (hu0 : u0.length = 12) (hu1w1 : SlR M Au1w1 cu1w1 .i64 12 u1w1) (hu1w2 : SlW M 3 Au1w2 cu1w2 Hu1w2 Cu1w2 u1w2) (hbu1W : MB M bu1W [oI u1w0,oS Au1w1 u1w1 cu1w1,oS Au1w2 u1w2 cu1w2]) (hbu1 : MB M bu1 [.one (.v (.func (.func 94) #[] #[(.pointer (some ⟨bu1W,0,none⟩))]))]) {r} (h : p95 k u0 u1w0 u1w1 u1w2 = some r) :
  Fn Try.prog 95 [rval (.agg [.arr .i64 12 u0]),rval (lP bu1)] M (fun x _ => x = vb r) := by
 unfold p95 at h
 refine FO [.agg [.arr .i64 12 u0],lP bu1] hf95 ⟨⟨hu0,trivial⟩,⟨trivial,trivial⟩⟩ fun w => ?_
 refine SQ0 (RG ?_)
 refine SG 2 (S4 [(1,lP bu1),(2,lO 2)] [(2,[.arr .i64 12 u0])] [] M) ?_
 refine EN ?_
 obtain ⟨j2,e_j2,h⟩ := jn_some h
 refine T_cut (c1:=(sub [1,0] Bd95)) (c2:=(sub [1,1] Bd95)) (fun s' => ∃ (b1 : Bool),Sub { σ := [(1,lP bu1),(2,lO 2),(4,vb b1)],H := [(2,[.arr .i64 12 u0])],V := [],M := M,ds := [] } s' ∧ j2 b1 = some r) (by kernel_rfl) ?_ ?_
 ·refine RG ?_
  obtain ⟨x3,e_x3,h⟩ := lt_some h
  obtain ⟨b4,e_b4,h⟩ := lt_some h
  refine SG 4 (S4 [(1,lP bu1),(2,lO 2),(8,vb b4)] [(2,[.arr .i64 12 u0])] [] M) ?_ (by subst e_b4 e_x3;kernel_rfl)
  cases b4 with
  | true =>
   replace h := sp_t h
   obtain ⟨x5,e_x5,h⟩ := lt_some h
   obtain ⟨x6,e_x6,h⟩ := lt_some h
   obtain ⟨b7,e_b7,h⟩ := lt_some h
   refine SS 11 [(1,lP bu1),(2,lO 2),(15,vb b7)] ?_ (by subst_vars;kernel_rfl)
   cases b7 with
   | true =>
    replace h := sp_t h
    obtain ⟨x8,e_x8,h⟩ := lt_some h
    obtain ⟨b9,e_b9,h⟩ := lt_some h
    refine SS 16 [(1,lP bu1),(2,lO 2),(20,vb b9)] ?_ (by subst e_b9 e_x8;kernel_rfl)
    cases b9 with
    | true =>
     replace h := sp_t h
     obtain ⟨x10,e_x10,h⟩ := lt_some h
     obtain ⟨x11,e_x11,h⟩ := lt_some h
     obtain ⟨x12,e_x12,h⟩ := lt_some h
     obtain ⟨x13,e_x13,h⟩ := lt_some h
     obtain ⟨x14,e_x14,h⟩ := lt_some h
     refine SS 24 [(1,lP bu1),(2,lO 2),(20,vb true),(22,vi x10),(28,vi x14)] ?_ (by subst_vars;kernel_rfl)
     obtain ⟨v15,c_v15,h⟩ := cl_some h
     refine AC 29 (vb v15) (w64 k  c_v15) ?_
     refine SH 27 [(1,lP bu1),(2,lO 2),(4,vb v15)] [(2,[.arr .i64 12 u0])] ?_
     refine EN ?_
     exact ⟨v15,keep_sub (ts:=[1,2,4]) (hs:=[2]) (vs:=[]) (by kernel_rfl),h⟩
    | false =>
     replace h := sp_f h
     refine SS 27 [(1,lP bu1),(2,lO 2),(4,vb false)] ?_
     refine EN ?_
     exact ⟨false,keep_sub (ts:=[1,2,4]) (hs:=[2]) (vs:=[]) (by kernel_rfl),h⟩
   | false =>
    replace h := sp_f h
    refine SS 27 [(1,lP bu1),(2,lO 2),(4,vb false)] ?_
    refine EN ?_
    exact ⟨false,keep_sub (ts:=[1,2,4]) (hs:=[2]) (vs:=[]) (by kernel_rfl),h⟩
  | false =>
   replace h := sp_f h
   refine SS 27 [(1,lP bu1),(2,lO 2),(4,vb false)] ?_
   refine EN ?_
   exact ⟨false,keep_sub (ts:=[1,2,4]) (hs:=[2]) (vs:=[]) (by kernel_rfl),h⟩
 ·rintro s' ⟨b1,hsub,h⟩
  subst e_j2
  refine T_sub hsub ?_
  obtain ⟨j17,e_j17,h⟩ := jn_some h
  refine T_cut (c1:=(sub [1,1,0] Bd95)) (c2:=(sub [1,1,1] Bd95)) (fun s' => ∃ (b16 : Bool),Sub { σ := [(3,vb b16)],H := [],V := [],M := M,ds := [] } s' ∧ j17 b16 = some r) (by kernel_rfl) ?_ ?_
  ·refine RG ?_
   refine AT 31 (.lf (.v (.func (.func 94) #[] #[(.pointer (some ⟨bu1W,0,none⟩))]))) (At_ldP (b:=bu1) (off:=0) (m:=1) (v:=(.func (.func 94) #[] #[(.pointer (some ⟨bu1W,0,none⟩))])) (by kernel_rfl) (cell_blk hbu1 ⟨rfl,trivial⟩ (by kernel_rfl))) ?_
   obtain ⟨x18,e_x18,h⟩ := lt_some h
   refine SG 3 (S4 [(1,lP bu1),(2,lO 2),(4,vb b1),(31,.lf (.v (.func (.func 94) #[] #[(.pointer (some ⟨bu1W,0,none⟩))]))),(33,vi x18)] [(2,[.arr .i64 12 u0])] [] M) ?_ (by subst e_x18;kernel_rfl)
   obtain ⟨v19,c_v19,h⟩ := cl_some h
   refine AC 34 (vb v19) (w94 k hu1w1 hu1w2 hbu1W c_v19) ?_
   refine SH 6 [(1,lP bu1),(2,lO 2),(4,vb b1),(36,vb (!v19))] [(2,[.arr .i64 12 u0])] ?_
   cases v19 with
   | true =>
    replace h := sp_t h
    refine AT 37 (.lf (.v (.func (.func 94) #[] #[(.pointer (some ⟨bu1W,0,none⟩))]))) (At_ldP (b:=bu1) (off:=0) (m:=1) (v:=(.func (.func 94) #[] #[(.pointer (some ⟨bu1W,0,none⟩))])) (by kernel_rfl) (cell_blk hbu1 ⟨rfl,trivial⟩ (by kernel_rfl))) ?_
    obtain ⟨x20,e_x20,h⟩ := lt_some h
    refine SH 9 [(2,lO 2),(4,vb b1),(36,vb false),(37,.lf (.v (.func (.func 94) #[] #[(.pointer (some ⟨bu1W,0,none⟩))]))),(39,vi x20)] [(2,[.arr .i64 12 u0])] ?_ (by subst e_x20;kernel_rfl)
    obtain ⟨v21,c_v21,h⟩ := cl_some h
    refine AC 40 (vb v21) (w94 k hu1w1 hu1w2 hbu1W c_v21) ?_
    refine SH 13 [(2,lO 2),(4,vb b1),(43,vb (!v21))] [(2,[.arr .i64 12 u0])] ?_
    cases v21 with
    | true =>
     replace h := sp_t h
     obtain ⟨x22,e_x22,h⟩ := lt_some h
     obtain ⟨x23,e_x23,h⟩ := lt_some h
     obtain ⟨b24,e_b24,h⟩ := lt_some h
     refine SS 20 [(2,lO 2),(4,vb b1),(50,vb b24)] ?_ (by subst_vars;kernel_rfl)
     cases b24 with
     | true =>
      replace h := sp_t h
      refine SH 36 [(3,vb true)] [] ?_
      refine EN ?_
      exact ⟨true,keep_sub (ts:=[3]) (hs:=[]) (vs:=[]) (by kernel_rfl),h⟩
     | false =>
      replace h := sp_f h
      obtain ⟨x25,e_x25,h⟩ := lt_some h
      refine SS 22 [(2,lO 2),(4,vb b1),(50,vb false),(52,vi x25)] ?_ (by subst e_x25;kernel_rfl)
      obtain ⟨v26,c_v26,h⟩ := cl_some h
      refine AC 53 (vb v26) (w64 k  c_v26) ?_
      refine SH 26 [(2,lO 2),(4,vb b1),(56,vb (!v26))] [(2,[.arr .i64 12 u0])] ?_
      cases v26 with
      | true =>
       replace h := sp_t h
       refine SS 30 [(2,lO 2),(60,vb (!b1))] ?_
       cases b1 with
       | true =>
        replace h := sp_t h
        refine SH 32 [(60,vb false),(62,.agg [.arr .i64 6 (List.take 6 (List.drop 6 u0))])] [] ?_
        obtain ⟨v27,c_v27,h⟩ := cl_some h
        refine AC (args:=[rval (.agg [.arr .i64 6 (List.take 6 (List.drop 6 u0))])]) 63 (vi v27) (w39 k (len_dt hu0 (Nat.le_of_ble_eq_true rfl)) c_v27) ?_
        obtain ⟨b28,e_b28,h⟩ := lt_some h
        refine SH 36 [(3,vb b28)] [] ?_ (by subst e_b28;kernel_rfl)
        refine EN ?_
        exact ⟨b28,keep_sub (ts:=[3]) (hs:=[]) (vs:=[]) (by kernel_rfl),h⟩
       | false =>
        replace h := sp_f h
        refine SH 36 [(3,vb true)] [] ?_
        refine EN ?_
        exact ⟨true,keep_sub (ts:=[3]) (hs:=[]) (vs:=[]) (by kernel_rfl),h⟩
      | false =>
       replace h := sp_f h
       refine SH 36 [(3,vb true)] [] ?_
       refine EN ?_
       exact ⟨true,keep_sub (ts:=[3]) (hs:=[]) (vs:=[]) (by kernel_rfl),h⟩
    | false =>
     replace h := sp_f h
     refine SH 36 [(3,vb true)] [] ?_
     refine EN ?_
     exact ⟨true,keep_sub (ts:=[3]) (hs:=[]) (vs:=[]) (by kernel_rfl),h⟩
   | false =>
    replace h := sp_f h
    refine SH 36 [(3,vb true)] [] ?_
    refine EN ?_
    exact ⟨true,keep_sub (ts:=[3]) (hs:=[]) (vs:=[]) (by kernel_rfl),h⟩
  ·rintro s' ⟨b16,hsub,h⟩
   subst e_j17
   refine T_sub hsub ?_
   refine RT ?_
   obtain rfl := sj h
   exact FT (vb b16) rfl
def p80c_l1 (k : Nat) (u0 : List (List Int)) (u1q0 : Int) (u1q1 : List (List Int)) (u1q2 : List WT) (j1 : Option Int) : Nat → Int → Option Int
 | 0,_ => none
 | n3 + 1,x2 => lt' (decide (x2 < (u0.length : Int))) fun b4 => sp b4 (gd ((0 : Int) ≤ x2 ∧ x2 < (u0.length : Int)) <| lt' (List.getD u0 ((x2).toNat) []) fun L6 => cl (p95 k L6 u1q0 u1q1 u1q2) fun v7 => sp v7 (some x2) (lt' (wr .i64 (x2 + (1 : Int))) fun x8 => p80c_l1 k u0 u1q0 u1q1 u1q2 j1 n3 x8)) (j1)
def p80c (k : Nat) (u0 : List (List Int)) (u1q0 : Int) (u1q1 : List (List Int)) (u1q2 : List WT) : Option Int :=
 jn (some (-1 : Int)) fun j1 => p80c_l1 k u0 u1q0 u1q1 u1q2 j1 k (0 : Int)
theorem hf80c : Try.prog.funcs[80]? = some Try.f80 := by kernel_rfl
theorem w80c (k : Nat) {M : Mem} {Au0 Au1q1 Au1q2 : Option Addr} {cu0 cu1q1 cu1q2 bu1Q bu1C : Nat} {Hu1q2 : Nat → Option Addr} {Cu1q2 : Nat → Nat} {u0 u1q1 : List (List Int)} {u1q0 : Int} {u1q2 : List WT} (hu0 : SlR M Au0 cu0 .i64 12 u0) (hu1q1 : SlR M Au1q1 cu1q1 .i64 12 u1q1) (hu1q2 : SlW M 3 Au1q2 cu1q2 Hu1q2 Cu1q2 u1q2) (hbu1Q : MB M bu1Q [oI u1q0,oS Au1q1 u1q1 cu1q1,oS Au1q2 u1q2 cu1q2]) (hbu1C : MB M bu1C [.one (.v (.func (.func 94) #[] #[(.pointer (some ⟨bu1Q,0,none⟩))]))]) {r} (h : p80c k u0 u1q0 u1q1 u1q2 = some r) :
  Fn Try.prog 80 [rval (lS Au0 u0 cu0),rval (.lf (.v (.func (.func 95) #[] #[(.pointer (some ⟨bu1C,0,none⟩))])))] M (fun x _ => x = vi r) := by
 unfold p80c at h
 refine FO [lS Au0 u0 cu0,.lf (.v (.func (.func 95) #[] #[(.pointer (some ⟨bu1C,0,none⟩))]))] hf80c ⟨trivial,⟨trivial,trivial⟩⟩ fun w => ?_
 refine SQ0 (RG ?_)
 refine SG 1 (S4 [(0,lS Au0 u0 cu0),(1,.lf (.v (.func (.func 95) #[] #[(.pointer (some ⟨bu1C,0,none⟩))])))] [] [] M) ?_
 refine EN (SQ (SQ (RG ?_)))
 refine SS 3 [(0,lS Au0 u0 cu0),(1,.lf (.v (.func (.func 95) #[] #[(.pointer (some ⟨bu1C,0,none⟩))]))),(7,vi (u0.length : Int)),(8,vi (0 : Int))] ?_
 refine EN ?_
 obtain ⟨j1,e_j1,h⟩ := jn_some h
 refine T_bcut (id:=0) (c1:=(sub [1,0,1,0] Bd80)) (fun s' => Sub { σ := [],H := [],V := [],M := M,ds := [] } s' ∧ j1 = some r) (by kernel_rfl) ?_ ?_
 ·refine T_loop (c1:=(sub [1,0,1,0,0] Bd80)) (by kernel_rfl) (fun n3 s' => ∃ (x2 : Int),Sub { σ := [(0,lS Au0 u0 cu0),(1,.lf (.v (.func (.func 95) #[] #[(.pointer (some ⟨bu1C,0,none⟩))]))),(7,vi (u0.length : Int)),(8,vi x2)],H := [],V := [],M := M,ds := [] } s' ∧ p80c_l1 k u0 u1q0 u1q1 u1q2 j1 n3 x2 = some r) (k:=k) ⟨(0 : Int),keep_sub (ts:=[0,1,7,8]) (hs:=[]) (vs:=[]) (by kernel_rfl),h⟩ ?_
  rintro n3 s' ⟨x2,hsub,h⟩
  cases n3 with
  | zero => rw [p80c_l1] at h;cases h
  | succ n3 =>
   rw [p80c_l1] at h
   refine T_sub hsub ?_
   refine SQ (RG ?_)
   obtain ⟨b4,e_b4,h⟩ := lt_some h
   refine SG 1 (S4 [(0,lS Au0 u0 cu0),(1,.lf (.v (.func (.func 95) #[] #[(.pointer (some ⟨bu1C,0,none⟩))]))),(7,vi (u0.length : Int)),(8,vi x2),(9,vb b4)] [] [] M) ?_ (by subst e_b4;kernel_rfl)
   refine EN (SQ ?_)
   cases b4 with
   | true =>
    replace h := sp_t h
    refine CT ?_
    refine KS [(0,lS Au0 u0 cu0),(1,.lf (.v (.func (.func 95) #[] #[(.pointer (some ⟨bu1C,0,none⟩))]))),(7,vi (u0.length : Int)),(8,vi x2)] ?_
    refine SN (SQ (BK 1 (SQ (RG ?_))))
    refine SS 2 [(0,lS Au0 u0 cu0),(1,.lf (.v (.func (.func 95) #[] #[(.pointer (some ⟨bu1C,0,none⟩))]))),(5,vi x2),(7,vi (u0.length : Int)),(8,vi x2)] ?_
    refine EN (SQ (RG ?_))
    refine SS 3 [(0,lS Au0 u0 cu0),(1,.lf (.v (.func (.func 95) #[] #[(.pointer (some ⟨bu1C,0,none⟩))]))),(5,vi x2),(7,vi (u0.length : Int)),(8,vi x2),(11,.lf (.v (.func (.func 95) #[] #[(.pointer (some ⟨bu1C,0,none⟩))]))),(12,lS Au0 u0 cu0),(13,vi x2)] ?_
    obtain ⟨g5,h⟩ := gd_some h
    refine AT 14 (.lf (.ep (.slice Au0 (u0.length) cu0) 12 ((x2).toNat) 0)) (At_idxR (z:=x2) (by kernel_rfl) g5 hu0) ?_
    obtain ⟨L6,e_L6,h⟩ := lt_some h
    have l_L6 : (L6).length = 12 := by rw [e_L6]; exact SlR_row hu0 (toNat_lt g5)
    refine AT 15 (.agg [.arr .i64 12 L6]) (by rw [e_L6]; exact At_ldRow (q:=(x2).toNat) (by subst e_L6; kernel_rfl) (toNat_lt g5) hu0) ?_ (hx:=⟨l_L6,trivial⟩)
    obtain ⟨v7,c_v7,h⟩ := cl_some h
    refine AC 16 (vb v7) (w95 k l_L6 hu1q1 hu1q2 hbu1Q hbu1C c_v7) ?_
    refine SH 6 [(0,lS Au0 u0 cu0),(1,.lf (.v (.func (.func 95) #[] #[(.pointer (some ⟨bu1C,0,none⟩))]))),(5,vi x2),(7,vi (u0.length : Int)),(8,vi x2),(16,vb v7)] [] ?_
    refine EN ?_
    cases v7 with
    | true =>
     replace h := sp_t h
     refine CT ?_
     refine KS [(5,vi x2)] ?_
     refine SQ (RG ?_)
     refine SS 2 [(4,vi x2)] ?_
     refine EN (RT (blockQ_r (thenQ_r (thenQ_r (blockQ_r (thenQ_r (thenQ_r ?_)))))))
     obtain rfl := sj h
     exact FT (vi x2) rfl
    | false =>
     replace h := sp_f h
     refine CF ?_
     refine KS [(0,lS Au0 u0 cu0),(1,.lf (.v (.func (.func 95) #[] #[(.pointer (some ⟨bu1C,0,none⟩))]))),(7,vi (u0.length : Int)),(8,vi x2)] ?_
     refine S0 (blockQ_n (thenQ_n (RG ?_)))
     obtain ⟨x8,e_x8,h⟩ := lt_some h
     refine SS 2 [(0,lS Au0 u0 cu0),(1,.lf (.v (.func (.func 95) #[] #[(.pointer (some ⟨bu1C,0,none⟩))]))),(7,vi (u0.length : Int)),(8,vi x8)] ?_ (by subst e_x8;kernel_rfl)
     refine EN ?_
     exact ⟨n3,Nat.lt_succ_self _,x8,keep_sub (ts:=[0,1,7,8]) (hs:=[]) (vs:=[]) (by kernel_rfl),h⟩
   | false =>
    replace h := sp_f h
    refine CF ?_
    refine KS [] ?_
    refine XI 0 (thenQ_x (thenQ_x (blockQ_x (thenQ_n ?_))))
    exact ⟨keep_sub (ts:=[]) (hs:=[]) (vs:=[]) (by kernel_rfl),h⟩
 ·rintro s' ⟨hsub,h⟩
  subst e_j1
  refine thenQ_n ?_
  refine T_sub hsub ?_
  refine SQ (RG ?_)
  refine SG 1 (S4 [(4,vi (-1 : Int))] [] [] M) ?_
  refine EN (RT ?_)
  obtain rfl := sj h
  exact FT (vi (-1 : Int)) rfl
def p97a (k : Nat) (u0 : List (List Int)) (u1q0 : Int) (u1q1 : List (List Int)) (u1q2 : List WT) : Option Bool :=
 cl (p80c k u0 u1q0 u1q1 u1q2) fun v1 => lt' (decide (v1 ≥ (0 : Int))) fun b2 => some b2
theorem hf97a : Try.prog.funcs[97]? = some Try.f97 := by kernel_rfl
theorem w97a (k : Nat) {M : Mem} {Au0 Au1q1 Au1q2 : Option Addr} {cu0 cu1q1 cu1q2 bu1Q bu1C : Nat} {Hu1q2 : Nat → Option Addr} {Cu1q2 : Nat → Nat} {u0 u1q1 : List (List Int)} {u1q0 : Int} {u1q2 : List WT} (hu0 : SlR M Au0 cu0 .i64 12 u0) (hu1q1 : SlR M Au1q1 cu1q1 .i64 12 u1q1) (hu1q2 : SlW M 3 Au1q2 cu1q2 Hu1q2 Cu1q2 u1q2) (hbu1Q : MB M bu1Q [oI u1q0,oS Au1q1 u1q1 cu1q1,oS Au1q2 u1q2 cu1q2]) (hbu1C : MB M bu1C [.one (.v (.func (.func 94) #[] #[(.pointer (some ⟨bu1Q,0,none⟩))]))]) {r} (h : p97a k u0 u1q0 u1q1 u1q2 = some r) :
  Fn Try.prog 97 [rval (lS Au0 u0 cu0),rval (.lf (.v (.func (.func 95) #[] #[(.pointer (some ⟨bu1C,0,none⟩))])))] M (fun x _ => x = vb r) := by
 unfold p97a at h
 refine FO [lS Au0 u0 cu0,.lf (.v (.func (.func 95) #[] #[(.pointer (some ⟨bu1C,0,none⟩))]))] hf97a ⟨trivial,⟨trivial,trivial⟩⟩ fun w => ?_
 refine SQ0 (RG ?_)
 refine SG 1 (S4 [(0,lS Au0 u0 cu0),(1,.lf (.v (.func (.func 95) #[] #[(.pointer (some ⟨bu1C,0,none⟩))])))] [] [] M) ?_
 refine EN (SQ (RG ?_))
 refine SS 2 [(5,lS Au0 u0 cu0),(6,.lf (.v (.func (.func 95) #[] #[(.pointer (some ⟨bu1C,0,none⟩))])))] ?_
 obtain ⟨v1,c_v1,h⟩ := cl_some h
 refine AC 7 (vi v1) (w80c k hu0 hu1q1 hu1q2 hbu1Q hbu1C c_v1) ?_
 obtain ⟨b2,e_b2,h⟩ := lt_some h
 refine SH 5 [(4,vb b2)] [] ?_ (by subst e_b2;kernel_rfl)
 refine EN (RT ?_)
 obtain rfl := sj h
 exact FT (vb b2) rfl
def p96 (k : Nat) (u0_0 : List Int) (u0_1 : Int) (u0_2 : Int) (u0_3 : Int) (u1g0 : Int) (u1g1 : List (List Int)) (u1g2 : List WT) : Option Bool :=
 jn (fun (b1 : Bool) => some b1) fun j2 => lt' ((u0_0.length : Int) == (0 : Int)) fun b3 => sp b3 (j2 true) (cl (p69 k u0_0 (u1g1.length : Int)) fun v4 => sp v4 (lt' (decide (u0_1 < (0 : Int))) fun b5 => sp b5 (j2 true) (lt' (decide (u0_1 > (5 : Int))) fun b6 => sp b6 (j2 true) (cl (p64 k u0_2 (0 : Int) (1073741824 : Int)) fun v7 => sp v7 (cl (p64 k u0_3 (1 : Int) (1073741824 : Int)) fun v8 => j2 (!v8)) (j2 true)))) (j2 true))
theorem hf96 : Try.prog.funcs[96]? = some Try.f96 := by kernel_rfl
theorem w96 (k : Nat) {M : Mem} {Au0_0 Au1g1 Au1g2 : Option Addr} {cu0_0 cu1g1 cu1g2 bu1 : Nat} {Hu1g2 : Nat → Option Addr} {Cu1g2 : Nat → Nat} {u0_0 : List Int} {u0_1 u0_2 u0_3 u1g0 : Int} {u1g1 : List (List Int)} {u1g2 : List WT} (hu0_0 : SlI M Au0_0 cu0_0 .i64 u0_0) (hu1g1 : SlR M Au1g1 cu1g1 .i64 12 u1g1) (hu1g2 : SlW M 3 Au1g2 cu1g2 Hu1g2 Cu1g2 u1g2) (hbu1 : MB M bu1 [oI u1g0,oS Au1g1 u1g1 cu1g1,oS Au1g2 u1g2 cu1g2]) {r} (h : p96 k u0_0 u0_1 u0_2 u0_3 u1g0 u1g1 u1g2 = some r) :
  Fn Try.prog 96 [rval (.agg [oS Au0_0 u0_0 cu0_0,oI u0_1,oI u0_2,oI u0_3]),rval (lP bu1)] M (fun x _ => x = vb r) := by
 unfold p96 at h
 refine FO [.agg [oS Au0_0 u0_0 cu0_0,oI u0_1,oI u0_2,oI u0_3],lP bu1] hf96 ⟨⟨rfl,⟨rfl,⟨rfl,⟨rfl,trivial⟩⟩⟩⟩,⟨trivial,trivial⟩⟩ fun w => ?_
 refine SQ0 (RG ?_)
 refine SG 2 (S4 [(1,lP bu1),(2,lO 2)] [(2,[oS Au0_0 u0_0 cu0_0,oI u0_1,oI u0_2,oI u0_3])] [] M) ?_
 refine EN ?_
 obtain ⟨j2,e_j2,h⟩ := jn_some h
 refine T_cut (c1:=(sub [1,0] Bd96)) (c2:=(sub [1,1] Bd96)) (fun s' => ∃ (b1 : Bool),Sub { σ := [(3,vb b1)],H := [],V := [],M := M,ds := [] } s' ∧ j2 b1 = some r) (by kernel_rfl) ?_ ?_
 ·refine RG ?_
  obtain ⟨b3,e_b3,h⟩ := lt_some h
  refine SG 5 (S4 [(1,lP bu1),(2,lO 2),(8,vb b3)] [(2,[oS Au0_0 u0_0 cu0_0,oI u0_1,oI u0_2,oI u0_3])] [] M) ?_ (by subst e_b3;kernel_rfl)
  cases b3 with
  | true =>
   replace h := sp_t h
   refine SH 36 [(3,vb true)] [] ?_
   refine EN ?_
   exact ⟨true,keep_sub (ts:=[3]) (hs:=[]) (vs:=[]) (by kernel_rfl),h⟩
  | false =>
   replace h := sp_f h
   refine SS 8 [(2,lO 2),(8,vb false),(10,lS Au0_0 u0_0 cu0_0),(11,.lf (.v (.pointer (some ⟨bu1,1,none⟩))))] ?_
   refine AT 12 (lS Au1g1 u1g1 cu1g1) (At_ldP (b:=bu1) (off:=1) (m:=1) (v:=(.slice Au1g1 (u1g1.length) cu1g1)) (by kernel_rfl) (cell_blk hbu1 ⟨rfl,⟨rfl,⟨rfl,trivial⟩⟩⟩ (by kernel_rfl))) ?_
   refine SH 10 [(2,lO 2),(8,vb false),(10,lS Au0_0 u0_0 cu0_0),(13,vi (u1g1.length : Int))] [(2,[oS Au0_0 u0_0 cu0_0,oI u0_1,oI u0_2,oI u0_3])] ?_
   obtain ⟨v4,c_v4,h⟩ := cl_some h
   refine AC 14 (vb v4) (w69 k hu0_0 c_v4) ?_
   refine SH 14 [(2,lO 2),(17,vb (!v4))] [(2,[oS Au0_0 u0_0 cu0_0,oI u0_1,oI u0_2,oI u0_3])] ?_
   cases v4 with
   | true =>
    replace h := sp_t h
    obtain ⟨b5,e_b5,h⟩ := lt_some h
    refine SS 19 [(2,lO 2),(22,vb b5)] ?_ (by subst e_b5;kernel_rfl)
    cases b5 with
    | true =>
     replace h := sp_t h
     refine SH 36 [(3,vb true)] [] ?_
     refine EN ?_
     exact ⟨true,keep_sub (ts:=[3]) (hs:=[]) (vs:=[]) (by kernel_rfl),h⟩
    | false =>
     replace h := sp_f h
     obtain ⟨b6,e_b6,h⟩ := lt_some h
     refine SS 24 [(2,lO 2),(27,vb b6)] ?_ (by subst e_b6;kernel_rfl)
     cases b6 with
     | true =>
      replace h := sp_t h
      refine SH 36 [(3,vb true)] [] ?_
      refine EN ?_
      exact ⟨true,keep_sub (ts:=[3]) (hs:=[]) (vs:=[]) (by kernel_rfl),h⟩
     | false =>
      replace h := sp_f h
      refine SS 26 [(2,lO 2),(27,vb false),(29,vi u0_2)] ?_
      obtain ⟨v7,c_v7,h⟩ := cl_some h
      refine AC 30 (vb v7) (w64 k  c_v7) ?_
      refine SH 30 [(2,lO 2),(33,vb (!v7))] [(2,[oS Au0_0 u0_0 cu0_0,oI u0_1,oI u0_2,oI u0_3])] ?_
      cases v7 with
      | true =>
       replace h := sp_t h
       refine SH 32 [(33,vb false),(35,vi u0_3)] [] ?_
       obtain ⟨v8,c_v8,h⟩ := cl_some h
       refine AC 36 (vb v8) (w64 k  c_v8) ?_
       refine SH 36 [(3,vb (!v8))] [] ?_
       refine EN ?_
       exact ⟨(!v8),keep_sub (ts:=[3]) (hs:=[]) (vs:=[]) (by kernel_rfl),h⟩
      | false =>
       replace h := sp_f h
       refine SH 36 [(3,vb true)] [] ?_
       refine EN ?_
       exact ⟨true,keep_sub (ts:=[3]) (hs:=[]) (vs:=[]) (by kernel_rfl),h⟩
   | false =>
    replace h := sp_f h
    refine SH 36 [(3,vb true)] [] ?_
    refine EN ?_
    exact ⟨true,keep_sub (ts:=[3]) (hs:=[]) (vs:=[]) (by kernel_rfl),h⟩
 ·rintro s' ⟨b1,hsub,h⟩
  subst e_j2
  refine T_sub hsub ?_
  refine RT ?_
  obtain rfl := sj h
  exact FT (vb b1) rfl
def p127b_l1 (k : Nat) (u0 : List WT) (u1y0 : Int) (u1y1 : List (List Int)) (u1y2 : List WT) (j1 : Option Int) : Nat → Int → Option Int
 | 0,_ => none
 | n3 + 1,x2 => lt' (decide (x2 < (u0.length : Int))) fun b4 => sp b4 (gd ((0 : Int) ≤ x2 ∧ x2 < (u0.length : Int)) <| lt' ((List.getD u0 ((x2).toNat) ([],[])).1) fun L6 => lt' (List.getD (List.getD u0 ((x2).toNat) ([],[])).2 0 0) fun x7 => lt' (List.getD (List.getD u0 ((x2).toNat) ([],[])).2 1 0) fun x8 => lt' (List.getD (List.getD u0 ((x2).toNat) ([],[])).2 2 0) fun x9 => cl (p96 k L6 x7 x8 x9 u1y0 u1y1 u1y2) fun v10 => sp v10 (some x2) (lt' (wr .i64 (x2 + (1 : Int))) fun x11 => p127b_l1 k u0 u1y0 u1y1 u1y2 j1 n3 x11)) (j1)
def p127b (k : Nat) (u0 : List WT) (u1y0 : Int) (u1y1 : List (List Int)) (u1y2 : List WT) : Option Int :=
 jn (some (-1 : Int)) fun j1 => p127b_l1 k u0 u1y0 u1y1 u1y2 j1 k (0 : Int)
theorem hf127b : Try.prog.funcs[127]? = some Try.f127 := by kernel_rfl
theorem w127b (k : Nat) {M : Mem} {Au0 Au1y1 Au1y2 : Option Addr} {cu0 cu1y1 cu1y2 bu1C : Nat} {Hu0 Hu1y2 : Nat → Option Addr} {Cu0 Cu1y2 : Nat → Nat} {u0 u1y2 : List WT} {u1y0 : Int} {u1y1 : List (List Int)} (hu0 : SlW M 3 Au0 cu0 Hu0 Cu0 u0) (hu1y1 : SlR M Au1y1 cu1y1 .i64 12 u1y1) (hu1y2 : SlW M 3 Au1y2 cu1y2 Hu1y2 Cu1y2 u1y2) (hbu1C : MB M bu1C [oI u1y0,oS Au1y1 u1y1 cu1y1,oS Au1y2 u1y2 cu1y2]) {r} (h : p127b k u0 u1y0 u1y1 u1y2 = some r) :
  Fn Try.prog 127 [rval (lS Au0 u0 cu0),rval (.lf (.v (.func (.func 96) #[] #[(.pointer (some ⟨bu1C,0,none⟩))])))] M (fun x _ => x = vi r) := by
 unfold p127b at h
 refine FO [lS Au0 u0 cu0,.lf (.v (.func (.func 96) #[] #[(.pointer (some ⟨bu1C,0,none⟩))]))] hf127b ⟨trivial,⟨trivial,trivial⟩⟩ fun w => ?_
 refine SQ0 (RG ?_)
 refine SG 1 (S4 [(0,lS Au0 u0 cu0),(1,.lf (.v (.func (.func 96) #[] #[(.pointer (some ⟨bu1C,0,none⟩))])))] [] [] M) ?_
 refine EN (SQ (SQ (RG ?_)))
 refine SS 3 [(0,lS Au0 u0 cu0),(1,.lf (.v (.func (.func 96) #[] #[(.pointer (some ⟨bu1C,0,none⟩))]))),(7,vi (u0.length : Int)),(8,vi (0 : Int))] ?_
 refine EN ?_
 obtain ⟨j1,e_j1,h⟩ := jn_some h
 refine T_bcut (id:=0) (c1:=(sub [1,0,1,0] Bd127)) (fun s' => Sub { σ := [],H := [],V := [],M := M,ds := [] } s' ∧ j1 = some r) (by kernel_rfl) ?_ ?_
 ·refine T_loop (c1:=(sub [1,0,1,0,0] Bd127)) (by kernel_rfl) (fun n3 s' => ∃ (x2 : Int),Sub { σ := [(0,lS Au0 u0 cu0),(1,.lf (.v (.func (.func 96) #[] #[(.pointer (some ⟨bu1C,0,none⟩))]))),(7,vi (u0.length : Int)),(8,vi x2)],H := [],V := [],M := M,ds := [] } s' ∧ p127b_l1 k u0 u1y0 u1y1 u1y2 j1 n3 x2 = some r) (k:=k) ⟨(0 : Int),keep_sub (ts:=[0,1,7,8]) (hs:=[]) (vs:=[]) (by kernel_rfl),h⟩ ?_
  rintro n3 s' ⟨x2,hsub,h⟩
  cases n3 with
  | zero => rw [p127b_l1] at h;cases h
  | succ n3 =>
   rw [p127b_l1] at h
   refine T_sub hsub ?_
   refine SQ (RG ?_)
   obtain ⟨b4,e_b4,h⟩ := lt_some h
   refine SG 1 (S4 [(0,lS Au0 u0 cu0),(1,.lf (.v (.func (.func 96) #[] #[(.pointer (some ⟨bu1C,0,none⟩))]))),(7,vi (u0.length : Int)),(8,vi x2),(9,vb b4)] [] [] M) ?_ (by subst e_b4;kernel_rfl)
   refine EN (SQ ?_)
   cases b4 with
   | true =>
    replace h := sp_t h
    refine CT ?_
    refine KS [(0,lS Au0 u0 cu0),(1,.lf (.v (.func (.func 96) #[] #[(.pointer (some ⟨bu1C,0,none⟩))]))),(7,vi (u0.length : Int)),(8,vi x2)] ?_
    refine SN (SQ (BK 1 (SQ (RG ?_))))
    refine SS 2 [(0,lS Au0 u0 cu0),(1,.lf (.v (.func (.func 96) #[] #[(.pointer (some ⟨bu1C,0,none⟩))]))),(5,vi x2),(7,vi (u0.length : Int)),(8,vi x2)] ?_
    refine EN (SQ (RG ?_))
    refine SS 3 [(0,lS Au0 u0 cu0),(1,.lf (.v (.func (.func 96) #[] #[(.pointer (some ⟨bu1C,0,none⟩))]))),(5,vi x2),(7,vi (u0.length : Int)),(8,vi x2),(11,.lf (.v (.func (.func 96) #[] #[(.pointer (some ⟨bu1C,0,none⟩))]))),(12,lS Au0 u0 cu0),(13,vi x2)] ?_
    obtain ⟨g5,h⟩ := gd_some h
    refine AT 14 (.lf (.ep (.slice Au0 (u0.length) cu0) 4 ((x2).toNat) 0)) (At_idxSW (m:=3) (z:=x2) (by kernel_rfl) g5 hu0) ?_
    obtain ⟨L6,e_L6,h⟩ := lt_some h
    have f_L6 : SlI M (Hu0 ((x2).toNat)) (Cu0 ((x2).toNat)) .i64 L6 := by rw [e_L6]; exact (hu0).rows _ (toNat_lt g5)
    obtain ⟨x7,e_x7,h⟩ := lt_some h
    obtain ⟨x8,e_x8,h⟩ := lt_some h
    obtain ⟨x9,e_x9,h⟩ := lt_some h
    refine AT 15 (.agg [oS (Hu0 ((x2).toNat)) L6 (Cu0 ((x2).toNat)),oI x7,oI x8,oI x9]) (by rw [e_L6,e_x7,e_x8,e_x9]; exact At_ldSWa (q:=(x2).toNat) (by subst_vars; kernel_rfl) (toNat_lt g5) hu0) ?_ (hx:=⟨rfl,⟨rfl,⟨rfl,⟨rfl,trivial⟩⟩⟩⟩)
    obtain ⟨v10,c_v10,h⟩ := cl_some h
    refine AC 16 (vb v10) (w96 k f_L6 hu1y1 hu1y2 hbu1C c_v10) ?_
    refine SH 6 [(0,lS Au0 u0 cu0),(1,.lf (.v (.func (.func 96) #[] #[(.pointer (some ⟨bu1C,0,none⟩))]))),(5,vi x2),(7,vi (u0.length : Int)),(8,vi x2),(16,vb v10)] [] ?_
    refine EN ?_
    cases v10 with
    | true =>
     replace h := sp_t h
     refine CT ?_
     refine KS [(5,vi x2)] ?_
     refine SQ (RG ?_)
     refine SS 2 [(4,vi x2)] ?_
     refine EN (RT (blockQ_r (thenQ_r (thenQ_r (blockQ_r (thenQ_r (thenQ_r ?_)))))))
     obtain rfl := sj h
     exact FT (vi x2) rfl
    | false =>
     replace h := sp_f h
     refine CF ?_
     refine KS [(0,lS Au0 u0 cu0),(1,.lf (.v (.func (.func 96) #[] #[(.pointer (some ⟨bu1C,0,none⟩))]))),(7,vi (u0.length : Int)),(8,vi x2)] ?_
     refine S0 (blockQ_n (thenQ_n (RG ?_)))
     obtain ⟨x11,e_x11,h⟩ := lt_some h
     refine SS 2 [(0,lS Au0 u0 cu0),(1,.lf (.v (.func (.func 96) #[] #[(.pointer (some ⟨bu1C,0,none⟩))]))),(7,vi (u0.length : Int)),(8,vi x11)] ?_ (by subst e_x11;kernel_rfl)
     refine EN ?_
     exact ⟨n3,Nat.lt_succ_self _,x11,keep_sub (ts:=[0,1,7,8]) (hs:=[]) (vs:=[]) (by kernel_rfl),h⟩
   | false =>
    replace h := sp_f h
    refine CF ?_
    refine KS [] ?_
    refine XI 0 (thenQ_x (thenQ_x (blockQ_x (thenQ_n ?_))))
    exact ⟨keep_sub (ts:=[]) (hs:=[]) (vs:=[]) (by kernel_rfl),h⟩
 ·rintro s' ⟨hsub,h⟩
  subst e_j1
  refine thenQ_n ?_
  refine T_sub hsub ?_
  refine SQ (RG ?_)
  refine SG 1 (S4 [(4,vi (-1 : Int))] [] [] M) ?_
  refine EN (RT ?_)
  obtain rfl := sj h
  exact FT (vi (-1 : Int)) rfl
def p92b (k : Nat) (u0 : List WT) (u1y0 : Int) (u1y1 : List (List Int)) (u1y2 : List WT) : Option Bool :=
 cl (p127b k u0 u1y0 u1y1 u1y2) fun v1 => lt' (decide (v1 ≥ (0 : Int))) fun b2 => some b2
theorem hf92b : Try.prog.funcs[92]? = some Try.f92 := by kernel_rfl
theorem w92b (k : Nat) {M : Mem} {Au0 Au1y1 Au1y2 : Option Addr} {cu0 cu1y1 cu1y2 bu1C : Nat} {Hu0 Hu1y2 : Nat → Option Addr} {Cu0 Cu1y2 : Nat → Nat} {u0 u1y2 : List WT} {u1y0 : Int} {u1y1 : List (List Int)} (hu0 : SlW M 3 Au0 cu0 Hu0 Cu0 u0) (hu1y1 : SlR M Au1y1 cu1y1 .i64 12 u1y1) (hu1y2 : SlW M 3 Au1y2 cu1y2 Hu1y2 Cu1y2 u1y2) (hbu1C : MB M bu1C [oI u1y0,oS Au1y1 u1y1 cu1y1,oS Au1y2 u1y2 cu1y2]) {r} (h : p92b k u0 u1y0 u1y1 u1y2 = some r) :
  Fn Try.prog 92 [rval (lS Au0 u0 cu0),rval (.lf (.v (.func (.func 96) #[] #[(.pointer (some ⟨bu1C,0,none⟩))])))] M (fun x _ => x = vb r) := by
 unfold p92b at h
 refine FO [lS Au0 u0 cu0,.lf (.v (.func (.func 96) #[] #[(.pointer (some ⟨bu1C,0,none⟩))]))] hf92b ⟨trivial,⟨trivial,trivial⟩⟩ fun w => ?_
 refine SQ0 (RG ?_)
 refine SG 1 (S4 [(0,lS Au0 u0 cu0),(1,.lf (.v (.func (.func 96) #[] #[(.pointer (some ⟨bu1C,0,none⟩))])))] [] [] M) ?_
 refine EN (SQ (RG ?_))
 refine SS 2 [(5,lS Au0 u0 cu0),(6,.lf (.v (.func (.func 96) #[] #[(.pointer (some ⟨bu1C,0,none⟩))])))] ?_
 obtain ⟨v1,c_v1,h⟩ := cl_some h
 refine AC 7 (vi v1) (w127b k hu0 hu1y1 hu1y2 hbu1C c_v1) ?_
 obtain ⟨b2,e_b2,h⟩ := lt_some h
 refine SH 5 [(4,vb b2)] [] ?_ (by subst e_b2;kernel_rfl)
 refine EN (RT ?_)
 obtain rfl := sj h
 exact FT (vb b2) rfl
end Go.Proofs.Ythniebmammmacaa
namespace Go.Proofs.Ythniebmammmacaa
open Go.RowKit
def p38 (k : Nat) (u0_0 : Int) (u0_1 : List (List Int)) (u0_2 : List WT) : Option Int :=
 jn (fun (b3 : Bool) => sp b3 (some (6 : Int)) (jn (fun (b10 : Bool) => sp b10 (some (2 : Int)) (some (0 : Int))) fun j11 => lt' (decide (u0_0 < (1 : Int))) fun b12 => sp b12 (j11 true) (lt' (decide (u0_0 > (64 : Int))) fun b13 => sp b13 (j11 true) (cl (p97a k u0_1 u0_0 u0_1 u0_2) fun v14 => sp v14 (j11 true) (cl (p92b k u0_2 u0_0 u0_1 u0_2) fun v15 => j11 v15))))) fun j4 => lt' (decide ((u0_1.length : Int) > (256 : Int))) fun b5 => sp b5 (j4 true) (lt' (decide ((u0_2.length : Int) > (10 : Int))) fun b6 => sp b6 (j4 true) (cl (p92a k u0_2) fun v7 => j4 v7))
theorem hf38 : Try.prog.funcs[38]? = some Try.f38 := by kernel_rfl
theorem w38 (k : Nat) {M : Mem} {Au0_1 Au0_2 : Option Addr} {cu0_1 cu0_2 : Nat} {Hu0_2 : Nat → Option Addr} {Cu0_2 : Nat → Nat} {u0_0 : Int} {u0_1 : List (List Int)} {u0_2 : List WT} (hu0_1 : SlR M Au0_1 cu0_1 .i64 12 u0_1) (hu0_2 : SlW M 3 Au0_2 cu0_2 Hu0_2 Cu0_2 u0_2) {r} (h : p38 k u0_0 u0_1 u0_2 = some r) :
  Fn Try.prog 38 [rval (.agg [oI u0_0,oS Au0_1 u0_1 cu0_1,oS Au0_2 u0_2 cu0_2])] M (fun x _ => x = vi r) := by
 unfold p38 at h
 refine FO [.agg [oI u0_0,oS Au0_1 u0_1 cu0_1,oS Au0_2 u0_2 cu0_2]] hf38 ⟨⟨rfl,⟨rfl,⟨rfl,trivial⟩⟩⟩,trivial⟩ fun w => ?_
 refine SQ0 (RG ?_)
 refine SG 2 (S4 [(1,lO 1)] [(1,[oI u0_0,oS Au0_1 u0_1 cu0_1,oS Au0_2 u0_2 cu0_2])] [] M) ?_
 refine EN ?_
 refine T_turn (turn_pubH 1 (c:=[oI u0_0,oS Au0_1 u0_1 cu0_1,oS Au0_2 u0_2 cu0_2]) (by kernel_rfl) (by kernel_rfl)) ?_
 rintro _ ⟨b1,M2,rfl,-,e_M2,-,hM2⟩
 have fb1 : MB M2 b1 [oI u0_0,oS Au0_1 u0_1 cu0_1,oS Au0_2 u0_2 cu0_2] := by rw [e_M2]; exact addM_at _ _ _
 refine KG (S4 [(1,lP b1)] [] [] M2) ?_
 refine SQ ?_
 obtain ⟨j4,e_j4,h⟩ := jn_some h
 refine T_cut (c1:=(sub [1,0,0] Bd38)) (c2:=(sub [1,0,1] Bd38)) (fun s' => ∃ (b3 : Bool),Sub { σ := [(1,lP b1),(20,vb b3)],H := [],V := [],M := M2,ds := [] } s' ∧ j4 b3 = some r) (by kernel_rfl) ?_ ?_
 ·refine RG ?_
  refine SG 1 (S4 [(1,lP b1),(6,.lf (.v (.pointer (some ⟨b1,1,none⟩))))] [] [] M2) ?_
  refine AT 7 (lS Au0_1 u0_1 cu0_1) (At_ldP (b:=b1) (off:=1) (m:=1) (v:=(.slice Au0_1 (u0_1.length) cu0_1)) (by kernel_rfl) (cell_blk fb1 ⟨rfl,⟨rfl,⟨rfl,trivial⟩⟩⟩ (by kernel_rfl))) ?_
  obtain ⟨b5,e_b5,h⟩ := lt_some h
  refine SH 5 [(1,lP b1),(10,vb b5)] [] ?_ (by subst e_b5;kernel_rfl)
  cases b5 with
  | true =>
   replace h := sp_t h
   refine SS 15 [(1,lP b1),(20,vb true)] ?_
   refine EN ?_
   exact ⟨true,keep_sub (ts:=[1,20]) (hs:=[]) (vs:=[]) (by kernel_rfl),h⟩
  | false =>
   replace h := sp_f h
   refine SS 6 [(1,lP b1),(10,vb false),(11,.lf (.v (.pointer (some ⟨b1,2,none⟩))))] ?_
   refine AT 12 (lS Au0_2 u0_2 cu0_2) (At_ldP (b:=b1) (off:=2) (m:=1) (v:=(.slice Au0_2 (u0_2.length) cu0_2)) (by kernel_rfl) (cell_blk fb1 ⟨rfl,⟨rfl,⟨rfl,trivial⟩⟩⟩ (by kernel_rfl))) ?_
   obtain ⟨b6,e_b6,h⟩ := lt_some h
   refine SH 11 [(1,lP b1),(16,vb b6)] [] ?_ (by subst e_b6;kernel_rfl)
   cases b6 with
   | true =>
    replace h := sp_t h
    refine SS 15 [(1,lP b1),(20,vb true)] ?_
    refine EN ?_
    exact ⟨true,keep_sub (ts:=[1,20]) (hs:=[]) (vs:=[]) (by kernel_rfl),h⟩
   | false =>
    replace h := sp_f h
    refine SS 12 [(1,lP b1),(16,vb false),(17,.lf (.v (.pointer (some ⟨b1,2,none⟩))))] ?_
    refine AT 18 (lS Au0_2 u0_2 cu0_2) (At_ldP (b:=b1) (off:=2) (m:=1) (v:=(.slice Au0_2 (u0_2.length) cu0_2)) (by kernel_rfl) (cell_blk fb1 ⟨rfl,⟨rfl,⟨rfl,trivial⟩⟩⟩ (by kernel_rfl))) ?_
    obtain ⟨v7,c_v7,h⟩ := cl_some h
    refine AC 19 (vb v7) (w92a k (hu0_2.le hM2) c_v7) ?_
    refine SH 15 [(1,lP b1),(20,vb v7)] [] ?_
    refine EN ?_
    exact ⟨v7,keep_sub (ts:=[1,20]) (hs:=[]) (vs:=[]) (by kernel_rfl),h⟩
 ·rintro s' ⟨b3,hsub,h⟩
  subst e_j4
  refine T_sub hsub ?_
  cases b3 with
  | true =>
   replace h := sp_t h
   refine CT ?_
   refine KG (S4 [] [] [] M2) ?_
   refine SQ (RG ?_)
   refine SS 1 [(2,vi (6 : Int))] ?_
   refine EN (RT (thenQ_r ?_))
   obtain rfl := sj h
   exact FT (vi (6 : Int)) rfl
  | false =>
   replace h := sp_f h
   refine CF ?_
   refine KG (S4 [(1,lP b1)] [] [] M2) ?_
   refine SN (SQ (RG ?_))
   refine SH 3 [(1,lP b1),(3,lO 3)] [(3,[.one (.v (.func (.func 94) #[] #[(.pointer (some ⟨b1,0,none⟩))]))])] ?_
   refine EN ?_
   refine T_turn (turn_pubH 3 (c:=[.one (.v (.func (.func 94) #[] #[(.pointer (some ⟨b1,0,none⟩))]))]) (by kernel_rfl) (by kernel_rfl)) ?_
   rintro _ ⟨b8,M9,rfl,-,e_M9,-,hM9⟩
   have fb8 : MB M9 b8 [.one (.v (.func (.func 94) #[] #[(.pointer (some ⟨b1,0,none⟩))]))] := by rw [e_M9]; exact addM_at _ _ _
   refine KG (S4 [(1,lP b1),(3,lP b8)] [] [] M9) ?_
   refine SQ (RG ?_)
   refine SS 2 [(1,lP b1),(4,.lf (.v (.func (.func 95) #[] #[(.pointer (some ⟨b8,0,none⟩))])))] ?_
   refine EN (SQ (RG ?_))
   refine SS 2 [(1,lP b1),(4,.lf (.v (.func (.func 95) #[] #[(.pointer (some ⟨b8,0,none⟩))]))),(5,.lf (.v (.func (.func 96) #[] #[(.pointer (some ⟨b1,0,none⟩))])))] ?_
   refine EN (SQ ?_)
   obtain ⟨j11,e_j11,h⟩ := jn_some h
   refine T_cut (c1:=(sub [1,1,1,1,1,0,0] Bd38)) (c2:=(sub [1,1,1,1,1,0,1] Bd38)) (fun s' => ∃ (b10 : Bool),Sub { σ := [(43,vb b10)],H := [],V := [],M := M9,ds := [] } s' ∧ j11 b10 = some r) (by kernel_rfl) ?_ ?_
   ·refine RG ?_
    refine SG 1 (S4 [(1,lP b1),(4,.lf (.v (.func (.func 95) #[] #[(.pointer (some ⟨b8,0,none⟩))]))),(5,.lf (.v (.func (.func 96) #[] #[(.pointer (some ⟨b1,0,none⟩))]))),(24,lP b1)] [] [] M9) ?_
    refine AT 25 (vi u0_0) (At_ldP (b:=b1) (off:=0) (m:=1) (v:=(.int .i64 u0_0)) (by kernel_rfl) (cell_blk (hM9 _ _ fb1) ⟨rfl,⟨rfl,⟨rfl,trivial⟩⟩⟩ (by kernel_rfl))) ?_
    obtain ⟨b12,e_b12,h⟩ := lt_some h
    refine SH 4 [(1,lP b1),(4,.lf (.v (.func (.func 95) #[] #[(.pointer (some ⟨b8,0,none⟩))]))),(5,.lf (.v (.func (.func 96) #[] #[(.pointer (some ⟨b1,0,none⟩))]))),(27,vb b12)] [] ?_ (by subst e_b12;kernel_rfl)
    cases b12 with
    | true =>
     replace h := sp_t h
     refine SS 20 [(43,vb true)] ?_
     refine EN ?_
     exact ⟨true,keep_sub (ts:=[43]) (hs:=[]) (vs:=[]) (by kernel_rfl),h⟩
    | false =>
     replace h := sp_f h
     refine SS 5 [(1,lP b1),(4,.lf (.v (.func (.func 95) #[] #[(.pointer (some ⟨b8,0,none⟩))]))),(5,.lf (.v (.func (.func 96) #[] #[(.pointer (some ⟨b1,0,none⟩))]))),(27,vb false),(28,lP b1)] ?_
     refine AT 29 (vi u0_0) (At_ldP (b:=b1) (off:=0) (m:=1) (v:=(.int .i64 u0_0)) (by kernel_rfl) (cell_blk (hM9 _ _ fb1) ⟨rfl,⟨rfl,⟨rfl,trivial⟩⟩⟩ (by kernel_rfl))) ?_
     obtain ⟨b13,e_b13,h⟩ := lt_some h
     refine SH 9 [(1,lP b1),(4,.lf (.v (.func (.func 95) #[] #[(.pointer (some ⟨b8,0,none⟩))]))),(5,.lf (.v (.func (.func 96) #[] #[(.pointer (some ⟨b1,0,none⟩))]))),(32,vb b13)] [] ?_ (by subst e_b13;kernel_rfl)
     cases b13 with
     | true =>
      replace h := sp_t h
      refine SS 20 [(43,vb true)] ?_
      refine EN ?_
      exact ⟨true,keep_sub (ts:=[43]) (hs:=[]) (vs:=[]) (by kernel_rfl),h⟩
     | false =>
      replace h := sp_f h
      refine SS 10 [(1,lP b1),(4,.lf (.v (.func (.func 95) #[] #[(.pointer (some ⟨b8,0,none⟩))]))),(5,.lf (.v (.func (.func 96) #[] #[(.pointer (some ⟨b1,0,none⟩))]))),(32,vb false),(33,.lf (.v (.pointer (some ⟨b1,1,none⟩))))] ?_
      refine AT 34 (lS Au0_1 u0_1 cu0_1) (At_ldP (b:=b1) (off:=1) (m:=1) (v:=(.slice Au0_1 (u0_1.length) cu0_1)) (by kernel_rfl) (cell_blk (hM9 _ _ fb1) ⟨rfl,⟨rfl,⟨rfl,trivial⟩⟩⟩ (by kernel_rfl))) ?_
      refine SH 12 [(1,lP b1),(5,.lf (.v (.func (.func 96) #[] #[(.pointer (some ⟨b1,0,none⟩))]))),(32,vb false),(34,lS Au0_1 u0_1 cu0_1),(35,.lf (.v (.func (.func 95) #[] #[(.pointer (some ⟨b8,0,none⟩))])))] [] ?_
      obtain ⟨v14,c_v14,h⟩ := cl_some h
      refine AC 36 (vb v14) (w97a k ((hu0_1.le hM2).le hM9) ((hu0_1.le hM2).le hM9) ((hu0_2.le hM2).le hM9) (hM9 _ _ fb1) fb8 c_v14) ?_
      refine SH 15 [(1,lP b1),(5,.lf (.v (.func (.func 96) #[] #[(.pointer (some ⟨b1,0,none⟩))]))),(38,vb v14)] [] ?_
      cases v14 with
      | true =>
       replace h := sp_t h
       refine SS 20 [(43,vb true)] ?_
       refine EN ?_
       exact ⟨true,keep_sub (ts:=[43]) (hs:=[]) (vs:=[]) (by kernel_rfl),h⟩
      | false =>
       replace h := sp_f h
       refine SS 16 [(5,.lf (.v (.func (.func 96) #[] #[(.pointer (some ⟨b1,0,none⟩))]))),(38,vb false),(39,.lf (.v (.pointer (some ⟨b1,2,none⟩))))] ?_
       refine AT 40 (lS Au0_2 u0_2 cu0_2) (At_ldP (b:=b1) (off:=2) (m:=1) (v:=(.slice Au0_2 (u0_2.length) cu0_2)) (by kernel_rfl) (cell_blk (hM9 _ _ fb1) ⟨rfl,⟨rfl,⟨rfl,trivial⟩⟩⟩ (by kernel_rfl))) ?_
       refine SH 18 [(38,vb false),(40,lS Au0_2 u0_2 cu0_2),(41,.lf (.v (.func (.func 96) #[] #[(.pointer (some ⟨b1,0,none⟩))])))] [] ?_
       obtain ⟨v15,c_v15,h⟩ := cl_some h
       refine AC 42 (vb v15) (w92b k ((hu0_2.le hM2).le hM9) ((hu0_1.le hM2).le hM9) ((hu0_2.le hM2).le hM9) (hM9 _ _ fb1) c_v15) ?_
       refine SH 20 [(43,vb v15)] [] ?_
       refine EN ?_
       exact ⟨v15,keep_sub (ts:=[43]) (hs:=[]) (vs:=[]) (by kernel_rfl),h⟩
   ·rintro s' ⟨b10,hsub,h⟩
    subst e_j11
    refine T_sub hsub ?_
    cases b10 with
    | true =>
     replace h := sp_t h
     refine CT ?_
     refine KG (S4 [] [] [] M9) ?_
     refine SQ (RG ?_)
     refine SS 1 [(2,vi (2 : Int))] ?_
     refine EN (RT (thenQ_r ?_))
     obtain rfl := sj h
     exact FT (vi (2 : Int)) rfl
    | false =>
     replace h := sp_f h
     refine CF ?_
     refine KG (S4 [] [] [] M9) ?_
     refine SN (SQ (RG ?_))
     refine SS 1 [(2,vi (0 : Int))] ?_
     refine EN (RT ?_)
     obtain rfl := sj h
     exact FT (vi (0 : Int)) rfl
def p117 (k : Nat) (u0 : Int) (u1g0 : Int) (u1g1 : List (List Int)) (u1g2 : List WT) : Option Bool :=
 jn (fun (b1 : Bool) => some b1) fun j2 => lt' (decide (u0 < (0 : Int))) fun b3 => sp b3 (j2 true) (lt' (decide (u0 ≥ u1g0)) fun b4 => j2 b4)
theorem hf117 : Try.prog.funcs[117]? = some Try.f117 := by kernel_rfl
theorem w117 (k : Nat) {M : Mem} {Au1g1 Au1g2 : Option Addr} {cu1g1 cu1g2 bu1 : Nat} {Hu1g2 : Nat → Option Addr} {Cu1g2 : Nat → Nat} {u0 u1g0 : Int} {u1g1 : List (List Int)} {u1g2 : List WT} (hu1g1 : SlR M Au1g1 cu1g1 .i64 12 u1g1) (hu1g2 : SlW M 3 Au1g2 cu1g2 Hu1g2 Cu1g2 u1g2) (hbu1 : MB M bu1 [oI u1g0,oS Au1g1 u1g1 cu1g1,oS Au1g2 u1g2 cu1g2]) {r} (h : p117 k u0 u1g0 u1g1 u1g2 = some r) :
  Fn Try.prog 117 [rval (vi u0),rval (lP bu1)] M (fun x _ => x = vb r) := by
 unfold p117 at h
 refine FO [vi u0,lP bu1] hf117 ⟨trivial,⟨trivial,trivial⟩⟩ fun w => ?_
 refine SQ0 (RG ?_)
 refine SG 1 (S4 [(0,vi u0),(1,lP bu1)] [] [] M) ?_
 refine EN ?_
 obtain ⟨j2,e_j2,h⟩ := jn_some h
 refine T_cut (c1:=(sub [1,0] Bd117)) (c2:=(sub [1,1] Bd117)) (fun s' => ∃ (b1 : Bool),Sub { σ := [(3,vb b1)],H := [],V := [],M := M,ds := [] } s' ∧ j2 b1 = some r) (by kernel_rfl) ?_ ?_
 ·refine RG ?_
  obtain ⟨b3,e_b3,h⟩ := lt_some h
  refine SG 3 (S4 [(0,vi u0),(1,lP bu1),(6,vb b3)] [] [] M) ?_ (by subst e_b3;kernel_rfl)
  cases b3 with
  | true =>
   replace h := sp_t h
   refine SS 9 [(3,vb true)] ?_
   refine EN ?_
   exact ⟨true,keep_sub (ts:=[3]) (hs:=[]) (vs:=[]) (by kernel_rfl),h⟩
  | false =>
   replace h := sp_f h
   refine SS 5 [(6,vb false),(7,vi u0),(8,lP bu1)] ?_
   refine AT 9 (vi u1g0) (At_ldP (b:=bu1) (off:=0) (m:=1) (v:=(.int .i64 u1g0)) (by kernel_rfl) (cell_blk hbu1 ⟨rfl,⟨rfl,⟨rfl,trivial⟩⟩⟩ (by kernel_rfl))) ?_
   obtain ⟨b4,e_b4,h⟩ := lt_some h
   refine SH 9 [(3,vb b4)] [] ?_ (by subst e_b4;kernel_rfl)
   refine EN ?_
   exact ⟨b4,keep_sub (ts:=[3]) (hs:=[]) (vs:=[]) (by kernel_rfl),h⟩
 ·rintro s' ⟨b1,hsub,h⟩
  subst e_j2
  refine T_sub hsub ?_
  refine RT ?_
  obtain rfl := sj h
  exact FT (vb b1) rfl
def p125a_l1 (k : Nat) (u0 : List Int) (u1y0 : Int) (u1y1 : List (List Int)) (u1y2 : List WT) (j1 : Option Int) : Nat → Int → Option Int
 | 0,_ => none
 | n3 + 1,x2 => lt' (decide (x2 < (u0.length : Int))) fun b4 => sp b4 (gd ((0 : Int) ≤ x2 ∧ x2 < (u0.length : Int)) <| lt' (List.getD u0 ((x2).toNat) 0) fun x6 => cl (p117 k x6 u1y0 u1y1 u1y2) fun v7 => sp v7 (some x2) (lt' (wr .i64 (x2 + (1 : Int))) fun x8 => p125a_l1 k u0 u1y0 u1y1 u1y2 j1 n3 x8)) (j1)
def p125a (k : Nat) (u0 : List Int) (u1y0 : Int) (u1y1 : List (List Int)) (u1y2 : List WT) : Option Int :=
 jn (some (-1 : Int)) fun j1 => p125a_l1 k u0 u1y0 u1y1 u1y2 j1 k (0 : Int)
theorem hf125a : Try.prog.funcs[125]? = some Try.f125 := by kernel_rfl
theorem w125a (k : Nat) {M : Mem} {Au0 Au1y1 Au1y2 : Option Addr} {cu0 cu1y1 cu1y2 bu1C : Nat} {Hu1y2 : Nat → Option Addr} {Cu1y2 : Nat → Nat} {u0 : List Int} {u1y0 : Int} {u1y1 : List (List Int)} {u1y2 : List WT} (hu0 : SlI M Au0 cu0 .i64 u0) (hu1y1 : SlR M Au1y1 cu1y1 .i64 12 u1y1) (hu1y2 : SlW M 3 Au1y2 cu1y2 Hu1y2 Cu1y2 u1y2) (hbu1C : MB M bu1C [oI u1y0,oS Au1y1 u1y1 cu1y1,oS Au1y2 u1y2 cu1y2]) {r} (h : p125a k u0 u1y0 u1y1 u1y2 = some r) :
  Fn Try.prog 125 [rval (lS Au0 u0 cu0),rval (.lf (.v (.func (.func 117) #[] #[(.pointer (some ⟨bu1C,0,none⟩))])))] M (fun x _ => x = vi r) := by
 unfold p125a at h
 refine FO [lS Au0 u0 cu0,.lf (.v (.func (.func 117) #[] #[(.pointer (some ⟨bu1C,0,none⟩))]))] hf125a ⟨trivial,⟨trivial,trivial⟩⟩ fun w => ?_
 refine SQ0 (RG ?_)
 refine SG 1 (S4 [(0,lS Au0 u0 cu0),(1,.lf (.v (.func (.func 117) #[] #[(.pointer (some ⟨bu1C,0,none⟩))])))] [] [] M) ?_
 refine EN (SQ (SQ (RG ?_)))
 refine SS 3 [(0,lS Au0 u0 cu0),(1,.lf (.v (.func (.func 117) #[] #[(.pointer (some ⟨bu1C,0,none⟩))]))),(7,vi (u0.length : Int)),(8,vi (0 : Int))] ?_
 refine EN ?_
 obtain ⟨j1,e_j1,h⟩ := jn_some h
 refine T_bcut (id:=0) (c1:=(sub [1,0,1,0] Bd125)) (fun s' => Sub { σ := [],H := [],V := [],M := M,ds := [] } s' ∧ j1 = some r) (by kernel_rfl) ?_ ?_
 ·refine T_loop (c1:=(sub [1,0,1,0,0] Bd125)) (by kernel_rfl) (fun n3 s' => ∃ (x2 : Int),Sub { σ := [(0,lS Au0 u0 cu0),(1,.lf (.v (.func (.func 117) #[] #[(.pointer (some ⟨bu1C,0,none⟩))]))),(7,vi (u0.length : Int)),(8,vi x2)],H := [],V := [],M := M,ds := [] } s' ∧ p125a_l1 k u0 u1y0 u1y1 u1y2 j1 n3 x2 = some r) (k:=k) ⟨(0 : Int),keep_sub (ts:=[0,1,7,8]) (hs:=[]) (vs:=[]) (by kernel_rfl),h⟩ ?_
  rintro n3 s' ⟨x2,hsub,h⟩
  cases n3 with
  | zero => rw [p125a_l1] at h;cases h
  | succ n3 =>
   rw [p125a_l1] at h
   refine T_sub hsub ?_
   refine SQ (RG ?_)
   obtain ⟨b4,e_b4,h⟩ := lt_some h
   refine SG 1 (S4 [(0,lS Au0 u0 cu0),(1,.lf (.v (.func (.func 117) #[] #[(.pointer (some ⟨bu1C,0,none⟩))]))),(7,vi (u0.length : Int)),(8,vi x2),(9,vb b4)] [] [] M) ?_ (by subst e_b4;kernel_rfl)
   refine EN (SQ ?_)
   cases b4 with
   | true =>
    replace h := sp_t h
    refine CT ?_
    refine KS [(0,lS Au0 u0 cu0),(1,.lf (.v (.func (.func 117) #[] #[(.pointer (some ⟨bu1C,0,none⟩))]))),(7,vi (u0.length : Int)),(8,vi x2)] ?_
    refine SN (SQ (BK 1 (SQ (RG ?_))))
    refine SS 2 [(0,lS Au0 u0 cu0),(1,.lf (.v (.func (.func 117) #[] #[(.pointer (some ⟨bu1C,0,none⟩))]))),(5,vi x2),(7,vi (u0.length : Int)),(8,vi x2)] ?_
    refine EN (SQ (RG ?_))
    refine SS 3 [(0,lS Au0 u0 cu0),(1,.lf (.v (.func (.func 117) #[] #[(.pointer (some ⟨bu1C,0,none⟩))]))),(5,vi x2),(7,vi (u0.length : Int)),(8,vi x2),(11,.lf (.v (.func (.func 117) #[] #[(.pointer (some ⟨bu1C,0,none⟩))]))),(12,lS Au0 u0 cu0),(13,vi x2)] ?_
    obtain ⟨g5,h⟩ := gd_some h
    refine AT 14 (.lf (.ep (.slice Au0 (u0.length) cu0) 1 ((x2).toNat) 0)) (At_idxI (z:=x2) (by kernel_rfl) g5 hu0) ?_
    obtain ⟨x6,e_x6,h⟩ := lt_some h
    refine AT 15 (vi x6) (by rw [e_x6]; exact At_ldI (q:=(x2).toNat) (by subst e_x6; kernel_rfl) (toNat_lt g5) hu0) ?_
    obtain ⟨v7,c_v7,h⟩ := cl_some h
    refine AC 16 (vb v7) (w117 k hu1y1 hu1y2 hbu1C c_v7) ?_
    refine SH 6 [(0,lS Au0 u0 cu0),(1,.lf (.v (.func (.func 117) #[] #[(.pointer (some ⟨bu1C,0,none⟩))]))),(5,vi x2),(7,vi (u0.length : Int)),(8,vi x2),(16,vb v7)] [] ?_
    refine EN ?_
    cases v7 with
    | true =>
     replace h := sp_t h
     refine CT ?_
     refine KS [(5,vi x2)] ?_
     refine SQ (RG ?_)
     refine SS 2 [(4,vi x2)] ?_
     refine EN (RT (blockQ_r (thenQ_r (thenQ_r (blockQ_r (thenQ_r (thenQ_r ?_)))))))
     obtain rfl := sj h
     exact FT (vi x2) rfl
    | false =>
     replace h := sp_f h
     refine CF ?_
     refine KS [(0,lS Au0 u0 cu0),(1,.lf (.v (.func (.func 117) #[] #[(.pointer (some ⟨bu1C,0,none⟩))]))),(7,vi (u0.length : Int)),(8,vi x2)] ?_
     refine S0 (blockQ_n (thenQ_n (RG ?_)))
     obtain ⟨x8,e_x8,h⟩ := lt_some h
     refine SS 2 [(0,lS Au0 u0 cu0),(1,.lf (.v (.func (.func 117) #[] #[(.pointer (some ⟨bu1C,0,none⟩))]))),(7,vi (u0.length : Int)),(8,vi x8)] ?_ (by subst e_x8;kernel_rfl)
     refine EN ?_
     exact ⟨n3,Nat.lt_succ_self _,x8,keep_sub (ts:=[0,1,7,8]) (hs:=[]) (vs:=[]) (by kernel_rfl),h⟩
   | false =>
    replace h := sp_f h
    refine CF ?_
    refine KS [] ?_
    refine XI 0 (thenQ_x (thenQ_x (blockQ_x (thenQ_n ?_))))
    exact ⟨keep_sub (ts:=[]) (hs:=[]) (vs:=[]) (by kernel_rfl),h⟩
 ·rintro s' ⟨hsub,h⟩
  subst e_j1
  refine thenQ_n ?_
  refine T_sub hsub ?_
  refine SQ (RG ?_)
  refine SG 1 (S4 [(4,vi (-1 : Int))] [] [] M) ?_
  refine EN (RT ?_)
  obtain rfl := sj h
  exact FT (vi (-1 : Int)) rfl
def p85a (k : Nat) (u0 : List Int) (u1y0 : Int) (u1y1 : List (List Int)) (u1y2 : List WT) : Option Bool :=
 cl (p125a k u0 u1y0 u1y1 u1y2) fun v1 => lt' (decide (v1 ≥ (0 : Int))) fun b2 => some b2
theorem hf85a : Try.prog.funcs[85]? = some Try.f85 := by kernel_rfl
theorem w85a (k : Nat) {M : Mem} {Au0 Au1y1 Au1y2 : Option Addr} {cu0 cu1y1 cu1y2 bu1C : Nat} {Hu1y2 : Nat → Option Addr} {Cu1y2 : Nat → Nat} {u0 : List Int} {u1y0 : Int} {u1y1 : List (List Int)} {u1y2 : List WT} (hu0 : SlI M Au0 cu0 .i64 u0) (hu1y1 : SlR M Au1y1 cu1y1 .i64 12 u1y1) (hu1y2 : SlW M 3 Au1y2 cu1y2 Hu1y2 Cu1y2 u1y2) (hbu1C : MB M bu1C [oI u1y0,oS Au1y1 u1y1 cu1y1,oS Au1y2 u1y2 cu1y2]) {r} (h : p85a k u0 u1y0 u1y1 u1y2 = some r) :
  Fn Try.prog 85 [rval (lS Au0 u0 cu0),rval (.lf (.v (.func (.func 117) #[] #[(.pointer (some ⟨bu1C,0,none⟩))])))] M (fun x _ => x = vb r) := by
 unfold p85a at h
 refine FO [lS Au0 u0 cu0,.lf (.v (.func (.func 117) #[] #[(.pointer (some ⟨bu1C,0,none⟩))]))] hf85a ⟨trivial,⟨trivial,trivial⟩⟩ fun w => ?_
 refine SQ0 (RG ?_)
 refine SG 1 (S4 [(0,lS Au0 u0 cu0),(1,.lf (.v (.func (.func 117) #[] #[(.pointer (some ⟨bu1C,0,none⟩))])))] [] [] M) ?_
 refine EN (SQ (RG ?_))
 refine SS 2 [(5,lS Au0 u0 cu0),(6,.lf (.v (.func (.func 117) #[] #[(.pointer (some ⟨bu1C,0,none⟩))])))] ?_
 obtain ⟨v1,c_v1,h⟩ := cl_some h
 refine AC 7 (vi v1) (w125a k hu0 hu1y1 hu1y2 hbu1C c_v1) ?_
 obtain ⟨b2,e_b2,h⟩ := lt_some h
 refine SH 5 [(4,vb b2)] [] ?_ (by subst e_b2;kernel_rfl)
 refine EN (RT ?_)
 obtain rfl := sj h
 exact FT (vb b2) rfl
def p67 (k : Nat) (u0_0 : Int) (u0_1 : List (List Int)) (u0_2 : List WT) (u1 : List Int) : Option Int :=
 cl (p85a k u1 u0_0 u0_1 u0_2) fun v3 => sp v3 (some (3 : Int)) (some (0 : Int))
theorem hf67 : Try.prog.funcs[67]? = some Try.f67 := by kernel_rfl
theorem w67 (k : Nat) {M : Mem} {Au0_1 Au0_2 Au1 : Option Addr} {cu0_1 cu0_2 cu1 : Nat} {Hu0_2 : Nat → Option Addr} {Cu0_2 : Nat → Nat} {u0_0 : Int} {u0_1 : List (List Int)} {u0_2 : List WT} {u1 : List Int} (hu0_1 : SlR M Au0_1 cu0_1 .i64 12 u0_1) (hu0_2 : SlW M 3 Au0_2 cu0_2 Hu0_2 Cu0_2 u0_2) (hu1 : SlI M Au1 cu1 .i64 u1) {r} (h : p67 k u0_0 u0_1 u0_2 u1 = some r) :
  Fn Try.prog 67 [rval (.agg [oI u0_0,oS Au0_1 u0_1 cu0_1,oS Au0_2 u0_2 cu0_2]),rval (lS Au1 u1 cu1)] M (fun x _ => x = vi r) := by
 unfold p67 at h
 refine FO [.agg [oI u0_0,oS Au0_1 u0_1 cu0_1,oS Au0_2 u0_2 cu0_2],lS Au1 u1 cu1] hf67 ⟨⟨rfl,⟨rfl,⟨rfl,trivial⟩⟩⟩,⟨trivial,trivial⟩⟩ fun w => ?_
 refine SQ0 (RG ?_)
 refine SG 2 (S4 [(1,lS Au1 u1 cu1),(2,lO 2)] [(2,[oI u0_0,oS Au0_1 u0_1 cu0_1,oS Au0_2 u0_2 cu0_2])] [] M) ?_
 refine EN ?_
 refine T_turn (turn_pubH 2 (c:=[oI u0_0,oS Au0_1 u0_1 cu0_1,oS Au0_2 u0_2 cu0_2]) (by kernel_rfl) (by kernel_rfl)) ?_
 rintro _ ⟨b1,M2,rfl,-,e_M2,-,hM2⟩
 have fb1 : MB M2 b1 [oI u0_0,oS Au0_1 u0_1 cu0_1,oS Au0_2 u0_2 cu0_2] := by rw [e_M2]; exact addM_at _ _ _
 refine KG (S4 [(1,lS Au1 u1 cu1),(2,lP b1)] [] [] M2) ?_
 refine SQ (SQ (RG ?_))
 refine SS 2 [(5,lS Au1 u1 cu1),(6,.lf (.v (.func (.func 117) #[] #[(.pointer (some ⟨b1,0,none⟩))])))] ?_
 obtain ⟨v3,c_v3,h⟩ := cl_some h
 refine AC 7 (vb v3) (w85a k (hu1.le hM2) (hu0_1.le hM2) (hu0_2.le hM2) fb1 c_v3) ?_
 refine SH 3 [(7,vb v3)] [] ?_
 refine EN ?_
 cases v3 with
 | true =>
  replace h := sp_t h
  refine CT ?_
  refine KS [] ?_
  refine SQ (RG ?_)
  refine SS 1 [(4,vi (3 : Int))] ?_
  refine EN (RT (thenQ_r ?_))
  obtain rfl := sj h
  exact FT (vi (3 : Int)) rfl
 | false =>
  replace h := sp_f h
  refine CF ?_
  refine KS [] ?_
  refine SN (SQ (RG ?_))
  refine SS 1 [(4,vi (0 : Int))] ?_
  refine EN (RT ?_)
  obtain rfl := sj h
  exact FT (vi (0 : Int)) rfl
def p116 (k : Nat) (u0 : Int) (u1g0 : Int) (u1g1 : List (List Int)) (u1g2 : List WT) : Option Bool :=
 jn (fun (b1 : Bool) => some b1) fun j2 => lt' (decide (u0 < (0 : Int))) fun b3 => sp b3 (j2 true) (lt' (decide (u0 ≥ (u1g1.length : Int))) fun b4 => j2 b4)
theorem hf116 : Try.prog.funcs[116]? = some Try.f116 := by kernel_rfl
theorem w116 (k : Nat) {M : Mem} {Au1g1 Au1g2 : Option Addr} {cu1g1 cu1g2 bu1 : Nat} {Hu1g2 : Nat → Option Addr} {Cu1g2 : Nat → Nat} {u0 u1g0 : Int} {u1g1 : List (List Int)} {u1g2 : List WT} (hu1g1 : SlR M Au1g1 cu1g1 .i64 12 u1g1) (hu1g2 : SlW M 3 Au1g2 cu1g2 Hu1g2 Cu1g2 u1g2) (hbu1 : MB M bu1 [oI u1g0,oS Au1g1 u1g1 cu1g1,oS Au1g2 u1g2 cu1g2]) {r} (h : p116 k u0 u1g0 u1g1 u1g2 = some r) :
  Fn Try.prog 116 [rval (vi u0),rval (lP bu1)] M (fun x _ => x = vb r) := by
 unfold p116 at h
 refine FO [vi u0,lP bu1] hf116 ⟨trivial,⟨trivial,trivial⟩⟩ fun w => ?_
 refine SQ0 (RG ?_)
 refine SG 1 (S4 [(0,vi u0),(1,lP bu1)] [] [] M) ?_
 refine EN ?_
 obtain ⟨j2,e_j2,h⟩ := jn_some h
 refine T_cut (c1:=(sub [1,0] Bd116)) (c2:=(sub [1,1] Bd116)) (fun s' => ∃ (b1 : Bool),Sub { σ := [(3,vb b1)],H := [],V := [],M := M,ds := [] } s' ∧ j2 b1 = some r) (by kernel_rfl) ?_ ?_
 ·refine RG ?_
  obtain ⟨b3,e_b3,h⟩ := lt_some h
  refine SG 3 (S4 [(0,vi u0),(1,lP bu1),(6,vb b3)] [] [] M) ?_ (by subst e_b3;kernel_rfl)
  cases b3 with
  | true =>
   replace h := sp_t h
   refine SS 10 [(3,vb true)] ?_
   refine EN ?_
   exact ⟨true,keep_sub (ts:=[3]) (hs:=[]) (vs:=[]) (by kernel_rfl),h⟩
  | false =>
   replace h := sp_f h
   refine SS 5 [(6,vb false),(7,vi u0),(8,.lf (.v (.pointer (some ⟨bu1,1,none⟩))))] ?_
   refine AT 9 (lS Au1g1 u1g1 cu1g1) (At_ldP (b:=bu1) (off:=1) (m:=1) (v:=(.slice Au1g1 (u1g1.length) cu1g1)) (by kernel_rfl) (cell_blk hbu1 ⟨rfl,⟨rfl,⟨rfl,trivial⟩⟩⟩ (by kernel_rfl))) ?_
   obtain ⟨b4,e_b4,h⟩ := lt_some h
   refine SH 10 [(3,vb b4)] [] ?_ (by subst e_b4;kernel_rfl)
   refine EN ?_
   exact ⟨b4,keep_sub (ts:=[3]) (hs:=[]) (vs:=[]) (by kernel_rfl),h⟩
 ·rintro s' ⟨b1,hsub,h⟩
  subst e_j2
  refine T_sub hsub ?_
  refine RT ?_
  obtain rfl := sj h
  exact FT (vb b1) rfl
def p125b_l1 (k : Nat) (u0 : List Int) (u1y0 : Int) (u1y1 : List (List Int)) (u1y2 : List WT) (j1 : Option Int) : Nat → Int → Option Int
 | 0,_ => none
 | n3 + 1,x2 => lt' (decide (x2 < (u0.length : Int))) fun b4 => sp b4 (gd ((0 : Int) ≤ x2 ∧ x2 < (u0.length : Int)) <| lt' (List.getD u0 ((x2).toNat) 0) fun x6 => cl (p116 k x6 u1y0 u1y1 u1y2) fun v7 => sp v7 (some x2) (lt' (wr .i64 (x2 + (1 : Int))) fun x8 => p125b_l1 k u0 u1y0 u1y1 u1y2 j1 n3 x8)) (j1)
def p125b (k : Nat) (u0 : List Int) (u1y0 : Int) (u1y1 : List (List Int)) (u1y2 : List WT) : Option Int :=
 jn (some (-1 : Int)) fun j1 => p125b_l1 k u0 u1y0 u1y1 u1y2 j1 k (0 : Int)
theorem hf125b : Try.prog.funcs[125]? = some Try.f125 := by kernel_rfl
theorem w125b (k : Nat) {M : Mem} {Au0 Au1y1 Au1y2 : Option Addr} {cu0 cu1y1 cu1y2 bu1C : Nat} {Hu1y2 : Nat → Option Addr} {Cu1y2 : Nat → Nat} {u0 : List Int} {u1y0 : Int} {u1y1 : List (List Int)} {u1y2 : List WT} (hu0 : SlI M Au0 cu0 .i64 u0) (hu1y1 : SlR M Au1y1 cu1y1 .i64 12 u1y1) (hu1y2 : SlW M 3 Au1y2 cu1y2 Hu1y2 Cu1y2 u1y2) (hbu1C : MB M bu1C [oI u1y0,oS Au1y1 u1y1 cu1y1,oS Au1y2 u1y2 cu1y2]) {r} (h : p125b k u0 u1y0 u1y1 u1y2 = some r) :
  Fn Try.prog 125 [rval (lS Au0 u0 cu0),rval (.lf (.v (.func (.func 116) #[] #[(.pointer (some ⟨bu1C,0,none⟩))])))] M (fun x _ => x = vi r) := by
 unfold p125b at h
 refine FO [lS Au0 u0 cu0,.lf (.v (.func (.func 116) #[] #[(.pointer (some ⟨bu1C,0,none⟩))]))] hf125b ⟨trivial,⟨trivial,trivial⟩⟩ fun w => ?_
 refine SQ0 (RG ?_)
 refine SG 1 (S4 [(0,lS Au0 u0 cu0),(1,.lf (.v (.func (.func 116) #[] #[(.pointer (some ⟨bu1C,0,none⟩))])))] [] [] M) ?_
 refine EN (SQ (SQ (RG ?_)))
 refine SS 3 [(0,lS Au0 u0 cu0),(1,.lf (.v (.func (.func 116) #[] #[(.pointer (some ⟨bu1C,0,none⟩))]))),(7,vi (u0.length : Int)),(8,vi (0 : Int))] ?_
 refine EN ?_
 obtain ⟨j1,e_j1,h⟩ := jn_some h
 refine T_bcut (id:=0) (c1:=(sub [1,0,1,0] Bd125)) (fun s' => Sub { σ := [],H := [],V := [],M := M,ds := [] } s' ∧ j1 = some r) (by kernel_rfl) ?_ ?_
 ·refine T_loop (c1:=(sub [1,0,1,0,0] Bd125)) (by kernel_rfl) (fun n3 s' => ∃ (x2 : Int),Sub { σ := [(0,lS Au0 u0 cu0),(1,.lf (.v (.func (.func 116) #[] #[(.pointer (some ⟨bu1C,0,none⟩))]))),(7,vi (u0.length : Int)),(8,vi x2)],H := [],V := [],M := M,ds := [] } s' ∧ p125b_l1 k u0 u1y0 u1y1 u1y2 j1 n3 x2 = some r) (k:=k) ⟨(0 : Int),keep_sub (ts:=[0,1,7,8]) (hs:=[]) (vs:=[]) (by kernel_rfl),h⟩ ?_
  rintro n3 s' ⟨x2,hsub,h⟩
  cases n3 with
  | zero => rw [p125b_l1] at h;cases h
  | succ n3 =>
   rw [p125b_l1] at h
   refine T_sub hsub ?_
   refine SQ (RG ?_)
   obtain ⟨b4,e_b4,h⟩ := lt_some h
   refine SG 1 (S4 [(0,lS Au0 u0 cu0),(1,.lf (.v (.func (.func 116) #[] #[(.pointer (some ⟨bu1C,0,none⟩))]))),(7,vi (u0.length : Int)),(8,vi x2),(9,vb b4)] [] [] M) ?_ (by subst e_b4;kernel_rfl)
   refine EN (SQ ?_)
   cases b4 with
   | true =>
    replace h := sp_t h
    refine CT ?_
    refine KS [(0,lS Au0 u0 cu0),(1,.lf (.v (.func (.func 116) #[] #[(.pointer (some ⟨bu1C,0,none⟩))]))),(7,vi (u0.length : Int)),(8,vi x2)] ?_
    refine SN (SQ (BK 1 (SQ (RG ?_))))
    refine SS 2 [(0,lS Au0 u0 cu0),(1,.lf (.v (.func (.func 116) #[] #[(.pointer (some ⟨bu1C,0,none⟩))]))),(5,vi x2),(7,vi (u0.length : Int)),(8,vi x2)] ?_
    refine EN (SQ (RG ?_))
    refine SS 3 [(0,lS Au0 u0 cu0),(1,.lf (.v (.func (.func 116) #[] #[(.pointer (some ⟨bu1C,0,none⟩))]))),(5,vi x2),(7,vi (u0.length : Int)),(8,vi x2),(11,.lf (.v (.func (.func 116) #[] #[(.pointer (some ⟨bu1C,0,none⟩))]))),(12,lS Au0 u0 cu0),(13,vi x2)] ?_
    obtain ⟨g5,h⟩ := gd_some h
    refine AT 14 (.lf (.ep (.slice Au0 (u0.length) cu0) 1 ((x2).toNat) 0)) (At_idxI (z:=x2) (by kernel_rfl) g5 hu0) ?_
    obtain ⟨x6,e_x6,h⟩ := lt_some h
    refine AT 15 (vi x6) (by rw [e_x6]; exact At_ldI (q:=(x2).toNat) (by subst e_x6; kernel_rfl) (toNat_lt g5) hu0) ?_
    obtain ⟨v7,c_v7,h⟩ := cl_some h
    refine AC 16 (vb v7) (w116 k hu1y1 hu1y2 hbu1C c_v7) ?_
    refine SH 6 [(0,lS Au0 u0 cu0),(1,.lf (.v (.func (.func 116) #[] #[(.pointer (some ⟨bu1C,0,none⟩))]))),(5,vi x2),(7,vi (u0.length : Int)),(8,vi x2),(16,vb v7)] [] ?_
    refine EN ?_
    cases v7 with
    | true =>
     replace h := sp_t h
     refine CT ?_
     refine KS [(5,vi x2)] ?_
     refine SQ (RG ?_)
     refine SS 2 [(4,vi x2)] ?_
     refine EN (RT (blockQ_r (thenQ_r (thenQ_r (blockQ_r (thenQ_r (thenQ_r ?_)))))))
     obtain rfl := sj h
     exact FT (vi x2) rfl
    | false =>
     replace h := sp_f h
     refine CF ?_
     refine KS [(0,lS Au0 u0 cu0),(1,.lf (.v (.func (.func 116) #[] #[(.pointer (some ⟨bu1C,0,none⟩))]))),(7,vi (u0.length : Int)),(8,vi x2)] ?_
     refine S0 (blockQ_n (thenQ_n (RG ?_)))
     obtain ⟨x8,e_x8,h⟩ := lt_some h
     refine SS 2 [(0,lS Au0 u0 cu0),(1,.lf (.v (.func (.func 116) #[] #[(.pointer (some ⟨bu1C,0,none⟩))]))),(7,vi (u0.length : Int)),(8,vi x8)] ?_ (by subst e_x8;kernel_rfl)
     refine EN ?_
     exact ⟨n3,Nat.lt_succ_self _,x8,keep_sub (ts:=[0,1,7,8]) (hs:=[]) (vs:=[]) (by kernel_rfl),h⟩
   | false =>
    replace h := sp_f h
    refine CF ?_
    refine KS [] ?_
    refine XI 0 (thenQ_x (thenQ_x (blockQ_x (thenQ_n ?_))))
    exact ⟨keep_sub (ts:=[]) (hs:=[]) (vs:=[]) (by kernel_rfl),h⟩
 ·rintro s' ⟨hsub,h⟩
  subst e_j1
  refine thenQ_n ?_
  refine T_sub hsub ?_
  refine SQ (RG ?_)
  refine SG 1 (S4 [(4,vi (-1 : Int))] [] [] M) ?_
  refine EN (RT ?_)
  obtain rfl := sj h
  exact FT (vi (-1 : Int)) rfl
def p85b (k : Nat) (u0 : List Int) (u1y0 : Int) (u1y1 : List (List Int)) (u1y2 : List WT) : Option Bool :=
 cl (p125b k u0 u1y0 u1y1 u1y2) fun v1 => lt' (decide (v1 ≥ (0 : Int))) fun b2 => some b2
theorem hf85b : Try.prog.funcs[85]? = some Try.f85 := by kernel_rfl
theorem w85b (k : Nat) {M : Mem} {Au0 Au1y1 Au1y2 : Option Addr} {cu0 cu1y1 cu1y2 bu1C : Nat} {Hu1y2 : Nat → Option Addr} {Cu1y2 : Nat → Nat} {u0 : List Int} {u1y0 : Int} {u1y1 : List (List Int)} {u1y2 : List WT} (hu0 : SlI M Au0 cu0 .i64 u0) (hu1y1 : SlR M Au1y1 cu1y1 .i64 12 u1y1) (hu1y2 : SlW M 3 Au1y2 cu1y2 Hu1y2 Cu1y2 u1y2) (hbu1C : MB M bu1C [oI u1y0,oS Au1y1 u1y1 cu1y1,oS Au1y2 u1y2 cu1y2]) {r} (h : p85b k u0 u1y0 u1y1 u1y2 = some r) :
  Fn Try.prog 85 [rval (lS Au0 u0 cu0),rval (.lf (.v (.func (.func 116) #[] #[(.pointer (some ⟨bu1C,0,none⟩))])))] M (fun x _ => x = vb r) := by
 unfold p85b at h
 refine FO [lS Au0 u0 cu0,.lf (.v (.func (.func 116) #[] #[(.pointer (some ⟨bu1C,0,none⟩))]))] hf85b ⟨trivial,⟨trivial,trivial⟩⟩ fun w => ?_
 refine SQ0 (RG ?_)
 refine SG 1 (S4 [(0,lS Au0 u0 cu0),(1,.lf (.v (.func (.func 116) #[] #[(.pointer (some ⟨bu1C,0,none⟩))])))] [] [] M) ?_
 refine EN (SQ (RG ?_))
 refine SS 2 [(5,lS Au0 u0 cu0),(6,.lf (.v (.func (.func 116) #[] #[(.pointer (some ⟨bu1C,0,none⟩))])))] ?_
 obtain ⟨v1,c_v1,h⟩ := cl_some h
 refine AC 7 (vi v1) (w125b k hu0 hu1y1 hu1y2 hbu1C c_v1) ?_
 obtain ⟨b2,e_b2,h⟩ := lt_some h
 refine SH 5 [(4,vb b2)] [] ?_ (by subst e_b2;kernel_rfl)
 refine EN (RT ?_)
 obtain rfl := sj h
 exact FT (vb b2) rfl
def p66 (k : Nat) (u0_0 : Int) (u0_1 : List (List Int)) (u0_2 : List WT) (u1 : List Int) : Option Int :=
 lt' (decide ((u1.length : Int) > (256 : Int))) fun b3 => sp b3 (some (6 : Int)) (cl (p85b k u1 u0_0 u0_1 u0_2) fun v4 => sp v4 (some (3 : Int)) (some (0 : Int)))
theorem hf66 : Try.prog.funcs[66]? = some Try.f66 := by kernel_rfl
theorem w66 (k : Nat) {M : Mem} {Au0_1 Au0_2 Au1 : Option Addr} {cu0_1 cu0_2 cu1 : Nat} {Hu0_2 : Nat → Option Addr} {Cu0_2 : Nat → Nat} {u0_0 : Int} {u0_1 : List (List Int)} {u0_2 : List WT} {u1 : List Int} (hu0_1 : SlR M Au0_1 cu0_1 .i64 12 u0_1) (hu0_2 : SlW M 3 Au0_2 cu0_2 Hu0_2 Cu0_2 u0_2) (hu1 : SlI M Au1 cu1 .i64 u1) {r} (h : p66 k u0_0 u0_1 u0_2 u1 = some r) :
  Fn Try.prog 66 [rval (.agg [oI u0_0,oS Au0_1 u0_1 cu0_1,oS Au0_2 u0_2 cu0_2]),rval (lS Au1 u1 cu1)] M (fun x _ => x = vi r) := by
 unfold p66 at h
 refine FO [.agg [oI u0_0,oS Au0_1 u0_1 cu0_1,oS Au0_2 u0_2 cu0_2],lS Au1 u1 cu1] hf66 ⟨⟨rfl,⟨rfl,⟨rfl,trivial⟩⟩⟩,⟨trivial,trivial⟩⟩ fun w => ?_
 refine SQ0 (RG ?_)
 refine SG 2 (S4 [(1,lS Au1 u1 cu1),(2,lO 2)] [(2,[oI u0_0,oS Au0_1 u0_1 cu0_1,oS Au0_2 u0_2 cu0_2])] [] M) ?_
 refine EN ?_
 refine T_turn (turn_pubH 2 (c:=[oI u0_0,oS Au0_1 u0_1 cu0_1,oS Au0_2 u0_2 cu0_2]) (by kernel_rfl) (by kernel_rfl)) ?_
 rintro _ ⟨b1,M2,rfl,-,e_M2,-,hM2⟩
 have fb1 : MB M2 b1 [oI u0_0,oS Au0_1 u0_1 cu0_1,oS Au0_2 u0_2 cu0_2] := by rw [e_M2]; exact addM_at _ _ _
 refine KG (S4 [(1,lS Au1 u1 cu1),(2,lP b1)] [] [] M2) ?_
 refine SQ (SQ (RG ?_))
 obtain ⟨b3,e_b3,h⟩ := lt_some h
 refine SS 3 [(1,lS Au1 u1 cu1),(2,lP b1),(7,vb b3)] ?_ (by subst e_b3;kernel_rfl)
 refine EN ?_
 cases b3 with
 | true =>
  replace h := sp_t h
  refine CT ?_
  refine KS [] ?_
  refine SQ (RG ?_)
  refine SS 1 [(4,vi (6 : Int))] ?_
  refine EN (RT (thenQ_r ?_))
  obtain rfl := sj h
  exact FT (vi (6 : Int)) rfl
 | false =>
  replace h := sp_f h
  refine CF ?_
  refine KS [(1,lS Au1 u1 cu1),(2,lP b1)] ?_
  refine SN (SQ (SQ (RG ?_)))
  refine SS 2 [(8,lS Au1 u1 cu1),(9,.lf (.v (.func (.func 116) #[] #[(.pointer (some ⟨b1,0,none⟩))])))] ?_
  obtain ⟨v4,c_v4,h⟩ := cl_some h
  refine AC 10 (vb v4) (w85b k (hu1.le hM2) (hu0_1.le hM2) (hu0_2.le hM2) fb1 c_v4) ?_
  refine SH 3 [(10,vb v4)] [] ?_
  refine EN ?_
  cases v4 with
  | true =>
   replace h := sp_t h
   refine CT ?_
   refine KS [] ?_
   refine SQ (RG ?_)
   refine SS 1 [(4,vi (3 : Int))] ?_
   refine EN (RT (thenQ_r ?_))
   obtain rfl := sj h
   exact FT (vi (3 : Int)) rfl
  | false =>
   replace h := sp_f h
   refine CF ?_
   refine KS [] ?_
   refine SN (SQ (RG ?_))
   refine SS 1 [(4,vi (0 : Int))] ?_
   refine EN (RT ?_)
   obtain rfl := sj h
   exact FT (vi (0 : Int)) rfl
end Go.Proofs.Ythniebmammmacaa
namespace Go.Proofs.Ythniebmammmacaa
open Go.RowKit
def p68 (k : Nat) (u0_0 : Int) (u0_1 : List (List Int)) (u0_2 : List WT) (u1 : List Int) : Option (Int × List (List Int) × List WT × List Int × Int) :=
 cl (p38 k u0_0 u0_1 u0_2) fun v7 => lt' (v7 != (0 : Int)) fun b8 => sp b8 (some ((0 : Int),([] : List (List Int)),([] : List WT),[(0 : Int),(0 : Int),(0 : Int),(0 : Int),(0 : Int),(0 : Int)],v7)) (cl (p39 k u1) fun v9 => some (u0_0,u0_1,u0_2,u1,v9))
theorem hf68 : Try.prog.funcs[68]? = some Try.f68 := by kernel_rfl
theorem w68 (k : Nat) {M : Mem} {Au0_1 Au0_2 : Option Addr} {cu0_1 cu0_2 : Nat} {Hu0_2 : Nat → Option Addr} {Cu0_2 : Nat → Nat} {u0_0 : Int} {u0_1 : List (List Int)} {u0_2 : List WT} {u1 : List Int} (hu0_1 : SlR M Au0_1 cu0_1 .i64 12 u0_1) (hu0_2 : SlW M 3 Au0_2 cu0_2 Hu0_2 Cu0_2 u0_2) (hu1 : u1.length = 6) {r} (h : p68 k u0_0 u0_1 u0_2 u1 = some r) :
  Fn Try.prog 68 [rval (.agg [oI u0_0,oS Au0_1 u0_1 cu0_1,oS Au0_2 u0_2 cu0_2]),rval (.agg [.arr .i64 6 u1])] M (fun x M' => ∃ (A1 : Option Addr) (c2 : Nat) (A3 : Option Addr) (c4 : Nat) (H5 : Nat → Option Addr) (C6 : Nat → Nat),x = .tup [(none,[oI r.1,oS A1 r.2.1 c2,oS A3 r.2.2.1 c4,.arr .i64 6 r.2.2.2.1]),(some (.v (.int .i64 r.2.2.2.2)),[])] ∧ SlR M' A1 c2 .i64 12 r.2.1 ∧ SlW M' 3 A3 c4 H5 C6 r.2.2.1) := by
 unfold p68 at h
 refine FO [.agg [oI u0_0,oS Au0_1 u0_1 cu0_1,oS Au0_2 u0_2 cu0_2],.agg [.arr .i64 6 u1]] hf68 ⟨⟨rfl,⟨rfl,⟨rfl,trivial⟩⟩⟩,⟨⟨hu1,trivial⟩,trivial⟩⟩ fun w => ?_
 refine SQ0 (RG ?_)
 refine SG 4 (S4 [(2,lO 2),(3,lO 3),(4,lO 4)] [(2,[oI u0_0,oS Au0_1 u0_1 cu0_1,oS Au0_2 u0_2 cu0_2]),(3,[.arr .i64 6 u1]),(4,[oI (0 : Int),oS none ([] : List (List Int)) 0,oS none ([] : List WT) 0,.arr .i64 6 [(0 : Int),(0 : Int),(0 : Int),(0 : Int),(0 : Int),(0 : Int)]])] [] M) ?_
 refine EN (SQ (SQ (RG ?_)))
 refine SS 1 [(2,lO 2),(3,lO 3),(4,lO 4),(7,.agg [oI u0_0,oS Au0_1 u0_1 cu0_1,oS Au0_2 u0_2 cu0_2])] ?_
 obtain ⟨v7,c_v7,h⟩ := cl_some h
 refine AC 8 (vi v7) (w38 k hu0_1 hu0_2 c_v7) ?_
 refine SH 3 [(2,lO 2),(3,lO 3),(4,lO 4),(6,vi v7)] [(2,[oI u0_0,oS Au0_1 u0_1 cu0_1,oS Au0_2 u0_2 cu0_2]),(3,[.arr .i64 6 u1]),(4,[oI (0 : Int),oS none ([] : List (List Int)) 0,oS none ([] : List WT) 0,.arr .i64 6 [(0 : Int),(0 : Int),(0 : Int),(0 : Int),(0 : Int),(0 : Int)]])] ?_
 refine EN (SQ (RG ?_))
 obtain ⟨b8,e_b8,h⟩ := lt_some h
 refine SS 2 [(2,lO 2),(3,lO 3),(4,lO 4),(6,vi v7),(10,vb b8)] ?_ (by subst e_b8;kernel_rfl)
 refine EN ?_
 cases b8 with
 | true =>
  replace h := sp_t h
  refine CT ?_
  refine KP [(4,lO 4),(6,vi v7)] [(4,[oI (0 : Int),oS none ([] : List (List Int)) 0,oS none ([] : List WT) 0,.arr .i64 6 [(0 : Int),(0 : Int),(0 : Int),(0 : Int),(0 : Int),(0 : Int)]])] [] ?_
  refine SQ (RG ?_)
  refine SS 4 [(4,lO 4),(5,vi v7)] ?_
  refine EN (RT (thenQ_r ?_))
  obtain rfl := sj h
  refine FT (.tup [(none,[oI (0 : Int),oS none ([] : List (List Int)) 0,oS none ([] : List WT) 0,.arr .i64 6 [(0 : Int),(0 : Int),(0 : Int),(0 : Int),(0 : Int),(0 : Int)]]),(some (.v (.int .i64 v7)),[])]) ?_
  exact ⟨none,0,none,0,(fun _ => none),(fun _ => 0),rfl,(nilR _ _ _ _),(nilW _ _ _ _ _)⟩
 | false =>
  replace h := sp_f h
  refine CF ?_
  refine KS [(2,lO 2),(3,lO 3),(4,lO 4)] ?_
  refine SN (SQ ?_)
  obtain ⟨v9,c_v9,h⟩ := cl_some h
  refine T_draw' (id:=4) [5] [0,0,0,0,0,0,1] (by kernel_rfl) (by kernel_rfl) (by kernel_rfl) (by kernel_rfl) [(13,.agg [oI u0_0,oS Au0_1 u0_1 cu0_1,oS Au0_2 u0_2 cu0_2]),(14,.agg [.arr .i64 6 u1]),(15,.agg [oI u0_0,oS Au0_1 u0_1 cu0_1,oS Au0_2 u0_2 cu0_2,.arr .i64 6 u1]),(16,.agg [.arr .i64 6 u1]),(17,vi v9)] (by kernel_rfl) ⟨⟨rfl,⟨rfl,⟨rfl,trivial⟩⟩⟩,⟨⟨hu1,trivial⟩,⟨⟨rfl,⟨rfl,⟨rfl,⟨hu1,trivial⟩⟩⟩⟩,⟨⟨hu1,trivial⟩,⟨trivial,trivial⟩⟩⟩⟩⟩ ?_
  refine Stage_ex (stage_all' [0,1,2,3] [4] (by kernel_rfl) (by kernel_rfl) (by kernel_rfl) ⟨QF_at (i:=4) (d:=17) (x:=vi v9) (show OpAt _ _ _ 4 17 _ from by exact At_call (d:=17) (f:=39) (args:=[rval (.agg [.arr .i64 6 u1])]) (x:=vi v9) (by kernel_rfl) (w39 k hu1 c_v9)) (by kernel_rfl) (by kernel_rfl),trivial⟩) ({ σ := [(13,.agg [oI u0_0,oS Au0_1 u0_1 cu0_1,oS Au0_2 u0_2 cu0_2]),(14,.agg [.arr .i64 6 u1]),(15,.agg [oI u0_0,oS Au0_1 u0_1 cu0_1,oS Au0_2 u0_2 cu0_2,.arr .i64 6 u1]),(16,.agg [.arr .i64 6 u1]),(17,vi v9),(2,lO 2),(3,lO 3),(4,lO 4)],H := [(4,[oI u0_0,oS Au0_1 u0_1 cu0_1,oS Au0_2 u0_2 cu0_2,.arr .i64 6 u1]),(2,[oI u0_0,oS Au0_1 u0_1 cu0_1,oS Au0_2 u0_2 cu0_2]),(3,[.arr .i64 6 u1]),(4,[oI (0 : Int),oS none ([] : List (List Int)) 0,oS none ([] : List WT) 0,.arr .i64 6 [(0 : Int),(0 : Int),(0 : Int),(0 : Int),(0 : Int),(0 : Int)]])],V := [],M := M,ds := [] }) (by kernel_rfl) [(5,vi v9)] (by kernel_rfl) ⟨trivial,trivial⟩ ?_
  refine Stage_nil (stage_all' [6] [] (by kernel_rfl) (by kernel_rfl) (by kernel_rfl) trivial) ?_
  refine thenQ_n ?_
  refine KG (S4 [(4,lO 4),(5,vi v9)] [(4,[oI u0_0,oS Au0_1 u0_1 cu0_1,oS Au0_2 u0_2 cu0_2,.arr .i64 6 u1])] [] M) ?_
  refine RT ?_
  obtain rfl := sj h
  refine FT (.tup [(none,[oI u0_0,oS Au0_1 u0_1 cu0_1,oS Au0_2 u0_2 cu0_2,.arr .i64 6 u1]),(some (.v (.int .i64 v9)),[])]) ?_
  exact ⟨Au0_1,cu0_1,Au0_2,cu0_2,Hu0_2,Cu0_2,rfl,hu0_1,hu0_2⟩
def p24_l1 (k : Nat) (u0_1 : List (List Int)) (u1 : List Int) (j7 : Int → Option (Int × Int)) : Nat → Int → Int → Option (Int × Int)
 | 0,_,_ => none
 | n10 + 1,x8,x9 => lt' (decide (x9 < (u1.length : Int))) fun b11 => sp b11 (gd ((0 : Int) ≤ x9 ∧ x9 < (u1.length : Int)) <| lt' (List.getD u1 ((x9).toNat) 0) fun x13 => jn (fun (b14 : Bool) => sp b14 (some ((0 : Int),(16 : Int))) (gd ((0 : Int) ≤ x13 ∧ x13 < (u0_1.length : Int)) <| lt' (List.getD u0_1 ((x13).toNat) []) fun L26 => cl (p56 k L26 x8) fun v27 => lt' (wr .i64 (x9 + (1 : Int))) fun x28 => p24_l1 k u0_1 u1 j7 n10 v27 x28)) fun j15 => lt' (decide (x9 > (0 : Int))) fun b16 => sp b16 (gd ((0 : Int) ≤ x13 ∧ x13 < (u0_1.length : Int)) <| lt' (List.getD (List.getD u0_1 ((x13).toNat) []) 0 0) fun x18 => lt' (wr .i64 (x9 - (1 : Int))) fun x19 => gd ((0 : Int) ≤ x19 ∧ x19 < (u1.length : Int)) <| lt' (List.getD u1 ((x19).toNat) 0) fun x21 => gd ((0 : Int) ≤ x21 ∧ x21 < (u0_1.length : Int)) <| lt' (List.getD (List.getD u0_1 ((x21).toNat) []) 1 0) fun x23 => lt' (x18 != x23) fun b24 => j15 b24) (j15 false)) (j7 x8)
def p24 (k : Nat) (u0_0 : Int) (u0_1 : List (List Int)) (u0_2 : List WT) (u1 : List Int) (u2 : Int) : Option (Int × Int) :=
 cl (p38 k u0_0 u0_1 u0_2) fun v1 => lt' (v1 != (0 : Int)) fun b2 => sp b2 (some ((0 : Int),v1)) (cl (p66 k u0_0 u0_1 u0_2 u1) fun v3 => lt' (v3 != (0 : Int)) fun b4 => sp b4 (some ((0 : Int),v3)) (cl (p64 k u2 (0 : Int) (1099511627776 : Int)) fun v5 => sp v5 (jn (fun (x6 : Int) => some (x6,(0 : Int))) fun j7 => p24_l1 k u0_1 u1 j7 k u2 (0 : Int)) (some ((0 : Int),(3 : Int)))))
theorem hf24 : Try.prog.funcs[24]? = some Try.f24 := by kernel_rfl
theorem w24 (k : Nat) {M : Mem} {Au0_1 Au0_2 Au1 : Option Addr} {cu0_1 cu0_2 cu1 : Nat} {Hu0_2 : Nat → Option Addr} {Cu0_2 : Nat → Nat} {u0_0 u2 : Int} {u0_1 : List (List Int)} {u0_2 : List WT} {u1 : List Int} (hu0_1 : SlR M Au0_1 cu0_1 .i64 12 u0_1) (hu0_2 : SlW M 3 Au0_2 cu0_2 Hu0_2 Cu0_2 u0_2) (hu1 : SlI M Au1 cu1 .i64 u1) {r} (h : p24 k u0_0 u0_1 u0_2 u1 u2 = some r) :
  Fn Try.prog 24 [rval (.agg [oI u0_0,oS Au0_1 u0_1 cu0_1,oS Au0_2 u0_2 cu0_2]),rval (lS Au1 u1 cu1),rval (vi u2)] M (fun x _ => x = .tup [(some (.v (.int .i64 r.1)),[]),(some (.v (.int .i64 r.2)),[])]) := by
 unfold p24 at h
 refine FO [.agg [oI u0_0,oS Au0_1 u0_1 cu0_1,oS Au0_2 u0_2 cu0_2],lS Au1 u1 cu1,vi u2] hf24 ⟨⟨rfl,⟨rfl,⟨rfl,trivial⟩⟩⟩,⟨trivial,⟨trivial,trivial⟩⟩⟩ fun w => ?_
 refine SQ0 (RG ?_)
 refine SG 3 (S4 [(1,lS Au1 u1 cu1),(2,vi u2),(3,lO 3)] [(3,[oI u0_0,oS Au0_1 u0_1 cu0_1,oS Au0_2 u0_2 cu0_2])] [] M) ?_
 refine EN (SQ (SQ (RG ?_)))
 refine SS 1 [(1,lS Au1 u1 cu1),(2,vi u2),(3,lO 3),(13,.agg [oI u0_0,oS Au0_1 u0_1 cu0_1,oS Au0_2 u0_2 cu0_2])] ?_
 obtain ⟨v1,c_v1,h⟩ := cl_some h
 refine AC 14 (vi v1) (w38 k hu0_1 hu0_2 c_v1) ?_
 refine SH 3 [(1,lS Au1 u1 cu1),(2,vi u2),(3,lO 3),(8,vi v1)] [(3,[oI u0_0,oS Au0_1 u0_1 cu0_1,oS Au0_2 u0_2 cu0_2])] ?_
 refine EN (SQ (RG ?_))
 obtain ⟨b2,e_b2,h⟩ := lt_some h
 refine SS 2 [(1,lS Au1 u1 cu1),(2,vi u2),(3,lO 3),(8,vi v1),(16,vb b2)] ?_ (by subst e_b2;kernel_rfl)
 refine EN ?_
 cases b2 with
 | true =>
  replace h := sp_t h
  refine CT ?_
  refine KP [(8,vi v1)] [] [] ?_
  refine SQ (RG ?_)
  refine SS 3 [(6,vi (0 : Int)),(7,vi v1)] ?_
  refine EN (RT (thenQ_r ?_))
  obtain rfl := sj h
  exact FT (.tup [(some (.v (.int .i64 (0 : Int))),[]),(some (.v (.int .i64 v1)),[])]) rfl
 | false =>
  replace h := sp_f h
  refine CF ?_
  refine KS [(1,lS Au1 u1 cu1),(2,vi u2),(3,lO 3)] ?_
  refine SN (SQ (SQ (RG ?_)))
  refine SS 2 [(1,lS Au1 u1 cu1),(2,vi u2),(3,lO 3),(18,.agg [oI u0_0,oS Au0_1 u0_1 cu0_1,oS Au0_2 u0_2 cu0_2]),(19,lS Au1 u1 cu1)] ?_
  obtain ⟨v3,c_v3,h⟩ := cl_some h
  refine AC 20 (vi v3) (w66 k hu0_1 hu0_2 hu1 c_v3) ?_
  refine SH 4 [(1,lS Au1 u1 cu1),(2,vi u2),(3,lO 3),(9,vi v3)] [(3,[oI u0_0,oS Au0_1 u0_1 cu0_1,oS Au0_2 u0_2 cu0_2])] ?_
  refine EN (SQ (RG ?_))
  obtain ⟨b4,e_b4,h⟩ := lt_some h
  refine SS 2 [(1,lS Au1 u1 cu1),(2,vi u2),(3,lO 3),(9,vi v3),(22,vb b4)] ?_ (by subst e_b4;kernel_rfl)
  refine EN ?_
  cases b4 with
  | true =>
   replace h := sp_t h
   refine CT ?_
   refine KP [(9,vi v3)] [] [] ?_
   refine SQ (RG ?_)
   refine SS 3 [(6,vi (0 : Int)),(7,vi v3)] ?_
   refine EN (RT (thenQ_r ?_))
   obtain rfl := sj h
   exact FT (.tup [(some (.v (.int .i64 (0 : Int))),[]),(some (.v (.int .i64 v3)),[])]) rfl
  | false =>
   replace h := sp_f h
   refine CF ?_
   refine KS [(1,lS Au1 u1 cu1),(2,vi u2),(3,lO 3)] ?_
   refine SN (SQ (SQ (RG ?_)))
   refine SS 1 [(1,lS Au1 u1 cu1),(2,vi u2),(3,lO 3),(24,vi u2)] ?_
   obtain ⟨v5,c_v5,h⟩ := cl_some h
   refine AC 25 (vb v5) (w64 k  c_v5) ?_
   refine SH 3 [(1,lS Au1 u1 cu1),(2,vi u2),(3,lO 3),(26,vb (!v5))] [(3,[oI u0_0,oS Au0_1 u0_1 cu0_1,oS Au0_2 u0_2 cu0_2])] ?_
   refine EN ?_
   cases v5 with
   | true =>
    replace h := sp_t h
    refine CF ?_
    refine KS [(1,lS Au1 u1 cu1),(2,vi u2),(3,lO 3)] ?_
    refine SN (SQ (RG ?_))
    refine SS 2 [(1,lS Au1 u1 cu1),(3,lO 3),(10,vi u2)] ?_
    refine EN (SQ (SQ (RG ?_)))
    refine SS 3 [(1,lS Au1 u1 cu1),(3,lO 3),(10,vi u2),(28,lS Au1 u1 cu1),(29,vi (u1.length : Int)),(30,vi (0 : Int))] ?_
    refine EN ?_
    obtain ⟨j7,e_j7,h⟩ := jn_some h
    refine T_bcut (id:=0) (c1:=(sub [1,1,1,1,1,0,1,0] Bd24)) (fun s' => ∃ (x6 : Int),Sub { σ := [(10,vi x6)],H := [],V := [],M := M,ds := [] } s' ∧ j7 x6 = some r) (by kernel_rfl) ?_ ?_
    ·refine T_loop (c1:=(sub [1,1,1,1,1,0,1,0,0] Bd24)) (by kernel_rfl) (fun n10 s' => ∃ (x8 : Int) (x9 : Int),Sub { σ := [(1,lS Au1 u1 cu1),(3,lO 3),(10,vi x8),(28,lS Au1 u1 cu1),(29,vi (u1.length : Int)),(30,vi x9)],H := [(3,[oI u0_0,oS Au0_1 u0_1 cu0_1,oS Au0_2 u0_2 cu0_2])],V := [],M := M,ds := [] } s' ∧ p24_l1 k u0_1 u1 j7 n10 x8 x9 = some r) (k:=k) ⟨u2,(0 : Int),keep_sub (ts:=[1,3,10,28,29,30]) (hs:=[3]) (vs:=[]) (by kernel_rfl),h⟩ ?_
     rintro n10 s' ⟨x8,x9,hsub,h⟩
     cases n10 with
     | zero => rw [p24_l1] at h;cases h
     | succ n10 =>
      rw [p24_l1] at h
      refine T_sub hsub ?_
      refine SQ (RG ?_)
      obtain ⟨b11,e_b11,h⟩ := lt_some h
      refine SG 1 (S4 [(1,lS Au1 u1 cu1),(3,lO 3),(10,vi x8),(28,lS Au1 u1 cu1),(29,vi (u1.length : Int)),(30,vi x9),(31,vb b11)] [(3,[oI u0_0,oS Au0_1 u0_1 cu0_1,oS Au0_2 u0_2 cu0_2])] [] M) ?_ (by subst e_b11;kernel_rfl)
      refine EN (SQ ?_)
      cases b11 with
      | true =>
       replace h := sp_t h
       refine CT ?_
       refine KS [(1,lS Au1 u1 cu1),(3,lO 3),(10,vi x8),(28,lS Au1 u1 cu1),(29,vi (u1.length : Int)),(30,vi x9)] ?_
       refine SN (SQ (BK 1 (SQ (RG ?_))))
       refine SS 1 [(1,lS Au1 u1 cu1),(3,lO 3),(10,vi x8),(28,lS Au1 u1 cu1),(29,vi (u1.length : Int)),(30,vi x9),(32,vi x9)] ?_
       obtain ⟨g12,h⟩ := gd_some h
       refine AT 33 (.lf (.ep (.slice Au1 (u1.length) cu1) 1 ((x9).toNat) 0)) (At_idxI (z:=x9) (by kernel_rfl) g12 hu1) ?_
       obtain ⟨x13,e_x13,h⟩ := lt_some h
       refine AT 34 (vi x13) (by rw [e_x13]; exact At_ldI (q:=(x9).toNat) (by subst e_x13; kernel_rfl) (toNat_lt g12) hu1) ?_
       refine SH 5 [(1,lS Au1 u1 cu1),(3,lO 3),(10,vi x8),(11,vi x9),(12,vi x13),(28,lS Au1 u1 cu1),(29,vi (u1.length : Int)),(30,vi x9)] [(3,[oI u0_0,oS Au0_1 u0_1 cu0_1,oS Au0_2 u0_2 cu0_2])] ?_
       refine EN (SQ ?_)
       obtain ⟨j15,e_j15,h⟩ := jn_some h
       refine T_cut (c1:=(sub [1,1,1,1,1,0,1,0,0,1,1,0,0,1,0,0] Bd24)) (c2:=(sub [1,1,1,1,1,0,1,0,0,1,1,0,0,1,0,1] Bd24)) (fun s' => ∃ (b14 : Bool),Sub { σ := [(1,lS Au1 u1 cu1),(3,lO 3),(10,vi x8),(12,vi x13),(28,lS Au1 u1 cu1),(29,vi (u1.length : Int)),(30,vi x9),(55,vb b14)],H := [(3,[oI u0_0,oS Au0_1 u0_1 cu0_1,oS Au0_2 u0_2 cu0_2])],V := [],M := M,ds := [] } s' ∧ j15 b14 = some r) (by kernel_rfl) ?_ ?_
       ·obtain ⟨b16,e_b16,h⟩ := lt_some h
        cases b16 with
        | true =>
         replace h := sp_t h
         obtain ⟨g17,h⟩ := gd_some h
         obtain ⟨x18,e_x18,h⟩ := lt_some h
         obtain ⟨x19,e_x19,h⟩ := lt_some h
         obtain ⟨g20,h⟩ := gd_some h
         obtain ⟨x21,e_x21,h⟩ := lt_some h
         obtain ⟨g22,h⟩ := gd_some h
         obtain ⟨x23,e_x23,h⟩ := lt_some h
         obtain ⟨b24,e_b24,h⟩ := lt_some h
         refine T_draw' (id:=13) [] [0,0,0,0,0,0,0,0,0,0,0,0,0,0,0,0,0,0,0,0,0] (by kernel_rfl) (by kernel_rfl) (by kernel_rfl) (by kernel_rfl) [(35,vi x9),(36,vb true),(37,vb true),(38,.lf (.own 3 1)),(39,lS Au0_1 u0_1 cu0_1),(40,vi x13),(41,.lf (.ep (.slice Au0_1 (u0_1.length) cu0_1) 12 ((x13).toNat) 0)),(42,.lf (.ep (.slice Au0_1 (u0_1.length) cu0_1) 12 ((x13).toNat) 0)),(43,vi x18),(44,.lf (.own 3 1)),(45,lS Au0_1 u0_1 cu0_1),(46,lS Au1 u1 cu1),(47,vi x9),(48,vi x19),(49,.lf (.ep (.slice Au1 (u1.length) cu1) 1 ((x19).toNat) 0)),(50,vi x21),(51,.lf (.ep (.slice Au0_1 (u0_1.length) cu0_1) 12 ((x21).toNat) 0)),(52,.lf (.ep (.slice Au0_1 (u0_1.length) cu0_1) 12 ((x21).toNat) 1)),(53,vi x23),(54,vb b24),(55,vb b24)] (by kernel_rfl) (wfs_lf _ (by kernel_rfl)) ?_
         refine Stage_nil (stage_all' [0,2,3,4,5,7,9,10,11,12,13,17,19,20] [1,6,8,14,15,16,18] (by kernel_rfl) (by subst_vars; kernel_rfl) (by kernel_rfl) ⟨QF_at (i:=1) (d:=36) (x:=vb true) (show OpAt _ _ _ 1 36 _ from by exact At_bin (d:=36) (b:=.gtr) (u:=.int .i64 x9) (v:=.int .i64 (0 : Int)) (w':=.bool true) (by subst_vars; kernel_rfl) (by rw [show exBin .gtr (.int .i64 x9) (.int .i64 (0 : Int)) = some (.bool (decide (x9 > (0 : Int)))) from by kernel_rfl,← e_b16])) (by kernel_rfl) (by subst_vars; kernel_rfl),⟨QF_at (i:=6) (d:=41) (x:=.lf (.ep (.slice Au0_1 (u0_1.length) cu0_1) 12 ((x13).toNat) 0)) (show OpAt _ _ _ 6 41 _ from by exact At_idxR (d:=41) (z:=x13) (by subst_vars; kernel_rfl) g17 hu0_1) (by kernel_rfl) (by subst_vars; kernel_rfl),⟨QF_at (i:=8) (d:=43) (x:=vi x18) (show OpAt _ _ _ 8 43 _ from by rw [e_x18]; exact At_ldR1 (d:=43) (q:=(x13).toNat) (j:=0) (by subst_vars; kernel_rfl) rfl (toNat_lt g17) hu0_1) (by kernel_rfl) (by subst_vars; kernel_rfl),⟨QF_at (i:=14) (d:=49) (x:=.lf (.ep (.slice Au1 (u1.length) cu1) 1 ((x19).toNat) 0)) (show OpAt _ _ _ 14 49 _ from by exact At_idxI (d:=49) (z:=x19) (by subst_vars; kernel_rfl) g20 hu1) (by kernel_rfl) (by subst_vars; kernel_rfl),⟨QF_at (i:=15) (d:=50) (x:=vi x21) (show OpAt _ _ _ 15 50 _ from by rw [e_x21]; exact At_ldI (d:=50) (q:=(x19).toNat) (by subst_vars; kernel_rfl) (toNat_lt g20) hu1) (by kernel_rfl) (by subst_vars; kernel_rfl),⟨QF_at (i:=16) (d:=51) (x:=.lf (.ep (.slice Au0_1 (u0_1.length) cu0_1) 12 ((x21).toNat) 0)) (show OpAt _ _ _ 16 51 _ from by exact At_idxR (d:=51) (z:=x21) (by subst_vars; kernel_rfl) g22 hu0_1) (by kernel_rfl) (by subst_vars; kernel_rfl),⟨QF_at (i:=18) (d:=53) (x:=vi x23) (show OpAt _ _ _ 18 53 _ from by rw [e_x23]; exact At_ldR1 (d:=53) (q:=(x21).toNat) (j:=1) (by subst_vars; kernel_rfl) rfl (toNat_lt g22) hu0_1) (by kernel_rfl) (by subst_vars; kernel_rfl),trivial⟩⟩⟩⟩⟩⟩⟩) ?_
         refine thenQ_n ?_
         exact ⟨b24,keep_sub (ts:=[1,3,10,12,28,29,30,55]) (hs:=[3]) (vs:=[]) (by subst_vars;kernel_rfl),h⟩
        | false =>
         replace h := sp_f h
         refine T_draw' (id:=13) [] [0,0,0,0,0,0,0,0,0,0,0,0,0,0,0,0,0,0,0,0,0] (by kernel_rfl) (by kernel_rfl) (by kernel_rfl) (by kernel_rfl) [(35,vi x9),(36,vb false),(37,vb false),(38,.tup []),(39,.tup []),(40,.tup []),(41,.tup []),(42,.tup []),(43,.tup []),(44,.tup []),(45,.tup []),(46,.tup []),(47,.tup []),(48,.tup []),(49,.tup []),(50,.tup []),(51,.tup []),(52,.tup []),(53,.tup []),(54,.tup []),(55,vb false)] (by kernel_rfl) ⟨trivial,⟨trivial,⟨trivial,⟨(by intro y hy;cases hy),⟨(by intro y hy;cases hy),⟨(by intro y hy;cases hy),⟨(by intro y hy;cases hy),⟨(by intro y hy;cases hy),⟨(by intro y hy;cases hy),⟨(by intro y hy;cases hy),⟨(by intro y hy;cases hy),⟨(by intro y hy;cases hy),⟨(by intro y hy;cases hy),⟨(by intro y hy;cases hy),⟨(by intro y hy;cases hy),⟨(by intro y hy;cases hy),⟨(by intro y hy;cases hy),⟨(by intro y hy;cases hy),⟨(by intro y hy;cases hy),⟨(by intro y hy;cases hy),⟨trivial,trivial⟩⟩⟩⟩⟩⟩⟩⟩⟩⟩⟩⟩⟩⟩⟩⟩⟩⟩⟩⟩⟩ ?_
         refine Stage_nil (stage_all' [0,2,3,4,5,6,7,8,9,10,11,12,13,14,15,16,17,18,19,20] [1] (by kernel_rfl) (by kernel_rfl) (by kernel_rfl) ⟨QF_at (i:=1) (d:=36) (x:=vb false) (show OpAt _ _ _ 1 36 _ from by exact At_bin (d:=36) (b:=.gtr) (u:=.int .i64 x9) (v:=.int .i64 (0 : Int)) (w':=.bool false) (by kernel_rfl) (by rw [show exBin .gtr (.int .i64 x9) (.int .i64 (0 : Int)) = some (.bool (decide (x9 > (0 : Int)))) from by kernel_rfl,← e_b16])) (by kernel_rfl) (by kernel_rfl),trivial⟩) ?_
         refine thenQ_n ?_
         exact ⟨false,keep_sub (ts:=[1,3,10,12,28,29,30,55]) (hs:=[3]) (vs:=[]) (by kernel_rfl),h⟩
       ·rintro s' ⟨b14,hsub,h⟩
        subst e_j15
        refine T_sub hsub ?_
        cases b14 with
        | true =>
         replace h := sp_t h
         refine CT ?_
         refine KG (S4 [] [] [] M) ?_
         refine SQ (RG ?_)
         refine SS 2 [(6,vi (0 : Int)),(7,vi (16 : Int))] ?_
         refine EN (RT (thenQ_r (blockQ_r (thenQ_r (thenQ_r (blockQ_r (thenQ_r (thenQ_r ?_))))))))
         obtain rfl := sj h
         exact FT (.tup [(some (.v (.int .i64 (0 : Int))),[]),(some (.v (.int .i64 (16 : Int))),[])]) rfl
        | false =>
         replace h := sp_f h
         refine CF ?_
         refine KG (S4 [(1,lS Au1 u1 cu1),(3,lO 3),(10,vi x8),(12,vi x13),(28,lS Au1 u1 cu1),(29,vi (u1.length : Int)),(30,vi x9)] [(3,[oI u0_0,oS Au0_1 u0_1 cu0_1,oS Au0_2 u0_2 cu0_2])] [] M) ?_
         refine SN (RG ?_)
         refine SS 3 [(1,lS Au1 u1 cu1),(3,lO 3),(10,vi x8),(28,lS Au1 u1 cu1),(29,vi (u1.length : Int)),(30,vi x9),(57,lS Au0_1 u0_1 cu0_1),(58,vi x13)] ?_
         obtain ⟨g25,h⟩ := gd_some h
         refine AT 59 (.lf (.ep (.slice Au0_1 (u0_1.length) cu0_1) 12 ((x13).toNat) 0)) (At_idxR (z:=x13) (by kernel_rfl) g25 hu0_1) ?_
         obtain ⟨L26,e_L26,h⟩ := lt_some h
         have l_L26 : (L26).length = 12 := by rw [e_L26]; exact SlR_row hu0_1 (toNat_lt g25)
         refine AT 60 (.agg [.arr .i64 12 L26]) (by rw [e_L26]; exact At_ldRow (q:=(x13).toNat) (by subst e_L26; kernel_rfl) (toNat_lt g25) hu0_1) ?_ (hx:=⟨l_L26,trivial⟩)
         refine SH 6 [(1,lS Au1 u1 cu1),(3,lO 3),(28,lS Au1 u1 cu1),(29,vi (u1.length : Int)),(30,vi x9),(60,.agg [.arr .i64 12 L26]),(61,vi x8)] [(3,[oI u0_0,oS Au0_1 u0_1 cu0_1,oS Au0_2 u0_2 cu0_2])] ?_
         obtain ⟨v27,c_v27,h⟩ := cl_some h
         refine AC 62 (vi v27) (w56 k l_L26 c_v27) ?_
         refine SH 8 [(1,lS Au1 u1 cu1),(3,lO 3),(10,vi v27),(28,lS Au1 u1 cu1),(29,vi (u1.length : Int)),(30,vi x9)] [(3,[oI u0_0,oS Au0_1 u0_1 cu0_1,oS Au0_2 u0_2 cu0_2])] ?_
         refine E0 (blockQ_n (thenQ_n (RG ?_)))
         obtain ⟨x28,e_x28,h⟩ := lt_some h
         refine SS 2 [(1,lS Au1 u1 cu1),(3,lO 3),(10,vi v27),(28,lS Au1 u1 cu1),(29,vi (u1.length : Int)),(30,vi x28)] ?_ (by subst e_x28;kernel_rfl)
         refine EN ?_
         exact ⟨n10,Nat.lt_succ_self _,v27,x28,keep_sub (ts:=[1,3,10,28,29,30]) (hs:=[3]) (vs:=[]) (by kernel_rfl),h⟩
      | false =>
       replace h := sp_f h
       refine CF ?_
       refine KP [(10,vi x8)] [] [] ?_
       refine XI 0 (thenQ_x (thenQ_x (blockQ_x (thenQ_n ?_))))
       exact ⟨x8,keep_sub (ts:=[10]) (hs:=[]) (vs:=[]) (by kernel_rfl),h⟩
    ·rintro s' ⟨x6,hsub,h⟩
     subst e_j7
     refine thenQ_n ?_
     refine T_sub hsub ?_
     refine SQ (RG ?_)
     refine SG 3 (S4 [(6,vi x6),(7,vi (0 : Int))] [] [] M) ?_
     refine EN (RT ?_)
     obtain rfl := sj h
     exact FT (.tup [(some (.v (.int .i64 x6)),[]),(some (.v (.int .i64 (0 : Int))),[])]) rfl
   | false =>
    replace h := sp_f h
    refine CT ?_
    refine KP [] [] [] ?_
    refine SQ (RG ?_)
    refine SS 2 [(6,vi (0 : Int)),(7,vi (3 : Int))] ?_
    refine EN (RT (thenQ_r ?_))
    obtain rfl := sj h
    exact FT (.tup [(some (.v (.int .i64 (0 : Int))),[]),(some (.v (.int .i64 (3 : Int))),[])]) rfl
end Go.Proofs.Ythniebmammmacaa
namespace Go.Proofs.Ythniebmammmacaa
open Go.RowKit
def p123_r1 (k : Nat) (j7 : List Int → Option (List Int)) : List (Int) → List Int → Option (List Int)
 | [],L4 => j7 L4
 | x6::rest5,L4 => gd ((L4.length + List.length ([x6])) * 8 ≤ 140737488355328) <| lt' (L4 ++ ([x6])) fun W12 => p123_r1 k j7 rest5 W12
def p123 (k : Nat) (u1 : List (Int)) : Option (List Int) :=
 jn (fun (L4 : List Int) => some L4) fun j7 => p123_r1 k j7 u1 ([] : List Int)
theorem hf123 : Try.prog.funcs[123]? = some Try.f123 := by kernel_rfl
theorem w123 (k : Nat) {M : Mem} {lbu1 : List Value} {u1 : List (Int)} (hu1 : IterE enI Try.prog 124 lbu1 M u1) {r} (h : p123 k u1 = some r) :
  Fn Try.prog 123 [rval (lS none ([] : List Int) 0),rval (.lf (.v (.func (.func 124) #[] (List.toArray lbu1))))] M (fun x M' => ∃ (A1 : Option Addr) (c2 : Nat),x = lS A1 r c2 ∧ SlI M' A1 c2 .i64 r) := by
 unfold p123 at h
 refine FO [lS none ([] : List Int) 0,.lf (.v (.func (.func 124) #[] (List.toArray lbu1)))] hf123 ⟨trivial,⟨trivial,trivial⟩⟩ fun w => ?_
 refine SQ0 (RG ?_)
 refine SG 2 (S4 [(1,.lf (.v (.func (.func 124) #[] (List.toArray lbu1)))),(2,lO 2),(4,lS none ([] : List Int) 0)] [(2,[oS none ([] : List Int) 0])] [] M) ?_
 refine EN ?_
 refine T_turn (turn_nil 5003 3 1 [(1,.lf (.v (.func (.func 124) #[] (List.toArray lbu1)))),(2,lO 2),(4,lS none ([] : List Int) 0)] [(2,[.one (.vec 5003)])] (by kernel_rfl) (by kernel_rfl) (by kernel_rfl)) ?_
 rintro _ rfl
 refine KG (S4 [(1,.lf (.v (.func (.func 124) #[] (List.toArray lbu1)))),(2,lO 2),(4,lS none ([] : List Int) 0)] [(2,[.one (.vec 5003)])] [(5003,vI 3 1 ([] : List Int))] M) ?_
 refine SQ (SQ (RG ?_))
 refine SS 1 [(2,lO 2),(4,lS none ([] : List Int) 0),(6,.lf (.v (.func (.func 124) #[] (List.toArray lbu1))))] ?_
 refine EN (BK 0 ?_)
 refine KS [(2,lO 2),(4,lS none ([] : List Int) 0),(6,.lf (.v (.func (.func 124) #[] (List.toArray lbu1))))] ?_
 obtain ⟨j7,e_j7,h⟩ := jn_some h
 refine T_rangeE enI (p:=7) (g:=6) (gf:=124) (lb:=lbu1) (ks:=u1) [2] (assign:=(sub [1,0,1,0,0] Bd123)) (body:=(sub [1,0,1,0,1] Bd123)) (by kernel_rfl) rfl (by kernel_rfl) (by kernel_rfl) (by kernel_rfl) hu1 (enI_ok _) (by kernel_rfl) (by kernel_rfl) (fun (pre : List (Int)) (H : List (Nat × List Sg)) (V : List (Nat × Vc)) (M' : Mem) => ∃ (L4 : List Int) (rest : List (Int)),pre ++ rest = u1 ∧ H = [(2,[.one (.vec 5003)])] ∧ V = [(5003,vI 3 1 L4)] ∧ Mem.le M M' ∧ p123_r1 k j7 rest L4 = some r) (fun (c : Code) (H : List (Nat × List Sg)) (V : List (Nat × Vc)) (M' : Mem) => False) ⟨([] : List Int),u1,List.nil_append _,rfl,rfl,(Mem.le_refl _),h⟩ ?_ ?_ ?_ ?_
 ·rintro pre H V M' M'' ⟨L4,rest,hks,e1,e2,hM,h⟩ hMM
  exact ⟨L4,rest,hks,e1,e2,(Mem.le_trans hM hMM),h⟩
 ·rintro l O9 bs pr x6 H V M8 ⟨rest5,hrr⟩ ⟨L4,rest0,hks,rfl,rfl,hM8,h⟩
  have hre : rest0 = x6::rest5 := List.append_cancel_left (hks.trans (by rw [← hrr,List.append_assoc]; rfl))
  subst hre
  rw [p123_r1] at h
  refine RG ?_
  refine SG 1 { σ := [(2,lO 2),(4,lS none ([] : List Int) 0),(5,vi x6),(6,.lf (.v (.func (.func 124) #[] (List.toArray lbu1))))],H := [(2,[.one (.vec 5003)])],V := [(5003,vI 3 1 L4)],M := M8,ds := [],os := O9,ats := tiesOf [2] bs } ?_
  refine E0 ?_
  refine ⟨rfl,rfl,rfl,fun O10 => ?_⟩
  refine BK 1 (RG ?_)
  refine SG 2 { σ := [(2,lO 2),(4,lS none ([] : List Int) 0),(6,.lf (.v (.func (.func 124) #[] (List.toArray lbu1)))),(8,lV 5003),(9,vi x6)],H := [(2,[.one (.vec 5003)])],V := [(5003,vI 3 1 L4)],M := M8,ds := [],os := O10,ats := tiesOf [2] bs } ?_
  refine TI_of (i:=2) (by kernel_rfl) (TE_litC (d:=10) (e:=3) (sz:=1) (len:=1) (cs:=ints .i64 ([x6])) (by kernel_rfl) (by kernel_rfl) (by kernel_rfl) ?_)
  obtain ⟨g11,h⟩ := gd_some h
  obtain ⟨W12,e_W12,h⟩ := lt_some h
  refine TI_of (i:=3) (by kernel_rfl) (TE_appC (d:=11) (e:=3) (sz:=1) (bytes:=8) (n:=5003) (x:=(.tmp 10)) (len:=List.length L4) (cs0:=ints .i64 L4) (cs2:=ints .i64 W12) (by subst e_W12;kernel_rfl) (by kernel_rfl) (by subst e_W12;kernel_rfl) (vecI_src (n:=10) (e:=3) (k:=.i64) (L:=[x6]) (by subst e_W12;kernel_rfl) (by subst e_W12;kernel_rfl)) g11 rfl (len_app_eq e_W12) (ints_app_eq e_W12) ?_)
  refine SG 5 { σ := [(2,lO 2),(4,lS none ([] : List Int) 0),(6,.lf (.v (.func (.func 124) #[] (List.toArray lbu1))))],H := [(2,[.one (.vec 11)])],V := [(11,vI 3 1 W12)],M := M8,ds := [],os := O10,ats := tiesOf [2] bs } ?_
  refine E0 (blockQ_n ?_)
  refine ⟨_,Sub.trans (ren_sub 11 5003 (s':={ σ := [],H := [(2,[.one (.vec 5003)])],V := [(5003,vI 3 1 W12)],M := M8,ds := [],os := O10,ats := tiesOf [2] bs }) (by kernel_rfl) (by kernel_rfl)) (keep_sub (s':={ σ := [],H := [(2,[.one (.vec 11)])],V := [(11,vI 3 1 W12)],M := M8,ds := [],os := O10,ats := tiesOf [2] bs }) (ts:=[]) (hs:=[2]) (vs:=[11]) (by kernel_rfl)),rfl,rfl,(Mem.le_refl _),?_⟩
  show (fun (pre : List (Int)) (H : List (Nat × List Sg)) (V : List (Nat × Vc)) (M' : Mem) => ∃ (L4 : List Int) (rest : List (Int)),pre ++ rest = u1 ∧ H = [(2,[.one (.vec 5003)])] ∧ V = [(5003,vI 3 1 L4)] ∧ Mem.le M M' ∧ p123_r1 k j7 rest L4 = some r) (pr ++ [x6]) _ _ _
  exact ⟨W12,rest5,by rw [List.append_assoc]; exact hks,rfl,rfl,(Mem.le_trans (Mem.le_refl _) hM8),h⟩
 ·rintro D H V M8 ⟨L4,rest0,hks,rfl,rfl,hM8,h⟩
  have hre : rest0 = [] := by have := congrArg List.length hks;simp at this;exact this
  subst hre
  rw [p123_r1] at h
  subst e_j7
  refine blockQ_n (thenQ_n (SQ (RG ?_)))
  refine SG 2 { σ := [(4,lV 5003)],H := [],V := [(5003,vI 3 1 L4)],M := M8,ds := [D] } ?_
  refine EN ?_
  refine T_turn (turn_pubV 5003 (v:=vI 3 1 L4) (by kernel_rfl)) ?_
  rintro _ ⟨A13,c14,M15,rfl,hSA13,hcA13,-,hNA13,hM15⟩
  have fA13 : SlI M15 A13 c14 .i64 L4 := ⟨hSA13,hcA13⟩
  refine KG { σ := [(4,lS A13 L4 c14)],H := [],V := [],M := M15,ds := [D] } ?_
  refine RT ?_
  obtain rfl := sj h
  refine fin_retD (lS A13 L4 c14) D (by kernel_rfl) (by kernel_rfl) rfl ?_
  exact ⟨A13,c14,rfl,fA13⟩
 ·intro D c H V M' hI
  exact hI.elim
def p78 (k : Nat) (u0 : List (Int)) : Option (List Int) :=
 cl (p123 k u0) fun v3 => some v3
theorem hf78 : Try.prog.funcs[78]? = some Try.f78 := by kernel_rfl
theorem w78 (k : Nat) {M : Mem} {lbu0 : List Value} {u0 : List (Int)} (hu0 : IterE enI Try.prog 124 lbu0 M u0) {r} (h : p78 k u0 = some r) :
  Fn Try.prog 78 [rval (.lf (.v (.func (.func 124) #[] (List.toArray lbu0))))] M (fun x M' => ∃ (A1 : Option Addr) (c2 : Nat),x = lS A1 r c2 ∧ SlI M' A1 c2 .i64 r) := by
 unfold p78 at h
 refine FO [.lf (.v (.func (.func 124) #[] (List.toArray lbu0)))] hf78 ⟨trivial,trivial⟩ fun w => ?_
 refine SQ0 (RG ?_)
 refine SG 1 (S4 [(0,.lf (.v (.func (.func 124) #[] (List.toArray lbu0))))] [] [] M) ?_
 refine EN (SQ (RG ?_))
 refine SS 1 [(3,.lf (.v (.func (.func 124) #[] (List.toArray lbu0))))] ?_
 obtain ⟨v3,c_v3,h⟩ := cl_some h
 refine TI_of (i:=1) (by kernel_rfl) (TE_callR (d:=4) (f:=123) (args:=[rval (lS none ([] : List Int) 0),rval (.lf (.v (.func (.func 124) #[] (List.toArray lbu0))))]) (by kernel_rfl) (by kernel_rfl) (w123 k hu0 c_v3) ?_)
 rintro _ M6 _ hM6 _ ⟨A4,c5,rfl,fA4⟩
 refine SG 3 (S4 [(2,lS A4 v3 c5)] [] [] M6) ?_
 refine EN (RT ?_)
 obtain rfl := sj h
 refine FT (lS A4 v3 c5) ?_
 exact ⟨A4,c5,rfl,fA4⟩
end Go.Proofs.Ythniebmammmacaa
namespace Go.Proofs.Ythniebmammmacaa
open Go.RowKit
def p81 (k : Nat) (u0 : List Int) (u1G : Int) (u2G : List Int) : Option Bool :=
 jn (fun (b1 : Bool) => some b1) fun j2 => lt' (List.getD u0 0 0) fun x3 => lt' (x3 == u1G) fun b4 => sp b4 (gd ((0 : Int) ≤ u1G ∧ u1G < (u2G.length : Int)) <| lt' (List.getD u2G ((u1G).toNat) 0) fun x6 => lt' (List.getD u0 2 0) fun x7 => lt' (List.getD u0 1 0) fun x8 => gd ((0 : Int) ≤ x8 ∧ x8 < (u2G.length : Int)) <| lt' (List.getD u2G ((x8).toNat) 0) fun x10 => lt' (wr .i64 (x7 + x10)) fun x11 => lt' (x6 == x11) fun b12 => j2 b12) (j2 false)
theorem hf81 : Try.prog.funcs[81]? = some Try.f81 := by kernel_rfl
theorem w81 (k : Nat) {M : Mem} {bu1 cu2G bu2 : Nat} {Au2G : Option Addr} {u0 u2G : List Int} {u1G : Int} (hu0 : u0.length = 12) (hbu1 : MB M bu1 [oI u1G]) (hu2G : SlI M Au2G cu2G .i64 u2G) (hbu2 : MB M bu2 [oS Au2G u2G cu2G]) {r} (h : p81 k u0 u1G u2G = some r) :
  Fn Try.prog 81 [rval (.agg [.arr .i64 12 u0]),rval (lP bu1),rval (lP bu2)] M (fun x _ => x = vb r) := by
 unfold p81 at h
 refine FO [.agg [.arr .i64 12 u0],lP bu1,lP bu2] hf81 ⟨⟨hu0,trivial⟩,⟨trivial,⟨trivial,trivial⟩⟩⟩ fun w => ?_
 refine SQ0 (RG ?_)
 refine SG 2 (S4 [(1,lP bu1),(2,lP bu2),(3,lO 3)] [(3,[.arr .i64 12 u0])] [] M) ?_
 refine EN ?_
 obtain ⟨j2,e_j2,h⟩ := jn_some h
 refine T_cut (c1:=(sub [1,0] Bd81)) (c2:=(sub [1,1] Bd81)) (fun s' => ∃ (b1 : Bool),Sub { σ := [(4,vb b1)],H := [],V := [],M := M,ds := [] } s' ∧ j2 b1 = some r) (by kernel_rfl) ?_ ?_
 ·obtain ⟨x3,e_x3,h⟩ := lt_some h
  obtain ⟨b4,e_b4,h⟩ := lt_some h
  cases b4 with
  | true =>
   replace h := sp_t h
   obtain ⟨g5,h⟩ := gd_some h
   obtain ⟨x6,e_x6,h⟩ := lt_some h
   obtain ⟨x7,e_x7,h⟩ := lt_some h
   obtain ⟨x8,e_x8,h⟩ := lt_some h
   obtain ⟨g9,h⟩ := gd_some h
   obtain ⟨x10,e_x10,h⟩ := lt_some h
   obtain ⟨x11,e_x11,h⟩ := lt_some h
   obtain ⟨b12,e_b12,h⟩ := lt_some h
   refine T_draw' (id:=1) [] [0,0,0,0,0,0,0,0,0,0,0,0,0,0,0,0,0,0,0,0] (by kernel_rfl) (by kernel_rfl) (by kernel_rfl) (by kernel_rfl) [(5,lO 3),(6,vi x3),(7,vi u1G),(8,vb true),(9,vb true),(10,lS Au2G u2G cu2G),(11,vi u1G),(12,.lf (.ep (.slice Au2G (u2G.length) cu2G) 1 ((u1G).toNat) 0)),(13,vi x6),(14,.lf (.own 3 2)),(15,vi x7),(16,lS Au2G u2G cu2G),(17,.lf (.own 3 1)),(18,vi x8),(19,.lf (.ep (.slice Au2G (u2G.length) cu2G) 1 ((x8).toNat) 0)),(20,vi x10),(21,vi x11),(22,vb b12),(23,vb b12),(4,vb b12)] (by kernel_rfl) (wfs_lf _ (by kernel_rfl)) ?_
   refine Stage_nil (stage_all' [0,1,4,9,10,12,13,16,17,18,19] [2,3,5,6,7,8,11,14,15] (by kernel_rfl) (by subst_vars; kernel_rfl) (by kernel_rfl) ⟨QF_at (i:=2) (d:=7) (x:=vi u1G) (show OpAt _ _ _ 2 7 _ from by exact At_ldP (d:=7) (b:=bu1) (off:=0) (m:=1) (v:=(.int .i64 u1G)) (by subst_vars; kernel_rfl) (cell_blk hbu1 ⟨rfl,trivial⟩ (by kernel_rfl))) (by kernel_rfl) (by subst_vars; kernel_rfl),⟨QF_at (i:=3) (d:=8) (x:=vb true) (show OpAt _ _ _ 3 8 _ from by exact At_bin (d:=8) (b:=.eql) (u:=.int .i64 x3) (v:=.int .i64 u1G) (w':=.bool true) (by subst_vars; kernel_rfl) (by rw [show exBin .eql (.int .i64 x3) (.int .i64 u1G) = some (.bool (x3 == u1G)) from by kernel_rfl,← e_b4])) (by kernel_rfl) (by subst_vars; kernel_rfl),⟨QF_at (i:=5) (d:=10) (x:=lS Au2G u2G cu2G) (show OpAt _ _ _ 5 10 _ from by exact At_ldP (d:=10) (b:=bu2) (off:=0) (m:=1) (v:=(.slice Au2G (u2G.length) cu2G)) (by subst_vars; kernel_rfl) (cell_blk hbu2 ⟨rfl,trivial⟩ (by kernel_rfl))) (by kernel_rfl) (by subst_vars; kernel_rfl),⟨QF_at (i:=6) (d:=11) (x:=vi u1G) (show OpAt _ _ _ 6 11 _ from by exact At_ldP (d:=11) (b:=bu1) (off:=0) (m:=1) (v:=(.int .i64 u1G)) (by subst_vars; kernel_rfl) (cell_blk hbu1 ⟨rfl,trivial⟩ (by kernel_rfl))) (by kernel_rfl) (by subst_vars; kernel_rfl),⟨QF_at (i:=7) (d:=12) (x:=.lf (.ep (.slice Au2G (u2G.length) cu2G) 1 ((u1G).toNat) 0)) (show OpAt _ _ _ 7 12 _ from by exact At_idxI (d:=12) (z:=u1G) (by subst_vars; kernel_rfl) g5 hu2G) (by kernel_rfl) (by subst_vars; kernel_rfl),⟨QF_at (i:=8) (d:=13) (x:=vi x6) (show OpAt _ _ _ 8 13 _ from by rw [e_x6]; exact At_ldI (d:=13) (q:=(u1G).toNat) (by subst_vars; kernel_rfl) (toNat_lt g5) hu2G) (by kernel_rfl) (by subst_vars; kernel_rfl),⟨QF_at (i:=11) (d:=16) (x:=lS Au2G u2G cu2G) (show OpAt _ _ _ 11 16 _ from by exact At_ldP (d:=16) (b:=bu2) (off:=0) (m:=1) (v:=(.slice Au2G (u2G.length) cu2G)) (by subst_vars; kernel_rfl) (cell_blk hbu2 ⟨rfl,trivial⟩ (by kernel_rfl))) (by kernel_rfl) (by subst_vars; kernel_rfl),⟨QF_at (i:=14) (d:=19) (x:=.lf (.ep (.slice Au2G (u2G.length) cu2G) 1 ((x8).toNat) 0)) (show OpAt _ _ _ 14 19 _ from by exact At_idxI (d:=19) (z:=x8) (by subst_vars; kernel_rfl) g9 hu2G) (by kernel_rfl) (by subst_vars; kernel_rfl),⟨QF_at (i:=15) (d:=20) (x:=vi x10) (show OpAt _ _ _ 15 20 _ from by rw [e_x10]; exact At_ldI (d:=20) (q:=(x8).toNat) (by subst_vars; kernel_rfl) (toNat_lt g9) hu2G) (by kernel_rfl) (by subst_vars; kernel_rfl),trivial⟩⟩⟩⟩⟩⟩⟩⟩⟩) ?_
   refine thenQ_n ?_
   exact ⟨b12,keep_sub (ts:=[4]) (hs:=[]) (vs:=[]) (by subst_vars;kernel_rfl),h⟩
  | false =>
   replace h := sp_f h
   refine T_draw' (id:=1) [] [0,0,0,0,0,0,0,0,0,0,0,0,0,0,0,0,0,0,0,0] (by kernel_rfl) (by kernel_rfl) (by kernel_rfl) (by kernel_rfl) [(5,lO 3),(6,vi x3),(7,vi u1G),(8,vb false),(9,vb false),(10,.tup []),(11,.tup []),(12,.tup []),(13,.tup []),(14,.tup []),(15,.tup []),(16,.tup []),(17,.tup []),(18,.tup []),(19,.tup []),(20,.tup []),(21,.tup []),(22,.tup []),(23,vb false),(4,vb false)] (by kernel_rfl) ⟨trivial,⟨trivial,⟨trivial,⟨trivial,⟨trivial,⟨(by intro y hy;cases hy),⟨(by intro y hy;cases hy),⟨(by intro y hy;cases hy),⟨(by intro y hy;cases hy),⟨(by intro y hy;cases hy),⟨(by intro y hy;cases hy),⟨(by intro y hy;cases hy),⟨(by intro y hy;cases hy),⟨(by intro y hy;cases hy),⟨(by intro y hy;cases hy),⟨(by intro y hy;cases hy),⟨(by intro y hy;cases hy),⟨(by intro y hy;cases hy),⟨trivial,⟨trivial,trivial⟩⟩⟩⟩⟩⟩⟩⟩⟩⟩⟩⟩⟩⟩⟩⟩⟩⟩⟩⟩ ?_
   refine Stage_nil (stage_all' [0,1,4,5,6,7,8,9,10,11,12,13,14,15,16,17,18,19] [2,3] (by kernel_rfl) (by subst e_x3;kernel_rfl) (by kernel_rfl) ⟨QF_at (i:=2) (d:=7) (x:=vi u1G) (show OpAt _ _ _ 2 7 _ from by exact At_ldP (d:=7) (b:=bu1) (off:=0) (m:=1) (v:=(.int .i64 u1G)) (by subst e_x3;kernel_rfl) (cell_blk hbu1 ⟨rfl,trivial⟩ (by kernel_rfl))) (by kernel_rfl) (by subst e_x3;kernel_rfl),⟨QF_at (i:=3) (d:=8) (x:=vb false) (show OpAt _ _ _ 3 8 _ from by exact At_bin (d:=8) (b:=.eql) (u:=.int .i64 x3) (v:=.int .i64 u1G) (w':=.bool false) (by subst e_x3;kernel_rfl) (by rw [show exBin .eql (.int .i64 x3) (.int .i64 u1G) = some (.bool (x3 == u1G)) from by kernel_rfl,← e_b4])) (by kernel_rfl) (by subst e_x3;kernel_rfl),trivial⟩⟩) ?_
   refine thenQ_n ?_
   exact ⟨false,keep_sub (ts:=[4]) (hs:=[]) (vs:=[]) (by subst e_x3;kernel_rfl),h⟩
 ·rintro s' ⟨b1,hsub,h⟩
  subst e_j2
  refine T_sub hsub ?_
  refine RT ?_
  obtain rfl := sj h
  exact FT (vb b1) rfl
def p82 (k : Nat) (u0 : List Int) (u1G : Int) (u2G : List Int) : Option Bool :=
 jn (fun (b1 : Bool) => some b1) fun j2 => lt' (List.getD u0 0 0) fun x3 => lt' (x3 == u1G) fun b4 => sp b4 (gd ((0 : Int) ≤ u1G ∧ u1G < (u2G.length : Int)) <| lt' (List.getD u2G ((u1G).toNat) 0) fun x6 => lt' (List.getD u0 2 0) fun x7 => lt' (List.getD u0 1 0) fun x8 => gd ((0 : Int) ≤ x8 ∧ x8 < (u2G.length : Int)) <| lt' (List.getD u2G ((x8).toNat) 0) fun x10 => lt' (wr .i64 (x7 + x10)) fun x11 => lt' (x6 == x11) fun b12 => j2 b12) (j2 false)
theorem hf82 : Try.prog.funcs[82]? = some Try.f82 := by kernel_rfl
theorem w82 (k : Nat) {M : Mem} {bu1 cu2G bu2 : Nat} {Au2G : Option Addr} {u0 u2G : List Int} {u1G : Int} (hu0 : u0.length = 12) (hbu1 : MB M bu1 [oI u1G]) (hu2G : SlI M Au2G cu2G .i64 u2G) (hbu2 : MB M bu2 [oS Au2G u2G cu2G]) {r} (h : p82 k u0 u1G u2G = some r) :
  Fn Try.prog 82 [rval (.agg [.arr .i64 12 u0]),rval (lP bu1),rval (lP bu2)] M (fun x _ => x = vb r) := by
 unfold p82 at h
 refine FO [.agg [.arr .i64 12 u0],lP bu1,lP bu2] hf82 ⟨⟨hu0,trivial⟩,⟨trivial,⟨trivial,trivial⟩⟩⟩ fun w => ?_
 refine SQ0 (RG ?_)
 refine SG 2 (S4 [(1,lP bu1),(2,lP bu2),(3,lO 3)] [(3,[.arr .i64 12 u0])] [] M) ?_
 refine EN ?_
 obtain ⟨j2,e_j2,h⟩ := jn_some h
 refine T_cut (c1:=(sub [1,0] Bd82)) (c2:=(sub [1,1] Bd82)) (fun s' => ∃ (b1 : Bool),Sub { σ := [(4,vb b1)],H := [],V := [],M := M,ds := [] } s' ∧ j2 b1 = some r) (by kernel_rfl) ?_ ?_
 ·obtain ⟨x3,e_x3,h⟩ := lt_some h
  obtain ⟨b4,e_b4,h⟩ := lt_some h
  cases b4 with
  | true =>
   replace h := sp_t h
   obtain ⟨g5,h⟩ := gd_some h
   obtain ⟨x6,e_x6,h⟩ := lt_some h
   obtain ⟨x7,e_x7,h⟩ := lt_some h
   obtain ⟨x8,e_x8,h⟩ := lt_some h
   obtain ⟨g9,h⟩ := gd_some h
   obtain ⟨x10,e_x10,h⟩ := lt_some h
   obtain ⟨x11,e_x11,h⟩ := lt_some h
   obtain ⟨b12,e_b12,h⟩ := lt_some h
   refine T_draw' (id:=1) [] [0,0,0,0,0,0,0,0,0,0,0,0,0,0,0,0,0,0,0,0] (by kernel_rfl) (by kernel_rfl) (by kernel_rfl) (by kernel_rfl) [(5,lO 3),(6,vi x3),(7,vi u1G),(8,vb true),(9,vb true),(10,lS Au2G u2G cu2G),(11,vi u1G),(12,.lf (.ep (.slice Au2G (u2G.length) cu2G) 1 ((u1G).toNat) 0)),(13,vi x6),(14,.lf (.own 3 2)),(15,vi x7),(16,lS Au2G u2G cu2G),(17,.lf (.own 3 1)),(18,vi x8),(19,.lf (.ep (.slice Au2G (u2G.length) cu2G) 1 ((x8).toNat) 0)),(20,vi x10),(21,vi x11),(22,vb b12),(23,vb b12),(4,vb b12)] (by kernel_rfl) (wfs_lf _ (by kernel_rfl)) ?_
   refine Stage_nil (stage_all' [0,1,4,9,10,12,13,16,17,18,19] [2,3,5,6,7,8,11,14,15] (by kernel_rfl) (by subst_vars; kernel_rfl) (by kernel_rfl) ⟨QF_at (i:=2) (d:=7) (x:=vi u1G) (show OpAt _ _ _ 2 7 _ from by exact At_ldP (d:=7) (b:=bu1) (off:=0) (m:=1) (v:=(.int .i64 u1G)) (by subst_vars; kernel_rfl) (cell_blk hbu1 ⟨rfl,trivial⟩ (by kernel_rfl))) (by kernel_rfl) (by subst_vars; kernel_rfl),⟨QF_at (i:=3) (d:=8) (x:=vb true) (show OpAt _ _ _ 3 8 _ from by exact At_bin (d:=8) (b:=.eql) (u:=.int .i64 x3) (v:=.int .i64 u1G) (w':=.bool true) (by subst_vars; kernel_rfl) (by rw [show exBin .eql (.int .i64 x3) (.int .i64 u1G) = some (.bool (x3 == u1G)) from by kernel_rfl,← e_b4])) (by kernel_rfl) (by subst_vars; kernel_rfl),⟨QF_at (i:=5) (d:=10) (x:=lS Au2G u2G cu2G) (show OpAt _ _ _ 5 10 _ from by exact At_ldP (d:=10) (b:=bu2) (off:=0) (m:=1) (v:=(.slice Au2G (u2G.length) cu2G)) (by subst_vars; kernel_rfl) (cell_blk hbu2 ⟨rfl,trivial⟩ (by kernel_rfl))) (by kernel_rfl) (by subst_vars; kernel_rfl),⟨QF_at (i:=6) (d:=11) (x:=vi u1G) (show OpAt _ _ _ 6 11 _ from by exact At_ldP (d:=11) (b:=bu1) (off:=0) (m:=1) (v:=(.int .i64 u1G)) (by subst_vars; kernel_rfl) (cell_blk hbu1 ⟨rfl,trivial⟩ (by kernel_rfl))) (by kernel_rfl) (by subst_vars; kernel_rfl),⟨QF_at (i:=7) (d:=12) (x:=.lf (.ep (.slice Au2G (u2G.length) cu2G) 1 ((u1G).toNat) 0)) (show OpAt _ _ _ 7 12 _ from by exact At_idxI (d:=12) (z:=u1G) (by subst_vars; kernel_rfl) g5 hu2G) (by kernel_rfl) (by subst_vars; kernel_rfl),⟨QF_at (i:=8) (d:=13) (x:=vi x6) (show OpAt _ _ _ 8 13 _ from by rw [e_x6]; exact At_ldI (d:=13) (q:=(u1G).toNat) (by subst_vars; kernel_rfl) (toNat_lt g5) hu2G) (by kernel_rfl) (by subst_vars; kernel_rfl),⟨QF_at (i:=11) (d:=16) (x:=lS Au2G u2G cu2G) (show OpAt _ _ _ 11 16 _ from by exact At_ldP (d:=16) (b:=bu2) (off:=0) (m:=1) (v:=(.slice Au2G (u2G.length) cu2G)) (by subst_vars; kernel_rfl) (cell_blk hbu2 ⟨rfl,trivial⟩ (by kernel_rfl))) (by kernel_rfl) (by subst_vars; kernel_rfl),⟨QF_at (i:=14) (d:=19) (x:=.lf (.ep (.slice Au2G (u2G.length) cu2G) 1 ((x8).toNat) 0)) (show OpAt _ _ _ 14 19 _ from by exact At_idxI (d:=19) (z:=x8) (by subst_vars; kernel_rfl) g9 hu2G) (by kernel_rfl) (by subst_vars; kernel_rfl),⟨QF_at (i:=15) (d:=20) (x:=vi x10) (show OpAt _ _ _ 15 20 _ from by rw [e_x10]; exact At_ldI (d:=20) (q:=(x8).toNat) (by subst_vars; kernel_rfl) (toNat_lt g9) hu2G) (by kernel_rfl) (by subst_vars; kernel_rfl),trivial⟩⟩⟩⟩⟩⟩⟩⟩⟩) ?_
   refine thenQ_n ?_
   exact ⟨b12,keep_sub (ts:=[4]) (hs:=[]) (vs:=[]) (by subst_vars;kernel_rfl),h⟩
  | false =>
   replace h := sp_f h
   refine T_draw' (id:=1) [] [0,0,0,0,0,0,0,0,0,0,0,0,0,0,0,0,0,0,0,0] (by kernel_rfl) (by kernel_rfl) (by kernel_rfl) (by kernel_rfl) [(5,lO 3),(6,vi x3),(7,vi u1G),(8,vb false),(9,vb false),(10,.tup []),(11,.tup []),(12,.tup []),(13,.tup []),(14,.tup []),(15,.tup []),(16,.tup []),(17,.tup []),(18,.tup []),(19,.tup []),(20,.tup []),(21,.tup []),(22,.tup []),(23,vb false),(4,vb false)] (by kernel_rfl) ⟨trivial,⟨trivial,⟨trivial,⟨trivial,⟨trivial,⟨(by intro y hy;cases hy),⟨(by intro y hy;cases hy),⟨(by intro y hy;cases hy),⟨(by intro y hy;cases hy),⟨(by intro y hy;cases hy),⟨(by intro y hy;cases hy),⟨(by intro y hy;cases hy),⟨(by intro y hy;cases hy),⟨(by intro y hy;cases hy),⟨(by intro y hy;cases hy),⟨(by intro y hy;cases hy),⟨(by intro y hy;cases hy),⟨(by intro y hy;cases hy),⟨trivial,⟨trivial,trivial⟩⟩⟩⟩⟩⟩⟩⟩⟩⟩⟩⟩⟩⟩⟩⟩⟩⟩⟩⟩ ?_
   refine Stage_nil (stage_all' [0,1,4,5,6,7,8,9,10,11,12,13,14,15,16,17,18,19] [2,3] (by kernel_rfl) (by subst e_x3;kernel_rfl) (by kernel_rfl) ⟨QF_at (i:=2) (d:=7) (x:=vi u1G) (show OpAt _ _ _ 2 7 _ from by exact At_ldP (d:=7) (b:=bu1) (off:=0) (m:=1) (v:=(.int .i64 u1G)) (by subst e_x3;kernel_rfl) (cell_blk hbu1 ⟨rfl,trivial⟩ (by kernel_rfl))) (by kernel_rfl) (by subst e_x3;kernel_rfl),⟨QF_at (i:=3) (d:=8) (x:=vb false) (show OpAt _ _ _ 3 8 _ from by exact At_bin (d:=8) (b:=.eql) (u:=.int .i64 x3) (v:=.int .i64 u1G) (w':=.bool false) (by subst e_x3;kernel_rfl) (by rw [show exBin .eql (.int .i64 x3) (.int .i64 u1G) = some (.bool (x3 == u1G)) from by kernel_rfl,← e_b4])) (by kernel_rfl) (by subst e_x3;kernel_rfl),trivial⟩⟩) ?_
   refine thenQ_n ?_
   exact ⟨false,keep_sub (ts:=[4]) (hs:=[]) (vs:=[]) (by subst e_x3;kernel_rfl),h⟩
 ·rintro s' ⟨b1,hsub,h⟩
  subst e_j2
  refine T_sub hsub ?_
  refine RT ?_
  obtain rfl := sj h
  exact FT (vb b1) rfl
def p80a_l1 (k : Nat) (u0 : List (List Int)) (u1Y : Int) (u1Z : List Int) (j1 : Option Int) : Nat → Int → Option Int
 | 0,_ => none
 | n3 + 1,x2 => lt' (decide (x2 < (u0.length : Int))) fun b4 => sp b4 (gd ((0 : Int) ≤ x2 ∧ x2 < (u0.length : Int)) <| lt' (List.getD u0 ((x2).toNat) []) fun L6 => cl (p81 k L6 u1Y u1Z) fun v7 => sp v7 (some x2) (lt' (wr .i64 (x2 + (1 : Int))) fun x8 => p80a_l1 k u0 u1Y u1Z j1 n3 x8)) (j1)
def p80a (k : Nat) (u0 : List (List Int)) (u1Y : Int) (u1Z : List Int) : Option Int :=
 jn (some (-1 : Int)) fun j1 => p80a_l1 k u0 u1Y u1Z j1 k (0 : Int)
theorem hf80a : Try.prog.funcs[80]? = some Try.f80 := by kernel_rfl
theorem w80a (k : Nat) {M : Mem} {Au0 Au1Z : Option Addr} {cu0 bu1C cu1Z bu1D : Nat} {u0 : List (List Int)} {u1Y : Int} {u1Z : List Int} (hu0 : SlR M Au0 cu0 .i64 12 u0) (hbu1C : MB M bu1C [oI u1Y]) (hu1Z : SlI M Au1Z cu1Z .i64 u1Z) (hbu1D : MB M bu1D [oS Au1Z u1Z cu1Z]) {r} (h : p80a k u0 u1Y u1Z = some r) :
  Fn Try.prog 80 [rval (lS Au0 u0 cu0),rval (.lf (.v (.func (.func 81) #[] #[(.pointer (some ⟨bu1C,0,none⟩)),(.pointer (some ⟨bu1D,0,none⟩))])))] M (fun x _ => x = vi r) := by
 unfold p80a at h
 refine FO [lS Au0 u0 cu0,.lf (.v (.func (.func 81) #[] #[(.pointer (some ⟨bu1C,0,none⟩)),(.pointer (some ⟨bu1D,0,none⟩))]))] hf80a ⟨trivial,⟨trivial,trivial⟩⟩ fun w => ?_
 refine SQ0 (RG ?_)
 refine SG 1 (S4 [(0,lS Au0 u0 cu0),(1,.lf (.v (.func (.func 81) #[] #[(.pointer (some ⟨bu1C,0,none⟩)),(.pointer (some ⟨bu1D,0,none⟩))])))] [] [] M) ?_
 refine EN (SQ (SQ (RG ?_)))
 refine SS 3 [(0,lS Au0 u0 cu0),(1,.lf (.v (.func (.func 81) #[] #[(.pointer (some ⟨bu1C,0,none⟩)),(.pointer (some ⟨bu1D,0,none⟩))]))),(7,vi (u0.length : Int)),(8,vi (0 : Int))] ?_
 refine EN ?_
 obtain ⟨j1,e_j1,h⟩ := jn_some h
 refine T_bcut (id:=0) (c1:=(sub [1,0,1,0] Bd80)) (fun s' => Sub { σ := [],H := [],V := [],M := M,ds := [] } s' ∧ j1 = some r) (by kernel_rfl) ?_ ?_
 ·refine T_loop (c1:=(sub [1,0,1,0,0] Bd80)) (by kernel_rfl) (fun n3 s' => ∃ (x2 : Int),Sub { σ := [(0,lS Au0 u0 cu0),(1,.lf (.v (.func (.func 81) #[] #[(.pointer (some ⟨bu1C,0,none⟩)),(.pointer (some ⟨bu1D,0,none⟩))]))),(7,vi (u0.length : Int)),(8,vi x2)],H := [],V := [],M := M,ds := [] } s' ∧ p80a_l1 k u0 u1Y u1Z j1 n3 x2 = some r) (k:=k) ⟨(0 : Int),keep_sub (ts:=[0,1,7,8]) (hs:=[]) (vs:=[]) (by kernel_rfl),h⟩ ?_
  rintro n3 s' ⟨x2,hsub,h⟩
  cases n3 with
  | zero => rw [p80a_l1] at h;cases h
  | succ n3 =>
   rw [p80a_l1] at h
   refine T_sub hsub ?_
   refine SQ (RG ?_)
   obtain ⟨b4,e_b4,h⟩ := lt_some h
   refine SG 1 (S4 [(0,lS Au0 u0 cu0),(1,.lf (.v (.func (.func 81) #[] #[(.pointer (some ⟨bu1C,0,none⟩)),(.pointer (some ⟨bu1D,0,none⟩))]))),(7,vi (u0.length : Int)),(8,vi x2),(9,vb b4)] [] [] M) ?_ (by subst e_b4;kernel_rfl)
   refine EN (SQ ?_)
   cases b4 with
   | true =>
    replace h := sp_t h
    refine CT ?_
    refine KS [(0,lS Au0 u0 cu0),(1,.lf (.v (.func (.func 81) #[] #[(.pointer (some ⟨bu1C,0,none⟩)),(.pointer (some ⟨bu1D,0,none⟩))]))),(7,vi (u0.length : Int)),(8,vi x2)] ?_
    refine SN (SQ (BK 1 (SQ (RG ?_))))
    refine SS 2 [(0,lS Au0 u0 cu0),(1,.lf (.v (.func (.func 81) #[] #[(.pointer (some ⟨bu1C,0,none⟩)),(.pointer (some ⟨bu1D,0,none⟩))]))),(5,vi x2),(7,vi (u0.length : Int)),(8,vi x2)] ?_
    refine EN (SQ (RG ?_))
    refine SS 3 [(0,lS Au0 u0 cu0),(1,.lf (.v (.func (.func 81) #[] #[(.pointer (some ⟨bu1C,0,none⟩)),(.pointer (some ⟨bu1D,0,none⟩))]))),(5,vi x2),(7,vi (u0.length : Int)),(8,vi x2),(11,.lf (.v (.func (.func 81) #[] #[(.pointer (some ⟨bu1C,0,none⟩)),(.pointer (some ⟨bu1D,0,none⟩))]))),(12,lS Au0 u0 cu0),(13,vi x2)] ?_
    obtain ⟨g5,h⟩ := gd_some h
    refine AT 14 (.lf (.ep (.slice Au0 (u0.length) cu0) 12 ((x2).toNat) 0)) (At_idxR (z:=x2) (by kernel_rfl) g5 hu0) ?_
    obtain ⟨L6,e_L6,h⟩ := lt_some h
    have l_L6 : (L6).length = 12 := by rw [e_L6]; exact SlR_row hu0 (toNat_lt g5)
    refine AT 15 (.agg [.arr .i64 12 L6]) (by rw [e_L6]; exact At_ldRow (q:=(x2).toNat) (by subst e_L6; kernel_rfl) (toNat_lt g5) hu0) ?_ (hx:=⟨l_L6,trivial⟩)
    obtain ⟨v7,c_v7,h⟩ := cl_some h
    refine AC 16 (vb v7) (w81 k l_L6 hbu1C hu1Z hbu1D c_v7) ?_
    refine SH 6 [(0,lS Au0 u0 cu0),(1,.lf (.v (.func (.func 81) #[] #[(.pointer (some ⟨bu1C,0,none⟩)),(.pointer (some ⟨bu1D,0,none⟩))]))),(5,vi x2),(7,vi (u0.length : Int)),(8,vi x2),(16,vb v7)] [] ?_
    refine EN ?_
    cases v7 with
    | true =>
     replace h := sp_t h
     refine CT ?_
     refine KS [(5,vi x2)] ?_
     refine SQ (RG ?_)
     refine SS 2 [(4,vi x2)] ?_
     refine EN (RT (blockQ_r (thenQ_r (thenQ_r (blockQ_r (thenQ_r (thenQ_r ?_)))))))
     obtain rfl := sj h
     exact FT (vi x2) rfl
    | false =>
     replace h := sp_f h
     refine CF ?_
     refine KS [(0,lS Au0 u0 cu0),(1,.lf (.v (.func (.func 81) #[] #[(.pointer (some ⟨bu1C,0,none⟩)),(.pointer (some ⟨bu1D,0,none⟩))]))),(7,vi (u0.length : Int)),(8,vi x2)] ?_
     refine S0 (blockQ_n (thenQ_n (RG ?_)))
     obtain ⟨x8,e_x8,h⟩ := lt_some h
     refine SS 2 [(0,lS Au0 u0 cu0),(1,.lf (.v (.func (.func 81) #[] #[(.pointer (some ⟨bu1C,0,none⟩)),(.pointer (some ⟨bu1D,0,none⟩))]))),(7,vi (u0.length : Int)),(8,vi x8)] ?_ (by subst e_x8;kernel_rfl)
     refine EN ?_
     exact ⟨n3,Nat.lt_succ_self _,x8,keep_sub (ts:=[0,1,7,8]) (hs:=[]) (vs:=[]) (by kernel_rfl),h⟩
   | false =>
    replace h := sp_f h
    refine CF ?_
    refine KS [] ?_
    refine XI 0 (thenQ_x (thenQ_x (blockQ_x (thenQ_n ?_))))
    exact ⟨keep_sub (ts:=[]) (hs:=[]) (vs:=[]) (by kernel_rfl),h⟩
 ·rintro s' ⟨hsub,h⟩
  subst e_j1
  refine thenQ_n ?_
  refine T_sub hsub ?_
  refine SQ (RG ?_)
  refine SG 1 (S4 [(4,vi (-1 : Int))] [] [] M) ?_
  refine EN (RT ?_)
  obtain rfl := sj h
  exact FT (vi (-1 : Int)) rfl
def p80b_l1 (k : Nat) (u0 : List (List Int)) (u1Y : Int) (u1Z : List Int) (j1 : Option Int) : Nat → Int → Option Int
 | 0,_ => none
 | n3 + 1,x2 => lt' (decide (x2 < (u0.length : Int))) fun b4 => sp b4 (gd ((0 : Int) ≤ x2 ∧ x2 < (u0.length : Int)) <| lt' (List.getD u0 ((x2).toNat) []) fun L6 => cl (p82 k L6 u1Y u1Z) fun v7 => sp v7 (some x2) (lt' (wr .i64 (x2 + (1 : Int))) fun x8 => p80b_l1 k u0 u1Y u1Z j1 n3 x8)) (j1)
def p80b (k : Nat) (u0 : List (List Int)) (u1Y : Int) (u1Z : List Int) : Option Int :=
 jn (some (-1 : Int)) fun j1 => p80b_l1 k u0 u1Y u1Z j1 k (0 : Int)
theorem hf80b : Try.prog.funcs[80]? = some Try.f80 := by kernel_rfl
theorem w80b (k : Nat) {M : Mem} {Au0 Au1Z : Option Addr} {cu0 bu1C cu1Z bu1D : Nat} {u0 : List (List Int)} {u1Y : Int} {u1Z : List Int} (hu0 : SlR M Au0 cu0 .i64 12 u0) (hbu1C : MB M bu1C [oI u1Y]) (hu1Z : SlI M Au1Z cu1Z .i64 u1Z) (hbu1D : MB M bu1D [oS Au1Z u1Z cu1Z]) {r} (h : p80b k u0 u1Y u1Z = some r) :
  Fn Try.prog 80 [rval (lS Au0 u0 cu0),rval (.lf (.v (.func (.func 82) #[] #[(.pointer (some ⟨bu1C,0,none⟩)),(.pointer (some ⟨bu1D,0,none⟩))])))] M (fun x _ => x = vi r) := by
 unfold p80b at h
 refine FO [lS Au0 u0 cu0,.lf (.v (.func (.func 82) #[] #[(.pointer (some ⟨bu1C,0,none⟩)),(.pointer (some ⟨bu1D,0,none⟩))]))] hf80b ⟨trivial,⟨trivial,trivial⟩⟩ fun w => ?_
 refine SQ0 (RG ?_)
 refine SG 1 (S4 [(0,lS Au0 u0 cu0),(1,.lf (.v (.func (.func 82) #[] #[(.pointer (some ⟨bu1C,0,none⟩)),(.pointer (some ⟨bu1D,0,none⟩))])))] [] [] M) ?_
 refine EN (SQ (SQ (RG ?_)))
 refine SS 3 [(0,lS Au0 u0 cu0),(1,.lf (.v (.func (.func 82) #[] #[(.pointer (some ⟨bu1C,0,none⟩)),(.pointer (some ⟨bu1D,0,none⟩))]))),(7,vi (u0.length : Int)),(8,vi (0 : Int))] ?_
 refine EN ?_
 obtain ⟨j1,e_j1,h⟩ := jn_some h
 refine T_bcut (id:=0) (c1:=(sub [1,0,1,0] Bd80)) (fun s' => Sub { σ := [],H := [],V := [],M := M,ds := [] } s' ∧ j1 = some r) (by kernel_rfl) ?_ ?_
 ·refine T_loop (c1:=(sub [1,0,1,0,0] Bd80)) (by kernel_rfl) (fun n3 s' => ∃ (x2 : Int),Sub { σ := [(0,lS Au0 u0 cu0),(1,.lf (.v (.func (.func 82) #[] #[(.pointer (some ⟨bu1C,0,none⟩)),(.pointer (some ⟨bu1D,0,none⟩))]))),(7,vi (u0.length : Int)),(8,vi x2)],H := [],V := [],M := M,ds := [] } s' ∧ p80b_l1 k u0 u1Y u1Z j1 n3 x2 = some r) (k:=k) ⟨(0 : Int),keep_sub (ts:=[0,1,7,8]) (hs:=[]) (vs:=[]) (by kernel_rfl),h⟩ ?_
  rintro n3 s' ⟨x2,hsub,h⟩
  cases n3 with
  | zero => rw [p80b_l1] at h;cases h
  | succ n3 =>
   rw [p80b_l1] at h
   refine T_sub hsub ?_
   refine SQ (RG ?_)
   obtain ⟨b4,e_b4,h⟩ := lt_some h
   refine SG 1 (S4 [(0,lS Au0 u0 cu0),(1,.lf (.v (.func (.func 82) #[] #[(.pointer (some ⟨bu1C,0,none⟩)),(.pointer (some ⟨bu1D,0,none⟩))]))),(7,vi (u0.length : Int)),(8,vi x2),(9,vb b4)] [] [] M) ?_ (by subst e_b4;kernel_rfl)
   refine EN (SQ ?_)
   cases b4 with
   | true =>
    replace h := sp_t h
    refine CT ?_
    refine KS [(0,lS Au0 u0 cu0),(1,.lf (.v (.func (.func 82) #[] #[(.pointer (some ⟨bu1C,0,none⟩)),(.pointer (some ⟨bu1D,0,none⟩))]))),(7,vi (u0.length : Int)),(8,vi x2)] ?_
    refine SN (SQ (BK 1 (SQ (RG ?_))))
    refine SS 2 [(0,lS Au0 u0 cu0),(1,.lf (.v (.func (.func 82) #[] #[(.pointer (some ⟨bu1C,0,none⟩)),(.pointer (some ⟨bu1D,0,none⟩))]))),(5,vi x2),(7,vi (u0.length : Int)),(8,vi x2)] ?_
    refine EN (SQ (RG ?_))
    refine SS 3 [(0,lS Au0 u0 cu0),(1,.lf (.v (.func (.func 82) #[] #[(.pointer (some ⟨bu1C,0,none⟩)),(.pointer (some ⟨bu1D,0,none⟩))]))),(5,vi x2),(7,vi (u0.length : Int)),(8,vi x2),(11,.lf (.v (.func (.func 82) #[] #[(.pointer (some ⟨bu1C,0,none⟩)),(.pointer (some ⟨bu1D,0,none⟩))]))),(12,lS Au0 u0 cu0),(13,vi x2)] ?_
    obtain ⟨g5,h⟩ := gd_some h
    refine AT 14 (.lf (.ep (.slice Au0 (u0.length) cu0) 12 ((x2).toNat) 0)) (At_idxR (z:=x2) (by kernel_rfl) g5 hu0) ?_
    obtain ⟨L6,e_L6,h⟩ := lt_some h
    have l_L6 : (L6).length = 12 := by rw [e_L6]; exact SlR_row hu0 (toNat_lt g5)
    refine AT 15 (.agg [.arr .i64 12 L6]) (by rw [e_L6]; exact At_ldRow (q:=(x2).toNat) (by subst e_L6; kernel_rfl) (toNat_lt g5) hu0) ?_ (hx:=⟨l_L6,trivial⟩)
    obtain ⟨v7,c_v7,h⟩ := cl_some h
    refine AC 16 (vb v7) (w82 k l_L6 hbu1C hu1Z hbu1D c_v7) ?_
    refine SH 6 [(0,lS Au0 u0 cu0),(1,.lf (.v (.func (.func 82) #[] #[(.pointer (some ⟨bu1C,0,none⟩)),(.pointer (some ⟨bu1D,0,none⟩))]))),(5,vi x2),(7,vi (u0.length : Int)),(8,vi x2),(16,vb v7)] [] ?_
    refine EN ?_
    cases v7 with
    | true =>
     replace h := sp_t h
     refine CT ?_
     refine KS [(5,vi x2)] ?_
     refine SQ (RG ?_)
     refine SS 2 [(4,vi x2)] ?_
     refine EN (RT (blockQ_r (thenQ_r (thenQ_r (blockQ_r (thenQ_r (thenQ_r ?_)))))))
     obtain rfl := sj h
     exact FT (vi x2) rfl
    | false =>
     replace h := sp_f h
     refine CF ?_
     refine KS [(0,lS Au0 u0 cu0),(1,.lf (.v (.func (.func 82) #[] #[(.pointer (some ⟨bu1C,0,none⟩)),(.pointer (some ⟨bu1D,0,none⟩))]))),(7,vi (u0.length : Int)),(8,vi x2)] ?_
     refine S0 (blockQ_n (thenQ_n (RG ?_)))
     obtain ⟨x8,e_x8,h⟩ := lt_some h
     refine SS 2 [(0,lS Au0 u0 cu0),(1,.lf (.v (.func (.func 82) #[] #[(.pointer (some ⟨bu1C,0,none⟩)),(.pointer (some ⟨bu1D,0,none⟩))]))),(7,vi (u0.length : Int)),(8,vi x8)] ?_ (by subst e_x8;kernel_rfl)
     refine EN ?_
     exact ⟨n3,Nat.lt_succ_self _,x8,keep_sub (ts:=[0,1,7,8]) (hs:=[]) (vs:=[]) (by kernel_rfl),h⟩
   | false =>
    replace h := sp_f h
    refine CF ?_
    refine KS [] ?_
    refine XI 0 (thenQ_x (thenQ_x (blockQ_x (thenQ_n ?_))))
    exact ⟨keep_sub (ts:=[]) (hs:=[]) (vs:=[]) (by kernel_rfl),h⟩
 ·rintro s' ⟨hsub,h⟩
  subst e_j1
  refine thenQ_n ?_
  refine T_sub hsub ?_
  refine SQ (RG ?_)
  refine SG 1 (S4 [(4,vi (-1 : Int))] [] [] M) ?_
  refine EN (RT ?_)
  obtain rfl := sj h
  exact FT (vi (-1 : Int)) rfl
end Go.Proofs.Ythniebmammmacaa
namespace Go.Proofs.Ythniebmammmacaa
open Go.RowKit
def p121L (rec : Int → Int → Option (List Int)) (n s : Int) : Nat → Int → Option (List Int)
  | 0, _ => none
  | f + 1, i => lt' (decide (i < n)) fun b => sp b (gd (0 ≤ i) <| lt' (wr .u64 ((1 : Int) * 2 ^ (min (i).toNat (IntKind.bits .u64)))) fun x22 => lt' (wr .u64 (bor .u64 s x22)) fun x23 => lt' (wr .i64 (i + (1 : Int))) fun x25 => cl (rec x23 x25) fun L1 => lt' (wr .i64 (i + (1 : Int))) fun x18 => cl (p121L rec n s f x18) fun L2 => some (L1 ++ L2)) (some [])
def p121 (k : Nat) (n : Int) : Nat → Int → Int → Option (List Int)
  | 0, _, _ => none
  | f + 1, s, fr => cl (p121L (p121 k n f) n s k fr) fun L => some (s :: L)
def p120 (k : Nat) (n : Int) : Option (List Int) := p121 k n k 0 0
theorem hf121 : Try.prog.funcs[121]? = some Try.f121 := by kernel_rfl
theorem hf120 : Try.prog.funcs[120]? = some Try.f120 := by kernel_rfl
def w121P (M : Mem) (J : Mem → List Int → World → Prop) (Jx : World → Prop) (pr : List Int) (b : Bool) (w : World) : Prop := match b with | true => J M pr w | false => Stp Jx M w
theorem w121 (k : Nat) {n : Int} {ks : List Int} {l : Nat} {J : Mem → List Int → World → Prop} {Jx : World → Prop} (hyd : Yd enU Try.prog ks l J Jx) {M : Mem} {by' bn bw : Nat}
    (hby : memCell M by' 0 = some (.func (.yield l) #[] #[])) (hbn : memCell M bn 0 = some (.int .i64 n)) (hbw : memCell M bw 0 = some (.func (.func 121) #[] #[.pointer (some ⟨by', 0, none⟩), .pointer (some ⟨bn, 0, none⟩), .pointer (some ⟨bw, 0, none⟩)])) :
    ∀ (f : Nat) (s fr : Int) (L pr rest : List Int) (W : World), p121 k n f s fr = some L → pr ++ (L ++ rest) = ks → J M pr W → CallsIn Fence.wide 0 Try.prog 121 ([.int .u64 s, .int .i64 fr, .pointer (some ⟨by', 0, none⟩), .pointer (some ⟨bn, 0, none⟩), .pointer (some ⟨bw, 0, none⟩)] : List Value).toArray W fun e w' => ∃ b, e = .returned (.bool b) ∧ w121P M J Jx (pr ++ L) b w'
  | 0, s, fr, L, pr, rest, W, h, _, _ => by rw [p121] at h; cases h
  | f + 1, s, fr, L, pr, rest, W, h, hks, hJ => by
    rw [p121] at h
    obtain ⟨L0, h0, hL⟩ := cl_some h
    have hL := Option.some.inj hL
    refine calls_TWb (c := bodyOf Try.f121) (t := 7) [.lf (.v (.int .u64 s)), .lf (.v (.int .i64 fr)), (.lf (.v (.pointer (some ⟨by', 0, none⟩)))), (.lf (.v (.pointer (some ⟨bn, 0, none⟩)))), (.lf (.v (.pointer (some ⟨bw, 0, none⟩))))] hf121 (by kernel_rfl) (Nat.le_of_ble_eq_true (by kernel_rfl)) (by kernel_rfl) (by intro x hx; simp only [List.mem_cons, List.mem_nil_iff, or_false] at hx; rcases hx with rfl | rfl | rfl | rfl | rfl <;> trivial) (hyd.mem _ _ _ hJ) ?_
    refine TW_pre (pre' := J M pr) (by rintro w rfl; exact hJ) ?_
    have stop : ∀ {σ : List (Nat × SV)}, look σ 7 = some (.lf (.v (.bool false))) → NQ (fun e σ w => e = .ret ∧ ∃ b, look σ 7 = some (.lf (.v (.bool b))) ∧ w121P M J Jx (pr ++ L) b w) .ret σ (Stp Jx M) := fun hl w hw => ⟨rfl, false, hl, hw⟩
    refine W_seq (c1 := (sub [0] (bodyOf Try.f121))) (c2 := (sub [1] (bodyOf Try.f121))) (by kernel_rfl) ?_
    refine TW_region (id := 0) (by kernel_rfl) ?_
    refine TWI_pure (y := (7, (.lf (.v (.bool false))))) (by kernel_rfl) ?_
    refine TWI_keep (σ' := [(0, .lf (.v (.int .u64 s))), (1, .lf (.v (.int .i64 fr))), (2, (.lf (.v (.pointer (some ⟨by', 0, none⟩))))), (3, (.lf (.v (.pointer (some ⟨bn, 0, none⟩))))), (4, (.lf (.v (.pointer (some ⟨bw, 0, none⟩))))), (7, (.lf (.v (.bool false))))]) [0, 1, 2, 3, 4, 7] (by kernel_rfl) ?_
    refine WI_end (by kernel_rfl) ?_
    refine NQ_then ?_
    refine W_seq (c1 := (sub [1, 0] (bodyOf Try.f121))) (c2 := (sub [1, 1] (bodyOf Try.f121))) (by kernel_rfl) ?_
    refine W_seq (c1 := (sub [1, 0, 0] (bodyOf Try.f121))) (c2 := (sub [1, 0, 1] (bodyOf Try.f121))) (by kernel_rfl) ?_
    refine TW_region (id := 1) (by kernel_rfl) ?_
    refine TWI_at (d := 9) (x := (.lf (.v (.func (.yield l) #[] #[])))) (fun w => At_ldP (d := 9) (b := by') (off := 0) (m := 1) (v := (.func (.yield l) #[] #[])) (by kernel_rfl) hby) (hyd.gr _ _) (by kernel_rfl) trivial ?_
    refine TWI_pure (y := (10, .lf (.v (.int .u64 s)))) (by kernel_rfl) ?_
    refine WI_yield hyd (d := 11) (l := l) (pr := pr) (x := s) (by kernel_rfl) rfl ⟨L0 ++ rest, by rw [← hks, ← hL, List.append_assoc]; rfl⟩ (by kernel_rfl) ?_ ?_
    · refine TWI_pure (y := (12, (.lf (.v (.bool false))))) (by kernel_rfl) ?_
      refine TWI_keep (σ' := [(0, .lf (.v (.int .u64 s))), (1, .lf (.v (.int .i64 fr))), (2, (.lf (.v (.pointer (some ⟨by', 0, none⟩))))), (3, (.lf (.v (.pointer (some ⟨bn, 0, none⟩))))), (4, (.lf (.v (.pointer (some ⟨bw, 0, none⟩))))), (12, (.lf (.v (.bool false))))]) [0, 1, 2, 3, 4, 12] (by kernel_rfl) ?_
      refine WI_end (by kernel_rfl) ?_
      refine NQ_then ?_
      refine W_condF (x := .tmp 12) (c1 := (sub [1, 0, 1, 0] (bodyOf Try.f121))) (c2 := (sub [1, 0, 1, 1] (bodyOf Try.f121))) (by kernel_rfl) (by kernel_rfl) ?_
      refine W_skip (by kernel_rfl) ?_
      refine NQ_then ?_
      refine W_seq (c1 := (sub [1, 1, 0] (bodyOf Try.f121))) (c2 := (sub [1, 1, 1] (bodyOf Try.f121))) (by kernel_rfl) ?_
      refine W_seq (c1 := (sub [1, 1, 0, 0] (bodyOf Try.f121))) (c2 := (sub [1, 1, 0, 1] (bodyOf Try.f121))) (by kernel_rfl) ?_
      refine TW_region (id := 3) (by kernel_rfl) ?_
      refine TWI_pure (y := (13, .lf (.v (.int .i64 fr)))) (by kernel_rfl) ?_
      refine TWI_pure (y := (8, .lf (.v (.int .i64 fr)))) (by kernel_rfl) ?_
      refine TWI_keep (σ' := [(0, .lf (.v (.int .u64 s))), (1, .lf (.v (.int .i64 fr))), (2, (.lf (.v (.pointer (some ⟨by', 0, none⟩))))), (3, (.lf (.v (.pointer (some ⟨bn, 0, none⟩))))), (4, (.lf (.v (.pointer (some ⟨bw, 0, none⟩))))), (8, .lf (.v (.int .i64 fr)))]) [0, 1, 2, 3, 4, 8] (by kernel_rfl) ?_
      refine WI_end (by kernel_rfl) ?_
      refine NQ_then ?_
      refine TW_block (id := 0) (c1 := (sub [1, 1, 0, 1, 0] (bodyOf Try.f121))) (by kernel_rfl) ?_
      refine W_loop (γ := Int × List Int × List Int) (fun g => [(0, .lf (.v (.int .u64 s))), (1, .lf (.v (.int .i64 fr))), (2, (.lf (.v (.pointer (some ⟨by', 0, none⟩))))), (3, (.lf (.v (.pointer (some ⟨bn, 0, none⟩))))), (4, (.lf (.v (.pointer (some ⟨bw, 0, none⟩))))), (8, .lf (.v (.int .i64 g.1)))]) (fun g => J M g.2.1) (fun nf g => (g.2.1 ++ g.2.2 = pr ++ L) ∧ p121L (p121 k n f) n s nf g.1 = some g.2.2) (c1 := (sub [1, 1, 0, 1, 0, 0] (bodyOf Try.f121))) (g0 := (fr, pr ++ [s], L0)) (k := k) (by kernel_rfl) rfl ⟨by rw [← hL, List.append_assoc]; rfl, h0⟩ (fun w hw => hw) ?_
      rintro nf ⟨i, pq, rq⟩ ⟨hpq, h⟩
      replace hpq : pq ++ rq = pr ++ L := hpq
      replace h : p121L (p121 k n f) n s nf i = some rq := h
      change TW _ _ _ _ [(0, .lf (.v (.int .u64 s))), (1, .lf (.v (.int .i64 fr))), (2, (.lf (.v (.pointer (some ⟨by', 0, none⟩))))), (3, (.lf (.v (.pointer (some ⟨bn, 0, none⟩))))), (4, (.lf (.v (.pointer (some ⟨bw, 0, none⟩))))), (8, .lf (.v (.int .i64 i)))] (J M pq) _
      cases nf with
      | zero => rw [p121L] at h; cases h
      | succ nf =>
        rw [p121L] at h
        obtain ⟨b16, e16, h⟩ := lt_some h
        refine W_seq (c1 := (sub [1, 1, 0, 1, 0, 0, 0] (bodyOf Try.f121))) (c2 := (sub [1, 1, 0, 1, 0, 0, 1] (bodyOf Try.f121))) (by kernel_rfl) ?_
        refine W_seq (c1 := (sub [1, 1, 0, 1, 0, 0, 0, 0] (bodyOf Try.f121))) (c2 := (sub [1, 1, 0, 1, 0, 0, 0, 1] (bodyOf Try.f121))) (by kernel_rfl) ?_
        refine TW_region (id := 4) (by kernel_rfl) ?_
        refine TWI_pure (y := (14, .lf (.v (.int .i64 i)))) (by kernel_rfl) ?_
        refine TWI_at (d := 15) (x := .lf (.v (.int .i64 n))) (fun w => At_ldP (d := 15) (b := bn) (off := 0) (m := 1) (v := (.int .i64 n)) (by kernel_rfl) hbn) (hyd.gr _ _) (by kernel_rfl) trivial ?_
        refine TWI_pure (y := (16, .lf (.v (.bool b16)))) (by subst e16; kernel_rfl) ?_
        refine TWI_keep (σ' := [(0, .lf (.v (.int .u64 s))), (1, .lf (.v (.int .i64 fr))), (2, (.lf (.v (.pointer (some ⟨by', 0, none⟩))))), (3, (.lf (.v (.pointer (some ⟨bn, 0, none⟩))))), (4, (.lf (.v (.pointer (some ⟨bw, 0, none⟩))))), (8, .lf (.v (.int .i64 i))), (16, .lf (.v (.bool b16)))]) [0, 1, 2, 3, 4, 8, 16] (by kernel_rfl) ?_
        refine WI_end (by kernel_rfl) ?_
        refine NQ_then ?_
        cases b16 with
        | false =>
          replace h := sp_f h
          have h := Option.some.inj h
          refine W_condF (x := .tmp 16) (c1 := (sub [1, 1, 0, 1, 0, 0, 0, 1, 0] (bodyOf Try.f121))) (c2 := (sub [1, 1, 0, 1, 0, 0, 0, 1, 1] (bodyOf Try.f121))) (by kernel_rfl) (by kernel_rfl) ?_
          refine TW_keep (σ' := [(0, .lf (.v (.int .u64 s))), (1, .lf (.v (.int .i64 fr))), (2, (.lf (.v (.pointer (some ⟨by', 0, none⟩))))), (3, (.lf (.v (.pointer (some ⟨bn, 0, none⟩))))), (4, (.lf (.v (.pointer (some ⟨bw, 0, none⟩)))))]) [0, 1, 2, 3, 4] (by kernel_rfl) ?_
          refine W_exit (id := 0) (by kernel_rfl) ?_
          refine NQ_thenx ?_
          refine NQ_thenx ?_
          refine NQ_bx ?_
          refine NQ_then ?_
          refine W_seq (c1 := (sub [1, 1, 1, 0] (bodyOf Try.f121))) (c2 := (sub [1, 1, 1, 1] (bodyOf Try.f121))) (by kernel_rfl) ?_
          refine TW_region (id := 8) (by kernel_rfl) ?_
          refine TWI_pure (y := (7, (.lf (.v (.bool true))))) (by kernel_rfl) ?_
          refine WI_end (by kernel_rfl) ?_
          refine NQ_then ?_
          refine W_ret (by kernel_rfl) ?_
          intro w hw
          refine ⟨rfl, true, rfl, ?_⟩
          show J M (pr ++ L) w
          rw [← hpq, ← h, List.append_nil]
          exact hw
        | true =>
          replace h := sp_t h
          obtain ⟨g22, h⟩ := gd_some h
          obtain ⟨x22, e22, h⟩ := lt_some h
          obtain ⟨x23, e23, h⟩ := lt_some h
          obtain ⟨x25, e25, h⟩ := lt_some h
          obtain ⟨L1, c1, h⟩ := cl_some h
          obtain ⟨x18, e18, h⟩ := lt_some h
          obtain ⟨L2, c2, h⟩ := cl_some h
          have h := Option.some.inj h
          refine W_condT (x := .tmp 16) (c1 := (sub [1, 1, 0, 1, 0, 0, 0, 1, 0] (bodyOf Try.f121))) (c2 := (sub [1, 1, 0, 1, 0, 0, 0, 1, 1] (bodyOf Try.f121))) (by kernel_rfl) (by kernel_rfl) ?_
          refine TW_keep (σ' := [(0, .lf (.v (.int .u64 s))), (1, .lf (.v (.int .i64 fr))), (2, (.lf (.v (.pointer (some ⟨by', 0, none⟩))))), (3, (.lf (.v (.pointer (some ⟨bn, 0, none⟩))))), (4, (.lf (.v (.pointer (some ⟨bw, 0, none⟩))))), (8, .lf (.v (.int .i64 i)))]) [0, 1, 2, 3, 4, 8] (by kernel_rfl) ?_
          refine W_skip (by kernel_rfl) ?_
          refine NQ_then ?_
          refine W_seq (c1 := (sub [1, 1, 0, 1, 0, 0, 1, 0] (bodyOf Try.f121))) (c2 := (sub [1, 1, 0, 1, 0, 0, 1, 1] (bodyOf Try.f121))) (by kernel_rfl) ?_
          refine TW_block (id := 1) (c1 := (sub [1, 1, 0, 1, 0, 0, 1, 0, 0] (bodyOf Try.f121))) (by kernel_rfl) ?_
          refine W_seq (c1 := (sub [1, 1, 0, 1, 0, 0, 1, 0, 0, 0] (bodyOf Try.f121))) (c2 := (sub [1, 1, 0, 1, 0, 0, 1, 0, 0, 1] (bodyOf Try.f121))) (by kernel_rfl) ?_
          have hrec := fun (w : World) (hw : J M pq w) => w121 k hyd hby hbn hbw f x23 x25 L1 pq (L2 ++ rest) w c1 (by rw [← hks, ← List.append_assoc pr, ← hpq, ← h]; simp only [List.append_assoc]) hw
          refine W_draw (id := 6) [7] [0, 0, 0, 0, 0, 0, 0, 0, 1] (by kernel_rfl) (by kernel_rfl) (by kernel_rfl) (by kernel_rfl) [(19, .lf (.v (.func (.func 121) #[] #[.pointer (some ⟨by', 0, none⟩), .pointer (some ⟨bn, 0, none⟩), .pointer (some ⟨bw, 0, none⟩)]))), (20, .lf (.v (.int .u64 s))), (21, .lf (.v (.int .i64 i))), (22, .lf (.v (.int .u64 x22))), (23, .lf (.v (.int .u64 x23))), (24, .lf (.v (.int .i64 i))), (25, .lf (.v (.int .i64 x25)))] (by kernel_rfl) (wfs_mem ⟨trivial, ⟨trivial, ⟨trivial, ⟨trivial, ⟨trivial, ⟨trivial, ⟨trivial, trivial⟩⟩⟩⟩⟩⟩⟩) ?_
          refine ⟨hyd.gr _ _, fun i' o' h1 h2 w => stage_all' [1, 2, 4, 5, 6] [0, 3] (by kernel_rfl) (by subst e25 e23; kernel_rfl) (by kernel_rfl) ⟨QF_at (i := 0) (d := 19) (x := .lf (.v (.func (.func 121) #[] #[.pointer (some ⟨by', 0, none⟩), .pointer (some ⟨bn, 0, none⟩), .pointer (some ⟨bw, 0, none⟩)]))) (At_ldP (d := 19) (b := bw) (off := 0) (m := 1) (v := (.func (.func 121) #[] #[.pointer (some ⟨by', 0, none⟩), .pointer (some ⟨bn, 0, none⟩), .pointer (some ⟨bw, 0, none⟩)])) (by kernel_rfl) hbw) (by kernel_rfl) (by kernel_rfl), ⟨QF_at (i := 3) (d := 22) (x := .lf (.v (.int .u64 x22))) (show OpAt _ _ _ 3 22 (.lf (.v (.int .u64 x22))) from by rw [e22]; exact At_shl (d := 22) (k := .u64) (k' := .i64) (m := (1 : Int)) (n := i) (by kernel_rfl) g22) (by kernel_rfl) (by kernel_rfl), trivial⟩⟩ i' o' h1 h2, ?_⟩
          refine WL_callB (d := 26) (f := 121) (J M (pq ++ L1)) (Stp Jx M) (by kernel_rfl) (by kernel_rfl) (fun w hw hm => (hrec w hw).mono fun e w' ⟨b, q1, q2⟩ => ⟨b, q1, (by cases b with | true => exact hyd.mem _ _ _ q2 | false => exact q2.2), (by cases b with | true => exact q2 | false => exact q2)⟩) ?_ ?_
          · refine TWL_nil fun w hw => ⟨rfl, [(27, (.lf (.v (.bool false))))], J M (pq ++ L1), hw, by kernel_rfl, wfs_mem ⟨trivial, trivial⟩, hyd.gr _ _, fun i' o' h1 h2 w => stage_all' [8] [] (by kernel_rfl) (by kernel_rfl) (by kernel_rfl) trivial i' o' h1 h2, ?_⟩
            refine NQ_then ?_
            refine W_condF (x := .tmp 27) (c1 := (sub [1, 1, 0, 1, 0, 0, 1, 0, 0, 1, 0] (bodyOf Try.f121))) (c2 := (sub [1, 1, 0, 1, 0, 0, 1, 0, 0, 1, 1] (bodyOf Try.f121))) (by kernel_rfl) (by kernel_rfl) ?_
            refine TW_keep (σ' := [(0, .lf (.v (.int .u64 s))), (1, .lf (.v (.int .i64 fr))), (2, (.lf (.v (.pointer (some ⟨by', 0, none⟩))))), (3, (.lf (.v (.pointer (some ⟨bn, 0, none⟩))))), (4, (.lf (.v (.pointer (some ⟨bw, 0, none⟩))))), (8, .lf (.v (.int .i64 i)))]) [0, 1, 2, 3, 4, 8] (by kernel_rfl) ?_
            refine W_skip (by kernel_rfl) ?_
            refine NQ_bn ?_
            refine NQ_then ?_
            refine TW_region (id := 5) (by kernel_rfl) ?_
            refine TWI_pure (y := (17, .lf (.v (.int .i64 i)))) (by kernel_rfl) ?_
            refine TWI_pure (y := (18, .lf (.v (.int .i64 x18)))) (by subst e18; kernel_rfl) ?_
            refine TWI_pure (y := (8, .lf (.v (.int .i64 x18)))) (by kernel_rfl) ?_
            refine TWI_keep (σ' := [(0, .lf (.v (.int .u64 s))), (1, .lf (.v (.int .i64 fr))), (2, (.lf (.v (.pointer (some ⟨by', 0, none⟩))))), (3, (.lf (.v (.pointer (some ⟨bn, 0, none⟩))))), (4, (.lf (.v (.pointer (some ⟨bw, 0, none⟩))))), (8, .lf (.v (.int .i64 x18)))]) [0, 1, 2, 3, 4, 8] (by kernel_rfl) ?_
            refine WI_end (by kernel_rfl) ?_
            exact NQ_loop nf (x18, pq ++ L1, L2) (Nat.lt_succ_self _) rfl ⟨by rw [← hpq, ← h, List.append_assoc], c2⟩ (fun w hw => hw)
          · refine TWL_nil fun w hw => ⟨rfl, [(27, (.lf (.v (.bool true))))], Stp Jx M, hw, by kernel_rfl, wfs_mem ⟨trivial, trivial⟩, Stp.gr hyd.gx, fun i' o' h1 h2 w => stage_all' [8] [] (by kernel_rfl) (by kernel_rfl) (by kernel_rfl) trivial i' o' h1 h2, ?_⟩
            refine NQ_then ?_
            refine W_condT (x := .tmp 27) (c1 := (sub [1, 1, 0, 1, 0, 0, 1, 0, 0, 1, 0] (bodyOf Try.f121))) (c2 := (sub [1, 1, 0, 1, 0, 0, 1, 0, 0, 1, 1] (bodyOf Try.f121))) (by kernel_rfl) (by kernel_rfl) ?_
            refine W_seq (c1 := (sub [1, 1, 0, 1, 0, 0, 1, 0, 0, 1, 0, 0] (bodyOf Try.f121))) (c2 := (sub [1, 1, 0, 1, 0, 0, 1, 0, 0, 1, 0, 1] (bodyOf Try.f121))) (by kernel_rfl) ?_
            refine TW_region (id := 7) (by kernel_rfl) ?_
            refine TWI_pure (y := (7, (.lf (.v (.bool false))))) (by kernel_rfl) ?_
            refine WI_end (by kernel_rfl) ?_
            refine NQ_then ?_
            refine W_ret (by kernel_rfl) ?_
            refine NQ_br ?_
            refine NQ_thenr ?_
            refine NQ_thenr ?_
            refine NQ_br ?_
            refine NQ_thenr ?_
            exact stop rfl
    · refine TWI_pure (y := (12, (.lf (.v (.bool true))))) (by kernel_rfl) ?_
      refine TWI_keep (σ' := [(0, .lf (.v (.int .u64 s))), (1, .lf (.v (.int .i64 fr))), (2, (.lf (.v (.pointer (some ⟨by', 0, none⟩))))), (3, (.lf (.v (.pointer (some ⟨bn, 0, none⟩))))), (4, (.lf (.v (.pointer (some ⟨bw, 0, none⟩))))), (12, (.lf (.v (.bool true))))]) [0, 1, 2, 3, 4, 12] (by kernel_rfl) ?_
      refine WI_end (by kernel_rfl) ?_
      refine NQ_then ?_
      refine W_condT (x := .tmp 12) (c1 := (sub [1, 0, 1, 0] (bodyOf Try.f121))) (c2 := (sub [1, 0, 1, 1] (bodyOf Try.f121))) (by kernel_rfl) (by kernel_rfl) ?_
      refine W_seq (c1 := (sub [1, 0, 1, 0, 0] (bodyOf Try.f121))) (c2 := (sub [1, 0, 1, 0, 1] (bodyOf Try.f121))) (by kernel_rfl) ?_
      refine TW_region (id := 2) (by kernel_rfl) ?_
      refine TWI_pure (y := (7, (.lf (.v (.bool false))))) (by kernel_rfl) ?_
      refine WI_end (by kernel_rfl) ?_
      refine NQ_then ?_
      refine W_ret (by kernel_rfl) ?_
      refine NQ_thenr ?_
      exact stop rfl
theorem w120 (k : Nat) {M : Mem} {bu1 : Nat} {u1 : Int} (hbu1 : M bu1 = some (sgCells (fun _ => 0) (fun _ => .slice none 0 0) [.one (.v (.int .i64 u1))]).toArray) {ks} (h : p120 k u1 = some ks) :
    IterE enU Try.prog 120 [(.pointer (some ⟨bu1, 0, none⟩))] M ks := by
  unfold p120 at h
  obtain ⟨b1, hb1⟩ : ∃ b1, b1 = bu1 := ⟨_, rfl⟩
  rw [← hb1] at hbu1 ⊢
  refine IterE_of fun l J Jx W hyd hW h0 => ?_
  refine calls_TW (c := bodyOf Try.f120) [.lf (.v (.func (.yield l) #[] #[])), (.lf (.v (.pointer (some ⟨b1, 0, none⟩))))] hf120 (by kernel_rfl) (Nat.le_of_ble_eq_true (by kernel_rfl)) (by kernel_rfl) (by intro x hx; simp only [List.mem_cons, List.mem_nil_iff, or_false] at hx; rcases hx with rfl | rfl <;> trivial) hW ?_
  refine TW_pre (pre' := J M []) (by rintro w rfl; exact h0) ?_
  refine TS_enter fun w0 hw0 => ?_
  refine TS_seq (c1 := (sub [0] (bodyOf Try.f120))) (c2 := (sub [1] (bodyOf Try.f120))) (by kernel_rfl) ?_
  refine T_region (id := 0) (by kernel_rfl) ?_
  refine TI_segK (i := 0) (j := 1) (s' := { σ := [(1, (.lf (.v (.pointer (some ⟨b1, 0, none⟩))))), (2, .lf (.own 2 0))], H := [(2, [.one (.v (.func (.yield l) #[] #[]))])], V := [], M := M, ds := [] }) [1, 2] [2] [] (by kernel_rfl) (by kernel_rfl) ?_
  refine TI_end (by kernel_rfl) ?_
  refine ⟨rfl, ?_⟩
  refine TS_turn (turn_pubH 2 (c := [.one (.v (.func (.yield l) #[] #[]))]) (by kernel_rfl) (by kernel_rfl)) ?_
  rintro _ ⟨by', M1, rfl, hn1, e1, -, hM1⟩
  refine TS_sub (keep_sub (s' := { σ := [(1, (.lf (.v (.pointer (some ⟨b1, 0, none⟩))))), (2, (.lf (.v (.pointer (some ⟨by', 0, none⟩)))))], H := [], V := [], M := M1, ds := [] }) (ts := [1, 2]) (hs := []) (vs := []) (by kernel_rfl)) ?_
  refine TS_seq (c1 := (sub [1, 0] (bodyOf Try.f120))) (c2 := (sub [1, 1] (bodyOf Try.f120))) (by kernel_rfl) ?_
  refine T_region (id := 1) (by kernel_rfl) ?_
  refine TI_segK (i := 0) (j := 1) (s' := { σ := [(1, (.lf (.v (.pointer (some ⟨b1, 0, none⟩))))), (2, (.lf (.v (.pointer (some ⟨by', 0, none⟩))))), (3, .lf (.own 3 0))], H := [(3, [.one (.v .nilFunc)])], V := [], M := M1, ds := [] }) [1, 2, 3] [3] [] (by kernel_rfl) (by kernel_rfl) ?_
  refine TI_end (by kernel_rfl) ?_
  refine ⟨rfl, ?_⟩
  refine TS_turn (turn_tie 3 (c := [.one (.v .nilFunc)]) (by kernel_rfl)) ?_
  rintro _ ⟨bw, rfl, hn3, -⟩
  refine TS_seq (c1 := (sub [1, 1, 0] (bodyOf Try.f120))) (c2 := (sub [1, 1, 1] (bodyOf Try.f120))) (by kernel_rfl) ?_
  refine T_region (id := 2) (by kernel_rfl) ?_
  refine TI_turn (turn_at 3 (n := 3) (b := bw) (off := 0) (by kernel_rfl) (by kernel_rfl)) ?_
  rintro _ rfl
  refine TI_segK (i := 0) (j := 1) (s' := { σ := [(3, (.lf (.v (.pointer (some ⟨bw, 0, none⟩))))), (4, .lf (.v (.func (.func 121) #[] #[.pointer (some ⟨by', 0, none⟩), .pointer (some ⟨b1, 0, none⟩), .pointer (some ⟨bw, 0, none⟩)])))], H := [(3, [.one (.v .nilFunc)])], V := [], M := M1, ds := [], ats := [(3, bw)] }) [3, 4] [3] [] (by kernel_rfl) (by kernel_rfl) ?_
  refine TI_turn (turn_back 3 (n := 3) (b := bw) (off := 0) (by kernel_rfl) (by kernel_rfl)) ?_
  rintro _ rfl
  refine TI_segK (i := 1) (j := 2) (s' := { σ := [(3, .lf (.own 3 0))], H := [(3, [.one (.v (.func (.func 121) #[] #[.pointer (some ⟨by', 0, none⟩), .pointer (some ⟨b1, 0, none⟩), .pointer (some ⟨bw, 0, none⟩)]))])], V := [], M := M1, ds := [], ats := [(3, bw)] }) [3] [3] [] (by kernel_rfl) (by kernel_rfl) ?_
  refine TI_end (by kernel_rfl) ?_
  refine ⟨rfl, ?_⟩
  refine TS_turn (turn_pubT 3 bw (c := [.one (.v (.func (.func 121) #[] #[.pointer (some ⟨by', 0, none⟩), .pointer (some ⟨b1, 0, none⟩), .pointer (some ⟨bw, 0, none⟩)]))]) (by kernel_rfl) (by kernel_rfl) (by kernel_rfl)) ?_
  rintro _ ⟨rfl, hn4⟩
  obtain ⟨M2, e2⟩ : ∃ M2, M2 = addM M1 bw (sgCells (fun _ => 0) (fun _ => .slice none 0 0) [.one (.v (.func (.func 121) #[] #[.pointer (some ⟨by', 0, none⟩), .pointer (some ⟨b1, 0, none⟩), .pointer (some ⟨bw, 0, none⟩)]))]).toArray := ⟨_, rfl⟩
  have hM2 : Mem.le M1 M2 := by rw [e2]; exact addM_le hn4
  refine TS_sub (keep_sub (s' := { σ := [(3, (.lf (.v (.pointer (some ⟨bw, 0, none⟩)))))], H := [], V := [], M := M2, ds := [] }) (ts := [3]) (hs := []) (vs := []) (by subst e2; kernel_rfl)) ?_
  refine TS_leave (K := J M2 []) (closed_all (by kernel_rfl)) (Mem.le_trans hM1 hM2) (fun w hB hN => hyd.grow _ _ _ _ _ hw0 hB hN) ?_
  have hby : memCell M2 by' 0 = some (.func (.yield l) #[] #[]) := memCell_le hM2 (by rw [e1]; exact memCell_add rfl)
  have hbn0 : memCell M b1 0 = some (.int .i64 u1) := by unfold memCell; rw [hbu1]; rfl
  have hbn : memCell M2 b1 0 = some (.int .i64 u1) := memCell_le (Mem.le_trans hM1 hM2) hbn0
  have hbw : memCell M2 bw 0 = some (.func (.func 121) #[] #[.pointer (some ⟨by', 0, none⟩), .pointer (some ⟨b1, 0, none⟩), .pointer (some ⟨bw, 0, none⟩)]) := by rw [e2]; exact memCell_add rfl
  refine TW_region (id := 3) (by kernel_rfl) ?_
  refine TWI_at (d := 5) (x := .lf (.v (.func (.func 121) #[] #[.pointer (some ⟨by', 0, none⟩), .pointer (some ⟨b1, 0, none⟩), .pointer (some ⟨bw, 0, none⟩)]))) (fun w => At_ldP (d := 5) (b := bw) (off := 0) (m := 1) (v := (.func (.func 121) #[] #[.pointer (some ⟨by', 0, none⟩), .pointer (some ⟨b1, 0, none⟩), .pointer (some ⟨bw, 0, none⟩)])) (by kernel_rfl) hbw) (hyd.gr _ _) (by kernel_rfl) trivial ?_
  refine TWI_of (i := 1) (by kernel_rfl) ?_
  refine WL_callB (d := 6) (f := 121) (J M2 ks) (Stp Jx M2) (by kernel_rfl) (by kernel_rfl) (fun w hw hm => (w121 k hyd hby hbn hbw k 0 0 ks [] [] w h (by simp) hw).mono fun e w' ⟨b, q1, q2⟩ => ⟨b, q1, (by cases b with | true => exact hyd.mem _ _ _ q2 | false => exact q2.2), (by cases b with | true => exact q2 | false => exact q2)⟩) ?_ ?_
  · exact TWL_nil fun w hw => ⟨.inl rfl, .inl ⟨M2, hw⟩⟩
  · exact TWL_nil fun w hw => ⟨.inl rfl, .inr hw.1⟩
end Go.Proofs.Ythniebmammmacaa
namespace Go.Proofs.Ythniebmammmacaa
open Go.RowKit
def p73 (k : Nat) (u0 : Int) : Option (List (Int)) :=
 cl (p120 k u0) fun v4 => some v4
theorem hf73 : Try.prog.funcs[73]? = some Try.f73 := by kernel_rfl
theorem w73 (k : Nat) {M : Mem} {u0 : Int} {r} (h : p73 k u0 = some r) :
  Fn Try.prog 73 [rval (vi u0)] M (fun x M' => ∃ (lb1 : List Value),x = .lf (.v (.func (.func 120) #[] (List.toArray lb1))) ∧ IterE enU Try.prog 120 lb1 M' r) := by
 unfold p73 at h
 refine FO [vi u0] hf73 ⟨trivial,trivial⟩ fun w => ?_
 refine SQ0 (RG ?_)
 refine SG 2 (S4 [(1,lO 1)] [(1,[oI u0])] [] M) ?_
 refine EN ?_
 refine T_turn (turn_pubH 1 (c:=[oI u0]) (by kernel_rfl) (by kernel_rfl)) ?_
 rintro _ ⟨b2,M3,rfl,-,e_M3,-,hM3⟩
 have fb2 : MB M3 b2 [oI u0] := by rw [e_M3]; exact addM_at _ _ _
 refine KG (S4 [(1,lP b2)] [] [] M3) ?_
 refine SQ (RG ?_)
 refine SS 2 [(2,.lf (.v (.func (.func 120) #[] #[(.pointer (some ⟨b2,0,none⟩))])))] ?_
 refine EN ?_
 obtain ⟨v4,c_v4,h⟩ := cl_some h
 refine RT ?_
 obtain rfl := sj h
 refine FT (.lf (.v (.func (.func 120) #[] (List.toArray [(.pointer (some ⟨b2,0,none⟩))])))) ?_
 exact ⟨[(.pointer (some ⟨b2,0,none⟩))],rfl,(w120 k fb2 c_v4)⟩
end Go.Proofs.Ythniebmammmacaa
