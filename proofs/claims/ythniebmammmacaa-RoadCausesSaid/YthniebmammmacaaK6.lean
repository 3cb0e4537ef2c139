/- The law RoadCauses holds of every input. No condition: every theorem names its own hypotheses. -/
import Derived.Test.YthniebmammmacaaK5
import Derived.Test.YthniebmammmacaaProg
import Derived.Test.YthniebmammmacaaRows
set_option linter.unusedVariables false
set_option linter.unusedSimpArgs false
set_option maxHeartbeats 4000000
namespace Go.Proofs.Ythniebmammmacaa
open Go.RowKit
def p8_l1 (k : Nat) (j27 : Option Bool) (v7 : List (List Int)) (v12 : List (List Int)) : Nat → Int → Option Bool
 | 0,_ => none
 | n29 + 1,x28 => lt' (decide (x28 < (v7.length : Int))) fun b30 => sp b30 (gd ((0 : Int) ≤ x28 ∧ x28 < (v7.length : Int)) <| lt' (List.getD v7 ((x28).toNat) []) fun L32 => gd ((0 : Int) ≤ x28 ∧ x28 < (v12.length : Int)) <| lt' (List.getD v12 ((x28).toNat) []) fun L34 => lt' (true != (L32 == L34)) fun b35 => sp b35 (some false) (lt' (wr .i64 (x28 + (1 : Int))) fun x36 => p8_l1 k j27 v7 v12 n29 x36)) (j27)
def p8 (k : Nat) (u0_0 : Int) (u0_1 : List (List Int)) (u0_2 : List WT) (u1 : List Int) (u2 : List Int) (u3 : List Int) (u4 : Int) (u5 : Int) (u6 : Int) : Option Bool :=
 jn (fun (b1 : Bool) => sp b1 (cl (p14 k ) fun v6 => some v6) (cl2 (p26 k u0_0 u0_1 u0_2 u1 u2 u3) fun v7 v8 => cl2 (p37 k u0_0 u0_1 u0_2 u1 u2 u3) fun v12 v13 => jn (fun (b17 : Bool) => sp b17 (some false) (jn (cl2 (p25 k u0_0 u0_1 u0_2 u4 u5 u3) fun v37 v38 => cl2 (p41 k u0_0 u0_1 u0_2 u4 u5 u3) fun v39 v40 => cl3 (p31 k u0_0 u0_1 u0_2 u1 u3) fun v41 v42 v43 => cl3 (p42 k u0_0 u0_1 u0_2 u1 u3) fun v47 v48 v49 => jn (fun (b53 : Bool) => sp b53 (some false) (cl2 (p24 k u0_0 u0_1 u0_2 u3 u6) fun v60 v61 => cl2 (p43 k u0_0 u0_1 u0_2 u3 u6) fun v62 v63 => jn (fun (b64 : Bool) => some b64) fun j65 => lt' (v60 == v62) fun b66 => sp b66 (lt' (v61 == v63) fun b67 => sp b67 (cl (p14 k ) fun v68 => j65 v68) (j65 false)) (j65 false))) fun j54 => lt' (true != (v37 == v39)) fun b55 => sp b55 (j54 true) (lt' (v38 != v40) fun b56 => sp b56 (j54 true) (cl (p17 k v41 v47) fun v57 => sp v57 (lt' (v42 != v48) fun b58 => sp b58 (j54 true) (lt' (v43 != v49) fun b59 => j54 b59)) (j54 true)))) fun j27 => p8_l1 k j27 v7 v12 k (0 : Int))) fun j18 => cl (p38 k u0_0 u0_1 u0_2) fun v19 => cl (p29 k u0_0 u0_1 u0_2) fun v20 => lt' (v19 != v20) fun b21 => sp b21 (j18 true) (cl (p39 k u1) fun v22 => cl (p40 k u1) fun v23 => lt' (v22 != v23) fun b24 => sp b24 (j18 true) (lt' (v8 != v13) fun b25 => sp b25 (j18 true) (lt' ((v7.length : Int) != (v12.length : Int)) fun b26 => j18 b26))))) fun j2 => cl (p13 k u0_0 u0_1 u0_2) fun v3 => sp v3 (j2 true) (lt' (decide ((u2.length : Int) > (400 : Int))) fun b4 => sp b4 (j2 true) (lt' (decide ((u3.length : Int) > (400 : Int))) fun b5 => j2 b5))
theorem hf8 : Try.prog.funcs[8]? = some Try.f8 := by kernel_rfl
theorem w8 (k : Nat) {M : Mem} {Au0_1 Au0_2 Au2 Au3 : Option Addr} {cu0_1 cu0_2 cu2 cu3 : Nat} {Hu0_2 : Nat → Option Addr} {Cu0_2 : Nat → Nat} {u0_0 u4 u5 u6 : Int} {u0_1 : List (List Int)} {u0_2 : List WT} {u1 u2 u3 : List Int} (hu0_1 : SlR M Au0_1 cu0_1 .i64 12 u0_1) (hu0_2 : SlW M 3 Au0_2 cu0_2 Hu0_2 Cu0_2 u0_2) (hu1 : u1.length = 6) (hu2 : SlI M Au2 cu2 .i64 u2) (hu3 : SlI M Au3 cu3 .i64 u3) {r} (h : p8 k u0_0 u0_1 u0_2 u1 u2 u3 u4 u5 u6 = some r) :
  Fn Try.prog 8 [rval (.agg [oI u0_0,oS Au0_1 u0_1 cu0_1,oS Au0_2 u0_2 cu0_2]),rval (.agg [.arr .i64 6 u1]),rval (lS Au2 u2 cu2),rval (lS Au3 u3 cu3),rval (vi u4),rval (vi u5),rval (vi u6)] M (fun x _ => x = vb r) := by
 unfold p8 at h
 refine FO [.agg [oI u0_0,oS Au0_1 u0_1 cu0_1,oS Au0_2 u0_2 cu0_2],.agg [.arr .i64 6 u1],lS Au2 u2 cu2,lS Au3 u3 cu3,vi u4,vi u5,vi u6] hf8 ⟨⟨rfl,⟨rfl,⟨rfl,trivial⟩⟩⟩,⟨⟨hu1,trivial⟩,⟨trivial,⟨trivial,⟨trivial,⟨trivial,⟨trivial,trivial⟩⟩⟩⟩⟩⟩⟩ fun w => ?_
 refine SQ0 (RG ?_)
 refine SG 3 (S4 [(2,lS Au2 u2 cu2),(3,lS Au3 u3 cu3),(4,vi u4),(5,vi u5),(6,vi u6),(7,lO 7),(8,lO 8)] [(7,[oI u0_0,oS Au0_1 u0_1 cu0_1,oS Au0_2 u0_2 cu0_2]),(8,[.arr .i64 6 u1])] [] M) ?_
 refine EN (SQ ?_)
 obtain ⟨j2,e_j2,h⟩ := jn_some h
 refine T_cut (c1:=(sub [1,0,0] Bd8)) (c2:=(sub [1,0,1] Bd8)) (fun s' => ∃ (b1 : Bool),Sub { σ := [(2,lS Au2 u2 cu2),(3,lS Au3 u3 cu3),(4,vi u4),(5,vi u5),(6,vi u6),(7,lO 7),(8,lO 8),(39,vb b1)],H := [(7,[oI u0_0,oS Au0_1 u0_1 cu0_1,oS Au0_2 u0_2 cu0_2]),(8,[.arr .i64 6 u1])],V := [],M := M,ds := [] } s' ∧ j2 b1 = some r) (by kernel_rfl) ?_ ?_
 ·refine RG ?_
  refine SG 1 (S4 [(2,lS Au2 u2 cu2),(3,lS Au3 u3 cu3),(4,vi u4),(5,vi u5),(6,vi u6),(7,lO 7),(8,lO 8),(28,.agg [oI u0_0,oS Au0_1 u0_1 cu0_1,oS Au0_2 u0_2 cu0_2])] [(7,[oI u0_0,oS Au0_1 u0_1 cu0_1,oS Au0_2 u0_2 cu0_2]),(8,[.arr .i64 6 u1])] [] M) ?_
  obtain ⟨v3,c_v3,h⟩ := cl_some h
  refine AC 29 (vb v3) (w13 k hu0_1 hu0_2 c_v3) ?_
  refine SH 3 [(2,lS Au2 u2 cu2),(3,lS Au3 u3 cu3),(4,vi u4),(5,vi u5),(6,vi u6),(7,lO 7),(8,lO 8),(30,vb v3)] [(7,[oI u0_0,oS Au0_1 u0_1 cu0_1,oS Au0_2 u0_2 cu0_2]),(8,[.arr .i64 6 u1])] ?_
  cases v3 with
  | true =>
   replace h := sp_t h
   refine SS 12 [(2,lS Au2 u2 cu2),(3,lS Au3 u3 cu3),(4,vi u4),(5,vi u5),(6,vi u6),(7,lO 7),(8,lO 8),(39,vb true)] ?_
   refine EN ?_
   exact ⟨true,keep_sub (ts:=[2,3,4,5,6,7,8,39]) (hs:=[7,8]) (vs:=[]) (by kernel_rfl),h⟩
  | false =>
   replace h := sp_f h
   obtain ⟨b4,e_b4,h⟩ := lt_some h
   refine SS 8 [(2,lS Au2 u2 cu2),(3,lS Au3 u3 cu3),(4,vi u4),(5,vi u5),(6,vi u6),(7,lO 7),(8,lO 8),(35,vb b4)] ?_ (by subst e_b4;kernel_rfl)
   cases b4 with
   | true =>
    replace h := sp_t h
    refine SS 12 [(2,lS Au2 u2 cu2),(3,lS Au3 u3 cu3),(4,vi u4),(5,vi u5),(6,vi u6),(7,lO 7),(8,lO 8),(39,vb true)] ?_
    refine EN ?_
    exact ⟨true,keep_sub (ts:=[2,3,4,5,6,7,8,39]) (hs:=[7,8]) (vs:=[]) (by kernel_rfl),h⟩
   | false =>
    replace h := sp_f h
    obtain ⟨b5,e_b5,h⟩ := lt_some h
    refine SS 12 [(2,lS Au2 u2 cu2),(3,lS Au3 u3 cu3),(4,vi u4),(5,vi u5),(6,vi u6),(7,lO 7),(8,lO 8),(39,vb b5)] ?_ (by subst e_b5;kernel_rfl)
    refine EN ?_
    exact ⟨b5,keep_sub (ts:=[2,3,4,5,6,7,8,39]) (hs:=[7,8]) (vs:=[]) (by kernel_rfl),h⟩
 ·rintro s' ⟨b1,hsub,h⟩
  subst e_j2
  refine T_sub hsub ?_
  cases b1 with
  | true =>
   replace h := sp_t h
   refine CT ?_
   refine KG (S4 [] [] [] M) ?_
   refine SQ (RG ?_)
   obtain ⟨v6,c_v6,h⟩ := cl_some h
   refine AC 40 (vb v6) (w14 k  c_v6) ?_
   refine SH 2 [(14,vb v6)] [] ?_
   refine EN (RT (thenQ_r ?_))
   obtain rfl := sj h
   exact FT (vb v6) rfl
  | false =>
   replace h := sp_f h
   refine CF ?_
   refine KG (S4 [(2,lS Au2 u2 cu2),(3,lS Au3 u3 cu3),(4,vi u4),(5,vi u5),(6,vi u6),(7,lO 7),(8,lO 8)] [(7,[oI u0_0,oS Au0_1 u0_1 cu0_1,oS Au0_2 u0_2 cu0_2]),(8,[.arr .i64 6 u1])] [] M) ?_
   refine SN (SQ (RG ?_))
   refine SS 4 [(2,lS Au2 u2 cu2),(3,lS Au3 u3 cu3),(4,vi u4),(5,vi u5),(6,vi u6),(7,lO 7),(8,lO 8),(42,.agg [oI u0_0,oS Au0_1 u0_1 cu0_1,oS Au0_2 u0_2 cu0_2]),(43,.agg [.arr .i64 6 u1]),(44,lS Au2 u2 cu2),(45,lS Au3 u3 cu3)] ?_
   obtain ⟨v7,v8,c_v7,h⟩ := cl2_some h
   refine TI_of (i:=4) (by kernel_rfl) (TE_callR (d:=46) (f:=26) (args:=[rval (.agg [oI u0_0,oS Au0_1 u0_1 cu0_1,oS Au0_2 u0_2 cu0_2]),rval (.agg [.arr .i64 6 u1]),rval (lS Au2 u2 cu2),rval (lS Au3 u3 cu3)]) (by kernel_rfl) (by kernel_rfl) (w26 k hu0_1 hu0_2 hu1 hu2 hu3 c_v7) ?_)
   rintro _ M11 _ hM11 _ ⟨A9,c10,rfl,fA9⟩
   refine SG 10 (S4 [(2,lS Au2 u2 cu2),(3,lS Au3 u3 cu3),(4,vi u4),(5,vi u5),(6,vi u6),(7,lO 7),(8,lO 8),(15,lS A9 v7 c10),(16,vi v8)] [(7,[oI u0_0,oS Au0_1 u0_1 cu0_1,oS Au0_2 u0_2 cu0_2]),(8,[.arr .i64 6 u1])] [] M11) ?_
   refine EN (SQ (RG ?_))
   refine SS 4 [(3,lS Au3 u3 cu3),(4,vi u4),(5,vi u5),(6,vi u6),(7,lO 7),(8,lO 8),(15,lS A9 v7 c10),(16,vi v8),(50,.agg [oI u0_0,oS Au0_1 u0_1 cu0_1,oS Au0_2 u0_2 cu0_2]),(51,.agg [.arr .i64 6 u1]),(52,lS Au2 u2 cu2),(53,lS Au3 u3 cu3)] ?_
   obtain ⟨v12,v13,c_v12,h⟩ := cl2_some h
   refine TI_of (i:=4) (by kernel_rfl) (TE_callR (d:=54) (f:=37) (args:=[rval (.agg [oI u0_0,oS Au0_1 u0_1 cu0_1,oS Au0_2 u0_2 cu0_2]),rval (.agg [.arr .i64 6 u1]),rval (lS Au2 u2 cu2),rval (lS Au3 u3 cu3)]) (by kernel_rfl) (by kernel_rfl) (w37 k (hu0_1.le hM11) (hu0_2.le hM11) hu1 (hu2.le hM11) (hu3.le hM11) c_v12) ?_)
   rintro _ M16 _ hM16 _ ⟨A14,c15,rfl,fA14⟩
   refine SG 10 (S4 [(3,lS Au3 u3 cu3),(4,vi u4),(5,vi u5),(6,vi u6),(7,lO 7),(8,lO 8),(15,lS A9 v7 c10),(16,vi v8),(17,lS A14 v12 c15),(18,vi v13)] [(7,[oI u0_0,oS Au0_1 u0_1 cu0_1,oS Au0_2 u0_2 cu0_2]),(8,[.arr .i64 6 u1])] [] M16) ?_
   refine EN (SQ ?_)
   obtain ⟨j18,e_j18,h⟩ := jn_some h
   refine T_cut (c1:=(sub [1,1,1,1,0,0] Bd8)) (c2:=(sub [1,1,1,1,0,1] Bd8)) (fun s' => ∃ (b17 : Bool),Sub { σ := [(3,lS Au3 u3 cu3),(4,vi u4),(5,vi u5),(6,vi u6),(7,lO 7),(8,lO 8),(15,lS A9 v7 c10),(17,lS A14 v12 c15),(80,vb b17)],H := [(7,[oI u0_0,oS Au0_1 u0_1 cu0_1,oS Au0_2 u0_2 cu0_2]),(8,[.arr .i64 6 u1])],V := [],M := M16,ds := [] } s' ∧ j18 b17 = some r) (by kernel_rfl) ?_ ?_
   ·obtain ⟨v19,c_v19,h⟩ := cl_some h
    obtain ⟨v20,c_v20,h⟩ := cl_some h
    obtain ⟨b21,e_b21,h⟩ := lt_some h
    cases b21 with
    | true =>
     replace h := sp_t h
     refine T_draw' (id:=5) [] [0,0,0,0,0,0,0,0,0,0,0,0,0,0,0,0,0,0,0,0,0,0,0,0] (by kernel_rfl) (by kernel_rfl) (by kernel_rfl) (by kernel_rfl) [(57,.agg [oI u0_0,oS Au0_1 u0_1 cu0_1,oS Au0_2 u0_2 cu0_2]),(58,vi v19),(59,.agg [oI u0_0,oS Au0_1 u0_1 cu0_1,oS Au0_2 u0_2 cu0_2]),(60,vi v20),(61,vb true),(62,vb true),(63,.tup []),(64,.tup []),(65,.tup []),(66,.tup []),(67,.tup []),(68,vb true),(69,vb true),(70,.tup []),(71,.tup []),(72,.tup []),(73,vb true),(74,vb true),(75,.tup []),(76,.tup []),(77,.tup []),(78,.tup []),(79,.tup []),(80,vb true)] (by kernel_rfl) ⟨⟨rfl,⟨rfl,⟨rfl,trivial⟩⟩⟩,⟨trivial,⟨⟨rfl,⟨rfl,⟨rfl,trivial⟩⟩⟩,⟨trivial,⟨trivial,⟨trivial,⟨(by intro y hy;cases hy),⟨(by intro y hy;cases hy),⟨(by intro y hy;cases hy),⟨(by intro y hy;cases hy),⟨(by intro y hy;cases hy),⟨trivial,⟨trivial,⟨(by intro y hy;cases hy),⟨(by intro y hy;cases hy),⟨(by intro y hy;cases hy),⟨trivial,⟨trivial,⟨(by intro y hy;cases hy),⟨(by intro y hy;cases hy),⟨(by intro y hy;cases hy),⟨(by intro y hy;cases hy),⟨(by intro y hy;cases hy),⟨trivial,trivial⟩⟩⟩⟩⟩⟩⟩⟩⟩⟩⟩⟩⟩⟩⟩⟩⟩⟩⟩⟩⟩⟩⟩⟩ ?_
     refine Stage_nil (stage_all' [0,2,5,6,7,8,9,10,11,12,13,14,15,16,17,18,19,20,21,22,23] [1,3,4] (by kernel_rfl) (by kernel_rfl) (by kernel_rfl) ⟨QF_at (i:=1) (d:=58) (x:=vi v19) (show OpAt _ _ _ 1 58 _ from by exact At_call (d:=58) (f:=38) (args:=[rval (.agg [oI u0_0,oS Au0_1 u0_1 cu0_1,oS Au0_2 u0_2 cu0_2])]) (x:=vi v19) (by kernel_rfl) (w38 k ((hu0_1.le hM11).le hM16) ((hu0_2.le hM11).le hM16) c_v19)) (by kernel_rfl) (by kernel_rfl),⟨QF_at (i:=3) (d:=60) (x:=vi v20) (show OpAt _ _ _ 3 60 _ from by exact At_call (d:=60) (f:=29) (args:=[rval (.agg [oI u0_0,oS Au0_1 u0_1 cu0_1,oS Au0_2 u0_2 cu0_2])]) (x:=vi v20) (by kernel_rfl) (w29 k ((hu0_1.le hM11).le hM16) ((hu0_2.le hM11).le hM16) c_v20)) (by kernel_rfl) (by kernel_rfl),⟨QF_at (i:=4) (d:=61) (x:=vb true) (show OpAt _ _ _ 4 61 _ from by exact At_bin (d:=61) (b:=.neq) (u:=.int .i64 v19) (v:=.int .i64 v20) (w':=.bool true) (by kernel_rfl) (by rw [show exBin .neq (.int .i64 v19) (.int .i64 v20) = some (.bool (v19 != v20)) from by kernel_rfl,← e_b21])) (by kernel_rfl) (by kernel_rfl),trivial⟩⟩⟩) ?_
     refine thenQ_n ?_
     exact ⟨true,keep_sub (ts:=[3,4,5,6,7,8,15,17,80]) (hs:=[7,8]) (vs:=[]) (by kernel_rfl),h⟩
    | false =>
     replace h := sp_f h
     obtain ⟨v22,c_v22,h⟩ := cl_some h
     obtain ⟨v23,c_v23,h⟩ := cl_some h
     obtain ⟨b24,e_b24,h⟩ := lt_some h
     cases b24 with
     | true =>
      replace h := sp_t h
      refine T_draw' (id:=5) [] [0,0,0,0,0,0,0,0,0,0,0,0,0,0,0,0,0,0,0,0,0,0,0,0] (by kernel_rfl) (by kernel_rfl) (by kernel_rfl) (by kernel_rfl) [(57,.agg [oI u0_0,oS Au0_1 u0_1 cu0_1,oS Au0_2 u0_2 cu0_2]),(58,vi v19),(59,.agg [oI u0_0,oS Au0_1 u0_1 cu0_1,oS Au0_2 u0_2 cu0_2]),(60,vi v20),(61,vb false),(62,vb false),(63,.agg [.arr .i64 6 u1]),(64,vi v22),(65,.agg [.arr .i64 6 u1]),(66,vi v23),(67,vb true),(68,vb true),(69,vb true),(70,.tup []),(71,.tup []),(72,.tup []),(73,vb true),(74,vb true),(75,.tup []),(76,.tup []),(77,.tup []),(78,.tup []),(79,.tup []),(80,vb true)] (by kernel_rfl) ⟨⟨rfl,⟨rfl,⟨rfl,trivial⟩⟩⟩,⟨trivial,⟨⟨rfl,⟨rfl,⟨rfl,trivial⟩⟩⟩,⟨trivial,⟨trivial,⟨trivial,⟨⟨hu1,trivial⟩,⟨trivial,⟨⟨hu1,trivial⟩,⟨trivial,⟨trivial,⟨trivial,⟨trivial,⟨(by intro y hy;cases hy),⟨(by intro y hy;cases hy),⟨(by intro y hy;cases hy),⟨trivial,⟨trivial,⟨(by intro y hy;cases hy),⟨(by intro y hy;cases hy),⟨(by intro y hy;cases hy),⟨(by intro y hy;cases hy),⟨(by intro y hy;cases hy),⟨trivial,trivial⟩⟩⟩⟩⟩⟩⟩⟩⟩⟩⟩⟩⟩⟩⟩⟩⟩⟩⟩⟩⟩⟩⟩⟩ ?_
      refine Stage_nil (stage_all' [0,2,5,6,8,11,12,13,14,15,16,17,18,19,20,21,22,23] [1,3,4,7,9,10] (by kernel_rfl) (by kernel_rfl) (by kernel_rfl) ⟨QF_at (i:=1) (d:=58) (x:=vi v19) (show OpAt _ _ _ 1 58 _ from by exact At_call (d:=58) (f:=38) (args:=[rval (.agg [oI u0_0,oS Au0_1 u0_1 cu0_1,oS Au0_2 u0_2 cu0_2])]) (x:=vi v19) (by kernel_rfl) (w38 k ((hu0_1.le hM11).le hM16) ((hu0_2.le hM11).le hM16) c_v19)) (by kernel_rfl) (by kernel_rfl),⟨QF_at (i:=3) (d:=60) (x:=vi v20) (show OpAt _ _ _ 3 60 _ from by exact At_call (d:=60) (f:=29) (args:=[rval (.agg [oI u0_0,oS Au0_1 u0_1 cu0_1,oS Au0_2 u0_2 cu0_2])]) (x:=vi v20) (by kernel_rfl) (w29 k ((hu0_1.le hM11).le hM16) ((hu0_2.le hM11).le hM16) c_v20)) (by kernel_rfl) (by kernel_rfl),⟨QF_at (i:=4) (d:=61) (x:=vb false) (show OpAt _ _ _ 4 61 _ from by exact At_bin (d:=61) (b:=.neq) (u:=.int .i64 v19) (v:=.int .i64 v20) (w':=.bool false) (by kernel_rfl) (by rw [show exBin .neq (.int .i64 v19) (.int .i64 v20) = some (.bool (v19 != v20)) from by kernel_rfl,← e_b21])) (by kernel_rfl) (by kernel_rfl),⟨QF_at (i:=7) (d:=64) (x:=vi v22) (show OpAt _ _ _ 7 64 _ from by exact At_call (d:=64) (f:=39) (args:=[rval (.agg [.arr .i64 6 u1])]) (x:=vi v22) (by kernel_rfl) (w39 k hu1 c_v22)) (by kernel_rfl) (by kernel_rfl),⟨QF_at (i:=9) (d:=66) (x:=vi v23) (show OpAt _ _ _ 9 66 _ from by exact At_call (d:=66) (f:=40) (args:=[rval (.agg [.arr .i64 6 u1])]) (x:=vi v23) (by kernel_rfl) (w40 k hu1 c_v23)) (by kernel_rfl) (by kernel_rfl),⟨QF_at (i:=10) (d:=67) (x:=vb true) (show OpAt _ _ _ 10 67 _ from by exact At_bin (d:=67) (b:=.neq) (u:=.int .i64 v22) (v:=.int .i64 v23) (w':=.bool true) (by kernel_rfl) (by rw [show exBin .neq (.int .i64 v22) (.int .i64 v23) = some (.bool (v22 != v23)) from by kernel_rfl,← e_b24])) (by kernel_rfl) (by kernel_rfl),trivial⟩⟩⟩⟩⟩⟩) ?_
      refine thenQ_n ?_
      exact ⟨true,keep_sub (ts:=[3,4,5,6,7,8,15,17,80]) (hs:=[7,8]) (vs:=[]) (by kernel_rfl),h⟩
     | false =>
      replace h := sp_f h
      obtain ⟨b25,e_b25,h⟩ := lt_some h
      cases b25 with
      | true =>
       replace h := sp_t h
       refine T_draw' (id:=5) [] [0,0,0,0,0,0,0,0,0,0,0,0,0,0,0,0,0,0,0,0,0,0,0,0] (by kernel_rfl) (by kernel_rfl) (by kernel_rfl) (by kernel_rfl) [(57,.agg [oI u0_0,oS Au0_1 u0_1 cu0_1,oS Au0_2 u0_2 cu0_2]),(58,vi v19),(59,.agg [oI u0_0,oS Au0_1 u0_1 cu0_1,oS Au0_2 u0_2 cu0_2]),(60,vi v20),(61,vb false),(62,vb false),(63,.agg [.arr .i64 6 u1]),(64,vi v22),(65,.agg [.arr .i64 6 u1]),(66,vi v23),(67,vb false),(68,vb false),(69,vb false),(70,vi v8),(71,vi v13),(72,vb true),(73,vb true),(74,vb true),(75,.tup []),(76,.tup []),(77,.tup []),(78,.tup []),(79,.tup []),(80,vb true)] (by kernel_rfl) ⟨⟨rfl,⟨rfl,⟨rfl,trivial⟩⟩⟩,⟨trivial,⟨⟨rfl,⟨rfl,⟨rfl,trivial⟩⟩⟩,⟨trivial,⟨trivial,⟨trivial,⟨⟨hu1,trivial⟩,⟨trivial,⟨⟨hu1,trivial⟩,⟨trivial,⟨trivial,⟨trivial,⟨trivial,⟨trivial,⟨trivial,⟨trivial,⟨trivial,⟨trivial,⟨(by intro y hy;cases hy),⟨(by intro y hy;cases hy),⟨(by intro y hy;cases hy),⟨(by intro y hy;cases hy),⟨(by intro y hy;cases hy),⟨trivial,trivial⟩⟩⟩⟩⟩⟩⟩⟩⟩⟩⟩⟩⟩⟩⟩⟩⟩⟩⟩⟩⟩⟩⟩⟩ ?_
       refine Stage_nil (stage_all' [0,2,5,6,8,11,12,13,14,16,17,18,19,20,21,22,23] [1,3,4,7,9,10,15] (by kernel_rfl) (by kernel_rfl) (by kernel_rfl) ⟨QF_at (i:=1) (d:=58) (x:=vi v19) (show OpAt _ _ _ 1 58 _ from by exact At_call (d:=58) (f:=38) (args:=[rval (.agg [oI u0_0,oS Au0_1 u0_1 cu0_1,oS Au0_2 u0_2 cu0_2])]) (x:=vi v19) (by kernel_rfl) (w38 k ((hu0_1.le hM11).le hM16) ((hu0_2.le hM11).le hM16) c_v19)) (by kernel_rfl) (by kernel_rfl),⟨QF_at (i:=3) (d:=60) (x:=vi v20) (show OpAt _ _ _ 3 60 _ from by exact At_call (d:=60) (f:=29) (args:=[rval (.agg [oI u0_0,oS Au0_1 u0_1 cu0_1,oS Au0_2 u0_2 cu0_2])]) (x:=vi v20) (by kernel_rfl) (w29 k ((hu0_1.le hM11).le hM16) ((hu0_2.le hM11).le hM16) c_v20)) (by kernel_rfl) (by kernel_rfl),⟨QF_at (i:=4) (d:=61) (x:=vb false) (show OpAt _ _ _ 4 61 _ from by exact At_bin (d:=61) (b:=.neq) (u:=.int .i64 v19) (v:=.int .i64 v20) (w':=.bool false) (by kernel_rfl) (by rw [show exBin .neq (.int .i64 v19) (.int .i64 v20) = some (.bool (v19 != v20)) from by kernel_rfl,← e_b21])) (by kernel_rfl) (by kernel_rfl),⟨QF_at (i:=7) (d:=64) (x:=vi v22) (show OpAt _ _ _ 7 64 _ from by exact At_call (d:=64) (f:=39) (args:=[rval (.agg [.arr .i64 6 u1])]) (x:=vi v22) (by kernel_rfl) (w39 k hu1 c_v22)) (by kernel_rfl) (by kernel_rfl),⟨QF_at (i:=9) (d:=66) (x:=vi v23) (show OpAt _ _ _ 9 66 _ from by exact At_call (d:=66) (f:=40) (args:=[rval (.agg [.arr .i64 6 u1])]) (x:=vi v23) (by kernel_rfl) (w40 k hu1 c_v23)) (by kernel_rfl) (by kernel_rfl),⟨QF_at (i:=10) (d:=67) (x:=vb false) (show OpAt _ _ _ 10 67 _ from by exact At_bin (d:=67) (b:=.neq) (u:=.int .i64 v22) (v:=.int .i64 v23) (w':=.bool false) (by kernel_rfl) (by rw [show exBin .neq (.int .i64 v22) (.int .i64 v23) = some (.bool (v22 != v23)) from by kernel_rfl,← e_b24])) (by kernel_rfl) (by kernel_rfl),⟨QF_at (i:=15) (d:=72) (x:=vb true) (show OpAt _ _ _ 15 72 _ from by exact At_bin (d:=72) (b:=.neq) (u:=.int .i64 v8) (v:=.int .i64 v13) (w':=.bool true) (by kernel_rfl) (by rw [show exBin .neq (.int .i64 v8) (.int .i64 v13) = some (.bool (v8 != v13)) from by kernel_rfl,← e_b25])) (by kernel_rfl) (by kernel_rfl),trivial⟩⟩⟩⟩⟩⟩⟩) ?_
       refine thenQ_n ?_
       exact ⟨true,keep_sub (ts:=[3,4,5,6,7,8,15,17,80]) (hs:=[7,8]) (vs:=[]) (by kernel_rfl),h⟩
      | false =>
       replace h := sp_f h
       obtain ⟨b26,e_b26,h⟩ := lt_some h
       refine T_draw' (id:=5) [] [0,0,0,0,0,0,0,0,0,0,0,0,0,0,0,0,0,0,0,0,0,0,0,0] (by kernel_rfl) (by kernel_rfl) (by kernel_rfl) (by kernel_rfl) [(57,.agg [oI u0_0,oS Au0_1 u0_1 cu0_1,oS Au0_2 u0_2 cu0_2]),(58,vi v19),(59,.agg [oI u0_0,oS Au0_1 u0_1 cu0_1,oS Au0_2 u0_2 cu0_2]),(60,vi v20),(61,vb false),(62,vb false),(63,.agg [.arr .i64 6 u1]),(64,vi v22),(65,.agg [.arr .i64 6 u1]),(66,vi v23),(67,vb false),(68,vb false),(69,vb false),(70,vi v8),(71,vi v13),(72,vb false),(73,vb false),(74,vb false),(75,lS A9 v7 c10),(76,vi (v7.length : Int)),(77,lS A14 v12 c15),(78,vi (v12.length : Int)),(79,vb b26),(80,vb b26)] (by kernel_rfl) ⟨⟨rfl,⟨rfl,⟨rfl,trivial⟩⟩⟩,⟨trivial,⟨⟨rfl,⟨rfl,⟨rfl,trivial⟩⟩⟩,⟨trivial,⟨trivial,⟨trivial,⟨⟨hu1,trivial⟩,⟨trivial,⟨⟨hu1,trivial⟩,⟨trivial,⟨trivial,⟨trivial,⟨trivial,⟨trivial,⟨trivial,⟨trivial,⟨trivial,⟨trivial,⟨trivial,⟨trivial,⟨trivial,⟨trivial,⟨trivial,⟨trivial,trivial⟩⟩⟩⟩⟩⟩⟩⟩⟩⟩⟩⟩⟩⟩⟩⟩⟩⟩⟩⟩⟩⟩⟩⟩ ?_
       refine Stage_nil (stage_all' [0,2,5,6,8,11,12,13,14,16,17,18,19,20,21,22,23] [1,3,4,7,9,10,15] (by kernel_rfl) (by subst e_b26;kernel_rfl) (by kernel_rfl) ⟨QF_at (i:=1) (d:=58) (x:=vi v19) (show OpAt _ _ _ 1 58 _ from by exact At_call (d:=58) (f:=38) (args:=[rval (.agg [oI u0_0,oS Au0_1 u0_1 cu0_1,oS Au0_2 u0_2 cu0_2])]) (x:=vi v19) (by subst e_b26;kernel_rfl) (w38 k ((hu0_1.le hM11).le hM16) ((hu0_2.le hM11).le hM16) c_v19)) (by kernel_rfl) (by subst e_b26;kernel_rfl),⟨QF_at (i:=3) (d:=60) (x:=vi v20) (show OpAt _ _ _ 3 60 _ from by exact At_call (d:=60) (f:=29) (args:=[rval (.agg [oI u0_0,oS Au0_1 u0_1 cu0_1,oS Au0_2 u0_2 cu0_2])]) (x:=vi v20) (by subst e_b26;kernel_rfl) (w29 k ((hu0_1.le hM11).le hM16) ((hu0_2.le hM11).le hM16) c_v20)) (by kernel_rfl) (by subst e_b26;kernel_rfl),⟨QF_at (i:=4) (d:=61) (x:=vb false) (show OpAt _ _ _ 4 61 _ from by exact At_bin (d:=61) (b:=.neq) (u:=.int .i64 v19) (v:=.int .i64 v20) (w':=.bool false) (by subst e_b26;kernel_rfl) (by rw [show exBin .neq (.int .i64 v19) (.int .i64 v20) = some (.bool (v19 != v20)) from by kernel_rfl,← e_b21])) (by kernel_rfl) (by subst e_b26;kernel_rfl),⟨QF_at (i:=7) (d:=64) (x:=vi v22) (show OpAt _ _ _ 7 64 _ from by exact At_call (d:=64) (f:=39) (args:=[rval (.agg [.arr .i64 6 u1])]) (x:=vi v22) (by subst e_b26;kernel_rfl) (w39 k hu1 c_v22)) (by kernel_rfl) (by subst e_b26;kernel_rfl),⟨QF_at (i:=9) (d:=66) (x:=vi v23) (show OpAt _ _ _ 9 66 _ from by exact At_call (d:=66) (f:=40) (args:=[rval (.agg [.arr .i64 6 u1])]) (x:=vi v23) (by subst e_b26;kernel_rfl) (w40 k hu1 c_v23)) (by kernel_rfl) (by subst e_b26;kernel_rfl),⟨QF_at (i:=10) (d:=67) (x:=vb false) (show OpAt _ _ _ 10 67 _ from by exact At_bin (d:=67) (b:=.neq) (u:=.int .i64 v22) (v:=.int .i64 v23) (w':=.bool false) (by subst e_b26;kernel_rfl) (by rw [show exBin .neq (.int .i64 v22) (.int .i64 v23) = some (.bool (v22 != v23)) from by kernel_rfl,← e_b24])) (by kernel_rfl) (by subst e_b26;kernel_rfl),⟨QF_at (i:=15) (d:=72) (x:=vb false) (show OpAt _ _ _ 15 72 _ from by exact At_bin (d:=72) (b:=.neq) (u:=.int .i64 v8) (v:=.int .i64 v13) (w':=.bool false) (by subst e_b26;kernel_rfl) (by rw [show exBin .neq (.int .i64 v8) (.int .i64 v13) = some (.bool (v8 != v13)) from by kernel_rfl,← e_b25])) (by kernel_rfl) (by subst e_b26;kernel_rfl),trivial⟩⟩⟩⟩⟩⟩⟩) ?_
       refine thenQ_n ?_
       exact ⟨b26,keep_sub (ts:=[3,4,5,6,7,8,15,17,80]) (hs:=[7,8]) (vs:=[]) (by subst e_b26;kernel_rfl),h⟩
   ·rintro s' ⟨b17,hsub,h⟩
    subst e_j18
    refine T_sub hsub ?_
    cases b17 with
    | true =>
     replace h := sp_t h
     refine CT ?_
     refine KG (S4 [] [] [] M16) ?_
     refine SQ (RG ?_)
     refine SS 1 [(14,vb false)] ?_
     refine EN (RT (thenQ_r ?_))
     obtain rfl := sj h
     exact FT (vb false) rfl
    | false =>
     replace h := sp_f h
     refine CF ?_
     refine KG (S4 [(3,lS Au3 u3 cu3),(4,vi u4),(5,vi u5),(6,vi u6),(7,lO 7),(8,lO 8),(15,lS A9 v7 c10),(17,lS A14 v12 c15)] [(7,[oI u0_0,oS Au0_1 u0_1 cu0_1,oS Au0_2 u0_2 cu0_2]),(8,[.arr .i64 6 u1])] [] M16) ?_
     refine SN (SQ (SQ (RG ?_)))
     refine SS 1 [(3,lS Au3 u3 cu3),(4,vi u4),(5,vi u5),(6,vi u6),(7,lO 7),(8,lO 8),(15,lS A9 v7 c10),(17,lS A14 v12 c15),(19,vi (0 : Int))] ?_
     refine EN ?_
     obtain ⟨j27,e_j27,h⟩ := jn_some h
     refine T_bcut (id:=0) (c1:=(sub [1,1,1,1,1,0,1,0] Bd8)) (fun s' => Sub { σ := [(3,lS Au3 u3 cu3),(4,vi u4),(5,vi u5),(6,vi u6),(7,lO 7),(8,lO 8)],H := [(7,[oI u0_0,oS Au0_1 u0_1 cu0_1,oS Au0_2 u0_2 cu0_2]),(8,[.arr .i64 6 u1])],V := [],M := M16,ds := [] } s' ∧ j27 = some r) (by kernel_rfl) ?_ ?_
     ·refine T_loop (c1:=(sub [1,1,1,1,1,0,1,0,0] Bd8)) (by kernel_rfl) (fun n29 s' => ∃ (x28 : Int),Sub { σ := [(3,lS Au3 u3 cu3),(4,vi u4),(5,vi u5),(6,vi u6),(7,lO 7),(8,lO 8),(15,lS A9 v7 c10),(17,lS A14 v12 c15),(19,vi x28)],H := [(7,[oI u0_0,oS Au0_1 u0_1 cu0_1,oS Au0_2 u0_2 cu0_2]),(8,[.arr .i64 6 u1])],V := [],M := M16,ds := [] } s' ∧ p8_l1 k j27 v7 v12 n29 x28 = some r) (k:=k) ⟨(0 : Int),keep_sub (ts:=[3,4,5,6,7,8,15,17,19]) (hs:=[7,8]) (vs:=[]) (by kernel_rfl),h⟩ ?_
      rintro n29 s' ⟨x28,hsub,h⟩
      cases n29 with
      | zero => rw [p8_l1] at h;cases h
      | succ n29 =>
       rw [p8_l1] at h
       refine T_sub hsub ?_
       refine SQ (SQ (RG ?_))
       obtain ⟨b30,e_b30,h⟩ := lt_some h
       refine SG 4 (S4 [(3,lS Au3 u3 cu3),(4,vi u4),(5,vi u5),(6,vi u6),(7,lO 7),(8,lO 8),(15,lS A9 v7 c10),(17,lS A14 v12 c15),(19,vi x28),(84,vb b30)] [(7,[oI u0_0,oS Au0_1 u0_1 cu0_1,oS Au0_2 u0_2 cu0_2]),(8,[.arr .i64 6 u1])] [] M16) ?_ (by subst e_b30;kernel_rfl)
       refine EN ?_
       cases b30 with
       | true =>
        replace h := sp_t h
        refine CT ?_
        refine KS [(3,lS Au3 u3 cu3),(4,vi u4),(5,vi u5),(6,vi u6),(7,lO 7),(8,lO 8),(15,lS A9 v7 c10),(17,lS A14 v12 c15),(19,vi x28)] ?_
        refine SN (SQ (BK 1 (SQ ?_)))
        obtain ⟨g31,h⟩ := gd_some h
        obtain ⟨L32,e_L32,h⟩ := lt_some h
        have l_L32 : (L32).length = 4 := by rw [e_L32]; exact SlR_row (fA9.le hM16) (toNat_lt g31)
        obtain ⟨g33,h⟩ := gd_some h
        obtain ⟨L34,e_L34,h⟩ := lt_some h
        have l_L34 : (L34).length = 4 := by rw [e_L34]; exact SlR_row fA14 (toNat_lt g33)
        obtain ⟨b35,e_b35,h⟩ := lt_some h
        refine T_draw' (id:=10) [] [0,0,0,0,0,0,0,0,0] (by kernel_rfl) (by kernel_rfl) (by kernel_rfl) (by kernel_rfl) [(87,lS A9 v7 c10),(88,vi x28),(89,.lf (.ep (.slice A9 (v7.length) c10) 4 ((x28).toNat) 0)),(90,.agg [.arr .i64 4 L32]),(91,lS A14 v12 c15),(92,vi x28),(93,.lf (.ep (.slice A14 (v12.length) c15) 4 ((x28).toNat) 0)),(94,.agg [.arr .i64 4 L34]),(95,vb b35)] (by kernel_rfl) ⟨trivial,⟨trivial,⟨trivial,⟨⟨l_L32,trivial⟩,⟨trivial,⟨trivial,⟨trivial,⟨⟨l_L34,trivial⟩,⟨trivial,trivial⟩⟩⟩⟩⟩⟩⟩⟩⟩ ?_
        refine Stage_nil (stage_all' [0,1,4,5] [2,3,6,7,8] (by kernel_rfl) (by subst_vars; kernel_rfl) (by kernel_rfl) ⟨QF_at (i:=2) (d:=89) (x:=.lf (.ep (.slice A9 (v7.length) c10) 4 ((x28).toNat) 0)) (show OpAt _ _ _ 2 89 _ from by exact At_idxR (d:=89) (z:=x28) (by subst_vars; kernel_rfl) g31 (fA9.le hM16)) (by kernel_rfl) (by subst_vars; kernel_rfl),⟨QF_at (i:=3) (d:=90) (x:=.agg [.arr .i64 4 L32]) (show OpAt _ _ _ 3 90 _ from by rw [e_L32]; exact At_ldRow (d:=90) (q:=(x28).toNat) (by subst_vars; kernel_rfl) (toNat_lt g31) (fA9.le hM16)) (by kernel_rfl) (by subst_vars; kernel_rfl),⟨QF_at (i:=6) (d:=93) (x:=.lf (.ep (.slice A14 (v12.length) c15) 4 ((x28).toNat) 0)) (show OpAt _ _ _ 6 93 _ from by exact At_idxR (d:=93) (z:=x28) (by subst_vars; kernel_rfl) g33 fA14) (by kernel_rfl) (by subst_vars; kernel_rfl),⟨QF_at (i:=7) (d:=94) (x:=.agg [.arr .i64 4 L34]) (show OpAt _ _ _ 7 94 _ from by rw [e_L34]; exact At_ldRow (d:=94) (q:=(x28).toNat) (by subst_vars; kernel_rfl) (toNat_lt g33) fA14) (by kernel_rfl) (by subst_vars; kernel_rfl),⟨QF_at (i:=8) (d:=95) (x:=vb b35) (show OpAt _ _ _ 8 95 _ from by rw [e_b35]; exact At_eqW (d:=95) (t:=73) (neg:=true) (n:=4) (k:=.i64) (L:=L32) (L':=L34) (by subst_vars; kernel_rfl) (by kernel_rfl) l_L32 l_L34) (by kernel_rfl) (by subst_vars; kernel_rfl),trivial⟩⟩⟩⟩⟩) ?_
        refine thenQ_n ?_
        refine KG (S4 [(3,lS Au3 u3 cu3),(4,vi u4),(5,vi u5),(6,vi u6),(7,lO 7),(8,lO 8),(15,lS A9 v7 c10),(17,lS A14 v12 c15),(19,vi x28),(95,vb b35)] [(7,[oI u0_0,oS Au0_1 u0_1 cu0_1,oS Au0_2 u0_2 cu0_2]),(8,[.arr .i64 6 u1])] [] M16) ?_ (by subst_vars;kernel_rfl)
        cases b35 with
        | true =>
         replace h := sp_t h
         refine CT ?_
         refine KP [] [] [] ?_
         refine SQ (RG ?_)
         refine SS 1 [(14,vb false)] ?_
         refine EN (RT (blockQ_r (thenQ_r (thenQ_r (blockQ_r (thenQ_r (thenQ_r ?_)))))))
         obtain rfl := sj h
         exact FT (vb false) rfl
        | false =>
         replace h := sp_f h
         refine CF ?_
         refine KS [(3,lS Au3 u3 cu3),(4,vi u4),(5,vi u5),(6,vi u6),(7,lO 7),(8,lO 8),(15,lS A9 v7 c10),(17,lS A14 v12 c15),(19,vi x28)] ?_
         refine S0 (blockQ_n (thenQ_n (RG ?_)))
         obtain ⟨x36,e_x36,h⟩ := lt_some h
         refine SS 3 [(3,lS Au3 u3 cu3),(4,vi u4),(5,vi u5),(6,vi u6),(7,lO 7),(8,lO 8),(15,lS A9 v7 c10),(17,lS A14 v12 c15),(19,vi x36)] ?_ (by subst e_x36;kernel_rfl)
         refine EN ?_
         exact ⟨n29,Nat.lt_succ_self _,x36,keep_sub (ts:=[3,4,5,6,7,8,15,17,19]) (hs:=[7,8]) (vs:=[]) (by kernel_rfl),h⟩
       | false =>
        replace h := sp_f h
        refine CF ?_
        refine KS [(3,lS Au3 u3 cu3),(4,vi u4),(5,vi u5),(6,vi u6),(7,lO 7),(8,lO 8)] ?_
        refine XI 0 (thenQ_x (thenQ_x (blockQ_x (thenQ_n ?_))))
        exact ⟨keep_sub (ts:=[3,4,5,6,7,8]) (hs:=[7,8]) (vs:=[]) (by kernel_rfl),h⟩
     ·rintro s' ⟨hsub,h⟩
      subst e_j27
      refine thenQ_n ?_
      refine T_sub hsub ?_
      refine SQ (RG ?_)
      refine SG 4 (S4 [(3,lS Au3 u3 cu3),(4,vi u4),(5,vi u5),(6,vi u6),(7,lO 7),(8,lO 8),(97,.agg [oI u0_0,oS Au0_1 u0_1 cu0_1,oS Au0_2 u0_2 cu0_2]),(98,vi u4),(99,vi u5),(100,lS Au3 u3 cu3)] [(7,[oI u0_0,oS Au0_1 u0_1 cu0_1,oS Au0_2 u0_2 cu0_2]),(8,[.arr .i64 6 u1])] [] M16) ?_
      obtain ⟨v37,v38,c_v37,h⟩ := cl2_some h
      refine AC 101 (.tup [(some (.v (.bool v37)),[]),(some (.v (.int .i64 v38)),[])]) (w25 k ((hu0_1.le hM11).le hM16) ((hu0_2.le hM11).le hM16) ((hu3.le hM11).le hM16) c_v37) ?_ (hx:=(by intro y hy; simp only [List.mem_cons,List.mem_nil_iff,or_false] at hy; rcases hy with rfl | rfl <;> exact trivial))
      refine SH 10 [(3,lS Au3 u3 cu3),(4,vi u4),(5,vi u5),(6,vi u6),(7,lO 7),(8,lO 8),(16,vi v38),(20,vb v37)] [(7,[oI u0_0,oS Au0_1 u0_1 cu0_1,oS Au0_2 u0_2 cu0_2]),(8,[.arr .i64 6 u1])] ?_
      refine EN (SQ (RG ?_))
      refine SS 4 [(3,lS Au3 u3 cu3),(6,vi u6),(7,lO 7),(8,lO 8),(16,vi v38),(20,vb v37),(105,.agg [oI u0_0,oS Au0_1 u0_1 cu0_1,oS Au0_2 u0_2 cu0_2]),(106,vi u4),(107,vi u5),(108,lS Au3 u3 cu3)] ?_
      obtain ⟨v39,v40,c_v39,h⟩ := cl2_some h
      refine AC 109 (.tup [(some (.v (.bool v39)),[]),(some (.v (.int .i64 v40)),[])]) (w41 k ((hu0_1.le hM11).le hM16) ((hu0_2.le hM11).le hM16) ((hu3.le hM11).le hM16) c_v39) ?_ (hx:=(by intro y hy; simp only [List.mem_cons,List.mem_nil_iff,or_false] at hy; rcases hy with rfl | rfl <;> exact trivial))
      refine SH 10 [(3,lS Au3 u3 cu3),(6,vi u6),(7,lO 7),(8,lO 8),(16,vi v38),(18,vi v40),(20,vb v37),(21,vb v39)] [(7,[oI u0_0,oS Au0_1 u0_1 cu0_1,oS Au0_2 u0_2 cu0_2]),(8,[.arr .i64 6 u1])] ?_
      refine EN (SQ (RG ?_))
      refine SS 3 [(3,lS Au3 u3 cu3),(6,vi u6),(7,lO 7),(8,lO 8),(16,vi v38),(18,vi v40),(20,vb v37),(21,vb v39),(113,.agg [oI u0_0,oS Au0_1 u0_1 cu0_1,oS Au0_2 u0_2 cu0_2]),(114,.agg [.arr .i64 6 u1]),(115,lS Au3 u3 cu3)] ?_
      obtain ⟨v41,v42,v43,c_v41,h⟩ := cl3_some h
      refine TI_of (i:=3) (by kernel_rfl) (TE_callR (d:=116) (f:=31) (args:=[rval (.agg [oI u0_0,oS Au0_1 u0_1 cu0_1,oS Au0_2 u0_2 cu0_2]),rval (.agg [.arr .i64 6 u1]),rval (lS Au3 u3 cu3)]) (by kernel_rfl) (by kernel_rfl) (w31 k ((hu0_1.le hM11).le hM16) ((hu0_2.le hM11).le hM16) hu1 ((hu3.le hM11).le hM16) c_v41) ?_)
      rintro _ M46 _ hM46 _ ⟨A44,c45,rfl,fA44⟩
      refine SG 11 (S4 [(3,lS Au3 u3 cu3),(6,vi u6),(7,lO 7),(8,lO 8),(16,vi v38),(18,vi v40),(20,vb v37),(21,vb v39),(22,lS A44 v41 c45),(23,vi v42),(24,vi v43)] [(7,[oI u0_0,oS Au0_1 u0_1 cu0_1,oS Au0_2 u0_2 cu0_2]),(8,[.arr .i64 6 u1])] [] M46) ?_
      refine EN (SQ (RG ?_))
      refine SH 3 [(3,lS Au3 u3 cu3),(6,vi u6),(7,lO 7),(16,vi v38),(18,vi v40),(20,vb v37),(21,vb v39),(22,lS A44 v41 c45),(23,vi v42),(24,vi v43),(121,.agg [oI u0_0,oS Au0_1 u0_1 cu0_1,oS Au0_2 u0_2 cu0_2]),(122,.agg [.arr .i64 6 u1]),(123,lS Au3 u3 cu3)] [(7,[oI u0_0,oS Au0_1 u0_1 cu0_1,oS Au0_2 u0_2 cu0_2])] ?_
      obtain ⟨v47,v48,v49,c_v47,h⟩ := cl3_some h
      refine TI_of (i:=3) (by kernel_rfl) (TE_callR (d:=124) (f:=42) (args:=[rval (.agg [oI u0_0,oS Au0_1 u0_1 cu0_1,oS Au0_2 u0_2 cu0_2]),rval (.agg [.arr .i64 6 u1]),rval (lS Au3 u3 cu3)]) (by kernel_rfl) (by kernel_rfl) (w42 k (((hu0_1.le hM11).le hM16).le hM46) (((hu0_2.le hM11).le hM16).le hM46) hu1 (((hu3.le hM11).le hM16).le hM46) c_v47) ?_)
      rintro _ M52 _ hM52 _ ⟨A50,c51,rfl,fA50⟩
      refine SG 11 (S4 [(3,lS Au3 u3 cu3),(6,vi u6),(7,lO 7),(16,vi v38),(18,vi v40),(20,vb v37),(21,vb v39),(22,lS A44 v41 c45),(23,vi v42),(24,vi v43),(25,lS A50 v47 c51),(26,vi v48),(27,vi v49)] [(7,[oI u0_0,oS Au0_1 u0_1 cu0_1,oS Au0_2 u0_2 cu0_2])] [] M52) ?_
      refine EN (SQ ?_)
      obtain ⟨j54,e_j54,h⟩ := jn_some h
      refine T_cut (c1:=(sub [1,1,1,1,1,1,1,1,1,1,0,0] Bd8)) (c2:=(sub [1,1,1,1,1,1,1,1,1,1,0,1] Bd8)) (fun s' => ∃ (b53 : Bool),Sub { σ := [(3,lS Au3 u3 cu3),(6,vi u6),(7,lO 7),(151,vb b53)],H := [(7,[oI u0_0,oS Au0_1 u0_1 cu0_1,oS Au0_2 u0_2 cu0_2])],V := [],M := M52,ds := [] } s' ∧ j54 b53 = some r) (by kernel_rfl) ?_ ?_
      ·refine RG ?_
       refine SG 2 (S4 [(3,lS Au3 u3 cu3),(6,vi u6),(7,lO 7),(16,vi v38),(18,vi v40),(22,lS A44 v41 c45),(23,vi v42),(24,vi v43),(25,lS A50 v47 c51),(26,vi v48),(27,vi v49),(128,vb v37),(129,vb v39)] [(7,[oI u0_0,oS Au0_1 u0_1 cu0_1,oS Au0_2 u0_2 cu0_2])] [] M52) ?_
       obtain ⟨b55,e_b55,h⟩ := lt_some h
       refine AT 130 (vb b55) (by rw [e_b55]; exact At_eqB (t:=4) (neg:=true) (a:=v37) (b:=v39) (by subst e_b55; kernel_rfl) (by kernel_rfl)) ?_
       refine SH 4 [(3,lS Au3 u3 cu3),(6,vi u6),(7,lO 7),(16,vi v38),(18,vi v40),(22,lS A44 v41 c45),(23,vi v42),(24,vi v43),(25,lS A50 v47 c51),(26,vi v48),(27,vi v49),(131,vb b55)] [(7,[oI u0_0,oS Au0_1 u0_1 cu0_1,oS Au0_2 u0_2 cu0_2])] ?_
       cases b55 with
       | true =>
        replace h := sp_t h
        refine SS 24 [(3,lS Au3 u3 cu3),(6,vi u6),(7,lO 7),(151,vb true)] ?_
        refine EN ?_
        exact ⟨true,keep_sub (ts:=[3,6,7,151]) (hs:=[7]) (vs:=[]) (by kernel_rfl),h⟩
       | false =>
        replace h := sp_f h
        obtain ⟨b56,e_b56,h⟩ := lt_some h
        refine SS 9 [(3,lS Au3 u3 cu3),(6,vi u6),(7,lO 7),(22,lS A44 v41 c45),(23,vi v42),(24,vi v43),(25,lS A50 v47 c51),(26,vi v48),(27,vi v49),(136,vb b56)] ?_ (by subst e_b56;kernel_rfl)
        cases b56 with
        | true =>
         replace h := sp_t h
         refine SS 24 [(3,lS Au3 u3 cu3),(6,vi u6),(7,lO 7),(151,vb true)] ?_
         refine EN ?_
         exact ⟨true,keep_sub (ts:=[3,6,7,151]) (hs:=[7]) (vs:=[]) (by kernel_rfl),h⟩
        | false =>
         replace h := sp_f h
         refine SS 11 [(3,lS Au3 u3 cu3),(6,vi u6),(7,lO 7),(23,vi v42),(24,vi v43),(26,vi v48),(27,vi v49),(136,vb false),(137,lS A44 v41 c45),(138,lS A50 v47 c51)] ?_
         obtain ⟨v57,c_v57,h⟩ := cl_some h
         refine AC 139 (vb v57) (w17 k (fA44.le hM52) fA50 c_v57) ?_
         refine SH 15 [(3,lS Au3 u3 cu3),(6,vi u6),(7,lO 7),(23,vi v42),(24,vi v43),(26,vi v48),(27,vi v49),(142,vb (!v57))] [(7,[oI u0_0,oS Au0_1 u0_1 cu0_1,oS Au0_2 u0_2 cu0_2])] ?_
         cases v57 with
         | true =>
          replace h := sp_t h
          obtain ⟨b58,e_b58,h⟩ := lt_some h
          refine SS 20 [(3,lS Au3 u3 cu3),(6,vi u6),(7,lO 7),(24,vi v43),(27,vi v49),(147,vb b58)] ?_ (by subst e_b58;kernel_rfl)
          cases b58 with
          | true =>
           replace h := sp_t h
           refine SS 24 [(3,lS Au3 u3 cu3),(6,vi u6),(7,lO 7),(151,vb true)] ?_
           refine EN ?_
           exact ⟨true,keep_sub (ts:=[3,6,7,151]) (hs:=[7]) (vs:=[]) (by kernel_rfl),h⟩
          | false =>
           replace h := sp_f h
           obtain ⟨b59,e_b59,h⟩ := lt_some h
           refine SS 24 [(3,lS Au3 u3 cu3),(6,vi u6),(7,lO 7),(151,vb b59)] ?_ (by subst e_b59;kernel_rfl)
           refine EN ?_
           exact ⟨b59,keep_sub (ts:=[3,6,7,151]) (hs:=[7]) (vs:=[]) (by kernel_rfl),h⟩
         | false =>
          replace h := sp_f h
          refine SS 24 [(3,lS Au3 u3 cu3),(6,vi u6),(7,lO 7),(151,vb true)] ?_
          refine EN ?_
          exact ⟨true,keep_sub (ts:=[3,6,7,151]) (hs:=[7]) (vs:=[]) (by kernel_rfl),h⟩
      ·rintro s' ⟨b53,hsub,h⟩
       subst e_j54
       refine T_sub hsub ?_
       cases b53 with
       | true =>
        replace h := sp_t h
        refine CT ?_
        refine KG (S4 [] [] [] M52) ?_
        refine SQ (RG ?_)
        refine SS 1 [(14,vb false)] ?_
        refine EN (RT (thenQ_r ?_))
        obtain rfl := sj h
        exact FT (vb false) rfl
       | false =>
        replace h := sp_f h
        refine CF ?_
        refine KG (S4 [(3,lS Au3 u3 cu3),(6,vi u6),(7,lO 7)] [(7,[oI u0_0,oS Au0_1 u0_1 cu0_1,oS Au0_2 u0_2 cu0_2])] [] M52) ?_
        refine SN (SQ (RG ?_))
        refine SS 3 [(3,lS Au3 u3 cu3),(6,vi u6),(7,lO 7),(153,.agg [oI u0_0,oS Au0_1 u0_1 cu0_1,oS Au0_2 u0_2 cu0_2]),(154,lS Au3 u3 cu3),(155,vi u6)] ?_
        obtain ⟨v60,v61,c_v60,h⟩ := cl2_some h
        refine AC 156 (.tup [(some (.v (.int .i64 v60)),[]),(some (.v (.int .i64 v61)),[])]) (w24 k ((((hu0_1.le hM11).le hM16).le hM46).le hM52) ((((hu0_2.le hM11).le hM16).le hM46).le hM52) ((((hu3.le hM11).le hM16).le hM46).le hM52) c_v60) ?_ (hx:=(by intro y hy; simp only [List.mem_cons,List.mem_nil_iff,or_false] at hy; rcases hy with rfl | rfl <;> exact trivial))
        refine SH 9 [(3,lS Au3 u3 cu3),(6,vi u6),(7,lO 7),(16,vi v61),(23,vi v60)] [(7,[oI u0_0,oS Au0_1 u0_1 cu0_1,oS Au0_2 u0_2 cu0_2])] ?_
        refine EN (SQ (RG ?_))
        refine SH 3 [(16,vi v61),(23,vi v60),(160,.agg [oI u0_0,oS Au0_1 u0_1 cu0_1,oS Au0_2 u0_2 cu0_2]),(161,lS Au3 u3 cu3),(162,vi u6)] [] ?_
        obtain ⟨v62,v63,c_v62,h⟩ := cl2_some h
        refine AC 163 (.tup [(some (.v (.int .i64 v62)),[]),(some (.v (.int .i64 v63)),[])]) (w43 k ((((hu0_1.le hM11).le hM16).le hM46).le hM52) ((((hu0_2.le hM11).le hM16).le hM46).le hM52) ((((hu3.le hM11).le hM16).le hM46).le hM52) c_v62) ?_ (hx:=(by intro y hy; simp only [List.mem_cons,List.mem_nil_iff,or_false] at hy; rcases hy with rfl | rfl <;> exact trivial))
        refine SH 9 [(16,vi v61),(18,vi v63),(23,vi v60),(26,vi v62)] [] ?_
        refine EN ?_
        obtain ⟨j65,e_j65,h⟩ := jn_some h
        refine T_cut (c1:=(sub [1,1,1,1,1,1,1,1,1,1,1,1,1,0] Bd8)) (c2:=(sub [1,1,1,1,1,1,1,1,1,1,1,1,1,1] Bd8)) (fun s' => ∃ (b64 : Bool),Sub { σ := [(14,vb b64)],H := [],V := [],M := M52,ds := [] } s' ∧ j65 b64 = some r) (by kernel_rfl) ?_ ?_
        ·refine RG ?_
         obtain ⟨b66,e_b66,h⟩ := lt_some h
         refine SG 4 (S4 [(16,vi v61),(18,vi v63),(169,vb b66)] [] [] M52) ?_ (by subst e_b66;kernel_rfl)
         cases b66 with
         | true =>
          replace h := sp_t h
          obtain ⟨b67,e_b67,h⟩ := lt_some h
          refine SS 9 [(174,vb b67)] ?_ (by subst e_b67;kernel_rfl)
          cases b67 with
          | true =>
           replace h := sp_t h
           obtain ⟨v68,c_v68,h⟩ := cl_some h
           refine AC 175 (vb v68) (w14 k  c_v68) ?_
           refine SH 12 [(14,vb v68)] [] ?_
           refine EN ?_
           exact ⟨v68,keep_sub (ts:=[14]) (hs:=[]) (vs:=[]) (by kernel_rfl),h⟩
          | false =>
           replace h := sp_f h
           refine SS 12 [(14,vb false)] ?_
           refine EN ?_
           exact ⟨false,keep_sub (ts:=[14]) (hs:=[]) (vs:=[]) (by kernel_rfl),h⟩
         | false =>
          replace h := sp_f h
          refine SS 12 [(14,vb false)] ?_
          refine EN ?_
          exact ⟨false,keep_sub (ts:=[14]) (hs:=[]) (vs:=[]) (by kernel_rfl),h⟩
        ·rintro s' ⟨b64,hsub,h⟩
         subst e_j65
         refine T_sub hsub ?_
         refine RT ?_
         obtain rfl := sj h
         exact FT (vb b64) rfl
end Go.Proofs.Ythniebmammmacaa
namespace Go.Proofs.Ythniebmammmacaa
open Go.RowKit Classical
theorem wr64 {z : Int} (h1 : -9223372036854775808 ≤ z) (h2 : z ≤ 9223372036854775807) : wr .i64 z = z := by
  simp only [wr, IntKind.wrap, IntKind.signed, IntKind.bits]
  simp
  omega
theorem wru {z : Int} (h1 : 0 ≤ z) (h2 : z ≤ 18446744073709551615) : wr .u64 z = z := by
  simp only [wr, IntKind.wrap, IntKind.signed, IntKind.bits]
  simp
  omega
theorem mx_eq (x y : Int) : mx x y = max x y := by unfold mx; omega
theorem mn_eq (x y : Int) : mn x y = min x y := by unfold mn; omega
theorem lt_v {α β : Type} (x : β) (F : β → Option α) : lt' x F = F x := rfl
theorem jn_v {α β : Type} (F : β) (G : β → Option α) : jn F G = G F := rfl
theorem cl_v {α β : Type} (v : β) (F : β → Option α) : cl (some v) F = F v := rfl
theorem cl2_v {α β γ : Type} (a : α) (b : β) (F : α → β → Option γ) : cl2 (some (a, b)) F = F a b := rfl
theorem cl3_v {α β γ δ : Type} (a : α) (b : β) (c : γ) (F : α → β → γ → Option δ) : cl3 (some (a, b, c)) F = F a b c := rfl
theorem cl5_v {α β γ δ ε ζ : Type} (a : α) (b : β) (c : γ) (d : δ) (e : ε) (F : α → β → γ → δ → ε → Option ζ) : cl5 (some (a, b, c, d, e)) F = F a b c d e := rfl
theorem sp_tt {α : Type} (x y : Option α) : sp true x y = x := rfl
theorem sp_ff {α : Type} (x y : Option α) : sp false x y = y := rfl
theorem sp_d {α : Type} {c : Prop} [h : Decidable c] (x y : Option α) : sp (decide c) x y = if c then x else y := by
  cases h <;> rfl
theorem sp_nd {α : Type} {c : Prop} [h : Decidable c] (x y : Option α) : sp (!decide c) x y = if c then y else x := by
  cases h <;> rfl
theorem gd_v {α : Type} {c : Prop} [Decidable c] (h : c) (x : Option α) : gd c x = x := by unfold gd; rw [if_pos h]
theorem beq_d (x y : Int) : (x == y) = decide (x = y) := by by_cases h : x = y <;> simp [h]
theorem bne_d (x y : Int) : (x != y) = decide (¬ x = y) := by by_cases h : x = y <;> simp [h]
theorem wr_succ {i n : Nat} (h : i < n) (hn : n ≤ 9223372036854775807) : wr .i64 ((i : Int) + 1) = ((i + 1 : Nat) : Int) := by
  rw [wr64 (by omega) (by omega)]; omega
theorem dT {p : Prop} {i : Decidable p} (h : p) : @decide p i = true := by cases i <;> first | rfl | contradiction
theorem dF {p : Prop} {i : Decidable p} (h : ¬ p) : @decide p i = false := by cases i <;> first | rfl | contradiction
theorem dI {p q : Prop} {i : Decidable p} {j : Decidable q} (h : p ↔ q) : @decide p i = @decide q j := by
  by_cases hp : p
  · rw [dT hp, dT (h.1 hp)]
  · rw [dF hp, dF (fun hq => hp (h.2 hq))]
theorem iT {α : Type} {p : Prop} {i : Decidable p} {x y : α} (h : p) : @ite α p i x y = x := by cases i <;> first | rfl | contradiction
theorem iF {α : Type} {p : Prop} {i : Decidable p} {x y : α} (h : ¬ p) : @ite α p i x y = y := by cases i <;> first | rfl | contradiction
theorem getD_drop {L : List Int} {i : Nat} (h : i < L.length) : L.drop i = L.getD i 0 :: L.drop (i + 1) := by
  rw [List.drop_eq_getElem_cons h]
  simp [List.getD_eq_getElem?_getD, List.getElem?_eq_getElem h]
theorem getD_mem {L : List Int} {i : Nat} (h : i < L.length) : L.getD i 0 ∈ L := by
  rw [List.getD_eq_getElem?_getD, List.getElem?_eq_getElem h]; exact List.getElem_mem h
theorem mem_getD {L : List Int} {x : Int} (h : x ∈ L) : ∃ i, i < L.length ∧ L.getD i 0 = x := by
  obtain ⟨i, hi, e⟩ := List.getElem_of_mem h
  exact ⟨i, hi, by rw [List.getD_eq_getElem?_getD, List.getElem?_eq_getElem hi]; exact e⟩
theorem srch {β : Type} {F : Nat → Int → Option β} {len : Nat} {Q : Nat → Prop} {A J : Option β} (h0 : ∀ n, F (n + 1) (len : Int) = J)
    (h1 : ∀ n (i : Nat), i < len → (Q i ∧ F (n + 1) (i : Int) = A) ∨ (¬ Q i ∧ F (n + 1) (i : Int) = F n ((i + 1 : Nat) : Int))) : ∀ d i n, i + d = len → d < n →
    ((∃ j, i ≤ j ∧ j < len ∧ Q j) ∧ F n (i : Int) = A) ∨ ((∀ j, i ≤ j → j < len → ¬ Q j) ∧ F n (i : Int) = J)
  | 0, i, n, h2, h3 => by
    obtain ⟨n, rfl⟩ : ∃ n', n = n' + 1 := ⟨n - 1, by omega⟩
    obtain rfl : i = len := by omega
    exact .inr ⟨by intros; omega, h0 n⟩
  | d + 1, i, n, h2, h3 => by
    obtain ⟨n, rfl⟩ : ∃ n', n = n' + 1 := ⟨n - 1, by omega⟩
    rcases h1 n i (by omega) with ⟨hq, e⟩ | ⟨hq, e⟩
    · exact .inl ⟨⟨i, Nat.le_refl _, by omega, hq⟩, e⟩
    · rw [e]
      rcases srch h0 h1 d (i + 1) n (by omega) (by omega) with ⟨⟨j, a, b, c⟩, e⟩ | ⟨h, e⟩
      · exact .inl ⟨⟨j, by omega, b, c⟩, e⟩
      · refine .inr ⟨fun j a b => ?_, e⟩
        rcases Nat.eq_or_lt_of_le a with e | e
        · subst e; exact hq
        · exact h j e b
theorem srch0 {β : Type} {F : Nat → Int → Option β} {len n : Nat} (Q : Nat → Prop) {A J : Option β} (hn : len < n) (h0 : ∀ n, F (n + 1) (len : Int) = J)
    (h1 : ∀ n (i : Nat), i < len → (Q i ∧ F (n + 1) (i : Int) = A) ∨ (¬ Q i ∧ F (n + 1) (i : Int) = F n ((i + 1 : Nat) : Int))) :
    ((∃ j, j < len ∧ Q j) ∧ F n 0 = A) ∨ ((∀ j, j < len → ¬ Q j) ∧ F n 0 = J) := by
  rcases srch h0 h1 len 0 n (by omega) hn with ⟨⟨j, a, b, c⟩, e⟩ | ⟨h, e⟩
  · exact .inl ⟨⟨j, b, c⟩, e⟩
  · exact .inr ⟨fun j => h j (Nat.zero_le _), e⟩
noncomputable def fst (Q : Nat → Prop) : Nat → Nat → Int
  | 0, _ => -1
  | d + 1, i => if Q i then (i : Int) else fst Q d (i + 1)
theorem fst_spec (Q : Nat → Prop) : ∀ d i, (fst Q d i = -1 ∧ ∀ j, i ≤ j → j < i + d → ¬ Q j) ∨ (∃ j : Nat, fst Q d i = (j : Int) ∧ i ≤ j ∧ j < i + d ∧ Q j ∧ ∀ j', i ≤ j' → j' < j → ¬ Q j')
  | 0, i => .inl ⟨rfl, by intros; omega⟩
  | d + 1, i => by
    unfold fst
    by_cases hq : Q i
    · rw [if_pos hq]; exact .inr ⟨i, rfl, Nat.le_refl _, by omega, hq, by intros; omega⟩
    · rw [if_neg hq]
      rcases fst_spec Q d (i + 1) with ⟨a, b⟩ | ⟨j, a, b, c, e, f⟩
      · refine .inl ⟨a, fun j h1 h2 => ?_⟩
        rcases Nat.eq_or_lt_of_le h1 with e | e
        · subst e; exact hq
        · exact b j e (by omega)
      · refine .inr ⟨j, a, by omega, by omega, e, fun j' h1 h2 => ?_⟩
        rcases Nat.eq_or_lt_of_le h1 with e | e
        · subst e; exact hq
        · exact f j' e h2
theorem srchI {F : Nat → Int → Option Int} {len : Nat} {Q : Nat → Prop} (h0 : ∀ n, F (n + 1) (len : Int) = some (-1))
    (h1 : ∀ n (i : Nat), i < len → (Q i ∧ F (n + 1) (i : Int) = some (i : Int)) ∨ (¬ Q i ∧ F (n + 1) (i : Int) = F n ((i + 1 : Nat) : Int))) : ∀ d i n, i + d = len → d < n →
    F n (i : Int) = some (fst Q d i)
  | 0, i, n, h2, h3 => by
    obtain ⟨n, rfl⟩ : ∃ n', n = n' + 1 := ⟨n - 1, by omega⟩
    obtain rfl : i = len := by omega
    rw [h0]; rfl
  | d + 1, i, n, h2, h3 => by
    obtain ⟨n, rfl⟩ : ∃ n', n = n' + 1 := ⟨n - 1, by omega⟩
    have ih := srchI h0 h1 d (i + 1) n (by omega) (by omega)
    rcases h1 n i (by omega) with ⟨hq, e⟩ | ⟨hq, e⟩
    · rw [e, fst, iT hq]
    · rw [e, ih, fst, iF hq]
theorem srchI0 {F : Nat → Int → Option Int} {len n : Nat} (Q : Nat → Prop) (hn : len < n) (h0 : ∀ n, F (n + 1) (len : Int) = some (-1))
    (h1 : ∀ n (i : Nat), i < len → (Q i ∧ F (n + 1) (i : Int) = some (i : Int)) ∨ (¬ Q i ∧ F (n + 1) (i : Int) = F n ((i + 1 : Nat) : Int))) : F n 0 = some (fst Q len 0) :=
  srchI h0 h1 len 0 n (by omega) hn
theorem fst_pos {Q : Nat → Prop} {len : Nat} : decide (fst Q len 0 ≥ 0) = decide (∃ j, j < len ∧ Q j) := by
  rcases fst_spec Q len 0 with ⟨a, b⟩ | ⟨j, a, b, c, e, f⟩
  · rw [a, dF (by omega), dF]
    rintro ⟨j, h1, h2⟩
    exact b j (Nat.zero_le _) (by omega) h2
  · rw [a, dT (by omega), dT ⟨j, by omega, e⟩]
theorem p64_eq {k : Nat} {x a b : Int} : p64 k x a b = some (decide (a ≤ x ∧ x ≤ b)) := by
  unfold p64
  simp only [jn_v, lt_v, sp_d]
  by_cases h : a ≤ x <;> by_cases h2 : x ≤ b <;> simp [h, h2]
theorem p65_eq {k : Nat} {x a b : Int} : p65 k x a b = some (decide (a ≤ x ∧ x ≤ b)) := by
  unfold p65
  simp only [jn_v, lt_v, sp_d]
  by_cases h : x ≥ a <;> by_cases h2 : x ≤ b <;> simp [h, h2]
theorem p98_eq {k : Nat} {x : Int} : p98 k x = some (!decide (0 ≤ x ∧ x ≤ 1073741824)) := by unfold p98; rw [p64_eq]; rfl
theorem p99_eq {k : Nat} {P : Int} {R : List (List Int)} {W : List WT} {x : Int} : p99 k P R W x = some (decide (0 ≤ x ∧ x < P)) := by
  unfold p99
  simp only [jn_v, lt_v, sp_d]
  by_cases h : x ≥ 0 <;> by_cases h2 : x < P <;> simp [h, h2]
theorem p94_eq {k : Nat} {P : Int} {R : List (List Int)} {W : List WT} {x : Int} : p94 k x P R W = some (decide (0 ≤ x ∧ x < P)) := by
  unfold p94
  simp only [jn_v, lt_v, sp_d]
  by_cases h : x ≥ 0 <;> by_cases h2 : x < P <;> simp [h, h2]
def Fu (k : Nat) : Prop := 1152921504606846976 ≤ k
abbrev SzOk (z : List Int) : Prop := ∀ i, i < 6 → 0 ≤ z.getD i 0 ∧ z.getD i 0 ≤ 1073741824
noncomputable def szE (z : List Int) : Int := if SzOk z then 0 else 2
theorem p40_eq {k : Nat} (hk : Fu k) {z : List Int} : p40 k z = some (szE z) := by
  unfold Fu at hk
  unfold p40 szE
  simp only [jn_v]
  have hs := srch0 (F := p40_l1 k z (some 0)) (len := 6) (n := k) (A := some 2) (J := some 0) (fun i => ¬ (0 ≤ z.getD i 0 ∧ z.getD i 0 ≤ 1073741824)) (by omega) ?_ ?_
  · rcases hs with ⟨⟨j, a, b⟩, e⟩ | ⟨h, e⟩
    · rw [e, iF (fun h => b (h j a))]
    · rw [e, iT (fun i hi => Classical.byContradiction (h i hi))]
  · intro n; rw [p40_l1]; rfl
  · intro n i hi
    rw [p40_l1]
    simp only [lt_v, sp_d]
    rw [iT (by omega), gd_v (by omega), p65_eq]
    simp only [cl_v, sp_d, Int.toNat_natCast, Nat.mul_one, Nat.zero_add]
    rw [wr_succ hi (by omega)]
    by_cases h : 0 ≤ z.getD i 0 ∧ z.getD i 0 ≤ 1073741824
    · exact .inr ⟨not_not_intro h, iT h⟩
    · exact .inl ⟨h, iF h⟩
theorem p39_eq {k : Nat} (hk : Fu k) {z : List Int} (hz : z.length = 6) : p39 k z = some (szE z) := by
  unfold Fu at hk
  unfold p39 p62a p115a
  simp only [jn_v]
  rw [srchI0 (F := p115a_l1 k z (some (-1))) (len := 6) (n := k) (fun i => ¬ (0 ≤ z.getD i 0 ∧ z.getD i 0 ≤ 1073741824)) (by omega)]
  · simp only [cl_v, lt_v]
    rw [fst_pos]
    unfold szE
    by_cases h : SzOk z
    · rw [dF (fun ⟨j, a, b⟩ => b (h j a)), iT h, sp_ff]
    · rw [dT, iF h, sp_tt]
      exact Classical.byContradiction fun h2 => h fun i hi => Classical.byContradiction fun h3 => h2 ⟨i, hi, h3⟩
  · intro n; rw [p115a_l1]; simp only [lt_v, sp_d, hz]; rfl
  · intro n i hi
    rw [p115a_l1]
    simp only [lt_v, sp_d, hz]
    rw [iT (by omega), gd_v (by omega), p98_eq]
    simp only [cl_v, sp_nd, Int.toNat_natCast]
    rw [wr_succ hi (by omega)]
    by_cases h : 0 ≤ z.getD i 0 ∧ z.getD i 0 ≤ 1073741824
    · exact .inr ⟨not_not_intro h, iT h⟩
    · exact .inl ⟨h, iF h⟩
def setB (n : Int) : Int → List Int → Prop
  | _, [] => True
  | a, x :: r => a < x ∧ x < n ∧ setB n x r
theorem p69_l1_eq {k : Nat} {L : List Int} {n : Int} (hL : L.length ≤ 9223372036854775807) : ∀ d (i m : Nat) (a : Int), i + d = L.length → d < m → p69_l1 k L n (some true) m a (i : Int) = some (decide (setB n a (L.drop i)))
  | 0, i, m, a, h1, h2 => by
    obtain ⟨m, rfl⟩ : ∃ m', m = m' + 1 := ⟨m - 1, by omega⟩
    rw [p69_l1]
    simp only [lt_v, sp_d]
    rw [iF (by omega), List.drop_eq_nil_of_le (by omega), dT (by trivial)]
  | d + 1, i, m, a, h1, h2 => by
    obtain ⟨m, rfl⟩ : ∃ m', m = m' + 1 := ⟨m - 1, by omega⟩
    rw [p69_l1]
    simp only [lt_v, sp_d, jn_v]
    rw [iT (by omega), gd_v (by omega), wr_succ (n := L.length) (by omega) hL, p69_l1_eq hL d (i + 1) m _ (by omega) (by omega), getD_drop (by omega : i < L.length)]
    simp only [Int.toNat_natCast]
    by_cases h3 : L.getD i 0 ≤ a
    · rw [iT h3, sp_tt, dF (fun h => absurd h.1 (by omega))]
    · rw [iF h3]
      by_cases h4 : L.getD i 0 ≥ n
      · rw [iT h4, dF (fun h => absurd h.2.1 (by omega))]
      · rw [iF h4]
        congr 1
        exact dI ⟨fun h => ⟨by omega, by omega, h⟩, fun h => h.2.2⟩
theorem p69_eq {k : Nat} (hk : Fu k) {L : List Int} {n : Int} (hL : L.length ≤ 1152921504606846975) : p69 k L n = some (decide (setB n (-1) L)) := by
  unfold Fu at hk
  unfold p69
  simp only [jn_v]
  have := p69_l1_eq (k := k) (L := L) (n := n) (by omega) L.length 0 k (-1) (by omega) (by omega)
  rw [List.drop_zero] at this
  exact this
theorem setB_iff {n : Int} : ∀ {L : List Int} {a : Int}, setB n a L ↔ ∀ i, i < L.length → L.getD i 0 < n ∧ (if i = 0 then a else L.getD (i - 1) 0) < L.getD i 0
  | [], a => by simp [setB]
  | x :: r, a => by
    rw [setB, setB_iff (L := r) (a := x)]
    constructor
    · rintro ⟨h1, h2, h3⟩ i hi
      cases i with
      | zero => exact ⟨h2, h1⟩
      | succ i =>
        have := h3 i (by simpa using hi)
        simp only [List.getD_cons_succ, Nat.add_sub_cancel, if_neg (Nat.succ_ne_zero i)]
        refine ⟨this.1, ?_⟩
        cases i with
        | zero => simpa using this.2
        | succ i => simpa using this.2
    · intro h
      have h0 := h 0 (by simp)
      refine ⟨by simpa using h0.2, by simpa using h0.1, fun i hi => ?_⟩
      have := h (i + 1) (by simpa using hi)
      simp only [List.getD_cons_succ, Nat.add_sub_cancel, if_neg (Nat.succ_ne_zero i)] at this
      refine ⟨this.1, ?_⟩
      cases i with
      | zero => simpa using this.2
      | succ i => simpa using this.2
theorem setB_mem {n : Int} : ∀ {L : List Int} {a : Int}, setB n a L → ∀ x ∈ L, a < x ∧ x < n
  | [], a, _, x, hx => by cases hx
  | y :: r, a, h, x, hx => by
    rcases List.mem_cons.1 hx with e | e
    · subst e; exact ⟨h.1, h.2.1⟩
    · have := setB_mem h.2.2 x e; exact ⟨Int.lt_trans h.1 this.1, this.2⟩
theorem p83_eq {k : Nat} (hk : Fu k) {L : List Int} {n : Int} (hL : L.length ≤ 1152921504606846975) : p83 k L n = some (decide (setB n (-1) L)) := by
  unfold Fu at hk
  unfold p83
  simp only [jn_v]
  have hs := srch0 (F := p83_l1 k L n (some true)) (len := L.length) (n := k) (A := some false) (J := some true) (fun i => L.getD i 0 < 0 ∨ L.getD i 0 ≥ n ∨ (0 < i ∧ L.getD i 0 ≤ L.getD (i - 1) 0)) (by omega) ?_ ?_
  · rcases hs with ⟨⟨j, hj, hq⟩, e⟩ | ⟨h, e⟩
    · rw [e, dF]
      intro h
      have h1 := setB_iff.1 h j hj
      have h2 : -1 < L.getD j 0 := (setB_mem h _ (getD_mem hj)).1
      rcases hq with hq | hq | hq
      · omega
      · omega
      · rw [iF (by omega)] at h1; omega
    · rw [e, dT]
      refine setB_iff.2 fun i hi => ?_
      have h3 := h i hi
      refine ⟨by omega, ?_⟩
      split <;> omega
  · intro n; rw [p83_l1]; simp only [lt_v, sp_d]; rw [iF (by omega)]
  · intro n i hi
    rw [p83_l1]
    simp only [lt_v, sp_d, jn_v]
    rw [iT (by omega), gd_v (by omega), gd_v (by omega), gd_v (by omega), wr_succ hi (by omega)]
    simp only [Int.toNat_natCast]
    by_cases h1 : L.getD i 0 < 0
    · exact .inl ⟨.inl h1, by rw [iT h1, sp_tt]⟩
    · rw [iF h1]
      by_cases h2 : L.getD i 0 ≥ ‹Int›
      · exact .inl ⟨.inr (.inl h2), by rw [iT h2, sp_tt]⟩
      · rw [iF h2]
        by_cases h3 : i > 0
        · have e1 : wr .i64 ((i : Int) - 1) = ((i - 1 : Nat) : Int) := by rw [wr64 (by omega) (by omega)]; omega
          rw [iT (by omega), e1, gd_v (by omega), Int.toNat_natCast]
          by_cases h4 : L.getD i 0 ≤ L.getD (i - 1) 0
          · exact .inl ⟨.inr (.inr ⟨h3, h4⟩), by rw [iT h4]⟩
          · exact .inr ⟨by omega, by rw [iF h4]⟩
        · exact .inr ⟨by omega, by rw [iF (by omega), sp_ff]⟩
end Go.Proofs.Ythniebmammmacaa
namespace Go.Proofs.Ythniebmammmacaa
open Go.RowKit Classical
def rd (R : List (List Int)) (i : Nat) : List Int := R.getD i []
def wk (W : List WT) (i : Nat) : WT := W.getD i ([], [])
def rF (r : List Int) : Int := r.getD 0 0
def rT (r : List Int) : Int := r.getD 1 0
def rC (r : List Int) : Int := r.getD 2 0
def rM (r : List Int) : Int := r.getD 3 0
def rO (r : List Int) : Int := r.getD 4 0
def rL (r : List Int) : Int := r.getD 5 0
def wM (w : WT) : Int := w.2.getD 0 0
def wL (w : WT) : Int := w.2.getD 1 0
def wC (w : WT) : Int := w.2.getD 2 0
theorem rd_mem {R : List (List Int)} {i : Nat} (h : i < R.length) : rd R i ∈ R := by
  unfold rd; rw [List.getD_eq_getElem?_getD, List.getElem?_eq_getElem h]; exact List.getElem_mem h
def RoadA (P f t c m o l : Int) : Prop := (0 ≤ f ∧ f < P) ∧ (0 ≤ t ∧ t < P) ∧ f ≠ t ∧ (1 ≤ c ∧ c ≤ 1073741824) ∧ (1 ≤ m ∧ m ≤ 1440) ∧ 0 ≤ o ∧ o < l ∧ l ≤ 1440 ∧ m ≤ l - o
structure RoadOk (P : Int) (r : List Int) : Prop where
  ar : RoadA P (rF r) (rT r) (rC r) (rM r) (rO r) (rL r)
  sz : SzOk (List.take 6 (List.drop 6 r))
structure WorkOk (n : Int) (w : WT) : Prop where
  ne : 1 ≤ w.1.length
  me : 0 ≤ wM w ∧ wM w ≤ 5
  li : 0 ≤ wL w ∧ wL w ≤ 1073741824
  co : 1 ≤ wC w ∧ wC w ≤ 1073741824
  set : setB n (-1) w.1
structure MapOk (P : Int) (R : List (List Int)) (W : List WT) : Prop where
  r256 : R.length ≤ 256
  w10 : W.length ≤ 10
  w16 : ∀ i, i < W.length → (wk W i).1.length ≤ 16
  places : 1 ≤ P ∧ P ≤ 64
  road : ∀ i, i < R.length → RoadOk P (rd R i)
  work : ∀ i, i < W.length → WorkOk (R.length : Int) (wk W i)
def Many (R : List (List Int)) (W : List WT) : Prop := 256 < R.length ∨ 10 < W.length ∨ ∃ i, i < W.length ∧ 16 < (wk W i).1.length
noncomputable def chkE (P : Int) (R : List (List Int)) (W : List WT) : Int := if Many R W then 6 else if MapOk P R W then 0 else 2
theorem chkE_zero {P R W} : chkE P R W = 0 ↔ MapOk P R W := by
  unfold chkE
  constructor
  · intro h
    split at h
    · cases h
    · split at h
      · assumption
      · cases h
  · intro h
    rw [iF, iT h]
    rintro (h1 | h1 | ⟨i, h1, h2⟩)
    · have := h.r256; omega
    · have := h.w10; omega
    · have := h.w16 i h1; omega
theorem szE_zero {z} : szE z = 0 ↔ SzOk z := by
  unfold szE
  constructor
  · intro h
    split at h
    · assumption
    · cases h
  · intro h; rw [iT h]
theorem szE_ne {z} : (szE z != 0) = decide (¬ SzOk z) := by
  rw [bne_d]; exact dI (not_congr szE_zero)
theorem chkE_ne {P R W} : (chkE P R W != 0) = decide (¬ MapOk P R W) := by
  rw [bne_d]; exact dI (not_congr chkE_zero)
theorem chkE_eq {P R W} : (chkE P R W == 0) = decide (MapOk P R W) := by
  rw [beq_d]; exact dI chkE_zero
structure Shape (R : List (List Int)) (W : List WT) : Prop where
  rl : R.length ≤ 9223372036854775807
  r12 : ∀ r ∈ R, r.length = 12
  wl : W.length ≤ 9223372036854775807
theorem p29_l1_eq {k n : Nat} {W : List WT} {j : Option Int} (hn : W.length < n) (hW : W.length ≤ 10) :
    ((∃ i, i < W.length ∧ 16 < (wk W i).1.length) ∧ p29_l1 k W j n 0 = some 6) ∨ ((∀ i, i < W.length → ¬ 16 < (wk W i).1.length) ∧ p29_l1 k W j n 0 = j) := by
  refine srch0 (F := p29_l1 k W j) (len := W.length) (n := n) (A := some 6) (J := j) (fun i => 16 < (wk W i).1.length) hn ?_ ?_
  · intro n; rw [p29_l1]; simp only [lt_v, sp_d]; rw [iF (by omega)]
  · intro n i hi
    rw [p29_l1]
    simp only [lt_v, sp_d]
    rw [iT (by omega), gd_v (by omega), Int.toNat_natCast, wr_succ hi (by omega)]
    by_cases h : 16 < (wk W i).1.length
    · exact .inl ⟨h, by unfold wk at h; rw [iT (by omega)]⟩
    · exact .inr ⟨h, by unfold wk at h; rw [iF (by omega)]⟩
theorem p29_l2_eq {k n : Nat} (hk : Fu k) {P : Int} {R : List (List Int)} {j : Option Int} (hn : R.length < n) (hR : R.length ≤ 256) :
    ((∃ i, i < R.length ∧ ¬ RoadOk P (rd R i)) ∧ p29_l2 k P R j n 0 = some 2) ∨ ((∀ i, i < R.length → ¬ ¬ RoadOk P (rd R i)) ∧ p29_l2 k P R j n 0 = j) := by
  refine srch0 (F := p29_l2 k P R j) (len := R.length) (n := n) (A := some 2) (J := j) (fun i => ¬ RoadOk P (rd R i)) hn ?_ ?_
  · intro n; rw [p29_l2]; simp only [lt_v, sp_d]; rw [iF (by omega)]
  · intro n i hi
    rw [p29_l2]
    simp only [lt_v, sp_d, jn_v, sp_tt, sp_ff, p65_eq, cl_v, p40_eq hk, szE_ne, beq_d]
    rw [iT (by omega), gd_v (by omega), Int.toNat_natCast, wr_succ hi (by omega)]
    have hr : R.getD i [] = rd R i := rfl
    rw [hr]
    simp only [show (rd R i).getD 0 0 = rF (rd R i) from rfl, show (rd R i).getD 1 0 = rT (rd R i) from rfl, show (rd R i).getD 2 0 = rC (rd R i) from rfl, show (rd R i).getD 3 0 = rM (rd R i) from rfl, show (rd R i).getD 4 0 = rO (rd R i) from rfl, show (rd R i).getD 5 0 = rL (rd R i) from rfl]
    by_cases h : RoadOk P (rd R i)
    · refine .inr ⟨not_not_intro h, ?_⟩
      have ha := h.ar
      unfold RoadA at ha
      rw [iF (by omega), iF (by omega), iF (by omega), iF (by omega), iF (by omega), iT (by omega), iT (by omega), iF (by omega), iF (by omega), iF (by omega), wr64 (by omega) (by omega), iF (by omega), iF (not_not_intro h.sz)]
    · refine .inl ⟨h, ?_⟩
      by_cases h1 : rF (rd R i) < 0
      · rw [iT h1]
      rw [iF h1]
      by_cases h2 : rF (rd R i) ≥ P
      · rw [iT h2]
      rw [iF h2]
      by_cases h3 : rT (rd R i) < 0
      · rw [iT h3]
      rw [iF h3]
      by_cases h4 : rT (rd R i) ≥ P
      · rw [iT h4]
      rw [iF h4]
      by_cases h5 : rF (rd R i) = rT (rd R i)
      · rw [iT h5]
      rw [iF h5]
      by_cases h6 : 1 ≤ rC (rd R i) ∧ rC (rd R i) ≤ 1073741824
      rotate_left
      · rw [iF h6]
      rw [iT h6]
      by_cases h7 : 1 ≤ rM (rd R i) ∧ rM (rd R i) ≤ 1440
      rotate_left
      · rw [iF h7]
      rw [iT h7]
      by_cases h8 : rO (rd R i) < 0
      · rw [iT h8]
      rw [iF h8]
      by_cases h9 : rO (rd R i) ≥ rL (rd R i)
      · rw [iT h9]
      rw [iF h9]
      by_cases h10 : rL (rd R i) > 1440
      · rw [iT h10]
      rw [iF h10, wr64 (by omega) (by omega)]
      by_cases h11 : rL (rd R i) - rO (rd R i) < rM (rd R i)
      · rw [iT h11]
      rw [iF h11, iT]
      intro hs
      exact h ⟨by unfold RoadA; omega, hs⟩
theorem p29_l3_eq {k n : Nat} (hk : Fu k) {R : List (List Int)} {W : List WT} {j : Option Int} (hn : W.length < n) (hW : W.length ≤ 10) (h16 : ∀ i, i < W.length → (wk W i).1.length ≤ 16) :
    ((∃ i, i < W.length ∧ ¬ WorkOk R.length (wk W i)) ∧ p29_l3 k R W j n 0 = some 2) ∨ ((∀ i, i < W.length → ¬ ¬ WorkOk R.length (wk W i)) ∧ p29_l3 k R W j n 0 = j) := by
  refine srch0 (F := p29_l3 k R W j) (len := W.length) (n := n) (A := some 2) (J := j) (fun i => ¬ WorkOk R.length (wk W i)) hn ?_ ?_
  · intro n; rw [p29_l3]; simp only [lt_v, sp_d]; rw [iF (by omega)]
  · intro n i hi
    have hl := h16 i hi
    rw [p29_l3]
    simp only [lt_v, sp_d, jn_v, sp_tt, sp_ff, p65_eq, cl_v]
    rw [iT (by omega), gd_v (by omega), Int.toNat_natCast, wr_succ hi (by omega)]
    have hr : W.getD i ([], []) = wk W i := rfl
    rw [hr, p83_eq hk (by omega)]
    simp only [cl_v, sp_nd]
    simp only [show (wk W i).2.getD 0 0 = wM (wk W i) from rfl, show (wk W i).2.getD 1 0 = wL (wk W i) from rfl, show (wk W i).2.getD 2 0 = wC (wk W i) from rfl]
    by_cases h : WorkOk R.length (wk W i)
    · refine .inr ⟨not_not_intro h, ?_⟩
      have h1 := h.ne; have h2 := h.me; have h3 := h.li; have h4 := h.co
      rw [iF (by omega), iF (by omega), iF (by omega), iT h3, iT h4, iT h.set]
    · refine .inl ⟨h, ?_⟩
      by_cases h1 : ((wk W i).1.length : Int) < 1
      · rw [iT h1]
      rw [iF h1]
      by_cases h2 : wM (wk W i) < 0
      · rw [iT h2]
      rw [iF h2]
      by_cases h3 : wM (wk W i) > 5
      · rw [iT h3]
      rw [iF h3]
      by_cases h4 : 0 ≤ wL (wk W i) ∧ wL (wk W i) ≤ 1073741824
      rotate_left
      · rw [iF h4]
      rw [iT h4]
      by_cases h5 : 1 ≤ wC (wk W i) ∧ wC (wk W i) ≤ 1073741824
      rotate_left
      · rw [iF h5]
      rw [iT h5, iF]
      intro hs
      exact h ⟨by omega, by omega, h4, h5, hs⟩
theorem p29_eq {k : Nat} (hk : Fu k) {P : Int} {R : List (List Int)} {W : List WT} : p29 k P R W = some (chkE P R W) := by
  have hk' := hk
  unfold Fu at hk'
  unfold p29 chkE
  simp only [jn_v, lt_v, sp_d, sp_tt, sp_ff]
  by_cases h1 : 256 < R.length
  · rw [iT (by omega), iT (.inl h1)]
  rw [iF (by omega)]
  by_cases h2 : 10 < W.length
  · rw [iT (by omega), iT (.inr (.inl h2))]
  rw [iF (by omega)]
  rcases p29_l1_eq (k := k) (n := k) (W := W) (by omega) (by omega) with ⟨h, e⟩ | ⟨h, e⟩
  · rw [e, iT (.inr (.inr h))]
  rw [e, iF (p := Many R W) (fun x => x.elim h1 fun y => y.elim h2 fun ⟨i, a, b⟩ => h i a b)]
  have hb : ∀ {x : Option Int}, ¬ MapOk P R W → some (2 : Int) = some (if MapOk P R W then 0 else 2) := fun h => by rw [iF h]
  by_cases h3 : P < 1
  · rw [iT h3]; exact hb (x := none) (fun h => by have := h.places; omega)
  rw [iF h3]
  by_cases h4 : P > 64
  · rw [iT h4]; exact hb (x := none) (fun h => by have := h.places; omega)
  rw [iF h4]
  rcases p29_l2_eq (k := k) (n := k) hk (P := P) (R := R) (by omega) (by omega) with ⟨⟨i, a, b⟩, e⟩ | ⟨hr, e⟩
  · rw [e]; exact hb (x := none) (fun h => b (h.road i a))
  rw [e]
  rcases p29_l3_eq (k := k) (n := k) hk (R := R) (W := W) (by omega) (by omega) (fun i hi => by have := h i hi; omega) with ⟨⟨i, a, b⟩, e⟩ | ⟨hw, e⟩
  · rw [e]; exact hb (x := none) (fun h => b (h.work i a))
  rw [e, iT]
  exact ⟨by omega, by omega, fun i hi => by have := h i hi; omega, by omega, fun i hi => Classical.byContradiction (hr i hi), fun i hi => Classical.byContradiction (hw i hi)⟩
theorem p89_eq {k : Nat} (hk : Fu k) {P : Int} {R : List (List Int)} {W : List WT} {z : List Int} : p89 k P R W z = some (if MapOk P R W then szE z else chkE P R W) := by
  unfold p89
  rw [p29_eq hk, cl_v, lt_v, chkE_ne, p40_eq hk, cl_v, sp_d]
  by_cases h : MapOk P R W
  · rw [iF (not_not_intro h), iT h]
  · rw [iT h, iF h]
theorem p127a_eq {k : Nat} (hk : Fu k) {W : List WT} (hW : W.length ≤ 10) : p92a k W = some (decide (∃ i, i < W.length ∧ 16 < (wk W i).1.length)) := by
  unfold Fu at hk
  unfold p92a p127a
  simp only [jn_v]
  rw [srchI0 (F := p127a_l1 k W (some (-1))) (len := W.length) (n := k) (fun i => 16 < (wk W i).1.length) (by omega)]
  · simp only [cl_v, lt_v]
    rw [fst_pos]
    exact congrArg some (dI Iff.rfl)
  · intro n; rw [p127a_l1]; simp only [lt_v, sp_d]; rw [iF (by omega)]
  · intro n i hi
    rw [p127a_l1]
    unfold p93
    simp only [lt_v, sp_d, cl_v]
    rw [iT (by omega), gd_v (by omega), Int.toNat_natCast, wr_succ hi (by omega)]
    by_cases h : 16 < (wk W i).1.length
    · exact .inl ⟨h, by unfold wk at h; rw [iT (by omega)]⟩
    · exact .inr ⟨h, by unfold wk at h; rw [iF (by omega)]⟩
theorem p95_eq {k : Nat} (hk : Fu k) {P : Int} {R : List (List Int)} {W : List WT} {r : List Int} (hr : r.length = 12) : p95 k r P R W = some (decide (¬ RoadOk P r)) := by
  unfold p95
  simp only [lt_v, sp_d, jn_v, sp_tt, sp_ff, p64_eq, p94_eq, cl_v, p39_eq hk (show (List.take 6 (List.drop 6 r)).length = 6 from by simp [hr]), szE_ne, beq_d, mn_eq]
  simp only [show r.getD 0 0 = rF r from rfl, show r.getD 1 0 = rT r from rfl, show r.getD 2 0 = rC r from rfl, show r.getD 3 0 = rM r from rfl, show r.getD 4 0 = rO r from rfl, show r.getD 5 0 = rL r from rfl]
  have aux : ∀ b : Bool, (b = true ↔ (0 ≤ rO r ∧ rO r < rL r ∧ rL r ≤ 1440 ∧ 1 ≤ rM r ∧ rM r ≤ rL r - rO r)) → (if 0 ≤ rF r ∧ rF r < P then if 0 ≤ rT r ∧ rT r < P then if rF r = rT r then some true else if 1 ≤ rC r ∧ rC r ≤ 1073741824 then sp b (some (decide (¬ SzOk (List.take 6 (List.drop 6 r))))) (some true) else some true else some true else some true) = some (decide (¬ RoadOk P r)) := by
    intro b hb
    by_cases h1 : 0 ≤ rF r ∧ rF r < P
    rotate_left
    · rw [iF h1, dT]; intro h; have := h.ar; unfold RoadA at this; omega
    rw [iT h1]
    by_cases h2 : 0 ≤ rT r ∧ rT r < P
    rotate_left
    · rw [iF h2, dT]; intro h; have := h.ar; unfold RoadA at this; omega
    rw [iT h2]
    by_cases h3 : rF r = rT r
    · rw [iT h3, dT]; intro h; have := h.ar; unfold RoadA at this; omega
    rw [iF h3]
    by_cases h4 : 1 ≤ rC r ∧ rC r ≤ 1073741824
    rotate_left
    · rw [iF h4, dT]; intro h; have := h.ar; unfold RoadA at this; omega
    rw [iT h4]
    cases b with
    | false =>
      rw [sp_ff, dT]; intro h
      have := h.ar; unfold RoadA at this
      have := hb.2 (by omega)
      cases this
    | true =>
      rw [sp_tt]
      have h5 := hb.1 rfl
      congr 1
      refine dI (not_congr ⟨fun h => ⟨by unfold RoadA; omega, h⟩, fun h => h.sz⟩)
  by_cases h1 : rO r ≥ 0
  rotate_left
  · rw [iF h1]; exact aux false ⟨fun h => (by cases h), fun h => (by omega)⟩
  rw [iT h1]
  by_cases h2 : rO r < rL r
  rotate_left
  · rw [iF h2]; exact aux false ⟨fun h => (by cases h), fun h => (by omega)⟩
  rw [iT h2]
  by_cases h3 : rL r ≤ 1440
  rotate_left
  · rw [iF h3]; exact aux false ⟨fun h => (by cases h), fun h => (by omega)⟩
  rw [iT h3, wr64 (by omega) (by omega)]
  have := aux (decide (1 ≤ rM r ∧ rM r ≤ min 1440 (rL r - rO r))) (by rw [decide_eq_true_iff]; omega)
  rw [sp_d] at this
  exact this
theorem p97a_eq {k : Nat} (hk : Fu k) {P : Int} {R S : List (List Int)} {W : List WT} (hr : ∀ r ∈ R, r.length = 12) (hR : R.length ≤ 256) : p97a k R P S W = some (decide (∃ i, i < R.length ∧ ¬ RoadOk P (rd R i))) := by
  have hk' := hk
  unfold Fu at hk'
  unfold p97a p80c
  simp only [jn_v]
  rw [srchI0 (F := p80c_l1 k R P S W (some (-1))) (len := R.length) (n := k) (fun i => ¬ RoadOk P (rd R i)) (by omega)]
  · simp only [cl_v, lt_v]
    rw [fst_pos]
    exact congrArg some (dI Iff.rfl)
  · intro n; rw [p80c_l1]; simp only [lt_v, sp_d]; rw [iF (by omega)]
  · intro n i hi
    rw [p80c_l1]
    simp only [lt_v, sp_d, cl_v]
    rw [iT (by omega), gd_v (by omega), Int.toNat_natCast, wr_succ hi (by omega)]
    have hd : R.getD i [] = rd R i := rfl
    rw [hd, p95_eq hk (hr _ (rd_mem hi)), cl_v, sp_d]
    by_cases h : ¬ RoadOk P (rd R i)
    · exact .inl ⟨h, by rw [iT h]⟩
    · exact .inr ⟨h, by rw [iF h]⟩
theorem p96_eq {k : Nat} (hk : Fu k) {P : Int} {R : List (List Int)} {W : List WT} {w : WT} (hw : w.1.length ≤ 16) : p96 k w.1 (wM w) (wL w) (wC w) P R W = some (decide (¬ WorkOk R.length w)) := by
  unfold p96
  simp only [lt_v, sp_d, jn_v, sp_tt, sp_ff, p64_eq, cl_v, p69_eq hk (show w.1.length ≤ 1152921504606846975 from by omega), beq_d]
  by_cases h1 : (w.1.length : Int) = 0
  · rw [iT h1, dT]; intro h; have := h.ne; omega
  rw [iF h1]
  by_cases h2 : setB R.length (-1) w.1
  rotate_left
  · rw [iF h2, dT]; intro h; exact h2 h.set
  rw [iT h2]
  by_cases h3 : wM w < 0
  · rw [iT h3, dT]; intro h; have := h.me; omega
  rw [iF h3]
  by_cases h4 : wM w > 5
  · rw [iT h4, dT]; intro h; have := h.me; omega
  rw [iF h4]
  by_cases h5 : 0 ≤ wL w ∧ wL w ≤ 1073741824
  rotate_left
  · rw [iF h5, dT]; intro h; exact h5 h.li
  rw [iT h5]
  by_cases h6 : 1 ≤ wC w ∧ wC w ≤ 1073741824
  · rw [dT h6, dF (not_not_intro ⟨by omega, by omega, h5, h6, h2⟩)]; rfl
  · rw [dF h6, dT]
    · rfl
    · intro h; exact h6 h.co
theorem p92b_eq {k : Nat} (hk : Fu k) {P : Int} {R : List (List Int)} {W V : List WT} (hW : W.length ≤ 10) (h16 : ∀ i, i < W.length → (wk W i).1.length ≤ 16) : p92b k W P R V = some (decide (∃ i, i < W.length ∧ ¬ WorkOk R.length (wk W i))) := by
  have hk' := hk
  unfold Fu at hk'
  unfold p92b p127b
  simp only [jn_v]
  rw [srchI0 (F := p127b_l1 k W P R V (some (-1))) (len := W.length) (n := k) (fun i => ¬ WorkOk R.length (wk W i)) (by omega)]
  · simp only [cl_v, lt_v]
    rw [fst_pos]
    exact congrArg some (dI Iff.rfl)
  · intro n; rw [p127b_l1]; simp only [lt_v, sp_d]; rw [iF (by omega)]
  · intro n i hi
    rw [p127b_l1]
    simp only [lt_v, sp_d, cl_v]
    rw [iT (by omega), gd_v (by omega), Int.toNat_natCast, wr_succ hi (by omega)]
    have hd := p96_eq (k := k) hk (P := P) (R := R) (W := V) (h16 i hi)
    unfold wM wL wC wk at hd
    rw [hd, cl_v, sp_d]
    by_cases h : ¬ WorkOk R.length (wk W i)
    · exact .inl ⟨h, by unfold wk at h; rw [iT h]⟩
    · exact .inr ⟨h, by unfold wk at h; rw [iF h]⟩
theorem p38_eq {k : Nat} (hk : Fu k) {P : Int} {R : List (List Int)} {W : List WT} (hr : ∀ r ∈ R, r.length = 12) : p38 k P R W = some (chkE P R W) := by
  unfold p38 chkE
  simp only [jn_v, lt_v, sp_d, sp_tt, sp_ff]
  by_cases h1 : 256 < R.length
  · rw [iT (by omega), iT (.inl h1)]
  rw [iF (by omega)]
  by_cases h2 : 10 < W.length
  · rw [iT (by omega), iT (.inr (.inl h2))]
  rw [iF (by omega), p127a_eq hk (by omega), cl_v]
  by_cases h : ∃ i, i < W.length ∧ 16 < (wk W i).1.length
  · rw [dT h, sp_tt, iT (.inr (.inr h))]
  rw [dF h, sp_ff, iF (p := Many R W) (fun x => x.elim h1 fun y => y.elim h2 h)]
  have hb : ∀ {x : Option Int}, ¬ MapOk P R W → some (2 : Int) = some (if MapOk P R W then 0 else 2) := fun h => by rw [iF h]
  by_cases h3 : P < 1
  · rw [iT h3]; exact hb (x := none) (fun h => by have := h.places; omega)
  rw [iF h3]
  by_cases h4 : P > 64
  · rw [iT h4]; exact hb (x := none) (fun h => by have := h.places; omega)
  rw [iF h4, p97a_eq hk hr (by omega), cl_v]
  have h16 : ∀ i, i < W.length → (wk W i).1.length ≤ 16 := fun i hi => by
    rcases Nat.lt_or_ge 16 (wk W i).1.length with a | a
    · exact absurd ⟨i, hi, a⟩ h
    · exact a
  by_cases h5 : ∃ i, i < R.length ∧ ¬ RoadOk P (rd R i)
  · rw [dT h5, sp_tt]; obtain ⟨i, a, b⟩ := h5; exact hb (x := none) (fun h => b (h.road i a))
  rw [dF h5, sp_ff, p92b_eq hk (by omega) h16, cl_v]
  by_cases h6 : ∃ i, i < W.length ∧ ¬ WorkOk R.length (wk W i)
  · rw [dT h6, sp_tt]; obtain ⟨i, a, b⟩ := h6; exact hb (x := none) (fun h => b (h.work i a))
  rw [dF h6, sp_ff, iT]
  exact ⟨by omega, by omega, h16, by omega, fun i hi => Classical.byContradiction fun a => h5 ⟨i, hi, a⟩, fun i hi => Classical.byContradiction fun a => h6 ⟨i, hi, a⟩⟩
end Go.Proofs.Ythniebmammmacaa
namespace Go.Proofs.Ythniebmammmacaa
open Go.RowKit Classical
def rdsOk (n : Nat) (L : List Int) : Prop := ∀ x ∈ L, 0 ≤ x ∧ x < (n : Int)
noncomputable def rdsE (n : Nat) (L : List Int) : Int := if 256 < L.length then 6 else if rdsOk n L then 0 else 3
theorem rdsOk_iff {n : Nat} {L : List Int} : rdsOk n L ↔ ∀ i, i < L.length → 0 ≤ L.getD i 0 ∧ L.getD i 0 < (n : Int) := by
  constructor
  · intro h i hi; exact h _ (getD_mem hi)
  · intro h x hx
    obtain ⟨i, hi, rfl⟩ := mem_getD hx
    exact h i hi
theorem p90_eq {k : Nat} (hk : Fu k) {P : Int} {R : List (List Int)} {W : List WT} {L : List Int} : p90 k P R W L = some (rdsE R.length L) := by
  unfold Fu at hk
  unfold p90 rdsE
  simp only [jn_v, lt_v, sp_d]
  by_cases h1 : 256 < L.length
  · rw [iT (by omega), iT h1]
  rw [iF (by omega), iF h1]
  have hs := srch0 (F := p90_l1 k R L (some 0)) (len := L.length) (n := k) (A := some 3) (J := some 0) (fun i => ¬ (0 ≤ L.getD i 0 ∧ L.getD i 0 < (R.length : Int))) (by omega) ?_ ?_
  · rcases hs with ⟨⟨j, a, b⟩, e⟩ | ⟨h, e⟩
    · rw [e, iF]; intro h; exact b (rdsOk_iff.1 h j a)
    · rw [e, iT]; exact rdsOk_iff.2 fun i hi => Classical.byContradiction (h i hi)
  · intro n; rw [p90_l1]; simp only [lt_v, sp_d]; rw [iF (by omega)]
  · intro n i hi
    rw [p90_l1]
    simp only [lt_v, sp_d, jn_v, sp_tt]
    rw [iT (by omega), gd_v (by omega), gd_v (by omega), Int.toNat_natCast, wr_succ hi (by omega)]
    by_cases h : L.getD i 0 < 0
    · exact .inl ⟨by omega, by rw [iT h]⟩
    rw [iF h]
    by_cases h2 : L.getD i 0 ≥ (R.length : Int)
    · exact .inl ⟨by omega, by rw [iT h2]⟩
    · exact .inr ⟨by omega, by rw [iF h2]⟩
theorem p85b_eq {k : Nat} (hk : Fu k) {P : Int} {R : List (List Int)} {W : List WT} {L : List Int} (hL : L.length ≤ 256) : p85b k L P R W = some (decide (¬ rdsOk R.length L)) := by
  unfold Fu at hk
  unfold p85b p125b
  simp only [jn_v]
  rw [srchI0 (F := p125b_l1 k L P R W (some (-1))) (len := L.length) (n := k) (fun i => ¬ (0 ≤ L.getD i 0 ∧ L.getD i 0 < (R.length : Int))) (by omega)]
  · simp only [cl_v, lt_v]
    rw [fst_pos]
    refine congrArg some (dI ⟨fun ⟨j, a, b⟩ h => b (rdsOk_iff.1 h j a), fun h => Classical.byContradiction fun h2 => h (rdsOk_iff.2 fun i hi => Classical.byContradiction fun h3 => h2 ⟨i, hi, h3⟩)⟩)
  · intro n; rw [p125b_l1]; simp only [lt_v, sp_d]; rw [iF (by omega)]
  · intro n i hi
    rw [p125b_l1]
    unfold p116
    simp only [lt_v, sp_d, cl_v, jn_v]
    rw [iT (by omega), gd_v (by omega), Int.toNat_natCast, wr_succ hi (by omega)]
    by_cases h : L.getD i 0 < 0
    · exact .inl ⟨by omega, by rw [iT h, cl_v, sp_tt]⟩
    rw [iF h, cl_v, sp_d]
    by_cases h2 : L.getD i 0 ≥ (R.length : Int)
    · exact .inl ⟨by omega, by rw [iT h2]⟩
    · exact .inr ⟨by omega, by rw [iF h2]⟩
theorem p66_eq {k : Nat} (hk : Fu k) {P : Int} {R : List (List Int)} {W : List WT} {L : List Int} : p66 k P R W L = some (rdsE R.length L) := by
  unfold p66 rdsE
  simp only [jn_v, lt_v, sp_d]
  by_cases h1 : 256 < L.length
  · rw [iT (by omega), iT h1]
  rw [iF (by omega), iF h1, p85b_eq hk (by omega), cl_v, sp_d]
  by_cases h : rdsOk R.length L
  · rw [iF (not_not_intro h), iT h]
  · rw [iT h, iF h]
theorem p67_eq {k : Nat} (hk : Fu k) {P : Int} {R : List (List Int)} {W : List WT} {L : List Int} (hL : L.length ≤ 256) : p67 k P R W L = some (if ∀ x ∈ L, 0 ≤ x ∧ x < P then 0 else 3) := by
  unfold Fu at hk
  unfold p67 p85a p125a
  simp only [jn_v]
  rw [srchI0 (F := p125a_l1 k L P R W (some (-1))) (len := L.length) (n := k) (fun i => ¬ (0 ≤ L.getD i 0 ∧ L.getD i 0 < P)) (by omega)]
  · simp only [cl_v, lt_v]
    rw [fst_pos]
    by_cases h : ∀ x ∈ L, 0 ≤ x ∧ x < P
    · rw [dF, sp_ff, iT h]
      rintro ⟨j, a, b⟩; exact b (h _ (getD_mem a))
    · rw [dT, sp_tt, iF h]
      refine Classical.byContradiction fun h2 => h fun x hx => ?_
      obtain ⟨i, hi, rfl⟩ := mem_getD hx
      exact Classical.byContradiction fun h3 => h2 ⟨i, hi, h3⟩
  · intro n; rw [p125a_l1]; simp only [lt_v, sp_d]; rw [iF (by omega)]
  · intro n i hi
    rw [p125a_l1]
    unfold p117
    simp only [lt_v, sp_d, cl_v, jn_v]
    rw [iT (by omega), gd_v (by omega), Int.toNat_natCast, wr_succ hi (by omega)]
    by_cases h : L.getD i 0 < 0
    · exact .inl ⟨by omega, by rw [iT h, cl_v, sp_tt]⟩
    rw [iF h, cl_v, sp_d]
    by_cases h2 : L.getD i 0 ≥ P
    · exact .inl ⟨by omega, by rw [iT h2]⟩
    · exact .inr ⟨by omega, by rw [iF h2]⟩
def bitsF (m : Nat) : Nat → Nat → List Int
  | 0, _ => []
  | d + 1, i => if m.testBit i then (i : Int) :: bitsF m d (i + 1) else bitsF m d (i + 1)
def bitsL (m n : Nat) : List Int := bitsF m n 0
theorem mem_bitsF {m : Nat} : ∀ {d i : Nat} {x : Int}, x ∈ bitsF m d i ↔ ∃ j : Nat, i ≤ j ∧ j < i + d ∧ m.testBit j = true ∧ x = (j : Int)
  | 0, i, x => ⟨fun h => (by cases h), fun ⟨j, a, b, _⟩ => (by omega)⟩
  | d + 1, i, x => by
    rw [bitsF]
    have ih := mem_bitsF (m := m) (d := d) (i := i + 1) (x := x)
    constructor
    · intro h
      split at h
      · rename_i hb
        rcases List.mem_cons.1 h with e | e
        · exact ⟨i, Nat.le_refl _, by omega, hb, e⟩
        · obtain ⟨j, a, b, c⟩ := ih.1 e; exact ⟨j, by omega, by omega, c⟩
      · obtain ⟨j, a, b, c⟩ := ih.1 h; exact ⟨j, by omega, by omega, c⟩
    · rintro ⟨j, a, b, c, e⟩
      rcases Nat.eq_or_lt_of_le a with g | g
      · subst g; rw [if_pos c]; exact List.mem_cons.2 (.inl e)
      · have h3 := ih.2 ⟨j, g, by omega, c, e⟩
        split
        · exact List.mem_cons.2 (.inr h3)
        · exact h3
theorem mem_bitsL {m n : Nat} {x : Int} : x ∈ bitsL m n ↔ ∃ j : Nat, j < n ∧ m.testBit j = true ∧ x = (j : Int) := by
  unfold bitsL
  rw [mem_bitsF]
  constructor
  · rintro ⟨j, _, b, c⟩; exact ⟨j, by omega, c⟩
  · rintro ⟨j, b, c⟩; exact ⟨j, Nat.zero_le _, by omega, c⟩
theorem bitsF_len {m : Nat} : ∀ {d i : Nat}, (bitsF m d i).length ≤ d
  | 0, i => Nat.le_refl _
  | d + 1, i => by
    rw [bitsF]
    have := bitsF_len (m := m) (d := d) (i := i + 1)
    split
    · simp only [List.length_cons]; omega
    · omega
theorem bitsL_len {m n : Nat} : (bitsL m n).length ≤ n := bitsF_len
theorem bitsF_set {m n : Nat} : ∀ {d i : Nat} {a : Int}, i + d ≤ n → a < (i : Int) → setB n a (bitsF m d i)
  | 0, i, a, h, h2 => trivial
  | d + 1, i, a, h, h2 => by
    rw [bitsF]
    split
    · exact ⟨h2, by omega, bitsF_set (by omega) (by omega)⟩
    · exact bitsF_set (by omega) (by omega)
theorem bitsL_set {m n : Nat} : setB n (-1) (bitsL m n) := bitsF_set (by omega) (by omega)
theorem bitsF_nil {m : Nat} : ∀ {d i : Nat}, m < 2 ^ i → bitsF m d i = []
  | 0, i, h => rfl
  | d + 1, i, h => by
    rw [bitsF]
    rw [Nat.testBit_lt_two_pow h, if_neg (by decide)]
    exact bitsF_nil (Nat.lt_of_lt_of_le h (Nat.pow_le_pow_right (by omega) (by omega)))
theorem wruN {a : Nat} (h : a < 2 ^ 64) : wr .u64 (a : Int) = (a : Int) := wru (by omega) (by omega)
theorem shr_eq {m i : Nat} (hi : i ≤ 64) : Int.fdiv (m : Int) (2 ^ (min ((i : Int)).toNat (IntKind.bits .u64))) = ((m >>> i : Nat) : Int) := by
  rw [Int.toNat_natCast, show min i (IntKind.bits .u64) = i from Nat.min_eq_left hi, Nat.shiftRight_eq_div_pow]
  rw [Int.fdiv_eq_ediv_of_nonneg _ (by exact Int.le_of_lt (Int.pow_pos (by omega)))]
  simp
theorem ofInt_nat {a : Nat} (h : a < 2 ^ 64) : (BitVec.ofInt (IntKind.bits .u64) (a : Int)).toNat = a := by
  show (BitVec.ofInt 64 (a : Int)).toNat = a
  simp [BitVec.toNat_ofInt]
  omega
theorem bor_nat {a b : Nat} (ha : a < 2 ^ 64) (hb : b < 2 ^ 64) : bor .u64 (a : Int) (b : Int) = ((a ||| b : Nat) : Int) := by
  unfold bor
  rw [BitVec.toNat_or, ofInt_nat ha, ofInt_nat hb]
theorem band_one {a : Nat} (ha : a < 2 ^ 64) : band .u64 (a : Int) 1 = ((a % 2 : Nat) : Int) := by
  unfold band
  have h := ofInt_nat (a := 1) (by decide)
  rw [show ((1 : Nat) : Int) = 1 from rfl] at h
  rw [BitVec.toNat_and, ofInt_nat ha, h, Nat.and_one_is_mod]
theorem p124_l1_eq {k m n : Nat} (hn : n ≤ 63) (hm : m < 2 ^ n) : ∀ (d i f : Nat), i + d = n → d < f → p124_l1 k (m : Int) f (i : Int) = some (bitsF m d i)
  | d, i, f + 1, h1, h2 => by
    have h64 : m < 2 ^ 64 := Nat.lt_of_lt_of_le hm (Nat.pow_le_pow_right (by omega) (by omega))
    rw [p124_l1]
    simp only [lt_v]
    rw [gd_v (by omega), shr_eq (by omega), gd_v (by omega)]
    have hle : m >>> i ≤ m := by rw [Nat.shiftRight_eq_div_pow]; exact Nat.div_le_self _ _
    rw [band_one (Nat.lt_of_le_of_lt hle h64), wru (by omega) (by omega), wr64 (by omega) (by omega)]
    rw [bne_d, beq_d, sp_d, sp_d]
    by_cases h0 : m >>> i = 0
    · rw [iF (by omega)]
      have : m < 2 ^ i := by
        rw [Nat.shiftRight_eq_div_pow] at h0
        rcases Nat.lt_or_ge m (2 ^ i) with a | a
        · exact a
        · have := Nat.div_pos a (Nat.two_pow_pos i); omega
      rw [bitsF_nil this]
    · rw [iT (by omega)]
      have hd : d ≠ 0 := by
        rintro rfl
        apply h0
        rw [Nat.shiftRight_eq_div_pow, show i = n from by omega]
        exact Nat.div_eq_of_lt hm
      obtain ⟨d', rfl⟩ : ∃ d', d = d' + 1 := ⟨d - 1, by omega⟩
      have ih := p124_l1_eq (k := k) hn hm d' (i + 1) f (by omega) (by omega)
      have hi1 : (i : Int) + 1 = ((i + 1 : Nat) : Int) := by omega
      rw [hi1, ih, cl_v]
      have ht : m.testBit i = decide (m >>> i % 2 = 1) := by
        rw [Nat.testBit_eq_decide_div_mod_eq, Nat.shiftRight_eq_div_pow]
      rw [bitsF]
      rw [ht]
      by_cases h3 : m >>> i % 2 = 1
      · rw [iT (by omega), dT h3, if_pos rfl]
      · rw [iF (by omega), dF h3, if_neg (by decide)]
theorem p79_eq {k m n : Nat} (hk : Fu k) (hn : n ≤ 63) (hm : m < 2 ^ n) : p79 k (m : Int) = some (bitsL m n) := by
  unfold Fu at hk
  unfold p79 p124
  have := p124_l1_eq (k := k) hn hm n 0 k (by omega) (by omega)
  rw [show ((0 : Nat) : Int) = 0 from rfl] at this
  rw [this]; rfl
theorem p59_eq {k : Nat} (hk : Fu k) {L : List Int} {x : Int} (hL : L.length ≤ 1152921504606846975) : p59 k L x = some (decide (x ∈ L)) := by
  unfold Fu at hk
  unfold p59
  simp only [jn_v]
  have hs := srch0 (F := p59_l1 k L x (some false)) (len := L.length) (n := k) (A := some true) (J := some false) (fun i => L.getD i 0 = x) (by omega) ?_ ?_
  · rcases hs with ⟨⟨j, a, b⟩, e⟩ | ⟨h, e⟩
    · rw [e, dT]; rw [← b]; exact getD_mem a
    · rw [e, dF]; intro hx; obtain ⟨i, hi, e⟩ := mem_getD hx; exact h i hi e
  · intro n; rw [p59_l1]; simp only [lt_v, sp_d]; rw [iF (by omega)]
  · intro n i hi
    rw [p59_l1]
    simp only [lt_v, sp_d, beq_d]
    rw [iT (by omega), gd_v (by omega), Int.toNat_natCast, wr_succ hi (by omega)]
    by_cases h : L.getD i 0 = x
    · exact .inl ⟨h, by rw [iT h]⟩
    · exact .inr ⟨h, by rw [iF h]⟩
theorem p131_eq {k : Nat} (hk : Fu k) {L : List Int} {x : Int} (hL : L.length ≤ 1152921504606846975) : p131 k L x = some (decide (x ∈ L)) := by
  unfold Fu at hk
  unfold p131 p142
  simp only [jn_v]
  rw [srchI0 (F := p142_l1 k L x (some (-1))) (len := L.length) (n := k) (fun i => L.getD i 0 = x) (by omega)]
  · simp only [cl_v, lt_v]
    rw [fst_pos]
    refine congrArg some (dI ⟨fun ⟨j, a, b⟩ => by rw [← b]; exact getD_mem a, fun h => mem_getD h⟩)
  · intro n; rw [p142_l1]; simp only [lt_v, sp_d]; rw [iF (by omega)]
  · intro n i hi
    rw [p142_l1]
    simp only [lt_v, sp_d, beq_d]
    rw [iT (by omega), gd_v (by omega), Int.toNat_natCast, wr_succ hi (by omega)]
    by_cases h : L.getD i 0 = x
    · exact .inl ⟨h, by rw [iT h.symm]⟩
    · exact .inr ⟨h, by rw [iF (fun h2 => h h2.symm)]⟩
noncomputable def limL (W : List WT) (i k : Int) : List Int → Int → Int
  | [], a => a
  | x :: S, a => limL W i k S (if wM (wk W x.toNat) = k ∧ i ∈ (wk W x.toNat).1 then max a (wL (wk W x.toNat)) else a)
noncomputable def lim (R : List (List Int)) (W : List WT) (S : List Int) (i k : Nat) : Int := limL W (i : Int) (k : Int) S ((rd R i).getD (6 + k) 0)
def sOk (W : List WT) (S : List Int) : Prop := ∀ x ∈ S, 0 ≤ x ∧ x < (W.length : Int)
def wOk (W : List WT) : Prop := ∀ i, i < W.length → (wk W i).1.length ≤ 1152921504606846975
theorem limL_le {W : List WT} {i k z : Int} : ∀ {S : List Int} {a : Int}, z ≤ limL W i k S a ↔ z ≤ a ∨ ∃ x ∈ S, wM (wk W x.toNat) = k ∧ i ∈ (wk W x.toNat).1 ∧ z ≤ wL (wk W x.toNat)
  | [], a => by simp [limL]
  | x :: S, a => by
    rw [limL]
    rw [limL_le]
    split
    · rename_i h
      constructor
      · rintro (h1 | ⟨y, hy, h2⟩)
        · by_cases g : z ≤ a
          · exact .inl g
          · exact .inr ⟨x, List.mem_cons_self, h.1, h.2, by omega⟩
        · exact .inr ⟨y, List.mem_cons_of_mem _ hy, h2⟩
      · rintro (h1 | ⟨y, hy, h2⟩)
        · exact .inl (by omega)
        · rcases List.mem_cons.1 hy with e | e
          · subst e; have h5 := h2.2.2; exact .inl (by omega)
          · exact .inr ⟨y, e, h2⟩
    · rename_i h
      constructor
      · rintro (h1 | ⟨y, hy, h2⟩)
        · exact .inl h1
        · exact .inr ⟨y, List.mem_cons_of_mem _ hy, h2⟩
      · rintro (h1 | ⟨y, hy, h2⟩)
        · exact .inl h1
        · rcases List.mem_cons.1 hy with e | e
          · subst e; exact absurd ⟨h2.1, h2.2.1⟩ h
          · exact .inr ⟨y, e, h2⟩
theorem lim_congr {R W i k} {S S' : List Int} (h : ∀ x, x ∈ S ↔ x ∈ S') : lim R W S i k = lim R W S' i k := by
  unfold lim
  have key : ∀ z, z ≤ limL W (i : Int) (k : Int) S ((rd R i).getD (6 + k) 0) ↔ z ≤ limL W (i : Int) (k : Int) S' ((rd R i).getD (6 + k) 0) := by
    intro z
    rw [limL_le, limL_le]
    constructor
    · rintro (a | ⟨x, hx, a⟩)
      · exact .inl a
      · exact .inr ⟨x, (h x).1 hx, a⟩
    · rintro (a | ⟨x, hx, a⟩)
      · exact .inl a
      · exact .inr ⟨x, (h x).2 hx, a⟩
  exact Int.le_antisymm ((key _).1 (Int.le_refl _)) ((key _).2 (Int.le_refl _))
theorem p119_r1_eq {k : Nat} (hk : Fu k) {W : List WT} {i kk : Int} {j : Int → Option Int} (hw : wOk W) : ∀ {S : List Int} {a : Int}, sOk W S → p119_r1 k j W i kk S a = j (limL W i kk S a)
  | [], a, _ => rfl
  | x :: S, a, hs => by
    have hx := hs x List.mem_cons_self
    have ih := fun a => p119_r1_eq hk (W := W) (i := i) (kk := kk) (j := j) hw (S := S) (a := a) (fun y hy => hs y (List.mem_cons_of_mem _ hy))
    rw [p119_r1]
    simp only [lt_v, jn_v, beq_d, mx_eq]
    have hd : W.getD x.toNat ([], []) = wk W x.toNat := rfl
    rw [gd_v (by omega), hd, p131_eq hk (hw x.toNat (by omega))]
    simp only [sp_d, cl_v, ih, sp_ff]
    rw [limL]
    by_cases h1 : wM (wk W x.toNat) = kk
    · rw [show (wk W x.toNat).2.getD 0 0 = wM (wk W x.toNat) from rfl, iT h1]
      by_cases h2 : i ∈ (wk W x.toNat).1
      · rw [iT h2, iT ⟨h1, h2⟩]; rfl
      · rw [iF h2, iF (fun h => h2 h.2)]
    · rw [show (wk W x.toNat).2.getD 0 0 = wM (wk W x.toNat) from rfl, iF h1, iF (fun h => h1 h.1)]
theorem p119_eq {k m n : Nat} (hk : Fu k) {P : Int} {R : List (List Int)} {W : List WT} {z : List Int} {i kk : Nat} (hw : wOk W) (hn : n ≤ 63) (hm : m < 2 ^ n) (hnW : n ≤ W.length) (hi : i < R.length) (hkk : kk < 6) :
    p119 k P R W z (m : Int) (i : Int) (kk : Int) = some (lim R W (bitsL m n) i kk) := by
  unfold p119
  simp only [lt_v, jn_v]
  rw [gd_v (by omega), gd_v (by omega), p79_eq hk hn hm, cl_v, p119_r1_eq hk hw]
  · simp only [Int.toNat_natCast, Nat.mul_one]; rfl
  · intro x hx
    obtain ⟨j, a, _, rfl⟩ := mem_bitsL.1 hx
    omega
theorem p126_l1_eq {k : Nat} (hk : Fu k) {W : List WT} {S : List Int} {i kk : Int} {j : Int → Option Int} (hw : wOk W) (hs : sOk W S) (hS : S.length ≤ 1152921504606846975) : ∀ (d q f : Nat) (a : Int), q + d = S.length → d < f →
    p126_l1 k W S i kk j f a (q : Int) = j (limL W i kk (S.drop q) a)
  | 0, q, f, a, h1, h2 => by
    obtain ⟨f, rfl⟩ : ∃ n', f = n' + 1 := ⟨f - 1, by omega⟩
    rw [p126_l1]
    simp only [lt_v, sp_d]
    rw [iF (by omega), List.drop_eq_nil_of_le (by omega)]
    rfl
  | d + 1, q, f, a, h1, h2 => by
    obtain ⟨f, rfl⟩ : ∃ n', f = n' + 1 := ⟨f - 1, by omega⟩
    have hx := hs _ (getD_mem (by omega : q < S.length))
    have ih := fun a => p126_l1_eq hk (W := W) (S := S) (i := i) (kk := kk) (j := j) hw hs hS d (q + 1) f a (by omega) (by omega)
    rw [p126_l1]
    simp only [lt_v, jn_v, beq_d, mx_eq, Int.toNat_natCast]
    rw [wr_succ (n := S.length) (by omega) (by omega)]
    have hd : W.getD (S.getD q 0).toNat ([], []) = wk W (S.getD q 0).toNat := rfl
    rw [dT (by omega), gd_v (by omega), gd_v (by omega), hd, p59_eq hk (hw _ (by omega))]
    simp only [sp_d, cl_v, ih, sp_ff, sp_tt]
    rw [getD_drop (by omega : q < S.length)]
    conv => rhs; rw [limL]
    by_cases h1 : wM (wk W (S.getD q 0).toNat) = kk
    · rw [show (wk W (S.getD q 0).toNat).2.getD 0 0 = wM (wk W (S.getD q 0).toNat) from rfl, iT h1]
      by_cases h2 : i ∈ (wk W (S.getD q 0).toNat).1
      · rw [iT h2, iT ⟨h1, h2⟩]; rfl
      · rw [iF h2, iF (fun h => h2 h.2)]
    · rw [show (wk W (S.getD q 0).toNat).2.getD 0 0 = wM (wk W (S.getD q 0).toNat) from rfl, iF h1, iF (fun h => h1 h.1)]
theorem p126_eq {k : Nat} (hk : Fu k) {P : Int} {R : List (List Int)} {W : List WT} {S : List Int} {i kk : Nat} (hw : wOk W) (hs : sOk W S) (hS : S.length ≤ 1152921504606846975) (hi : i < R.length) (hkk : kk < 6) :
    p126 k P R W S (i : Int) (kk : Int) = some (lim R W S i kk) := by
  unfold p126
  simp only [lt_v, jn_v]
  have := p126_l1_eq (k := k) hk (W := W) (S := S) (i := (i : Int)) (kk := (kk : Int)) (j := fun x => some x) hw hs hS S.length 0 k ((rd R i).getD (6 + kk) 0) (by omega) (by unfold Fu at hk; omega)
  rw [gd_v (by omega), gd_v (by omega)]
  simp only [Int.toNat_natCast, Nat.mul_one]
  exact this
noncomputable def cau (R : List (List Int)) (W : List WT) (z S : List Int) (i : Nat) : Nat → Nat → List (List Int)
  | 0, _ => []
  | d + 1, k => if z.getD k 0 > lim R W S i k then [(i : Int), (k : Int), lim R W S i k, z.getD k 0] :: cau R W z S i d (k + 1) else cau R W z S i d (k + 1)
def us (R : List (List Int)) (W : List WT) (z S : List Int) (i : Nat) : Prop := ∀ k, k < 6 → z.getD k 0 ≤ lim R W S i k
theorem cau_nil {R W z S i} : ∀ {d k : Nat}, cau R W z S i d k = [] ↔ ∀ j, k ≤ j → j < k + d → z.getD j 0 ≤ lim R W S i j
  | 0, k => ⟨fun _ => by intros; omega, fun _ => rfl⟩
  | d + 1, k => by
    rw [cau]
    have ih := cau_nil (R := R) (W := W) (z := z) (S := S) (i := i) (d := d) (k := k + 1)
    split
    · rename_i h
      constructor
      · intro h; cases h
      · intro h2; have := h2 k (Nat.le_refl _) (by omega); omega
    · rename_i h
      rw [ih]
      constructor
      · intro h2 j a b
        rcases Nat.eq_or_lt_of_le a with e | e
        · subst e; omega
        · exact h2 j e (by omega)
      · intro h2 j a b; exact h2 j (by omega) (by omega)
theorem us_cau {R W z S i} : cau R W z S i 6 0 = [] ↔ us R W z S i := by
  rw [cau_nil]
  exact ⟨fun h k hk => h k (Nat.zero_le _) (by omega), fun h j _ b => h j (by omega)⟩
theorem p118_l1_eq {k m n : Nat} (hk : Fu k) {P : Int} {R : List (List Int)} {W : List WT} {z : List Int} {i : Nat} (hw : wOk W) (hn : n ≤ 63) (hm : m < 2 ^ n) (hnW : n ≤ W.length) (hi : i < R.length) : ∀ (d q f : Nat), q + d = 6 → d < f →
    p118_l1 k P R W z (m : Int) (i : Int) f (q : Int) = some (cau R W z (bitsL m n) i d q)
  | 0, q, f, h1, h2 => by
    obtain ⟨f, rfl⟩ : ∃ n', f = n' + 1 := ⟨f - 1, by omega⟩
    rw [p118_l1]
    simp only [lt_v, sp_d]
    rw [iF (by omega)]
    rfl
  | d + 1, q, f, h1, h2 => by
    obtain ⟨f, rfl⟩ : ∃ n', f = n' + 1 := ⟨f - 1, by omega⟩
    have ih := p118_l1_eq hk (P := P) (R := R) (W := W) (z := z) (i := i) hw hn hm hnW hi d (q + 1) f (by omega) (by omega)
    rw [p118_l1]
    simp only [lt_v, sp_d]
    rw [iT (by omega), gd_v (by omega), p119_eq hk hw hn hm hnW hi (by omega), cl_v, wr_succ (n := 6) (by omega) (by omega), ih, cl_v, Int.toNat_natCast]
    conv => rhs; rw [cau]
    by_cases h : z.getD q 0 > lim R W (bitsL m n) i q
    · rw [iT h, iT h]
    · rw [iF h, iF h]
theorem p71_eq {k m n : Nat} (hk : Fu k) {P : Int} {R : List (List Int)} {W : List WT} {z : List Int} {i : Nat} (hw : wOk W) (hn : n ≤ 63) (hm : m < 2 ^ n) (hnW : n ≤ W.length) (hi : i < R.length) :
    p71 k P R W z (m : Int) (i : Int) = some (cau R W z (bitsL m n) i 6 0) := by
  unfold p71 p118
  have := p118_l1_eq (k := k) hk (P := P) (R := R) (W := W) (z := z) (i := i) hw hn hm hnW hi 6 0 k (by omega) (by unfold Fu at hk; omega)
  rw [show ((0 : Nat) : Int) = 0 from rfl] at this
  rw [this]; rfl
theorem p55_eq {k m n : Nat} (hk : Fu k) {P : Int} {R : List (List Int)} {W : List WT} {z : List Int} {i : Nat} (hw : wOk W) (hn : n ≤ 63) (hm : m < 2 ^ n) (hnW : n ≤ W.length) (hi : i < R.length) :
    p55 k P R W z (m : Int) (i : Int) = some (decide (us R W z (bitsL m n) i)) := by
  unfold p55
  rw [p71_eq hk hw hn hm hnW hi]
  simp only [cl_v, jn_v]
  by_cases h : us R W z (bitsL m n) i
  · rw [us_cau.2 h, dT h]; rfl
  · rw [dF h]
    cases hc : cau R W z (bitsL m n) i 6 0 with
    | nil => exact absurd (us_cau.1 hc) h
    | cons a b => rfl
theorem cau_len {R W z S i} : ∀ {d k : Nat}, (cau R W z S i d k).length ≤ d
  | 0, k => Nat.le_refl _
  | d + 1, k => by
    rw [cau]
    have := cau_len (R := R) (W := W) (z := z) (S := S) (i := i) (d := d) (k := k + 1)
    split
    · simp only [List.length_cons]; omega
    · omega
theorem p91_l2_eq {k : Nat} (hk : Fu k) {P : Int} {R : List (List Int)} {W : List WT} {z S L : List Int} {x : Nat} (hw : wOk W) (hs : sOk W S) (hS : S.length ≤ 1152921504606846975) (hx : x < L.length) (hL : rdsOk R.length L)
    (j : List (List Int) → Option (List (List Int))) : ∀ (d q f : Nat) (A : List (List Int)), q + d = 6 → d < f → A.length + d ≤ 4000000000000 →
    p91_l2 k P R W z S L (x : Int) j f (q : Int) A = j (A ++ cau R W z S (L.getD x 0).toNat d q)
  | 0, q, f, A, h1, h2, h3 => by
    obtain ⟨f, rfl⟩ : ∃ n', f = n' + 1 := ⟨f - 1, by omega⟩
    rw [p91_l2]
    simp only [lt_v, sp_d]
    rw [iF (by omega)]
    simp [cau]
  | d + 1, q, f, A, h1, h2, h3 => by
    obtain ⟨f, rfl⟩ : ∃ n', f = n' + 1 := ⟨f - 1, by omega⟩
    have hl := hL _ (getD_mem hx)
    obtain ⟨i, hi⟩ : ∃ i : Nat, L.getD x 0 = (i : Int) := ⟨(L.getD x 0).toNat, by omega⟩
    have ih := fun A hA => p91_l2_eq hk (P := P) (R := R) (W := W) (z := z) (S := S) (L := L) (x := x) hw hs hS hx hL j d (q + 1) f A (by omega) (by omega) hA
    rw [p91_l2]
    simp only [lt_v, sp_d, jn_v, Int.toNat_natCast]
    rw [iT (by omega), gd_v (by omega), hi, p126_eq hk hw hs hS (by omega) (by omega), cl_v, gd_v (by omega), wr_succ (n := 6) (by omega) (by omega)]
    simp only [Nat.zero_add, Nat.mul_one, Int.toNat_natCast]
    conv => rhs; rw [cau]
    rw [hi] at ih
    by_cases h : z.getD q 0 > lim R W S i q
    · rw [iT h, iT h, gd_v (by omega), gd_v (by omega), gd_v (by simp only [List.length_cons, List.length_nil]; omega), ih _ (by simp only [List.length_append, List.length_cons, List.length_nil]; omega)]
      rw [List.append_assoc]; rfl
    · rw [iF h, iF h, ih _ (by omega)]; rfl
theorem p91_l1_eq {k : Nat} (hk : Fu k) {P : Int} {R : List (List Int)} {W : List WT} {z S L : List Int} (hw : wOk W) (hs : sOk W S) (hS : S.length ≤ 1152921504606846975) (hL : rdsOk R.length L) (hl : L.length ≤ 500000000000)
    (j : List (List Int) → Option (List (List Int))) : ∀ (d q f : Nat) (A : List (List Int)), q + d = L.length → d < f → A.length ≤ 6 * q →
    p91_l1 k P R W z S L j f (q : Int) A = j (A ++ (L.drop q).flatMap fun x => cau R W z S x.toNat 6 0)
  | 0, q, f, A, h1, h2, h3 => by
    obtain ⟨f, rfl⟩ : ∃ n', f = n' + 1 := ⟨f - 1, by omega⟩
    rw [p91_l1]
    simp only [lt_v, sp_d]
    rw [iF (by omega), List.drop_eq_nil_of_le (by omega)]
    simp
  | d + 1, q, f, A, h1, h2, h3 => by
    obtain ⟨f, rfl⟩ : ∃ n', f = n' + 1 := ⟨f - 1, by omega⟩
    have ih := fun A hA => p91_l1_eq hk (P := P) (R := R) (W := W) (z := z) (S := S) (L := L) hw hs hS hL hl j d (q + 1) f A (by omega) (by omega) hA
    rw [p91_l1]
    simp only [lt_v, sp_d, jn_v]
    have h4 := p91_l2_eq hk (P := P) (z := z) (x := q) hw hs hS (by omega) hL (fun R10 => p91_l1 k P R W z S L j f (wr .i64 ((q : Int) + 1)) R10) 6 0 k A (by omega) (by unfold Fu at hk; omega) (by omega)
    rw [show ((0 : Nat) : Int) = 0 from rfl] at h4
    rw [iT (by omega), h4, wr_succ (n := L.length) (by omega) (by omega), ih _ (by
      have := cau_len (R := R) (W := W) (z := z) (S := S) (i := (L.getD q 0).toNat) (d := 6) (k := 0)
      rw [List.length_append]; omega), getD_drop (by omega : q < L.length), List.flatMap_cons, List.append_assoc]
noncomputable def cauL (R : List (List Int)) (W : List WT) (z S L : List Int) : List (List Int) := L.flatMap fun x => cau R W z S x.toNat 6 0
theorem p91_eq {k : Nat} (hk : Fu k) {P : Int} {R : List (List Int)} {W : List WT} {z S L : List Int} (hw : wOk W) (hs : sOk W S) (hS : S.length ≤ 1152921504606846975) (hL : rdsOk R.length L) (hl : L.length ≤ 500000000000) :
    p91 k P R W z S L = some (cauL R W z S L) := by
  unfold p91
  simp only [jn_v]
  have := p91_l1_eq (k := k) hk (P := P) (z := z) hw hs hS hL hl (fun R4 => some R4) L.length 0 k [] (by omega) (by unfold Fu at hk; omega) (by simp)
  rw [List.drop_zero, List.nil_append] at this
  exact this
def costL (W : List WT) : List Int → Int
  | [] => 0
  | x :: S => wC (wk W x.toNat) + costL W S
def wcOk (W : List WT) : Prop := ∀ i, i < W.length → 1 ≤ wC (wk W i) ∧ wC (wk W i) ≤ 1073741824
theorem p77_r1_eq {k : Nat} {W : List WT} {j : Int → Option Int} (hc : wcOk W) : ∀ {S : List Int} {a : Int}, sOk W S → 0 ≤ a → a + 1073741824 * (S.length : Int) ≤ 9223372036854775807 → p77_r1 k j W S a = j (a + costL W S)
  | [], a, _, _, _ => by simp [p77_r1, costL]
  | x :: S, a, hs, h0, h1 => by
    have hx := hs x List.mem_cons_self
    have h2 := hc x.toNat (by omega)
    have h3 : W.getD x.toNat ([], []) = wk W x.toNat := rfl
    have h4 : (wk W x.toNat).2.getD 2 0 = wC (wk W x.toNat) := rfl
    rw [List.length_cons] at h1
    rw [p77_r1]
    simp only [lt_v]
    rw [gd_v (by omega), h3, h4, wr64 (by omega) (by omega), p77_r1_eq hc (fun y hy => hs y (List.mem_cons_of_mem _ hy)) (by omega) (by omega)]
    simp only [costL]
    rw [Int.add_assoc]
theorem p77_eq {k m n : Nat} (hk : Fu k) {P : Int} {R : List (List Int)} {W : List WT} {z : List Int} (hc : wcOk W) (hn : n ≤ 63) (hm : m < 2 ^ n) (hnW : n ≤ W.length) : p77 k P R W z (m : Int) = some (costL W (bitsL m n)) := by
  unfold p77
  rw [p79_eq hk hn hm, cl_v, jn_v, p77_r1_eq hc, Int.zero_add]
  · intro x hx
    obtain ⟨j, a, _, rfl⟩ := mem_bitsL.1 hx
    omega
  · omega
  · have := bitsL_len (m := m) (n := n); omega
theorem p101_l1_eq {k : Nat} {W : List WT} {S : List Int} {j : Int → Option Int} (hc : wcOk W) (hs : sOk W S) : ∀ (d q f : Nat) (a : Int), q + d = S.length → d < f → 0 ≤ a → a + 1073741824 * (d : Int) ≤ 9223372036854775807 → S.length ≤ 1152921504606846975 →
    p101_l1 k W S j f a (q : Int) = j (a + costL W (S.drop q))
  | 0, q, f, a, h1, h2, _, _, _ => by
    obtain ⟨f, rfl⟩ : ∃ n', f = n' + 1 := ⟨f - 1, by omega⟩
    rw [p101_l1]
    simp only [lt_v, sp_d]
    rw [iF (by omega), List.drop_eq_nil_of_le (by omega)]
    simp [costL]
  | d + 1, q, f, a, h1, h2, h0, h3, h4 => by
    obtain ⟨f, rfl⟩ : ∃ n', f = n' + 1 := ⟨f - 1, by omega⟩
    have hx := hs _ (getD_mem (by omega : q < S.length))
    have h5 := hc (S.getD q 0).toNat (by omega)
    have h6 : W.getD (S.getD q 0).toNat ([], []) = wk W (S.getD q 0).toNat := rfl
    have h7 : (wk W (S.getD q 0).toNat).2.getD 2 0 = wC (wk W (S.getD q 0).toNat) := rfl
    rw [p101_l1]
    simp only [lt_v, sp_d, Int.toNat_natCast]
    rw [iT (by omega), gd_v (by omega), gd_v (by omega), h6, h7, wr64 (by omega) (by omega), wr_succ (n := S.length) (by omega) (by omega), p101_l1_eq hc hs d (q + 1) f _ (by omega) (by omega) (by omega) (by omega) h4, getD_drop (by omega : q < S.length)]
    simp only [costL]
    rw [Int.add_assoc]
theorem p101_eq {k : Nat} (hk : Fu k) {P : Int} {R : List (List Int)} {W : List WT} {S : List Int} (hc : wcOk W) (hs : sOk W S) (hS : S.length ≤ 1000000) : p101 k P R W S = some (costL W S) := by
  unfold Fu at hk
  unfold p101
  simp only [jn_v]
  have := p101_l1_eq (k := k) (j := fun x => some x) hc hs S.length 0 k 0 (by omega) (by omega) (by omega) (by omega) (by omega)
  rw [List.drop_zero, Int.zero_add] at this
  exact this
theorem p53_l1_eq {k n : Nat} (hn : n ≤ 63) {S : List Int} (hs : ∀ x ∈ S, 0 ≤ x ∧ x < (n : Int)) (hS : S.length ≤ 1152921504606846975) {j : Int → Option Int} : ∀ (d q f m : Nat), q + d = S.length → d < f → m < 2 ^ n →
    ∃ m' : Nat, m' < 2 ^ n ∧ (∀ b, m'.testBit b = true ↔ m.testBit b = true ∨ ((b : Int) ∈ S.drop q)) ∧ p53_l1 k S j f (m : Int) (q : Int) = j (m' : Int)
  | 0, q, f, m, h1, h2, h3 => by
    obtain ⟨f, rfl⟩ : ∃ n', f = n' + 1 := ⟨f - 1, by omega⟩
    refine ⟨m, h3, fun b => ?_, ?_⟩
    · rw [List.drop_eq_nil_of_le (by omega)]; simp
    · rw [p53_l1]
      simp only [lt_v, sp_d]
      rw [iF (by omega)]
  | d + 1, q, f, m, h1, h2, h3 => by
    obtain ⟨f, rfl⟩ : ∃ n', f = n' + 1 := ⟨f - 1, by omega⟩
    have hx := hs _ (getD_mem (by omega : q < S.length))
    obtain ⟨i, hi⟩ : ∃ i : Nat, S.getD q 0 = (i : Int) := ⟨(S.getD q 0).toNat, by omega⟩
    have h2i : (2 : Nat) ^ i < 2 ^ n := Nat.pow_lt_pow_right (by omega) (by omega)
    have hn64 : (2 : Nat) ^ n < 2 ^ 64 := Nat.pow_lt_pow_right (by omega) (by omega)
    have hor : m ||| 2 ^ i < 2 ^ n := Nat.or_lt_two_pow h3 h2i
    obtain ⟨m', a, b, c⟩ := p53_l1_eq (k := k) hn hs hS (j := j) d (q + 1) f (m ||| 2 ^ i) (by omega) (by omega) hor
    refine ⟨m', a, fun t => ?_, ?_⟩
    · rw [b, getD_drop (by omega : q < S.length), List.mem_cons, Nat.testBit_or, Bool.or_eq_true, Nat.testBit_two_pow, hi]
      constructor
      · rintro ((g | g) | g)
        · exact .inl g
        · exact .inr (.inl (by have := of_decide_eq_true g; omega))
        · exact .inr (.inr g)
      · rintro (g | g | g)
        · exact .inl (.inl g)
        · exact .inl (.inr (dT (by omega)))
        · exact .inr g
    · rw [p53_l1]
      simp only [lt_v, sp_d, Int.toNat_natCast]
      rw [iT (by omega), gd_v (by omega), hi, gd_v (by omega)]
      have e1 : (1 : Int) * 2 ^ min ((i : Int)).toNat (IntKind.bits .u64) = ((2 ^ i : Nat) : Int) := by
        rw [Int.toNat_natCast, show min i (IntKind.bits .u64) = i from Nat.min_eq_left (by show i ≤ 64; omega)]
        simp
      rw [e1, wruN (Nat.lt_trans h2i hn64), bor_nat (Nat.lt_trans h3 hn64) (Nat.lt_trans h2i hn64), wruN (Nat.lt_trans hor hn64), wr_succ (n := S.length) (by omega) (by omega)]
      exact c
theorem p53_eq {k n : Nat} (hk : Fu k) (hn : n ≤ 63) {S : List Int} (hs : ∀ x ∈ S, 0 ≤ x ∧ x < (n : Int)) (hS : S.length ≤ 1152921504606846975) :
    ∃ m : Nat, m < 2 ^ n ∧ (∀ x, x ∈ bitsL m n ↔ x ∈ S) ∧ p53 k S = some (m : Int) := by
  unfold Fu at hk
  unfold p53
  simp only [jn_v]
  obtain ⟨m, a, b, c⟩ := p53_l1_eq (k := k) hn hs hS (j := fun x => some x) S.length 0 k 0 (by omega) (by omega) (Nat.two_pow_pos n)
  rw [List.drop_zero] at b
  refine ⟨m, a, fun x => ?_, c⟩
  rw [mem_bitsL]
  constructor
  · rintro ⟨j, h1, h2, rfl⟩
    rcases (b j).1 h2 with g | g
    · simp at g
    · exact g
  · intro hx
    have h1 := hs x hx
    refine ⟨x.toNat, by omega, (b _).2 (.inr ?_), by omega⟩
    rw [show ((x.toNat : Nat) : Int) = x from by omega]
    exact hx
end Go.Proofs.Ythniebmammmacaa
namespace Go.Proofs.Ythniebmammmacaa
open Go.RowKit Classical
def far : Int := 1125899906842624
def sumN : List Int → Nat
  | [] => 0
  | x :: L => x.toNat + sumN L
theorem sumN_set : ∀ {L : List Int} {y : Nat} {v : Int}, y < L.length → sumN (L.set y v) + (L.getD y 0).toNat = sumN L + v.toNat
  | x :: L, 0, v, _ => by simp only [List.set_cons_zero, sumN, List.getD_cons_zero]; omega
  | x :: L, y + 1, v, h => by
    have := sumN_set (L := L) (y := y) (v := v) (by simpa using h)
    simp only [List.set_cons_succ, sumN, List.getD_cons_succ]; omega
theorem getD_setI {L : List Int} {i j : Nat} {v : Int} (hi : i < L.length) : (L.set i v).getD j 0 = if i = j then v else L.getD j 0 := by
  rw [List.getD_eq_getElem?_getD, List.getElem?_set, List.getD_eq_getElem?_getD]
  by_cases h : i = j
  · subst h; simp [hi]
  · simp [h]
noncomputable def cnt (p : Nat → Prop) : Nat → Nat
  | 0 => 0
  | n + 1 => cnt p n + if p n then 1 else 0
theorem cnt_le {p : Nat → Prop} : ∀ {n}, cnt p n ≤ n
  | 0 => Nat.le_refl _
  | n + 1 => by have := cnt_le (p := p) (n := n); unfold cnt; split <;> omega
theorem cnt_mono {p q : Nat → Prop} (h : ∀ i, p i → q i) : ∀ {n}, cnt p n ≤ cnt q n
  | 0 => Nat.le_refl _
  | n + 1 => by
    have := cnt_mono h (n := n)
    unfold cnt
    by_cases hp : p n
    · rw [if_pos hp, if_pos (h n hp)]; omega
    · rw [if_neg hp]; omega
theorem cnt_lt {p q : Nat → Prop} (h : ∀ i, p i → q i) {j : Nat} (hq : q j) (hp : ¬ p j) : ∀ {n}, j < n → cnt p n < cnt q n
  | n + 1, hj => by
    unfold cnt
    rcases Nat.eq_or_lt_of_le (Nat.le_of_lt_succ hj) with e | e
    · subst e
      have := cnt_mono h (n := j)
      rw [if_neg hp, if_pos hq]; omega
    · have := cnt_lt h hq hp e
      by_cases hp : p n
      · rw [if_pos hp, if_pos (h n hp)]; omega
      · rw [if_neg hp]; omega
structure Edges where
  n : Nat
  P : Nat
  st : Nat
  X : Nat → Nat
  Y : Nat → Nat
  C : Nat → Int
structure EOk (E : Edges) : Prop where
  pm : E.P ≤ 64
  st : E.st < E.P
  x : ∀ i, i < E.n → E.X i < E.P
  y : ∀ i, i < E.n → E.Y i < E.P
  ne : ∀ i, i < E.n → E.X i ≠ E.Y i
  c : ∀ i, i < E.n → 0 ≤ E.C i → 1 ≤ E.C i ∧ E.C i ≤ 17179869184
def Cond (E : Edges) (L : List Int) (i : Nat) : Prop := 0 ≤ E.C i ∧ L.getD (E.X i) 0 < far ∧ L.getD (E.X i) 0 + E.C i < L.getD (E.Y i) 0
structure DInv (E : Edges) (L : List Int) : Prop where
  len : L.length = E.P
  rng : ∀ v, v < E.P → 0 ≤ L.getD v 0 ∧ L.getD v 0 ≤ far
  zero : L.getD E.st 0 = 0
  pre : ∀ v, v < E.P → v ≠ E.st → L.getD v 0 < far → ∃ i, i < E.n ∧ 0 ≤ E.C i ∧ E.Y i = v ∧ L.getD (E.X i) 0 < far ∧ L.getD (E.X i) 0 + E.C i ≤ L.getD v 0
theorem DInv.step {E : Edges} (he : EOk E) {L : List Int} (h : DInv E L) {i : Nat} (hi : i < E.n) (hc : Cond E L i) :
    DInv E (L.set (E.Y i) (L.getD (E.X i) 0 + E.C i)) ∧ sumN (L.set (E.Y i) (L.getD (E.X i) 0 + E.C i)) < sumN L := by
  obtain ⟨c0, c1, c2⟩ := hc
  have hx := he.x i hi
  have hy := he.y i hi
  have hne := he.ne i hi
  have hC := he.c i hi c0
  have rx := h.rng _ hx
  have ry := h.rng _ hy
  have hyl : E.Y i < L.length := by rw [h.len]; exact hy
  have hst : E.Y i ≠ E.st := by intro e; rw [e, h.zero] at c2; omega
  have hs := sumN_set (L := L) (v := L.getD (E.X i) 0 + E.C i) hyl
  refine ⟨⟨by rw [List.length_set]; exact h.len, fun v hv => ?_, ?_, fun v hv hvs hvf => ?_⟩, by omega⟩
  · rw [getD_setI hyl]
    split
    · omega
    · exact h.rng v hv
  · rw [getD_setI hyl, if_neg hst]; exact h.zero
  · rw [getD_setI hyl] at hvf ⊢
    by_cases e : E.Y i = v
    · subst e
      rw [if_pos rfl]
      refine ⟨i, hi, c0, rfl, ?_, ?_⟩
      · rw [getD_setI hyl, if_neg (Ne.symm hne)]; exact c1
      · rw [getD_setI hyl, if_neg (Ne.symm hne)]; exact Int.le_refl _
    · rw [if_neg e] at hvf ⊢
      obtain ⟨j, a, b, c, d, f⟩ := h.pre v hv hvs hvf
      refine ⟨j, a, b, c, ?_, ?_⟩
      · rw [getD_setI hyl]; split
        · omega
        · exact d
      · rw [getD_setI hyl]; split
        · rename_i e2; rw [← e2] at f; omega
        · exact f
structure Dist (E : Edges) (L : List Int) : Prop extends DInv E L where
  fix : ∀ i, i < E.n → ¬ Cond E L i
inductive Wk (E : Edges) : Nat → Int → Prop
  | nil : Wk E E.st 0
  | cons {i : Nat} {a : Int} : i < E.n → 0 ≤ E.C i → Wk E (E.X i) a → Wk E (E.Y i) (a + E.C i)
theorem Wk.nn {E : Edges} (he : EOk E) {v : Nat} {a : Int} (h : Wk E v a) : 0 ≤ a := by
  induction h with
  | nil => exact Int.le_refl _
  | cons hi hc _ ih => have := he.c _ hi hc; omega
theorem Wk.lt {E : Edges} (he : EOk E) {v : Nat} {a : Int} (h : Wk E v a) : v < E.P := by
  cases h with
  | nil => exact he.st
  | cons hi hc _ => exact he.y _ hi
theorem Dist.edge {E : Edges} (he : EOk E) {L : List Int} (h : Dist E L) {i : Nat} (hi : i < E.n) (hc : 0 ≤ E.C i) (hf : L.getD (E.X i) 0 < far) : L.getD (E.Y i) 0 ≤ L.getD (E.X i) 0 + E.C i := by
  rcases Int.lt_or_le (L.getD (E.X i) 0 + E.C i) (L.getD (E.Y i) 0) with a | a
  · exact absurd ⟨hc, hf, a⟩ (h.fix i hi)
  · exact a
theorem Dist.low {E : Edges} (he : EOk E) {L : List Int} (h : Dist E L) {v : Nat} {a : Int} (hw : Wk E v a) : L.getD v 0 ≤ a := by
  induction hw with
  | nil => rw [h.zero]; exact Int.le_refl _
  | cons hi hc hw ih =>
    have r := h.rng _ (he.x _ hi)
    have r2 := h.rng _ (he.y _ hi)
    rcases Int.lt_or_le (L.getD (E.X _) 0) far with g | g
    · have := h.edge he hi hc g; omega
    · have := he.c _ hi hc; omega
theorem Dist.prev {E : Edges} (he : EOk E) {L : List Int} (h : Dist E L) {v : Nat} (hv : v < E.P) (hs : v ≠ E.st) (hf : L.getD v 0 < far) :
    ∃ i, i < E.n ∧ 0 ≤ E.C i ∧ E.Y i = v ∧ L.getD v 0 = E.C i + L.getD (E.X i) 0 := by
  obtain ⟨i, a, b, c, d, f⟩ := h.pre v hv hs hf
  have := h.edge he a b d
  rw [c] at this
  exact ⟨i, a, b, c, by omega⟩
theorem Dist.way {E : Edges} (he : EOk E) {L : List Int} (h : Dist E L) : ∀ (n : Nat) {v : Nat}, v < E.P → (L.getD v 0).toNat < n → L.getD v 0 < far → Wk E v (L.getD v 0)
  | n + 1, v, hv, hn, hf => by
    by_cases hs : v = E.st
    · subst hs; rw [h.zero]; exact .nil
    · obtain ⟨i, a, b, c, d⟩ := h.prev he hv hs hf
      have hC := he.c i a b
      have rx := h.rng _ (he.x i a)
      have := h.way he n (he.x i a) (by omega) (by omega)
      have := Wk.cons a b this
      rw [c] at this
      rw [d, Int.add_comm]
      exact this
theorem Dist.bound {E : Edges} (he : EOk E) {L : List Int} (h : Dist E L) : ∀ (n : Nat) {v : Nat}, v < E.P → (L.getD v 0).toNat < n → L.getD v 0 < far → L.getD v 0 ≤ 17179869184 * (cnt (fun u => L.getD u 0 < L.getD v 0) E.P : Int)
  | n + 1, v, hv, hn, hf => by
    by_cases hs : v = E.st
    · subst hs; rw [h.zero]; omega
    · obtain ⟨i, a, b, c, d⟩ := h.prev he hv hs hf
      have hC := he.c i a b
      have rx := h.rng _ (he.x i a)
      have h1 := h.bound he n (he.x i a) (by omega) (by omega)
      have h2 := cnt_lt (p := fun u => L.getD u 0 < L.getD (E.X i) 0) (q := fun u => L.getD u 0 < L.getD v 0) (fun u (hu : L.getD u 0 < L.getD (E.X i) 0) => by show L.getD u 0 < L.getD v 0; omega) (j := E.X i) (by show L.getD (E.X i) 0 < L.getD v 0; omega) (by show ¬ L.getD (E.X i) 0 < L.getD (E.X i) 0; omega) (he.x i a)
      omega
theorem Dist.fin {E : Edges} (he : EOk E) {L : List Int} (h : Dist E L) {v : Nat} (hv : v < E.P) (hf : L.getD v 0 < far) : L.getD v 0 ≤ 1099511627776 := by
  have h1 := h.bound he _ hv (Nat.lt_succ_self _) hf
  have h2 := cnt_le (p := fun u => L.getD u 0 < L.getD v 0) (n := E.P)
  have := he.pm
  omega
structure Pass (E : Edges) (L0 : List Int) (i : Nat) (b : Bool) (L : List Int) : Prop where
  inv : DInv E L
  t : b = true → sumN L < sumN L0
  f : b = false → L = L0 ∧ ∀ j, j < i → ¬ Cond E L0 j
theorem Pass.hit {E : Edges} (he : EOk E) {L0 L : List Int} {i : Nat} {b : Bool} (h : Pass E L0 i b L) (hi : i < E.n) (hc : Cond E L i) : Pass E L0 (i + 1) true (L.set (E.Y i) (L.getD (E.X i) 0 + E.C i)) := by
  obtain ⟨h1, h2⟩ := h.inv.step he hi hc
  refine ⟨h1, fun _ => ?_, fun e => (by cases e)⟩
  cases b with
  | true => have := h.t rfl; omega
  | false => have := (h.f rfl).1; subst this; exact h2
end Go.Proofs.Ythniebmammmacaa
namespace Go.Proofs.Ythniebmammmacaa
open Go.RowKit Classical
theorem MapOk.wOk {P R W} (h : MapOk P R W) : wOk W := fun i hi => by have := h.w16 i hi; omega
theorem MapOk.wcOk {P R W} (h : MapOk P R W) : wcOk W := fun i hi => (h.work i hi).co
inductive Pth (R : List (List Int)) (U : Nat → Prop) : Nat → Nat → Int → Prop
  | nil (v : Nat) : Pth R U v v 0
  | cons {i v : Nat} {a : Int} : i < R.length → U i → Pth R U (rT (rd R i)).toNat v a → Pth R U (rF (rd R i)).toNat v (a + rC (rd R i))
theorem Pth.mono {R U U'} (h : ∀ i, i < R.length → U i → U' i) {u v a} (hp : Pth R U u v a) : Pth R U' u v a := by
  induction hp with
  | nil v => exact .nil v
  | cons hi hu _ ih => exact .cons hi (h _ hi hu) ih
def EG (P : Int) (R : List (List Int)) (c : Nat → Int) (st : Nat) (bw : Bool) : Edges :=
  { n := R.length, P := P.toNat, st := st, X := fun i => if bw then (rT (rd R i)).toNat else (rF (rd R i)).toNat, Y := fun i => if bw then (rF (rd R i)).toNat else (rT (rd R i)).toNat, C := c }
structure COk (R : List (List Int)) (c : Nat → Int) : Prop where
  b : ∀ i, i < R.length → 0 ≤ c i → 1 ≤ c i ∧ c i ≤ 17179869184
  l : ∀ i, i < R.length → -1 ≤ c i
noncomputable def cst (R : List (List Int)) (U : Nat → Prop) (i : Nat) : Int := if U i then rC (rd R i) else -1
end Go.Proofs.Ythniebmammmacaa
namespace Go.Proofs.Ythniebmammmacaa
open Go.RowKit Classical
def setT : Nat → Nat → Nat → List Nat
  | 0, _, _ => []
  | d + 1, i, s => (s ||| 2 ^ i) :: setT d (i + 1) (s ||| 2 ^ i) ++ setT d (i + 1) s
def setsL (n : Nat) : List Nat := 0 :: setT n 0 0
def natL (L : List Nat) : List Int := L.map Int.ofNat
theorem p121_eq {k n : Nat} (hk : Fu k) (hn : n ≤ 63) : ∀ (d : Nat),
    (∀ (f i s : Nat), i + d = n → d < f → s < 2 ^ n → p121 k (n : Int) f (s : Int) (i : Int) = some (natL (s :: setT d i s))) ∧
    (∀ (f g i s : Nat), i + d = n → d ≤ f → d < g → s < 2 ^ n → p121L (p121 k (n : Int) f) (n : Int) (s : Int) g (i : Int) = some (natL (setT d i s)))
  | 0 => by
    have hB : ∀ (f g i s : Nat), i + 0 = n → 0 ≤ f → 0 < g → s < 2 ^ n → p121L (p121 k (n : Int) f) (n : Int) (s : Int) g (i : Int) = some (natL (setT 0 i s)) := by
      intro f g i s h1 h2 h3 h4
      obtain ⟨g, rfl⟩ : ∃ g', g = g' + 1 := ⟨g - 1, by omega⟩
      rw [p121L]
      simp only [lt_v, sp_d]
      rw [iF (by omega)]
      rfl
    refine ⟨?_, hB⟩
    intro f i s h1 h2 h3
    obtain ⟨f, rfl⟩ : ∃ g', f = g' + 1 := ⟨f - 1, by omega⟩
    rw [p121, hB f k i s h1 (by omega) (by unfold Fu at hk; omega) h3]
    rfl
  | d + 1 => by
    obtain ⟨ihA, ihB⟩ := p121_eq hk hn d
    have hB : ∀ (f g i s : Nat), i + (d + 1) = n → d + 1 ≤ f → d + 1 < g → s < 2 ^ n → p121L (p121 k (n : Int) f) (n : Int) (s : Int) g (i : Int) = some (natL (setT (d + 1) i s)) := by
      intro f g i s h1 h2 h3 h4
      obtain ⟨g, rfl⟩ : ∃ g', g = g' + 1 := ⟨g - 1, by omega⟩
      have h2i : (2 : Nat) ^ i < 2 ^ n := Nat.pow_lt_pow_right (by omega) (by omega)
      have hn64 : (2 : Nat) ^ n < 2 ^ 64 := Nat.pow_lt_pow_right (by omega) (by omega)
      have hor : s ||| 2 ^ i < 2 ^ n := Nat.or_lt_two_pow h4 h2i
      have e1 : (1 : Int) * 2 ^ min ((i : Int)).toNat (IntKind.bits .u64) = ((2 ^ i : Nat) : Int) := by
        rw [Int.toNat_natCast, show min i (IntKind.bits .u64) = i from Nat.min_eq_left (by show i ≤ 64; omega)]
        simp
      rw [p121L]
      simp only [lt_v, sp_d]
      rw [iT (by omega), gd_v (by omega), e1, wruN (Nat.lt_trans h2i hn64), bor_nat (Nat.lt_trans h4 hn64) (Nat.lt_trans h2i hn64), wruN (Nat.lt_trans hor hn64), wr_succ (n := n) (by omega) (by omega),
        ihA f (i + 1) _ (by omega) (by omega) hor, cl_v, ihB f g (i + 1) s (by omega) (by omega) (by omega) h4, cl_v]
      rw [setT]
      simp [natL]
    refine ⟨?_, hB⟩
    intro f i s h1 h2 h3
    obtain ⟨f, rfl⟩ : ∃ g', f = g' + 1 := ⟨f - 1, by omega⟩
    rw [p121, hB f k i s h1 (by omega) (by unfold Fu at hk; omega) h3]
    rfl
theorem p73_eq {k n : Nat} (hk : Fu k) (hn : n ≤ 63) : p73 k (n : Int) = some (natL (setsL n)) := by
  unfold p73 p120
  have := (p121_eq hk hn n).1 k 0 0 (by omega) (by unfold Fu at hk; omega) (Nat.two_pow_pos n)
  rw [show ((0 : Nat) : Int) = 0 from rfl] at this
  rw [this]; rfl
theorem mem_setT {x : Nat} : ∀ {d i s : Nat}, s < 2 ^ i → (x ∈ s :: setT d i s ↔ (∀ j, j < i → x.testBit j = s.testBit j) ∧ x < 2 ^ (i + d))
  | 0, i, s, hs => by
    rw [setT, List.mem_singleton, Nat.add_zero]
    constructor
    · rintro rfl; exact ⟨fun _ _ => rfl, hs⟩
    · rintro ⟨h1, h2⟩
      refine Nat.eq_of_testBit_eq fun j => ?_
      rcases Nat.lt_or_ge j i with g | g
      · exact h1 j g
      · rw [Nat.testBit_lt_two_pow (Nat.lt_of_lt_of_le h2 (Nat.pow_le_pow_right (by omega) g)), Nat.testBit_lt_two_pow (Nat.lt_of_lt_of_le hs (Nat.pow_le_pow_right (by omega) g))]
  | d + 1, i, s, hs => by
    have h2i : (2 : Nat) ^ i < 2 ^ (i + 1) := Nat.pow_lt_pow_right (by omega) (by omega)
    have hs1 : s < 2 ^ (i + 1) := Nat.lt_trans hs h2i
    have hs' : s ||| 2 ^ i < 2 ^ (i + 1) := Nat.or_lt_two_pow hs1 h2i
    have A := mem_setT (x := x) (d := d) (i := i + 1) hs'
    have B := mem_setT (x := x) (d := d) (i := i + 1) hs1
    have hb0 : s.testBit i = false := Nat.testBit_lt_two_pow hs
    have e : i + 1 + d = i + (d + 1) := by omega
    rw [e] at A B
    have hm : x ∈ s :: setT (d + 1) i s ↔ x ∈ (s ||| 2 ^ i) :: setT d (i + 1) (s ||| 2 ^ i) ∨ x ∈ s :: setT d (i + 1) s := by
      rw [setT]
      simp only [List.mem_cons, List.mem_append]
      constructor
      · rintro (a | a | a)
        · exact .inr (.inl a)
        · exact .inl a
        · exact .inr (.inr a)
      · rintro (a | a | a)
        · exact .inr (.inl a)
        · exact .inl a
        · exact .inr (.inr a)
    rw [hm, A, B]
    constructor
    · rintro (⟨h1, h2⟩ | ⟨h1, h2⟩)
      · refine ⟨fun j hj => ?_, h2⟩
        rw [h1 j (by omega), Nat.testBit_or, Nat.testBit_two_pow, dF (by omega), Bool.or_false]
      · exact ⟨fun j hj => h1 j (by omega), h2⟩
    · rintro ⟨h1, h2⟩
      by_cases hb : x.testBit i = true
      · refine .inl ⟨fun j hj => ?_, h2⟩
        rw [Nat.testBit_or, Nat.testBit_two_pow]
        rcases Nat.eq_or_lt_of_le (Nat.le_of_lt_succ hj) with g | g
        · subst g; rw [hb, dT rfl, Bool.or_true]
        · rw [h1 j g, dF (by omega), Bool.or_false]
      · refine .inr ⟨fun j hj => ?_, h2⟩
        rcases Nat.eq_or_lt_of_le (Nat.le_of_lt_succ hj) with g | g
        · subst g; rw [hb0]; cases hx : x.testBit j
          · rfl
          · exact absurd hx hb
        · exact h1 j g
theorem mem_setsL {n x : Nat} : x ∈ setsL n ↔ x < 2 ^ n := by
  unfold setsL
  rw [mem_setT (Nat.two_pow_pos 0), Nat.zero_add]
  exact ⟨fun h => h.2, fun h => ⟨fun j hj => absurd hj (Nat.not_lt_zero j), h⟩⟩
noncomputable def least (ok : Nat → Prop) (f : Nat → Int) : List Nat → Int × Int × Bool → Int × Int × Bool
  | [], a => a
  | s :: L, a => if ok s ∧ (a.2.2 = false ∨ f s < a.2.1) then least ok f L ((s : Int), f s, true) else least ok f L a
theorem least_spec {ok : Nat → Prop} {f : Nat → Int} : ∀ {L : List Nat} {a : Int × Int × Bool},
    ((∀ s ∈ L, ¬ ok s) ∧ least ok f L a = a) ∨ ((least ok f L a = a ∧ a.2.2 = true ∨ ∃ s ∈ L, ok s ∧ least ok f L a = ((s : Int), f s, true)) ∧ (∀ s ∈ L, ok s → (least ok f L a).2.1 ≤ f s) ∧ (a.2.2 = true → (least ok f L a).2.1 ≤ a.2.1))
  | [], a => .inl ⟨by simp, rfl⟩
  | s :: L, a => by
    rw [least]
    by_cases h : ok s ∧ (a.2.2 = false ∨ f s < a.2.1)
    · rw [iT h]
      rcases least_spec (ok := ok) (f := f) (L := L) (a := ((s : Int), f s, true)) with ⟨h1, h2⟩ | ⟨h1, h2, h3⟩
      · refine .inr ⟨.inr ⟨s, List.mem_cons_self, h.1, h2⟩, fun t ht hok => ?_, fun ha => ?_⟩
        · rcases List.mem_cons.1 ht with e | e
          · subst e; rw [h2]; exact Int.le_refl _
          · exact absurd hok (h1 t e)
        · rw [h2]
          rcases h.2 with g | g
          · rw [ha] at g; cases g
          · exact Int.le_of_lt g
      · refine .inr ⟨?_, fun t ht hok => ?_, fun ha => ?_⟩
        · rcases h1 with ⟨g, _⟩ | ⟨t, g1, g2, g3⟩
          · exact .inr ⟨s, List.mem_cons_self, h.1, g⟩
          · exact .inr ⟨t, List.mem_cons_of_mem _ g1, g2, g3⟩
        · rcases List.mem_cons.1 ht with e | e
          · subst e; exact h3 rfl
          · exact h2 t e hok
        · have h4 := h3 rfl
          rcases h.2 with g | g
          · rw [ha] at g; cases g
          · exact Int.le_trans h4 (Int.le_of_lt g)
    · rw [iF h]
      rcases least_spec (ok := ok) (f := f) (L := L) (a := a) with ⟨h1, h2⟩ | ⟨h1, h2, h3⟩
      · by_cases hok : ok s
        · have ha : a.2.2 = true := by
            cases hb : a.2.2 with
            | true => rfl
            | false => exact absurd ⟨hok, .inl hb⟩ h
          refine .inr ⟨.inl ⟨h2, ha⟩, fun t ht hk => ?_, fun _ => by rw [h2]; exact Int.le_refl _⟩
          rcases List.mem_cons.1 ht with e | e
          · subst e; rw [h2]
            rcases Int.lt_or_le (f t) a.2.1 with g | g
            · exact absurd ⟨hok, .inr g⟩ h
            · exact g
          · exact absurd hk (h1 t e)
        · refine .inl ⟨fun t ht => ?_, h2⟩
          rcases List.mem_cons.1 ht with e | e
          · subst e; exact hok
          · exact h1 t e
      · refine .inr ⟨?_, fun t ht hok => ?_, h3⟩
        · rcases h1 with g | ⟨t, g1, g2⟩
          · exact .inl g
          · exact .inr ⟨t, List.mem_cons_of_mem _ g1, g2⟩
        · rcases List.mem_cons.1 ht with e | e
          · subst e
            cases hb : a.2.2 with
            | false => exact absurd ⟨hok, .inl hb⟩ h
            | true =>
              have := h3 hb
              rcases Int.lt_or_le (f t) a.2.1 with g | g
              · exact absurd ⟨hok, .inr g⟩ h
              · exact Int.le_trans this g
          · exact h2 t e hok
theorem least_from {ok : Nat → Prop} {f : Nat → Int} {L : List Nat} {x y : Int} :
    ((∀ s ∈ L, ¬ ok s) ∧ least ok f L (x, y, false) = (x, y, false)) ∨ (∃ s ∈ L, ok s ∧ least ok f L (x, y, false) = ((s : Int), f s, true) ∧ ∀ t ∈ L, ok t → f s ≤ f t) := by
  rcases least_spec (ok := ok) (f := f) (L := L) (a := (x, y, false)) with h | ⟨h1, h2, _⟩
  · exact .inl h
  · rcases h1 with ⟨_, h⟩ | ⟨s, a, b, c⟩
    · cases h
    · refine .inr ⟨s, a, b, c, fun t ht hok => ?_⟩
      have := h2 t ht hok
      rw [c] at this
      exact this
theorem p68_eq {k : Nat} (hk : Fu k) {P : Int} {R : List (List Int)} {W : List WT} {z : List Int} (hr : ∀ r ∈ R, r.length = 12) (hz : z.length = 6) :
    p68 k P R W z = if MapOk P R W then some (P, R, W, z, szE z) else some (0, [], [], [0, 0, 0, 0, 0, 0], chkE P R W) := by
  unfold p68
  rw [p38_eq hk hr, cl_v, lt_v, chkE_ne, p39_eq hk hz, cl_v, sp_d]
  by_cases h : MapOk P R W
  · rw [iF (not_not_intro h), iT h]
  · rw [iT h, iF h]
def On (R : List (List Int)) (L : List Int) (at' : Nat) (i : Nat) : Prop := rF (rd R i) = (at' : Int) ∧ L.getD at' 0 = rC (rd R i) + L.getD (rT (rd R i)).toNat 0
structure LOk (P : Int) (R : List (List Int)) (L : List Int) : Prop where
  len : L.length = P.toNat
  rng : ∀ i, i < L.length → 0 ≤ L.getD i 0 ∧ L.getD i 0 ≤ far
  t : ∀ i, i < R.length → 0 ≤ rT (rd R i) ∧ rT (rd R i) < (L.length : Int)
  c : ∀ i, i < R.length → 0 ≤ rC (rd R i) ∧ rC (rd R i) ≤ 1073741824
  r256 : R.length ≤ 256
inductive Rt (R : List (List Int)) (U : Nat → Prop) (L : List Int) (to : Nat) : Nat → List Int → Int → Prop
  | nil : Rt R U L to to [] 0
  | cons {a i : Nat} {rs : List Int} {m : Int} : a ≠ to → i < R.length → On R L a i → U i → (∀ j, j < i → On R L a j → ¬ U j) → Rt R U L to (rT (rd R i)).toNat rs m → Rt R U L to a ((i : Int) :: rs) (rM (rd R i) + m)
theorem p78_eq {k : Nat} {L : List Int} (hL : L.length ≤ 1000000) : p78 k L = some L := by
  have key : ∀ (L A : List Int), A.length + L.length ≤ 1000000 → p123_r1 k (fun L4 => some L4) L A = some (A ++ L) := by
    intro L
    induction L with
    | nil => intro A _; rw [p123_r1, List.append_nil]
    | cons x L ih =>
      intro A hA
      rw [p123_r1]
      simp only [List.length_cons] at hA
      rw [gd_v (by simp only [List.length_cons, List.length_nil]; omega)]
      simp only [lt_v]
      rw [ih _ (by simp only [List.length_append, List.length_cons, List.length_nil]; omega), List.append_assoc]
      rfl
  unfold p78 p123
  simp only [jn_v]
  rw [key L [] (by simpa using hL), cl_v]
  rfl
noncomputable def dst (P : Int) (R : List (List Int)) (U : Nat → Prop) (fr to : Nat) : Int := if h : ∃ L, Dist (EG P R (cst R U) to true) L then (Classical.choose h).getD fr 0 else 0
structure Cheap (P : Int) (R : List (List Int)) (W : List WT) (z : List Int) (fr to s : Nat) (rs ws : List Int) (c mi : Int) : Prop where
  ms : s < 2 ^ W.length
  fin : dst P R (us R W z (bitsL s W.length)) fr to < far
  wse : ws = bitsL s W.length
  co : c = dst P R (us R W z (bitsL s W.length)) fr to + costL W ws
  best : (s : Int) = (least (fun s => dst P R (us R W z (bitsL s W.length)) fr to < far) (fun s => dst P R (us R W z (bitsL s W.length)) fr to + costL W (bitsL s W.length)) (setsL W.length) (0, 0, false)).1
  le : ∀ t, t < 2 ^ W.length → dst P R (us R W z (bitsL t W.length)) fr to < far → c ≤ dst P R (us R W z (bitsL t W.length)) fr to + costL W (bitsL t W.length)
  rt : ∃ L, Dist (EG P R (cst R (us R W z ws)) to true) L ∧ Rt R (us R W z ws) L to fr rs mi
end Go.Proofs.Ythniebmammmacaa
namespace Go.Proofs.Ythniebmammmacaa
open Go.RowKit Classical
def K0 : Nat := 1152921504606846976
theorem fuK0 : Fu K0 := Nat.le_refl _
theorem p14_eq : p14 K0 = some true := by kernel_rfl
structure Valid (P : Int) (R : List (List Int)) (W : List WT) (z : List Int) (fr to : Int) : Prop where
  map : MapOk P R W
  pl12 : P ≤ 12
  r30 : R.length ≤ 30
  w5 : W.length ≤ 5
  sz : SzOk z
  fr0 : 0 ≤ fr ∧ fr < P
  to0 : 0 ≤ to ∧ to < P
theorem p13_some {k : Nat} (hk : Fu k) {P : Int} {R : List (List Int)} {W : List WT} : ∃ b, p13 k P R W = some b ∧ (b = false → R.length ≤ 300 ∧ W.length ≤ 20 ∧ (∀ i, i < W.length → (wk W i).1.length ≤ 40) ∧ (MapOk P R W → P ≤ 12 ∧ R.length ≤ 30 ∧ W.length ≤ 5)) := by
  have hk' := hk
  unfold Fu at hk'
  unfold p13
  simp only [jn_v, lt_v, sp_d, sp_tt, sp_ff, p29_eq hk, cl_v, chkE_eq]
  by_cases h1 : (R.length : Int) > 300
  · exact ⟨true, by rw [iT h1], fun h => (by cases h)⟩
  rw [iF h1]
  by_cases h2 : (W.length : Int) > 20
  · exact ⟨true, by rw [iT h2], fun h => (by cases h)⟩
  rw [iF h2]
  have hs : ∀ j, ((∃ i, i < W.length ∧ 40 < (wk W i).1.length) ∧ p13_l1 k W j k 0 = some true) ∨ ((∀ i, i < W.length → ¬ 40 < (wk W i).1.length) ∧ p13_l1 k W j k 0 = j) := by
    intro j
    refine srch0 (F := p13_l1 k W j) (len := W.length) (n := k) (A := some true) (J := j) (fun i => 40 < (wk W i).1.length) (by omega) ?_ ?_
    · intro n; rw [p13_l1]; simp only [lt_v, sp_d]; rw [iF (by omega)]
    · intro n i hi
      rw [p13_l1]
      simp only [lt_v, sp_d]
      rw [iT (by omega), gd_v (by omega), Int.toNat_natCast, wr_succ hi (by omega)]
      by_cases h : 40 < (wk W i).1.length
      · exact .inl ⟨h, by unfold wk at h; rw [iT (by omega)]⟩
      · exact .inr ⟨h, by unfold wk at h; rw [iF (by omega)]⟩
  rcases hs _ with ⟨_, e⟩ | ⟨h, e⟩
  · exact ⟨true, by rw [e], fun h => (by cases h)⟩
  rw [e]
  by_cases hm : MapOk P R W
  · rw [iT hm]
    by_cases h3 : P > 12
    · exact ⟨true, by rw [iT h3], fun h => (by cases h)⟩
    rw [iF h3]
    by_cases h4 : (R.length : Int) > 30
    · exact ⟨true, by rw [iT h4], fun h => (by cases h)⟩
    rw [iF h4]
    by_cases h5 : (W.length : Int) > 5
    · exact ⟨true, by rw [dT h5], fun h => (by cases h)⟩
    · exact ⟨false, by rw [dF h5], fun _ => ⟨by omega, by omega, fun i hi => by have := h i hi; omega, fun _ => by omega⟩⟩
  · rw [iF hm]
    exact ⟨false, rfl, fun _ => ⟨by omega, by omega, fun i hi => by have := h i hi; omega, fun h => absurd h hm⟩⟩
end Go.Proofs.Ythniebmammmacaa
namespace Go.Proofs.Ythniebmammmacaa
open Go.RowKit Classical
section
variable {P : Int} {R : List (List Int)} {W : List WT} {z : List Int} {s fr to : Nat} {a : Int}
end
theorem Pth.keep {R : List (List Int)} {U : Nat → Prop} {S : Int → Prop} (hc : ∀ i, i < R.length → U i → S (rF (rd R i)) → S (rT (rd R i))) (hn : ∀ i, i < R.length → 0 ≤ rF (rd R i) ∧ 0 ≤ rT (rd R i)) {u v : Nat} {a : Int} (hp : Pth R U u v a) (hu : S (u : Int)) : S (v : Int) := by
  induction hp with
  | nil v => exact hu
  | @cons i v a hi hui _ ih =>
    have h := hn i hi
    apply ih
    rw [show (((rT (rd R i)).toNat : Nat) : Int) = rT (rd R i) from by omega]
    apply hc i hi hui
    rw [show (((rF (rd R i)).toNat : Nat) : Int) = rF (rd R i) from by omega] at hu
    exact hu
end Go.Proofs.Ythniebmammmacaa
namespace Go.Proofs.Ythniebmammmacaa
open Go.RowKit Classical
theorem setB_ext {n : Int} : ∀ {L L' : List Int} {a : Int}, setB n a L → setB n a L' → (∀ x, x ∈ L ↔ x ∈ L') → L = L'
  | [], [], _, _, _, _ => rfl
  | [], y :: r, _, _, _, h => by have := (h y).2 List.mem_cons_self; cases this
  | y :: r, [], _, _, _, h => by have := (h y).1 List.mem_cons_self; cases this
  | x :: r, y :: r', a, h1, h2, h => by
    have hx := (h x).1 List.mem_cons_self
    have hy := (h y).2 List.mem_cons_self
    have e : x = y := by
      rcases List.mem_cons.1 hx with e | e
      · exact e
      · rcases List.mem_cons.1 hy with e' | e'
        · exact e'.symm
        · have := (setB_mem h1.2.2 y e').1
          have := (setB_mem h2.2.2 x e).1
          omega
    subst e
    rw [setB_ext h1.2.2 h2.2.2 fun z => ?_]
    constructor
    · intro hz
      rcases List.mem_cons.1 ((h z).1 (List.mem_cons_of_mem _ hz)) with e | e
      · subst e; have := (setB_mem h1.2.2 z hz).1; omega
      · exact e
    · intro hz
      rcases List.mem_cons.1 ((h z).2 (List.mem_cons_of_mem _ hz)) with e | e
      · subst e; have := (setB_mem h2.2.2 z hz).1; omega
      · exact e
def setTL : Nat → Nat → List Int → List (List Int)
  | 0, _, _ => []
  | d + 1, i, l => (l ++ [(i : Int)]) :: setTL d (i + 1) (l ++ [(i : Int)]) ++ setTL d (i + 1) l
def wts (L : List (List Int)) : List WT := L.map fun l => (l, [])
theorem setTL_len : ∀ {d i : Nat} {l : List Int}, (setTL d i l).length + 1 = 2 ^ d
  | 0, i, l => rfl
  | d + 1, i, l => by
    have h1 := setTL_len (d := d) (i := i + 1) (l := l ++ [(i : Int)])
    have h2 := setTL_len (d := d) (i := i + 1) (l := l)
    rw [setTL, Nat.pow_succ]
    simp only [List.length_cons, List.length_append]
    omega
theorem p87_eq {n : Nat} (hn : n ≤ 20) : ∀ (d : Nat),
    (∀ (f i : Nat) (l : List Int), i + d = n → d + 100 ≤ f → l.length ≤ i → p87 f l (i : Int) (n : Int) = some ((l, []) :: wts (setTL d i l))) ∧
    (∀ (f g i : Nat) (l : List Int) (j : List WT → Option (List WT)) (A : List WT), i + d = n → d + 100 ≤ f + 1 → d < g → l.length ≤ i → A.length + 2 ^ d ≤ 10000000 → p87_l1 f l (n : Int) (p87 f) j g (i : Int) A = j (A ++ wts (setTL d i l)))
  | 0 => by
    have hB : ∀ (f g i : Nat) (l : List Int) (j : List WT → Option (List WT)) (A : List WT), i + 0 = n → 0 + 100 ≤ f + 1 → 0 < g → l.length ≤ i → A.length + 2 ^ 0 ≤ 10000000 → p87_l1 f l (n : Int) (p87 f) j g (i : Int) A = j (A ++ wts (setTL 0 i l)) := by
      intro f g i l j A h1 h2 h3 h4 h5
      obtain ⟨g, rfl⟩ : ∃ g', g = g' + 1 := ⟨g - 1, by omega⟩
      rw [p87_l1]
      simp only [lt_v, sp_d]
      rw [iF (by omega)]
      simp [setTL, wts]
    refine ⟨?_, hB⟩
    intro f i l h1 h2 h3
    obtain ⟨f, rfl⟩ : ∃ g', f = g' + 1 := ⟨f - 1, by omega⟩
    rw [p87]
    simp only [lt_v, jn_v]
    rw [hB f f i l _ _ h1 (by omega) (by omega) h3 (by simp)]
    rfl
  | d + 1 => by
    obtain ⟨ihA, ihB⟩ := p87_eq hn d
    have hB : ∀ (f g i : Nat) (l : List Int) (j : List WT → Option (List WT)) (A : List WT), i + (d + 1) = n → d + 1 + 100 ≤ f + 1 → d + 1 < g → l.length ≤ i → A.length + 2 ^ (d + 1) ≤ 10000000 → p87_l1 f l (n : Int) (p87 f) j g (i : Int) A = j (A ++ wts (setTL (d + 1) i l)) := by
      intro f g i l j A h1 h2 h3 h4 h5
      obtain ⟨g, rfl⟩ : ∃ g', g = g' + 1 := ⟨g - 1, by omega⟩
      have hl := setTL_len (d := d) (i := i + 1) (l := l ++ [(i : Int)])
      rw [Nat.pow_succ] at h5
      rw [p87_l1]
      simp only [lt_v, sp_d, List.nil_append]
      rw [iT (by omega), gd_v (by simp only [List.length_nil]; omega), gd_v (by simp only [List.length_cons, List.length_nil]; omega), wr_succ (n := n) (by omega) (by omega),
        ihA f (i + 1) (l ++ [(i : Int)]) (by omega) (by omega) (by simp only [List.length_append, List.length_cons, List.length_nil]; omega), cl_v, gd_v (by simp only [wts, List.length_cons, List.length_map]; omega),
        ihB f g (i + 1) l j _ (by omega) (by omega) (by omega) (by omega) (by simp only [wts, List.length_append, List.length_cons, List.length_map]; omega)]
      rw [setTL]
      simp [wts]
    refine ⟨?_, hB⟩
    intro f i l h1 h2 h3
    obtain ⟨f, rfl⟩ : ∃ g', f = g' + 1 := ⟨f - 1, by omega⟩
    have h2d : (2 : Nat) ^ (d + 1) ≤ 2 ^ 20 := Nat.pow_le_pow_right (by omega) (by omega)
    rw [p87]
    simp only [lt_v, jn_v]
    rw [hB f f i l _ _ h1 (by omega) (by omega) h3 (by simp only [List.length_cons, List.length_nil]; omega)]
    rfl
theorem setB_snoc {n i : Nat} (hi : i < n) : ∀ {L : List Int} {a : Int}, setB i a L → a < (i : Int) → setB n a (L ++ [(i : Int)])
  | [], a, _, h => ⟨h, by omega, trivial⟩
  | x :: L, a, h, _ => ⟨h.1, by have := h.2.1; omega, setB_snoc hi h.2.2 h.2.1⟩
theorem bitsL_snoc {n i s : Nat} (hi : i < n) (hs : s < 2 ^ i) : bitsL (s ||| 2 ^ i) n = bitsL s n ++ [(i : Int)] := by
  have e : bitsL s n = bitsL s i := by
    refine setB_ext (n := n) (a := -1) bitsL_set ?_ fun x => ?_
    · exact setB_iff.2 fun q hq => by
        have := setB_iff.1 (bitsL_set (m := s) (n := i)) q hq
        exact ⟨by omega, this.2⟩
    · rw [mem_bitsL, mem_bitsL]
      constructor
      · rintro ⟨j, a, b, c⟩
        refine ⟨j, ?_, b, c⟩
        rcases Nat.lt_or_ge j i with g | g
        · exact g
        · rw [Nat.testBit_lt_two_pow (Nat.lt_of_lt_of_le hs (Nat.pow_le_pow_right (by omega) g))] at b; cases b
      · rintro ⟨j, a, b, c⟩; exact ⟨j, by omega, b, c⟩
  refine setB_ext (n := n) (a := -1) bitsL_set ?_ fun x => ?_
  · rw [e]; exact setB_snoc hi bitsL_set (by omega)
  · rw [List.mem_append, List.mem_singleton, mem_bitsL, mem_bitsL]
    constructor
    · rintro ⟨j, a, b, c⟩
      rw [Nat.testBit_or, Bool.or_eq_true, Nat.testBit_two_pow] at b
      rcases b with b | b
      · exact .inl ⟨j, a, b, c⟩
      · have := of_decide_eq_true b; exact .inr (by omega)
    · rintro (⟨j, a, b, c⟩ | rfl)
      · exact ⟨j, a, by rw [Nat.testBit_or, b, Bool.true_or], c⟩
      · exact ⟨i, hi, by rw [Nat.testBit_or, Nat.testBit_two_pow, dT rfl, Bool.or_true], rfl⟩
theorem setTL_bits {n : Nat} : ∀ {d i s : Nat}, i + d = n → s < 2 ^ i → setTL d i (bitsL s n) = (setT d i s).map fun t => bitsL t n
  | 0, i, s, _, _ => rfl
  | d + 1, i, s, h, hs => by
    have h2i : (2 : Nat) ^ i < 2 ^ (i + 1) := Nat.pow_lt_pow_right (by omega) (by omega)
    have hs1 : s < 2 ^ (i + 1) := Nat.lt_trans hs h2i
    rw [setTL, setT, ← bitsL_snoc (by omega) hs, setTL_bits (by omega) (Nat.or_lt_two_pow hs1 h2i), setTL_bits (by omega) hs1]
    simp
theorem bitsL_zero {n : Nat} : bitsL 0 n = [] := bitsF_nil (by decide)
theorem p32_eq {k : Nat} (hk : Fu k) {P : Int} {R : List (List Int)} {W : List WT} (hW : W.length ≤ 20) : p32 k P R W = some (wts ((setsL W.length).map fun t => bitsL t W.length)) := by
  unfold Fu at hk
  unfold p32
  have h := (p87_eq hW W.length).1 k 0 [] (by omega) (by omega) (by simp)
  rw [show ((0 : Nat) : Int) = 0 from rfl] at h
  rw [h, cl_v]
  have := setTL_bits (n := W.length) (d := W.length) (i := 0) (s := 0) (by omega) (Nat.two_pow_pos 0)
  rw [bitsL_zero] at this
  rw [this]
  unfold setsL wts
  rw [List.map_cons, List.map_cons, bitsL_zero]
theorem cau_rows {R W z S i} : ∀ {d k : Nat}, ∀ r ∈ cau R W z S i d k, r.length = 4
  | 0, k, r, h => by cases h
  | d + 1, k, r, h => by
    rw [cau] at h
    split at h
    · rcases List.mem_cons.1 h with e | e
      · subst e; rfl
      · exact cau_rows r e
    · exact cau_rows r h
theorem fixl_id {L : List Int} (h : L.length = 4) : fixl 4 L = L := by
  match L, h with
  | [a, b, c, d], _ => rfl
theorem p70_r1_eq {k : Nat} {j : List (List Int) → Option (List (List Int))} : ∀ {L A : List (List Int)}, (∀ r ∈ L, r.length = 4) → A.length + L.length ≤ 1000000000000 → p70_r1 k j L A = j (A ++ L)
  | [], A, _, _ => by rw [p70_r1, List.append_nil]
  | x :: L, A, h, hl => by
    rw [p70_r1]
    simp only [lt_v, List.length_cons] at hl ⊢
    rw [fixl_id (h x List.mem_cons_self), gd_v (by simp only [List.length_nil]; omega), p70_r1_eq (fun r hr => h r (List.mem_cons_of_mem _ hr)) (by simp only [List.length_append, List.length_cons, List.length_nil]; omega), List.append_assoc]
    rfl
theorem cau_congr {R W z i} {S S' : List Int} (h : ∀ x, x ∈ S ↔ x ∈ S') : ∀ {d k : Nat}, cau R W z S i d k = cau R W z S' i d k
  | 0, k => rfl
  | d + 1, k => by rw [cau, cau, lim_congr h, cau_congr h]
theorem p26_l1_eq {k : Nat} (hk : Fu k) {P : Int} {R : List (List Int)} {W : List WT} {z S L : List Int} (h : MapOk P R W) (hS : setB W.length (-1) S) (hSl : S.length ≤ 1152921504606846975) (hL : rdsOk R.length L) (hl : L.length ≤ 1000000)
    {j : List (List Int) → Option (List (List Int) × Int)} : ∀ (d q f : Nat) (A : List (List Int)), q + d = L.length → d < f → A.length ≤ 6 * q →
    p26_l1 k S L j P R W z f (q : Int) A = j (A ++ cauL R W z S (L.drop q))
  | 0, q, f, A, h1, h2, h3 => by
    obtain ⟨f, rfl⟩ : ∃ n', f = n' + 1 := ⟨f - 1, by omega⟩
    rw [p26_l1]
    simp only [lt_v, sp_d]
    rw [iF (by omega), List.drop_eq_nil_of_le (by omega)]
    simp [cauL]
  | d + 1, q, f, A, h1, h2, h3 => by
    obtain ⟨f, rfl⟩ : ∃ n', f = n' + 1 := ⟨f - 1, by omega⟩
    have hw10 := h.w10
    have hx := hL _ (getD_mem (by omega : q < L.length))
    obtain ⟨i, hi⟩ : ∃ i : Nat, L.getD q 0 = (i : Int) := ⟨(L.getD q 0).toNat, by omega⟩
    obtain ⟨m, m1, m2, m3⟩ := p53_eq hk (n := W.length) (by omega) (S := S) (fun x hx => by have := setB_mem hS x hx; omega) hSl
    have hcl := cau_len (R := R) (W := W) (z := z) (S := S) (i := i) (d := 6) (k := 0)
    rw [p26_l1]
    simp only [lt_v, sp_d, Int.toNat_natCast]
    rw [iT (by omega), gd_v (by omega), m3, cl_v, hi, p71_eq hk h.wOk (by omega) m1 (Nat.le_refl _) (by omega), cl_v, cau_congr m2]
    unfold p70
    simp only [jn_v]
    rw [p70_r1_eq cau_rows (by omega), cl_v, wr_succ (n := L.length) (by omega) (by omega), p26_l1_eq hk h hS hSl hL hl d (q + 1) f _ (by omega) (by omega) (by rw [List.length_append]; omega), getD_drop (by omega : q < L.length), hi]
    unfold cauL
    rw [List.flatMap_cons, List.append_assoc, Int.toNat_natCast]
theorem p26_eq {k : Nat} (hk : Fu k) {P : Int} {R : List (List Int)} {W : List WT} {z S L : List Int} (hr : ∀ r ∈ R, r.length = 12) (hz6 : z.length = 6) (hSl : S.length ≤ 1152921504606846975) :
    p26 k P R W z S L = some (if ¬ MapOk P R W then ([], chkE P R W) else if ¬ SzOk z then ([], 2) else if ¬ setB W.length (-1) S then ([], 3) else if rdsE R.length L ≠ 0 then ([], rdsE R.length L) else (cauL R W z S L, 0)) := by
  unfold p26
  rw [p68_eq hk hr hz6]
  by_cases h : MapOk P R W
  rotate_left
  · rw [iF h, iT h, cl5_v, gd_v (by rfl)]
    simp only [lt_v, chkE_ne, sp_d]
    rw [iT h]
  rw [iT h, iF (not_not_intro h), cl5_v, gd_v hz6]
  simp only [lt_v, szE_ne, sp_d]
  by_cases hz : SzOk z
  rotate_left
  · rw [iT hz, iT hz]; unfold szE; rw [iF hz]
  rw [iF (not_not_intro hz), iF (not_not_intro hz), p69_eq hk hSl, cl_v, sp_d]
  by_cases hS : setB W.length (-1) S
  rotate_left
  · rw [iF hS, iT hS]
  rw [iT hS, iF (not_not_intro hS), p66_eq hk, cl_v, bne_d, sp_d]
  by_cases he : rdsE R.length L = 0
  rotate_left
  · rw [iT he, iT he]
  rw [iF (not_not_intro he), iF (not_not_intro he)]
  have hrd : rdsOk R.length L ∧ L.length ≤ 256 := by
    unfold rdsE at he
    by_cases h1 : 256 < L.length
    · rw [iT h1] at he; cases he
    · rw [iF h1] at he
      by_cases h2 : rdsOk R.length L
      · exact ⟨h2, by omega⟩
      · rw [iF h2] at he; cases he
  simp only [jn_v]
  have := p26_l1_eq hk h hS hSl hrd.1 (by omega) (z := z) (j := fun R35 => some (R35, (0 : Int))) L.length 0 k [] (by omega) (by unfold Fu at hk; omega) (by simp)
  rw [List.drop_zero, List.nil_append] at this
  exact this
def allUs (R : List (List Int)) (W : List WT) (z L S : List Int) : Prop := ∀ x ∈ L, us R W z S x.toNat
theorem cauL_nil {R W z S L} : cauL R W z S L = [] ↔ allUs R W z L S := by
  unfold cauL allUs
  rw [List.flatMap_eq_nil_iff]
  exact ⟨fun h x hx => us_cau.1 (h x hx), fun h x hx => us_cau.2 (h x hx)⟩
theorem p85c_eq {k m : Nat} (hk : Fu k) {P : Int} {R : List (List Int)} {W : List WT} {z L : List Int} (h : MapOk P R W) (hm : m < 2 ^ W.length) (hL : rdsOk R.length L) (hl : L.length ≤ 1000000) :
    p85c k L P R W z (m : Int) = some (decide (¬ allUs R W z L (bitsL m W.length))) := by
  have hk' := hk
  unfold Fu at hk'
  have hw10 := h.w10
  unfold p85c p125c
  simp only [jn_v]
  rw [srchI0 (F := p125c_l1 k L P R W z (m : Int) (some (-1))) (len := L.length) (n := k) (fun i => ¬ us R W z (bitsL m W.length) (L.getD i 0).toNat) (by omega)]
  · simp only [cl_v, lt_v]
    rw [fst_pos]
    refine congrArg some (dI ⟨fun ⟨j, a, b⟩ g => b (g _ (getD_mem a)), fun g => Classical.byContradiction fun g2 => g fun x hx => ?_⟩)
    obtain ⟨i, hi, rfl⟩ := mem_getD hx
    exact Classical.byContradiction fun g3 => g2 ⟨i, hi, g3⟩
  · intro n; rw [p125c_l1]; simp only [lt_v, sp_d]; rw [iF (by omega)]
  · intro n i hi
    have hx := hL _ (getD_mem hi)
    obtain ⟨q, hq⟩ : ∃ q : Nat, L.getD i 0 = (q : Int) := ⟨(L.getD i 0).toNat, by omega⟩
    rw [p125c_l1]
    unfold p86
    simp only [lt_v, sp_d, Int.toNat_natCast]
    rw [iT (by omega), gd_v (by omega), hq, p55_eq hk h.wOk (by omega) hm (Nat.le_refl _) (by omega), cl_v, cl_v, wr_succ hi (by omega), sp_nd, Int.toNat_natCast]
    by_cases g : us R W z (bitsL m W.length) q
    · exact .inr ⟨not_not_intro g, iT g⟩
    · exact .inl ⟨g, iF g⟩
theorem p84_eq {k m : Nat} (hk : Fu k) {P : Int} {R : List (List Int)} {W : List WT} {z L : List Int} (h : MapOk P R W) (hm : m < 2 ^ W.length) (hL : rdsOk R.length L) (hl : L.length ≤ 1000000) :
    p84 k (m : Int) P R W z L = some (costL W (bitsL m W.length), !decide (¬ allUs R W z L (bitsL m W.length))) := by
  have hw10 := h.w10
  unfold p84
  rw [p77_eq hk h.wcOk (by omega) hm (Nat.le_refl _), cl_v, p85c_eq hk h hm hL hl, cl_v]
theorem p72b_r1_eq {k : Nat} {P : Int} {R : List (List Int)} {W : List WT} {z l : List Int} {ok : Nat → Prop} {f : Nat → Int} {j : Int → Int → Bool → Option (Int × Int × Bool)} : ∀ {L : List Nat} {x y : Int} {b : Bool},
    (∀ s ∈ L, ∃ b : Bool, (b = true ↔ ok s) ∧ p84 k (s : Int) P R W z l = some (f s, b)) → p72b_r1 k j P R W z l (natL L) x y b = j (least ok f L (x, y, b)).1 (least ok f L (x, y, b)).2.1 (least ok f L (x, y, b)).2.2
  | [], x, y, b, _ => rfl
  | s :: L, x, y, b, h => by
    obtain ⟨b0, hb0, h0⟩ := h s List.mem_cons_self
    have ih := fun x y b => p72b_r1_eq (k := k) (P := P) (R := R) (W := W) (z := z) (l := l) (ok := ok) (f := f) (j := j) (L := L) (x := x) (y := y) (b := b) (fun t ht => h t (List.mem_cons_of_mem _ ht))
    show p72b_r1 k j P R W z l ((s : Int) :: natL L) x y b = _
    rw [p72b_r1, h0, cl2_v]
    simp only [jn_v, lt_v, ih]
    rw [least]
    by_cases hok : ok s
    · rw [hb0.2 hok, sp_tt]
      cases b with
      | false => rw [sp_ff, sp_tt, iT ⟨hok, .inl rfl⟩]
      | true =>
        rw [sp_tt, sp_d]
        by_cases g : f s < y
        · rw [iT g, iT ⟨hok, .inr g⟩]
        · rw [iF g, iF]
          rintro ⟨_, e | e⟩
          · cases e
          · exact g e
    · have : b0 = false := by cases b0 with
        | false => rfl
        | true => exact absurd (hb0.1 rfl) hok
      rw [this, sp_ff, sp_ff, iF (fun h => hok h.1)]
noncomputable def bestW (R : List (List Int)) (W : List WT) (z L : List Int) : Int × Int × Bool := least (fun s => allUs R W z L (bitsL s W.length)) (fun s => costL W (bitsL s W.length)) (setsL W.length) (0, 0, false)
noncomputable def worksE (R : List (List Int)) (W : List WT) (z L : List Int) : List Int × Int × Int :=
  if (bestW R W z L).2.2 = true then (bitsL (bestW R W z L).1.toNat W.length, (bestW R W z L).2.1, 0) else ([], 0, 15)
theorem p31_eq {k : Nat} (hk : Fu k) {P : Int} {R : List (List Int)} {W : List WT} {z L : List Int} (hr : ∀ r ∈ R, r.length = 12) (hz6 : z.length = 6) :
    p31 k P R W z L = some (if ¬ MapOk P R W then ([], 0, chkE P R W) else if ¬ SzOk z then ([], 0, 2) else if rdsE R.length L ≠ 0 then ([], 0, rdsE R.length L) else worksE R W z L) := by
  unfold p31
  rw [p68_eq hk hr hz6]
  by_cases h : MapOk P R W
  rotate_left
  · rw [iF h, iT h, cl5_v, gd_v (by rfl)]
    simp only [lt_v, chkE_ne, sp_d]
    rw [iT h]
  rw [iT h, iF (not_not_intro h), cl5_v, gd_v hz6]
  simp only [lt_v, szE_ne, sp_d]
  by_cases hz : SzOk z
  rotate_left
  · rw [iT hz, iT hz]; unfold szE; rw [iF hz]
  have hw10 := h.w10
  rw [iF (not_not_intro hz), iF (not_not_intro hz), p66_eq hk, cl_v, bne_d, sp_d]
  by_cases he : rdsE R.length L = 0
  rotate_left
  · rw [iT he, iT he]
  rw [iF (not_not_intro he), iF (not_not_intro he), p73_eq hk (by omega), cl_v]
  have hrd : rdsOk R.length L ∧ L.length ≤ 256 := by
    unfold rdsE at he
    by_cases h1 : 256 < L.length
    · rw [iT h1] at he; cases he
    · rw [iF h1] at he
      by_cases h2 : rdsOk R.length L
      · exact ⟨h2, by omega⟩
      · rw [iF h2] at he; cases he
  have e : p72b k (natL (setsL W.length)) P R W z L = some (bestW R W z L) := by
    unfold p72b
    simp only [jn_v]
    rw [p72b_r1_eq (ok := fun s => allUs R W z L (bitsL s W.length)) (f := fun s => costL W (bitsL s W.length)) (fun s hs => ⟨_, ?_, p84_eq hk h (mem_setsL.1 hs) hrd.1 (by omega)⟩)]
    · rfl
    · by_cases g : allUs R W z L (bitsL s W.length)
      · rw [dF (not_not_intro g)]; exact ⟨fun _ => g, fun _ => rfl⟩
      · rw [dT g]; exact ⟨fun a => (by cases a), fun a => absurd a g⟩
  unfold worksE
  have hl := least_from (ok := fun s => allUs R W z L (bitsL s W.length)) (f := fun s => costL W (bitsL s W.length)) (L := setsL W.length) (x := 0) (y := 0)
  rcases hl with ⟨h1, h2⟩ | ⟨s, h1, h2, h3, h4⟩
  · have h2' : bestW R W z L = (0, 0, false) := h2
    rw [e, h2', cl3_v, sp_ff, iF (by decide)]
  · have h3' : bestW R W z L = ((s : Int), costL W (bitsL s W.length), true) := h3
    have hs := mem_setsL.1 h1
    have hbl := bitsL_len (m := s) (n := W.length)
    rw [e, h3', cl3_v, sp_tt, p79_eq hk (by omega) hs, cl_v, p78_eq (by omega), cl_v, iT rfl, Int.toNat_natCast]
def rcOk (R : List (List Int)) : Prop := ∀ i, i < R.length → 1 ≤ rC (rd R i) ∧ rC (rd R i) ≤ 1073741824
theorem MapOk.rcOk {P R W} (h : MapOk P R W) : rcOk R := fun i hi => by have := (h.road i hi).ar; unfold RoadA at this; omega
end Go.Proofs.Ythniebmammmacaa
namespace Go.Proofs.Ythniebmammmacaa
open Go.RowKit Classical
end Go.Proofs.Ythniebmammmacaa
namespace Go.Proofs.Ythniebmammmacaa
open Go.RowKit Classical
inductive Chn (R : List (List Int)) (to : Nat) : Nat → List Int → Prop
  | nil : Chn R to to []
  | cons {a i : Nat} {l : List Int} : i < R.length → rF (rd R i) = (a : Int) → Chn R to (rT (rd R i)).toNat l → Chn R to a ((i : Int) :: l)
theorem Rt.us {R U L to} {a : Nat} {rs : List Int} {m : Int} (h : Rt R U L to a rs m) : ∀ x ∈ rs, U x.toNat := by
  induction h with
  | nil => intro x hx; cases hx
  | cons _ _ _ hu _ _ ih =>
    intro x hx
    rcases List.mem_cons.1 hx with e | e
    · subst e; exact hu
    · exact ih x e
theorem Rt.len {R U L to P} (hc : rcOk R) {a : Nat} {rs : List Int} {m : Int} (h : Rt R U L to a rs m) (ht : ∀ i, i < R.length → (rT (rd R i)).toNat < P) : rs.length ≤ cnt (fun v => L.getD v 0 < L.getD a 0) P := by
  induction h with
  | nil => exact Nat.zero_le _
  | @cons a i rs m _ hi hon _ _ _ ih =>
    have h1 := hc i hi
    have h2 := hon.2
    have h3 := cnt_lt (p := fun v => L.getD v 0 < L.getD (rT (rd R i)).toNat 0) (q := fun v => L.getD v 0 < L.getD a 0) (fun v (hv : L.getD v 0 < L.getD (rT (rd R i)).toNat 0) => by show L.getD v 0 < L.getD a 0; omega)
      (j := (rT (rd R i)).toNat) (by show L.getD (rT (rd R i)).toNat 0 < L.getD a 0; omega) (by show ¬ L.getD (rT (rd R i)).toNat 0 < L.getD (rT (rd R i)).toNat 0; omega) (ht i hi)
    simp only [List.length_cons]
    omega
theorem mfind_mput (k v : Int) : ∀ (E : List (Int × Int)) (k' : Int), mfind (mput E k v) k' = if k = k' then some v else mfind E k'
  | [], k' => by simp [mput, mfind]
  | p :: E, k' => by
    rw [mput]
    by_cases h : p.1 = k
    · rw [if_pos h]
      simp only [mfind, h]
      split <;> rfl
    · rw [if_neg h]
      simp only [mfind, mfind_mput k v E k']
      by_cases h2 : p.1 = k'
      · rw [if_pos h2, if_pos h2, if_neg (fun e => h (h2.trans e.symm))]
      · rw [if_neg h2, if_neg h2]
theorem mget_mput {E : List (Int × Int)} {k v k' : Int} : mget (mput E k v) k' = if k = k' then v else mget E k' := by
  unfold mget
  rw [mfind_mput]
  split <;> rfl
end Go.Proofs.Ythniebmammmacaa
namespace Go.Proofs.Ythniebmammmacaa
open Go.RowKit Classical
theorem p37_eq {k : Nat} (hk : Fu k) {P : Int} {R : List (List Int)} {W : List WT} {z S L : List Int} (hr : ∀ r ∈ R, r.length = 12) (hz6 : z.length = 6) (hSl : S.length ≤ 1152921504606846975) : p37 k P R W z S L = p26 k P R W z S L := by
  rw [p26_eq hk hr hz6 hSl]
  unfold p37
  rw [p89_eq hk, cl_v, lt_v, bne_d, sp_d]
  by_cases h : MapOk P R W
  rotate_left
  · rw [iF h, iT (fun g => h (chkE_zero.1 g)), iT h]
  rw [iT h, iF (not_not_intro h)]
  by_cases hz : SzOk z
  rotate_left
  · rw [iT (fun g => hz (szE_zero.1 g)), iT hz]; unfold szE; rw [iF hz]
  rw [szE_zero.2 hz, iF (by simp), iF (not_not_intro hz), p83_eq hk hSl, cl_v, sp_d]
  by_cases hS : setB W.length (-1) S
  rotate_left
  · rw [iF hS, iT hS]
  rw [iT hS, iF (not_not_intro hS), p90_eq hk, cl_v]
  simp only [lt_v]
  rw [bne_d, sp_d]
  by_cases he : rdsE R.length L = 0
  rotate_left
  · rw [iT he, iT he]
  rw [iF (not_not_intro he), iF (not_not_intro he)]
  have hrd : rdsOk R.length L ∧ L.length ≤ 256 := by
    unfold rdsE at he
    by_cases h1 : 256 < L.length
    · rw [iT h1] at he; cases he
    · rw [iF h1] at he
      by_cases h2 : rdsOk R.length L
      · exact ⟨h2, by omega⟩
      · rw [iF h2] at he; cases he
  rw [p91_eq hk h.wOk (fun x hx => by have := setB_mem hS x hx; omega) hSl hrd.1 (by omega), cl_v]
theorem route_both {k : Nat} (hk : Fu k) {R : List (List Int)} {l : List Int} {to : Int} (hl : l.length ≤ 256) (hd : rdsOk R.length l) : ∀ (d q n m : Nat) (a : Int) (E : List (Int × Int)) (S : List Int), q + d = l.length → d < n → d < m → S.length ≤ q + 1 → (∀ v, mget E v = if v ∈ S then 1 else 0) →
    ∃ b, p25_l1 k R l (fun x12 _ => lt' (x12 == to) fun b37 => some (b37, (0 : Int))) n a (q : Int) E = some (b, 0) ∧ p100_l1 k R l (fun x1 => lt' (x1 == to) fun b22 => some b22) m a (q : Int) S = some b
  | 0, q, n, m, a, E, S, h1, h2, h3, h4, hE => by
    obtain ⟨n, rfl⟩ : ∃ f', n = f' + 1 := ⟨n - 1, by omega⟩
    obtain ⟨m, rfl⟩ : ∃ f', m = f' + 1 := ⟨m - 1, by omega⟩
    refine ⟨a == to, ?_, ?_⟩
    · rw [p25_l1]; simp only [lt_v, sp_d]; rw [iF (by omega)]
    · rw [p100_l1]; simp only [lt_v, sp_d]; rw [iF (by omega)]
  | d + 1, q, n, m, a, E, S, h1, h2, h3, h4, hE => by
    obtain ⟨n, rfl⟩ : ∃ f', n = f' + 1 := ⟨n - 1, by omega⟩
    obtain ⟨m, rfl⟩ : ∃ f', m = f' + 1 := ⟨m - 1, by omega⟩
    have hx := hd _ (getD_mem (by omega : q < l.length))
    obtain ⟨i, hi⟩ : ∃ i : Nat, l.getD q 0 = (i : Int) := ⟨(l.getD q 0).toNat, by omega⟩
    have hd3 : R.getD i [] = rd R i := rfl
    have hEt := hE (rT (rd R i))
    -- the two steps
    have e1 : p25_l1 k R l (fun x12 _ => lt' (x12 == to) fun b37 => some (b37, (0 : Int))) (n + 1) a (q : Int) E = if ¬ rF (rd R i) = a then some (false, 0) else if wr .i64 (mget E (rT (rd R i)) + 1) > 1 then some (false, 0) else p25_l1 k R l (fun x12 _ => lt' (x12 == to) fun b37 => some (b37, (0 : Int))) n (rT (rd R i)) ((q + 1 : Nat) : Int) (mput E (rT (rd R i)) (wr .i64 (mget E (rT (rd R i)) + 1))) := by
      rw [p25_l1]
      simp only [lt_v, sp_d, jn_v, bne_d, Int.toNat_natCast, sp_tt]
      rw [iT (by omega), gd_v (by omega), hi, gd_v (by omega), Int.toNat_natCast, hd3, wr_succ (n := l.length) (by omega) (by omega)]
      simp only [show (rd R i).getD 0 0 = rF (rd R i) from rfl, show (rd R i).getD 1 0 = rT (rd R i) from rfl, mget_mput, if_true]
    have e2 : p100_l1 k R l (fun x1 => lt' (x1 == to) fun b22 => some b22) (m + 1) a (q : Int) S = if ¬ rF (rd R i) = a then some false else if rT (rd R i) ∈ S then some false else p100_l1 k R l (fun x1 => lt' (x1 == to) fun b22 => some b22) m (rT (rd R i)) ((q + 1 : Nat) : Int) (S ++ [rT (rd R i)]) := by
      rw [p100_l1]
      simp only [lt_v, sp_d, jn_v, bne_d, Int.toNat_natCast, sp_tt]
      rw [iT (by omega), gd_v (by omega), hi, gd_v (by omega), Int.toNat_natCast, hd3, wr_succ (n := l.length) (by omega) (by omega)]
      simp only [show (rd R i).getD 0 0 = rF (rd R i) from rfl, show (rd R i).getD 1 0 = rT (rd R i) from rfl]
      rw [p59_eq hk (by omega), cl_v, sp_d, gd_v (by simp only [List.length_cons, List.length_nil]; omega)]
    rw [e1, e2]
    by_cases hF : rF (rd R i) = a
    rotate_left
    · rw [iT hF, iT hF]
      exact ⟨false, rfl, rfl⟩
    rw [iF (not_not_intro hF), iF (not_not_intro hF)]
    by_cases hm : rT (rd R i) ∈ S
    · rw [if_pos hm] at hEt
      rw [hEt, wr64 (z := 1 + 1) (by omega) (by omega), iT (by omega), iT hm]
      exact ⟨false, rfl, rfl⟩
    · rw [if_neg hm] at hEt
      rw [hEt, wr64 (z := 0 + 1) (by omega) (by omega), iF (by omega), iF hm]
      refine route_both hk hl hd d (q + 1) n m _ _ _ (by omega) (by omega) (by omega) (by simp only [List.length_append, List.length_cons, List.length_nil]; omega) fun v => ?_
      rw [mget_mput]
      by_cases e : rT (rd R i) = v
      · rw [if_pos e, if_pos (by rw [List.mem_append, List.mem_singleton]; exact .inr e.symm)]; rfl
      · rw [if_neg e, hE v]
        by_cases g : v ∈ S
        · rw [if_pos g, if_pos (List.mem_append_left _ g)]
        · rw [if_neg g, if_neg (fun x => (List.mem_append.1 x).elim g fun y => e (List.mem_singleton.1 y).symm)]
theorem p41_eq {k : Nat} (hk : Fu k) {P : Int} {R : List (List Int)} {W : List WT} {fr to : Int} {L : List Int} (hr : ∀ r ∈ R, r.length = 12) : ∃ x, p25 k P R W fr to L = some x ∧ p41 k P R W fr to L = some x := by
  have hk' := hk
  unfold Fu at hk'
  unfold p25 p41
  rw [p38_eq hk hr, p29_eq hk, cl_v, cl_v]
  simp only [lt_v, jn_v]
  rw [bne_d, sp_d, sp_d]
  by_cases h : chkE P R W = 0
  rotate_left
  · rw [iT h, iT h]; exact ⟨_, rfl, rfl⟩
  rw [iF (not_not_intro h), iF (not_not_intro h), p67_eq hk (by simp), p99_eq, cl_v, p99_eq, cl_v, cl_v]
  by_cases h1 : 0 ≤ fr ∧ fr < P
  rotate_left
  · rw [iF (fun g => h1 (g fr (by simp))), dF h1, sp_ff, sp_tt]; exact ⟨(false, 3), rfl, rfl⟩
  rw [dT h1, sp_tt]
  by_cases h2 : 0 ≤ to ∧ to < P
  rotate_left
  · rw [iF (fun g => h2 (g to (by simp))), dF h2]; exact ⟨(false, 3), rfl, rfl⟩
  rw [iT (by
    intro x hx
    simp only [List.mem_cons, List.mem_nil_iff, or_false] at hx
    rcases hx with e | e
    · rw [e]; exact h1
    · rw [e]; exact h2), dT h2, show ((0 : Int) != 0) = false from rfl, sp_ff, Bool.not_true, sp_ff, p66_eq hk, cl_v, p90_eq hk, cl_v, bne_d, sp_d, sp_d]
  by_cases he : rdsE R.length L = 0
  rotate_left
  · rw [iT he, iT he]; exact ⟨_, rfl, rfl⟩
  rw [iF (not_not_intro he), iF (not_not_intro he)]
  have hrd : rdsOk R.length L ∧ L.length ≤ 256 := by
    unfold rdsE at he
    by_cases h1 : 256 < L.length
    · rw [iT h1] at he; cases he
    · rw [iF h1] at he
      by_cases h2 : rdsOk R.length L
      · exact ⟨h2, by omega⟩
      · rw [iF h2] at he; cases he
  obtain ⟨b, e1, e2⟩ := route_both hk hrd.2 hrd.1 (to := to) L.length 0 k k fr (mput [] fr 1) [fr] (by omega) (by omega) (by omega) (by simp) (by
    intro v
    rw [mget_mput]
    by_cases e : fr = v
    · rw [if_pos e, if_pos (by simp [e])]
    · rw [if_neg e, if_neg (by rw [List.mem_singleton]; exact fun g => e g.symm)]; rfl)
  refine ⟨(b, 0), e1, ?_⟩
  unfold p100
  simp only [jn_v]
  have e2' : p100_l1 k R L (fun x1 => lt' (x1 == to) fun b22 => some b22) k fr 0 [fr] = some b := e2
  simp only [lt_v] at e2'
  simp only [lt_v]
  rw [e2', cl_v]
def sameB (ok : Nat → Prop) (f : Nat → Int) (L : List Nat) (best : Int) (a : Int × Int × Bool) : Prop := (best = -1 ∧ a = (0, 0, false)) ∨ (∃ q, q < L.length ∧ best = (q : Int) ∧ a = (((L.getD q 0 : Nat) : Int), f (L.getD q 0), true))
theorem wts_get {L : List (List Int)} {i : Nat} (h : i < L.length) : ((wts L).getD i ([], [])).1 = L[i] := by
  unfold wts
  rw [List.getD_eq_getElem?_getD, List.getElem?_map, List.getElem?_eq_getElem h]
  rfl
theorem wts_bits {W : List WT} {L : List Nat} {i : Nat} (h : i < L.length) : ((wts (L.map fun t => bitsL t W.length)).getD i ([], [])).1 = bitsL (L.getD i 0) W.length := by
  rw [wts_get (by rw [List.length_map]; exact h), List.getElem_map]
  congr 1
  rw [List.getD_eq_getElem?_getD, List.getElem?_eq_getElem h]; rfl
theorem getD_dropN {L : List Nat} {i : Nat} (h : i < L.length) : L.drop i = L.getD i 0 :: L.drop (i + 1) := by
  rw [List.drop_eq_getElem_cons h]
  simp [List.getD_eq_getElem?_getD, List.getElem?_eq_getElem h]
theorem p42_l1_eq {k : Nat} (hk : Fu k) {P : Int} {R : List (List Int)} {W : List WT} {z l : List Int} (h : MapOk P R W) (hl : l.length ≤ 256) (hd : rdsOk R.length l) {L : List Nat} (hL : L.length ≤ 1000000) {j : Int → Option (List Int × Int × Int)} : ∀ (d i n : Nat) (best : Int) (a : Int × Int × Bool), i + d = L.length → d < n →
    sameB (fun s => allUs R W z l (bitsL s W.length)) (fun s => costL W (bitsL s W.length)) L best a →
    ∃ best', p42_l1 k P R W z l j (wts (L.map fun t => bitsL t W.length)) n best (i : Int) = j best' ∧ sameB (fun s => allUs R W z l (bitsL s W.length)) (fun s => costL W (bitsL s W.length)) L best' (least (fun s => allUs R W z l (bitsL s W.length)) (fun s => costL W (bitsL s W.length)) (L.drop i) a)
  | 0, i, n, best, a, h1, h2, h3 => by
    obtain ⟨n, rfl⟩ : ∃ f', n = f' + 1 := ⟨n - 1, by omega⟩
    refine ⟨best, ?_, ?_⟩
    · have hlen : (wts (L.map fun t => bitsL t W.length)).length = L.length := by unfold wts; simp
      rw [p42_l1]; simp only [lt_v, sp_d, hlen]; rw [iF (by omega)]
    · rw [List.drop_eq_nil_of_le (by omega)]; exact h3
  | d + 1, i, n, best, a, h1, h2, h3 => by
    obtain ⟨n, rfl⟩ : ∃ f', n = f' + 1 := ⟨n - 1, by omega⟩
    have hlen : (wts (L.map fun t => bitsL t W.length)).length = L.length := by unfold wts; simp
    have hw10 := h.w10
    have hso : ∀ s, sOk W (bitsL s W.length) := by
      intro s x hx
      obtain ⟨q, a, _, rfl⟩ := mem_bitsL.1 hx
      omega
    have hbl : ∀ s, (bitsL s W.length).length ≤ 10 := fun s => Nat.le_trans bitsL_len hw10
    have hp91 : ∀ s, p91 k P R W z (bitsL s W.length) l = some (cauL R W z (bitsL s W.length) l) := fun s => p91_eq hk h.wOk (hso s) (by have := hbl s; omega) hd (by omega)
    have hp101 : ∀ s, p101 k P R W (bitsL s W.length) = some (costL W (bitsL s W.length)) := fun s => p101_eq hk h.wcOk (hso s) (by have := hbl s; omega)
    have hbe : ∀ s, ((List.length (cauL R W z (bitsL s W.length) l) : Int) == 0) = decide (allUs R W z l (bitsL s W.length)) := by
      intro s
      rw [beq_d]
      refine dI ?_
      rw [← cauL_nil]
      constructor
      · intro g; exact List.length_eq_zero_iff.1 (by omega)
      · intro g; rw [g]; rfl
    have ih := fun best a h3 => p42_l1_eq hk h hl hd (z := z) hL (j := j) d (i + 1) n best a (by omega) (by omega) h3
    have hdr : L.drop i = L.getD i 0 :: L.drop (i + 1) := getD_dropN (by omega)
    rw [hdr, least, p42_l1]
    simp only [lt_v, sp_d, jn_v, hlen, Int.toNat_natCast]
    rw [iT (by omega), gd_v (by omega), gd_v (by omega), wts_bits (by omega), hp91, cl_v, hp101, cl_v, wr_succ (n := L.length) (by omega) (by omega)]
    rcases h3 with ⟨e1, e2⟩ | ⟨q, e0, e1, e2⟩
    · subst e1 e2
      rw [iT (by decide), hbe, sp_d]
      by_cases hok : allUs R W z l (bitsL (L.getD i 0) W.length)
      · rw [iT hok, iT ⟨hok, .inl rfl⟩]
        exact ih _ _ (.inr ⟨i, by omega, rfl, rfl⟩)
      · rw [iF hok, iF (fun g => hok g.1)]
        exact ih _ _ (.inl ⟨rfl, rfl⟩)
    · subst e1 e2
      rw [iF (by omega), gd_v (by omega), Int.toNat_natCast, wts_bits e0, hp101, cl_v]
      by_cases hlt : costL W (bitsL (L.getD i 0) W.length) < costL W (bitsL (L.getD q 0) W.length)
      · rw [iT hlt, hbe, sp_d]
        by_cases hok : allUs R W z l (bitsL (L.getD i 0) W.length)
        · rw [iT hok, iT ⟨hok, .inr hlt⟩]
          exact ih _ _ (.inr ⟨i, by omega, rfl, rfl⟩)
        · rw [iF hok, iF (fun g => hok g.1)]
          exact ih _ _ (.inr ⟨q, e0, rfl, rfl⟩)
      · rw [iF hlt, sp_ff, iF (fun g => by rcases g.2 with x | x; cases x; exact hlt x)]
        exact ih _ _ (.inr ⟨q, e0, rfl, rfl⟩)
theorem setsL_len {n : Nat} : (setsL n).length = 2 ^ n := by
  have h2 := setTL_bits (n := n) (d := n) (i := 0) (s := 0) (by omega) (Nat.two_pow_pos 0)
  have h3 := setTL_len (d := n) (i := 0) (l := bitsL 0 n)
  rw [h2, List.length_map] at h3
  unfold setsL; simp only [List.length_cons]; exact h3
theorem p42_eq {k : Nat} (hk : Fu k) {P : Int} {R : List (List Int)} {W : List WT} {z L : List Int} (hr : ∀ r ∈ R, r.length = 12) (hz6 : z.length = 6) : p42 k P R W z L = p31 k P R W z L := by
  have hk' := hk
  unfold Fu at hk'
  rw [p31_eq hk hr hz6]
  unfold p42
  rw [p89_eq hk, cl_v, lt_v, bne_d, sp_d]
  by_cases h : MapOk P R W
  rotate_left
  · rw [iF h, iT (fun g => h (chkE_zero.1 g)), iT h]
  rw [iT h, iF (not_not_intro h)]
  by_cases hz : SzOk z
  rotate_left
  · rw [iT (fun g => hz (szE_zero.1 g)), iT hz]; unfold szE; rw [iF hz]
  have hw10 := h.w10
  rw [szE_zero.2 hz, iF (by simp), iF (not_not_intro hz), p90_eq hk, cl_v]
  simp only [lt_v, jn_v]
  rw [bne_d, sp_d]
  by_cases he : rdsE R.length L = 0
  rotate_left
  · rw [iT he, iT he]
  rw [iF (not_not_intro he), iF (not_not_intro he), p32_eq hk (by omega), cl_v]
  have hrd : rdsOk R.length L ∧ L.length ≤ 256 := by
    unfold rdsE at he
    by_cases h1 : 256 < L.length
    · rw [iT h1] at he; cases he
    · rw [iF h1] at he
      by_cases h2 : rdsOk R.length L
      · exact ⟨h2, by omega⟩
      · rw [iF h2] at he; cases he
  have hsl : (setsL W.length).length ≤ 1024 := by
    rw [setsL_len]
    have : (2 : Nat) ^ W.length ≤ 2 ^ 10 := Nat.pow_le_pow_right (by omega) hw10
    omega
  have hlen : (wts ((setsL W.length).map fun t => bitsL t W.length)).length = (setsL W.length).length := by unfold wts; simp
  obtain ⟨best, e1, e2⟩ := p42_l1_eq hk h hrd.2 hrd.1 (z := z) (L := setsL W.length) (by omega)
    (j := fun x13 => sp (decide (x13 < 0)) (some ([], 0, 15)) (gd (0 ≤ x13 ∧ x13 < (List.length (wts ((setsL W.length).map fun t => bitsL t W.length)) : Int)) <| gd (0 ≤ x13 ∧ x13 < (List.length (wts ((setsL W.length).map fun t => bitsL t W.length)) : Int)) <| cl (p101 k P R W ((wts ((setsL W.length).map fun t => bitsL t W.length)).getD x13.toNat ([], [])).1) fun v53 => some (((wts ((setsL W.length).map fun t => bitsL t W.length)).getD x13.toNat ([], [])).1, v53, 0)))
    (setsL W.length).length 0 k (-1) (0, 0, false) (by omega) (by omega) (.inl ⟨rfl, rfl⟩)
  rw [show ((0 : Nat) : Int) = 0 from rfl] at e1
  rw [List.drop_zero] at e2
  rw [e1]
  have hb : least (fun s => allUs R W z L (bitsL s W.length)) (fun s => costL W (bitsL s W.length)) (setsL W.length) (0, 0, false) = bestW R W z L := rfl
  rw [hb] at e2
  unfold worksE
  rcases e2 with ⟨g1, g2⟩ | ⟨q, g0, g1, g2⟩
  · subst g1
    rw [g2, sp_d, iT (by decide), iF (by decide)]
  · subst g1
    rw [g2, sp_d, iF (by omega), gd_v (by omega), gd_v (by omega), Int.toNat_natCast, wts_bits g0, p101_eq hk h.wcOk (by
      intro x hx
      obtain ⟨q, a, _, rfl⟩ := mem_bitsL.1 hx
      omega) (by have := bitsL_len (m := (setsL W.length).getD q 0) (n := W.length); omega), cl_v, iT rfl]
    rfl
def leaveF (r : List Int) (t : Int) : Int := (if t % 1440 < rO r then t + (rO r - t % 1440) else if rL r - rM r < t % 1440 then t + (1440 - t % 1440 + rO r) else t) + rM r
theorem leaveF_le {P : Int} {r : List Int} (h : RoadOk P r) {t : Int} : t + 1 ≤ leaveF r t ∧ leaveF r t ≤ t + 4320 := by
  have := h.ar
  unfold RoadA at this
  unfold leaveF
  split
  · omega
  · split <;> omega
theorem p56_eq {k : Nat} {P : Int} {r : List Int} (h : RoadOk P r) {t : Int} (h0 : 0 ≤ t) (h1 : t ≤ 9000000000000000000) : p56 k r t = some (leaveF r t) := by
  have := h.ar
  unfold RoadA at this
  unfold p56 leaveF
  simp only [lt_v, jn_v, sp_d, show r.getD 3 0 = rM r from rfl, show r.getD 4 0 = rO r from rfl, show r.getD 5 0 = rL r from rfl, Int.tmod_eq_emod_of_nonneg h0]
  by_cases g : t % 1440 < rO r
  · rw [iT g, iT g, wr64 (z := rO r - t % 1440) (by omega) (by omega), wr64 (z := t + (rO r - t % 1440)) (by omega) (by omega), wr64 (by omega) (by omega)]
  · rw [iF g, iF g, wr64 (z := rL r - rM r) (by omega) (by omega)]
    by_cases g2 : rL r - rM r < t % 1440
    · rw [iT (by omega), iT g2, wr64 (z := 1440 - t % 1440) (by omega) (by omega), wr64 (z := 1440 - t % 1440 + rO r) (by omega) (by omega), wr64 (z := t + (1440 - t % 1440 + rO r)) (by omega) (by omega), wr64 (by omega) (by omega)]
    · rw [iF (by omega), iF g2, wr64 (by omega) (by omega)]
theorem p61_eq {k : Nat} {P : Int} {r : List Int} (h : RoadOk P r) {t : Int} (h0 : 0 ≤ t) (h1 : t ≤ 9000000000000000000) : p61 k r t = some (leaveF r t) := by
  have := h.ar
  unfold RoadA at this
  unfold p61 leaveF
  simp only [lt_v, jn_v, sp_d, show r.getD 3 0 = rM r from rfl, show r.getD 4 0 = rO r from rfl, show r.getD 5 0 = rL r from rfl, Int.tmod_eq_emod_of_nonneg h0]
  by_cases g : t % 1440 < rO r
  · rw [iT g, iT g, wr64 (z := rL r - rM r) (by omega) (by omega), iF (by omega), wr64 (z := t + rO r) (by omega) (by omega), wr64 (z := t + rO r - t % 1440) (by omega) (by omega), wr64 (by omega) (by omega)]
    congr 1; omega
  · rw [iF g, iF g, wr64 (z := rL r - rM r) (by omega) (by omega)]
    by_cases g2 : rL r - rM r < t % 1440
    · rw [iT (by omega), iT g2, wr64 (z := t + 1440) (by omega) (by omega), wr64 (z := t + 1440 + rO r) (by omega) (by omega), wr64 (z := t + 1440 + rO r - t % 1440) (by omega) (by omega), wr64 (by omega) (by omega)]
      congr 1; omega
    · rw [iF (by omega), iF g2, wr64 (by omega) (by omega)]
def joint (R : List (List Int)) (l : List Int) (i : Nat) : Prop := i = 0 ∨ rF (rd R (l.getD i 0).toNat) = rT (rd R (l.getD (i - 1) 0).toNat)
def leaveL (R : List (List Int)) : List Int → Int → Int
  | [], t => t
  | x :: l, t => leaveL R l (leaveF (rd R x.toNat) t)
theorem p24_l1_eq {k : Nat} {P : Int} {R : List (List Int)} {W : List WT} (h : MapOk P R W) {l : List Int} (hl : l.length ≤ 256) (hd : rdsOk R.length l) {j : Int → Option (Int × Int)} : ∀ (d q n : Nat) (t : Int), q + d = l.length → d < n → 0 ≤ t → t ≤ 2000000000000 + 4320 * (q : Int) →
    p24_l1 k R l j n t (q : Int) = if ∀ i, q ≤ i → i < l.length → joint R l i then j (leaveL R (l.drop q) t) else some (0, 16)
  | 0, q, n, t, h1, h2, h3, h4 => by
    obtain ⟨n, rfl⟩ : ∃ f', n = f' + 1 := ⟨n - 1, by omega⟩
    rw [p24_l1]; simp only [lt_v, sp_d]; rw [iF (by omega), iT (by intros; omega), List.drop_eq_nil_of_le (by omega)]
    rfl
  | d + 1, q, n, t, h1, h2, h3, h4 => by
    obtain ⟨n, rfl⟩ : ∃ f', n = f' + 1 := ⟨n - 1, by omega⟩
    have hx := hd _ (getD_mem (by omega : q < l.length))
    obtain ⟨i, hi⟩ : ∃ i : Nat, l.getD q 0 = (i : Int) := ⟨(l.getD q 0).toNat, by omega⟩
    have hro := h.road i (by omega)
    have hlv := leaveF_le hro (t := t)
    have ih := p24_l1_eq h hl hd (j := j) (k := k) d (q + 1) n (leaveF (rd R i) t) (by omega) (by omega) (by omega) (by omega)
    have hd3 : R.getD i [] = rd R i := rfl
    -- behind the check
    have rest : joint R l q → (cl (p56 k (rd R i) t) fun v27 => p24_l1 k R l j n v27 ((q + 1 : Nat) : Int)) = if ∀ i, q ≤ i → i < l.length → joint R l i then j (leaveL R (l.drop q) t) else some (0, 16) := by
      intro hj
      rw [p56_eq hro h3 (by omega), cl_v, ih, getD_drop (by omega : q < l.length), hi]
      simp only [leaveL, Int.toNat_natCast]
      by_cases g : ∀ i, q + 1 ≤ i → i < l.length → joint R l i
      · rw [iT g, iT]
        intro i h5 h6
        rcases Nat.eq_or_lt_of_le h5 with e | e
        · subst e; exact hj
        · exact g i e h6
      · rw [iF g, iF (fun g2 => g fun i h5 h6 => g2 i (by omega) h6)]
    rw [p24_l1]
    simp only [lt_v, sp_d, jn_v, sp_ff, bne_d, Int.toNat_natCast]
    rw [iT (by omega), gd_v (by omega), hi, gd_v (by omega), Int.toNat_natCast, hd3, wr_succ (n := l.length) (by omega) (by omega)]
    by_cases hq : q = 0
    · rw [iF (by omega), gd_v (by omega)]
      exact rest (.inl hq)
    · have e1 : wr .i64 ((q : Int) - 1) = ((q - 1 : Nat) : Int) := by rw [wr64 (by omega) (by omega)]; omega
      have hx1 := hd _ (getD_mem (by omega : q - 1 < l.length))
      rw [iT (by omega), e1, gd_v (by omega), Int.toNat_natCast, gd_v (by omega)]
      have hd4 : R.getD (l.getD (q - 1) 0).toNat [] = rd R (l.getD (q - 1) 0).toNat := rfl
      rw [hd4]
      simp only [show (rd R i).getD 0 0 = rF (rd R i) from rfl, show (rd R (l.getD (q - 1) 0).toNat).getD 1 0 = rT (rd R (l.getD (q - 1) 0).toNat) from rfl]
      by_cases g : rF (rd R i) = rT (rd R (l.getD (q - 1) 0).toNat)
      · rw [iF (not_not_intro g)]
        try rw [gd_v (by omega)]
        exact rest (.inr (by rw [hi, Int.toNat_natCast]; exact g))
      · rw [iT g, iF]
        intro g2
        rcases g2 q (Nat.le_refl _) (by omega) with e | e
        · exact hq e
        · rw [hi, Int.toNat_natCast] at e; exact g e
theorem p43_l1_eq {k : Nat} {R : List (List Int)} {l : List Int} (hl : l.length ≤ 256) (hd : rdsOk R.length l) {n : Nat} (hn : l.length < n) {j : Option (Int × Int)} : p43_l1 k R l j n 0 = if ∀ i, i < l.length → joint R l i then j else some (0, 16) := by
  have hs := srch0 (F := p43_l1 k R l j) (len := l.length) (n := n) (A := some (0, 16)) (J := j) (fun i => ¬ joint R l i) hn ?_ ?_
  · rcases hs with ⟨⟨i, a, b⟩, e⟩ | ⟨g, e⟩
    · rw [e, iF (fun g => b (g i a))]
    · rw [e, iT (fun i hi => Classical.byContradiction (g i hi))]
  · intro n; rw [p43_l1]; simp only [lt_v, sp_d]; rw [iF (by omega)]
  · intro n i hi
    have hx := hd _ (getD_mem hi)
    rw [p43_l1]
    simp only [lt_v, sp_d, jn_v, sp_ff, bne_d, Int.toNat_natCast]
    rw [iT (by omega), wr_succ hi (by omega)]
    by_cases hq : i = 0
    · rw [iF (by omega)]
      exact .inr ⟨not_not_intro (.inl hq), rfl⟩
    · have e1 : wr .i64 ((i : Int) - 1) = ((i - 1 : Nat) : Int) := by rw [wr64 (by omega) (by omega)]; omega
      have hx1 := hd _ (getD_mem (by omega : i - 1 < l.length))
      rw [iT (by omega), gd_v (by omega), gd_v (by omega), e1, gd_v (by omega), Int.toNat_natCast, gd_v (by omega)]
      have hd3 : R.getD (l.getD i 0).toNat [] = rd R (l.getD i 0).toNat := rfl
      have hd4 : R.getD (l.getD (i - 1) 0).toNat [] = rd R (l.getD (i - 1) 0).toNat := rfl
      rw [hd3, hd4]
      simp only [show (rd R (l.getD i 0).toNat).getD 0 0 = rF (rd R (l.getD i 0).toNat) from rfl, show (rd R (l.getD (i - 1) 0).toNat).getD 1 0 = rT (rd R (l.getD (i - 1) 0).toNat) from rfl]
      by_cases g : rF (rd R (l.getD i 0).toNat) = rT (rd R (l.getD (i - 1) 0).toNat)
      · exact .inr ⟨not_not_intro (.inr g), iF (not_not_intro g)⟩
      · refine .inl ⟨fun g2 => ?_, iT g⟩
        rcases g2 with e | e
        · exact hq e
        · exact g e
theorem p43_l2_eq {k : Nat} {P : Int} {R : List (List Int)} {W : List WT} (h : MapOk P R W) {l : List Int} (hl : l.length ≤ 256) (hd : rdsOk R.length l) {j : Int → Option (Int × Int)} : ∀ (d q n : Nat) (t : Int), q + d = l.length → d < n → 0 ≤ t → t ≤ 2000000000000 + 4320 * (q : Int) →
    p43_l2 k R l j n t (q : Int) = j (leaveL R (l.drop q) t)
  | 0, q, n, t, h1, h2, h3, h4 => by
    obtain ⟨n, rfl⟩ : ∃ f', n = f' + 1 := ⟨n - 1, by omega⟩
    rw [p43_l2]; simp only [lt_v, sp_d]; rw [iF (by omega), List.drop_eq_nil_of_le (by omega)]
    rfl
  | d + 1, q, n, t, h1, h2, h3, h4 => by
    obtain ⟨n, rfl⟩ : ∃ f', n = f' + 1 := ⟨n - 1, by omega⟩
    have hx := hd _ (getD_mem (by omega : q < l.length))
    obtain ⟨i, hi⟩ : ∃ i : Nat, l.getD q 0 = (i : Int) := ⟨(l.getD q 0).toNat, by omega⟩
    have hro := h.road i (by omega)
    have hlv := leaveF_le hro (t := t)
    have hd3 : R.getD i [] = rd R i := rfl
    rw [p43_l2]
    simp only [lt_v, sp_d, Int.toNat_natCast]
    rw [iT (by omega), gd_v (by omega), hi, gd_v (by omega), Int.toNat_natCast, hd3, p61_eq hro h3 (by omega), cl_v, wr_succ (n := l.length) (by omega) (by omega), p43_l2_eq h hl hd d (q + 1) n _ (by omega) (by omega) (by omega) (by omega), getD_drop (by omega : q < l.length), hi]
    simp only [leaveL, Int.toNat_natCast]
noncomputable def arrE (P : Int) (R : List (List Int)) (W : List WT) (l : List Int) (t : Int) : Int × Int :=
  if ¬ MapOk P R W then (0, chkE P R W) else if rdsE R.length l ≠ 0 then (0, rdsE R.length l) else if ¬ (0 ≤ t ∧ t ≤ 1099511627776) then (0, 3) else if ∀ i, i < l.length → joint R l i then (leaveL R l t, 0) else (0, 16)
theorem rds_of {n : Nat} {L : List Int} (he : rdsE n L = 0) : rdsOk n L ∧ L.length ≤ 256 := by
  unfold rdsE at he
  by_cases h1 : 256 < L.length
  · rw [iT h1] at he; cases he
  · rw [iF h1] at he
    by_cases h2 : rdsOk n L
    · exact ⟨h2, by omega⟩
    · rw [iF h2] at he; cases he
theorem p24_eq {k : Nat} (hk : Fu k) {P : Int} {R : List (List Int)} {W : List WT} {l : List Int} {t : Int} (hr : ∀ r ∈ R, r.length = 12) : p24 k P R W l t = some (arrE P R W l t) := by
  have hk' := hk
  unfold Fu at hk'
  unfold p24 arrE
  rw [p38_eq hk hr, cl_v, lt_v, chkE_ne, sp_d]
  by_cases h : MapOk P R W
  rotate_left
  · rw [iT h, iT h]
  rw [iF (not_not_intro h), iF (not_not_intro h), p66_eq hk, cl_v, lt_v, bne_d, sp_d]
  by_cases he : rdsE R.length l = 0
  rotate_left
  · rw [iT he, iT he]
  rw [iF (not_not_intro he), iF (not_not_intro he), p64_eq, cl_v, sp_d]
  obtain ⟨hd, hl⟩ := rds_of he
  by_cases ht : 0 ≤ t ∧ t ≤ 1099511627776
  rotate_left
  · rw [iF ht, iT ht]
  rw [iT ht, iF (not_not_intro ht)]
  simp only [jn_v]
  have := p24_l1_eq (k := k) h hl hd (j := fun x6 => some (x6, 0)) l.length 0 k t (by omega) (by omega) ht.1 (by omega)
  rw [List.drop_zero, show ((0 : Nat) : Int) = 0 from rfl] at this
  rw [this]
  by_cases g : ∀ i, i < l.length → joint R l i
  · rw [iT (fun i _ hi => g i hi), iT g]
  · rw [iF (fun g2 => g fun i hi => g2 i (Nat.zero_le _) hi), iF g]
theorem p43_eq {k : Nat} (hk : Fu k) {P : Int} {R : List (List Int)} {W : List WT} {l : List Int} {t : Int} : p43 k P R W l t = some (arrE P R W l t) := by
  have hk' := hk
  unfold Fu at hk'
  unfold p43 arrE
  rw [p29_eq hk, cl_v, lt_v, chkE_ne, sp_d]
  by_cases h : MapOk P R W
  rotate_left
  · rw [iT h, iT h]
  rw [iF (not_not_intro h), iF (not_not_intro h), p90_eq hk, cl_v, lt_v, bne_d, sp_d]
  by_cases he : rdsE R.length l = 0
  rotate_left
  · rw [iT he, iT he]
  rw [iF (not_not_intro he), iF (not_not_intro he), p65_eq, cl_v, sp_d]
  obtain ⟨hd, hl⟩ := rds_of he
  by_cases ht : 0 ≤ t ∧ t ≤ 1099511627776
  rotate_left
  · rw [iF ht, iT ht]
  rw [iT ht, iF (not_not_intro ht)]
  simp only [jn_v]
  rw [p43_l1_eq hl hd (by omega)]
  by_cases g : ∀ i, i < l.length → joint R l i
  · rw [iT g, iT g]
    have := p43_l2_eq (k := k) h hl hd (j := fun x24 => some (x24, 0)) l.length 0 k t (by omega) (by omega) ht.1 (by omega)
    rw [List.drop_zero, show ((0 : Nat) : Int) = 0 from rfl] at this
    exact this
  · rw [iF g, iF g]
theorem p17_eq {k : Nat} (hk : Fu k) {L : List Int} (hl : L.length ≤ 1000000) : p17 k L L = some true := by
  unfold Fu at hk
  unfold p17
  simp only [lt_v, jn_v]
  rw [show ((L.length : Int) != (L.length : Int)) = false from by simp, sp_ff]
  have hs := srch0 (F := p17_l1 k L L (some true)) (len := L.length) (n := k) (A := some false) (J := some true) (fun _ => False) (by omega) ?_ ?_
  · rcases hs with ⟨⟨j, _, b⟩, _⟩ | ⟨_, e⟩
    · exact b.elim
    · exact e
  · intro n; rw [p17_l1]; simp only [lt_v, sp_d]; rw [iF (by omega)]
  · intro n i hi
    refine .inr ⟨id, ?_⟩
    rw [p17_l1]
    simp only [lt_v, sp_d, Int.toNat_natCast]
    rw [iT (by omega), gd_v (by omega), gd_v (by omega), show (L.getD i 0 != L.getD i 0) = false from by simp, sp_ff, wr_succ hi (by omega)]
end Go.Proofs.Ythniebmammmacaa
namespace Go.Proofs.Ythniebmammmacaa
open Go.ChangeShapes Go.WideShapes Go.ChangeAt Go.RowKit
def PlainRoadCauses : Prop := ∀ (u0_0 : Int) (u0_1 : List (List Int)) (u0_2 : List WT) (u1 : List Int) (u2 : List Int) (u3 : List Int) (u4 : Int) (u5 : Int) (u6 : Int), Wfi .i64 u0_0 → u0_1.length ≤ maxLen → (∀ r ∈ u0_1, r.length = 12) → (∀ r ∈ u0_1, ∀ z ∈ r, Wfi .i64 z) → u0_2.length ≤ maxLen → (∀ x ∈ u0_2, okWT 3 x) → u1.length = 6 → (∀ z ∈ u1, Wfi .i64 z) → u2.length ≤ maxLen → (∀ z ∈ u2, Wfi .i64 z) → u3.length ≤ maxLen → (∀ z ∈ u3, Wfi .i64 z) → Wfi .i64 u4 → Wfi .i64 u5 → Wfi .i64 u6 → ∃ k, p8 k u0_0 u0_1 u0_2 u1 u2 u3 u4 u5 u6 = some true
theorem own8 : ownKnob Try.prog.godebug = none := by kernel_rfl
theorem laid8 : laidOutB Try.prog = true := by kernel_rfl
set_option maxRecDepth 100000 in
theorem lifted8 (plain : PlainRoadCauses) (os : Os) (started : os.Started) (H : Type) (enc : TypeId × Value → H) :
    ReturnsInHanded {} Try.checked os 8 .any (Rows.roadCausesSpec.pre6 enc Try.prog Try.f8 Rows.roadCausesRow.domain false) (Rows.roadCausesSpec.post enc Try.prog Try.f8 false true false false) := by
  refine returnsInHanded_of_change (C := Try.checked) own8 started (by kernel_rfl) Try.func8
    (ChangeSpec.witness6 (enc := enc) (C := Try.checked) false ⟨#[], #[.agg #[.int .i64 0, .slice none 0 0, .slice none 0 0], .agg #[.int .i64 0, .int .i64 0, .int .i64 0, .int .i64 0, .int .i64 0, .int .i64 0], .slice none 0 0, .slice none 0 0, .int .i64 0, .int .i64 0, .int .i64 0], []⟩ 12 (by kernel_rfl) (by kernel_rfl) (by kernel_rfl) (by kernel_rfl)) ?_
  intro W base args ds gs before hval0 hW hcnd _
  have hval : ∀ (j : Nat) t v, Try.f8.params[j]? = some t → args[j]? = some v → Value.okWide Try.prog W .any base t v := hval0
  have hW' := hW
  obtain ⟨p, q, hA0, hV, rfl, hfz, hnd⟩ := hW
  have hA : DataW.TrodAll enc Try.prog W 0 (fun _ => true) true Try.f8.params.toList args.toList ds p := hA0
  rw [Try.params8] at hA hval
  obtain ⟨v0, vs0, d0, ds0, p0, q0, hargs, rfl, rfl, h0, r0⟩ := trodAll_cons hA
  obtain ⟨v1, vs1, d1, ds1, p1, q1, rfl, rfl, rfl, h1, r1⟩ := trodAll_cons r0
  obtain ⟨v2, vs2, d2, ds2, p2, q2, rfl, rfl, rfl, h2, r2⟩ := trodAll_cons r1
  obtain ⟨v3, vs3, d3, ds3, p3, q3, rfl, rfl, rfl, h3, r3⟩ := trodAll_cons r2
  obtain ⟨v4, vs4, d4, ds4, p4, q4, rfl, rfl, rfl, h4, r4⟩ := trodAll_cons r3
  obtain ⟨v5, vs5, d5, ds5, p5, q5, rfl, rfl, rfl, h5, r5⟩ := trodAll_cons r4
  obtain ⟨v6, vs6, d6, ds6, p6, q6, rfl, rfl, rfl, h6, r6⟩ := trodAll_cons r5
  obtain ⟨rfl, rfl, rfl⟩ := trodAll_nil r6
  obtain rfl : args = #[v0, v1, v2, v3, v4, v5, v6] := by cases args; simp_all
  obtain ⟨rfl, rfl⟩ := trodVars_none hV
  have k0 := h0
  have lt0 : ∀ x ∈ p0, x.block < W.heap.size := by obtain ⟨m, hm⟩ := k0; exact DataW.trod_lt m _ _ _ hm
  obtain ⟨cs0, fu0, rfl, hx0⟩ := open_agg Try.underlying25 rfl (hval 0 25 v0 rfl rfl) h0
  obtain ⟨c0a, c0b, c0c, fv0, y0a, y0b, y0c, rfl, hx0a, hx0b, hx0c⟩ := open_three Try.underlying25 rfl (by kernel_rfl) (by kernel_rfl) (by kernel_rfl) hx0
  obtain ⟨u0_0, rfl, wu0_0⟩ := open_i1 (k := .i64) (d := 8) (by kernel_rfl) hx0a
  obtain ⟨Au0_1, u0_1, cu0_1, rfl, su0_1, mu0_1, zu0_1⟩ := open_rows (k := .i64) (d := 8) (m := 12) Try.underlying22 (by kernel_rfl) rfl (by kernel_rfl) hx0b
  obtain ⟨Au0_2, u0_2, cu0_2, Hu0_2, Cu0_2, rfl, su0_2, mu0_2, zu0_2⟩ := open_works (m := 3) Try.underlying23 (by kernel_rfl) (fun h => open_workB 3 (by kernel_rfl) h) hx0c
  have k1 := h1
  have lt1 : ∀ x ∈ p1, x.block < W.heap.size := by obtain ⟨m, hm⟩ := k1; exact DataW.trod_lt m _ _ _ hm
  obtain ⟨cs1, fu1, rfl, hx1⟩ := open_agg Try.underlying26 rfl (hval 1 26 v1 rfl rfl) h1
  obtain ⟨u1, rfl, lu1, zu1⟩ := open_ints' (k := .i64) (d := 8) (n := 6) (by kernel_rfl) hx1
  have k2 := h2
  have lt2 : ∀ x ∈ p2, x.block < W.heap.size := by obtain ⟨m, hm⟩ := k2; exact DataW.trod_lt m _ _ _ hm
  obtain ⟨cs2, fu2, hcs2, hx2⟩ := open_slice Try.underlying27 (hval 2 27 v2 rfl rfl) h2
  obtain ⟨Au2, u2, cu2, rfl, su2, mu2, zu2⟩ := open_sint (k := .i64) (d := 8) Try.underlying27 (by kernel_rfl) (by kernel_rfl) hx2
  injection hcs2 with hcs2 _
  subst hcs2
  have k3 := h3
  have lt3 : ∀ x ∈ p3, x.block < W.heap.size := by obtain ⟨m, hm⟩ := k3; exact DataW.trod_lt m _ _ _ hm
  obtain ⟨cs3, fu3, hcs3, hx3⟩ := open_slice Try.underlying27 (hval 3 27 v3 rfl rfl) h3
  obtain ⟨Au3, u3, cu3, rfl, su3, mu3, zu3⟩ := open_sint (k := .i64) (d := 8) Try.underlying27 (by kernel_rfl) (by kernel_rfl) hx3
  injection hcs3 with hcs3 _
  subst hcs3
  obtain ⟨u4, rfl, rfl, rfl, wu4⟩ := open_int Try.underlying3 (hval 4 3 v4 rfl rfl) h4
  obtain ⟨u5, rfl, rfl, rfl, wu5⟩ := open_int Try.underlying3 (hval 5 3 v5 rfl rfl) h5
  obtain ⟨u6, rfl, rfl, rfl, wu6⟩ := open_int Try.underlying2 (hval 6 2 v6 rfl rfl) h6
  obtain ⟨k, hp⟩ := plain u0_0 u0_1 u0_2 u1 u2 u3 u4 u5 u6 wu0_0 mu0_1 su0_1.1 zu0_1 mu0_2 zu0_2 lu1 zu1 mu2 zu2 mu3 zu3 wu4 wu5 wu6
  have hc := Fn.calls (Mem.le_refl _) ((w8 k su0_1 su0_2 lu1 su2 su3 hp).mono (R' := fun x _ => rval x = .bool true) (by rintro x M' _ rfl; rfl))
  clear hA0 hval0
  have hc2 : Calls Try.prog 8 #[.agg ([Value.int .i64 u0_0] ++ [Value.slice Au0_1 (List.length u0_1) cu0_1] ++ [Value.slice Au0_2 (List.length u0_2) cu0_2]).toArray, .agg (ints .i64 u1).toArray, .slice Au2 (List.length u2) cu2, .slice Au3 (List.length u3) cu3, .int .i64 u4, .int .i64 u5, .int .i64 u6] W fun e w' => e = .returned (.bool true) ∧ Below W.heap.size W w' := by
    simpa [rval, SV.val, sgCells, Sg.cells, Lf.val] using hc
  refine hc2.mono fun e W' ⟨he, bel⟩ => ?_
  subst he
  exact ⟨_, rfl, _, _, _, [], _, [], hW', trodAll_mk1 (shut_bool Try.underlying4 _), (trodAll_cons_mk (Below.trod laid8 (by kernel_rfl) (of_decide_eq_true (by kernel_rfl)) k0 bel lt0) (trodAll_cons_mk (Below.trod laid8 (by kernel_rfl) (of_decide_eq_true (by kernel_rfl)) k1 bel lt1) (trodAll_cons_mk (Below.trod laid8 (by kernel_rfl) (of_decide_eq_true (by kernel_rfl)) k2 bel lt2) (trodAll_cons_mk (Below.trod laid8 (by kernel_rfl) (of_decide_eq_true (by kernel_rfl)) k3 bel lt3) (trodAll_cons_mk (shut_int Try.underlying3 wu4) (trodAll_cons_mk (shut_int Try.underlying3 wu5) (trodAll_cons_mk (shut_int Try.underlying2 wu6) trodAll_mk0))))))), rfl, bel.frame _, fun h => by cases h⟩
theorem roadCauses_of (plain : PlainRoadCauses) : Rows.RoadCausesSaid :=
  OpenClaim.holds_of_wide 8 Try.f8 rfl rfl rfl rfl rfl rfl rfl ⟨rfl, rfl, rfl, rfl, rfl⟩ rfl rfl rfl rfl rfl (by kernel_rfl) Try.func8 (by kernel_rfl)
    (of_decide_eq_true (by kernel_rfl)) (by unfold Func.isWrapper; first | (rw [if_pos (by decide +kernel)]; kernel_rfl) | (rw [if_neg (by decide +kernel)]; exact ⟨rfl, rfl⟩))
    (fun os started H enc _ => lifted8 plain os started H enc)
end Go.Proofs.Ythniebmammmacaa
namespace Go.Proofs.Ythniebmammmacaa
open Go.RowKit Classical
theorem p8_l1_eq {k : Nat} (hk : Fu k) {L : List (List Int)} {j : Option Bool} (hl : L.length ≤ 1000000) : p8_l1 k j L L k 0 = j := by
  unfold Fu at hk
  have hs := srch0 (F := p8_l1 k j L L) (len := L.length) (n := k) (A := some false) (J := j) (fun _ => False) (by omega) ?_ ?_
  · rcases hs with ⟨⟨q, _, b⟩, _⟩ | ⟨_, e⟩
    · exact b.elim
    · exact e
  · intro n; rw [p8_l1]; simp only [lt_v, sp_d]; rw [iF (by omega)]
  · intro n i hi
    refine .inr ⟨id, ?_⟩
    rw [p8_l1]
    simp only [lt_v, sp_d, Int.toNat_natCast]
    rw [iT (by omega), gd_v (by omega), gd_v (by omega), show (true != (L.getD i [] == L.getD i [])) = false from by simp, sp_ff, wr_succ hi (by omega)]
theorem plain8 : PlainRoadCauses := by
  intro P R W z S L fr to st hP hRl hr hRz hWl hWo hz6 hzz hSl hSz hLl hLz hfr hto hst
  obtain ⟨k, hk, h14⟩ : ∃ k, Fu k ∧ p14 k = some true := ⟨K0, fuK0, p14_eq⟩
  refine ⟨k, ?_⟩
  have hk' := hk
  unfold Fu at hk'
  unfold p8
  simp only [jn_v]
  rw [h14]
  obtain ⟨g, hg, _⟩ := p13_some hk (P := P) (R := R) (W := W)
  rw [hg, cl_v]
  cases g with
  | true => simp only [sp_tt, cl_v]
  | false =>
    rw [sp_ff]
    simp only [lt_v, sp_d]
    by_cases h1 : (S.length : Int) > 400
    · rw [iT h1]; simp only [sp_tt, cl_v]
    rw [iF h1]
    by_cases h2 : (L.length : Int) > 400
    · rw [iT h2]; simp only [sp_tt, cl_v]
    rw [iF h2]
    have hx26 := p26_eq (k := k) hk (P := P) (R := R) (W := W) (z := z) (S := S) (L := L) hr hz6 (by omega)
    obtain ⟨c, hc⟩ : ∃ c, p26 k P R W z S L = some c := ⟨_, hx26⟩
    have hcl : c.1.length ≤ 1000000 := by
      rw [hx26] at hc
      injection hc with hc
      rw [← hc]
      split
      · simp
      · split
        · simp
        · split
          · simp
          · split
            · simp
            · unfold cauL
              have key : ∀ l : List Int, (l.flatMap fun x => cau R W z S x.toNat 6 0).length ≤ 6 * l.length := by
                intro l
                induction l with
                | nil => simp
                | cons x l ih =>
                  have := cau_len (R := R) (W := W) (z := z) (S := S) (i := x.toNat) (d := 6) (k := 0)
                  simp only [List.flatMap_cons, List.length_append, List.length_cons]
                  omega
              have := key L
              show (L.flatMap fun x => cau R W z S x.toNat 6 0).length ≤ 1000000
              omega
    obtain ⟨c1, c2⟩ := c
    obtain ⟨r, hr1, hr2⟩ := p41_eq hk (P := P) (R := R) (W := W) (fr := fr) (to := to) (L := L) hr
    obtain ⟨r1, r2⟩ := r
    have h31 := p31_eq (k := k) hk (P := P) (R := R) (W := W) (z := z) (L := L) hr hz6
    obtain ⟨w, hw⟩ : ∃ w, p31 k P R W z L = some w := ⟨_, h31⟩
    have hwl : w.1.length ≤ 1000000 := by
      rw [h31] at hw
      injection hw with hw
      rw [← hw]
      split
      · simp
      · rename_i hm
        have hm' := Classical.not_not.1 hm
        split
        · simp
        · split
          · simp
          · unfold worksE
            have := bitsL_len (m := (bestW R W z L).1.toNat) (n := W.length)
            have := hm'.w10
            split
            · show (bitsL _ _).length ≤ _; omega
            · simp
    obtain ⟨w1, w2, w3⟩ := w
    obtain ⟨a, ha⟩ : ∃ a, arrE P R W L st = a := ⟨_, rfl⟩
    obtain ⟨a1, a2⟩ := a
    have hcl' : c1.length ≤ 1000000 := hcl
    have hwl' : w1.length ≤ 1000000 := hwl
    have e1 : ∀ x : Int, (x != x) = false := fun x => by simp
    have e2 : ∀ x : Bool, (true != (x == x)) = false := fun x => by simp
    have e3 : ∀ x : Int, (x == x) = true := fun x => by simp
    rw [p37_eq hk hr hz6 (by omega), hc, cl2_v, cl2_v, p38_eq hk hr, cl_v, p29_eq hk, cl_v, p39_eq hk hz6, p40_eq hk, hr1, hr2, p42_eq hk hr hz6, hw, p24_eq hk hr, p43_eq hk, ha]
    simp only [cl_v, cl2_v, cl3_v, e1, e2, e3, sp_ff, sp_tt, p8_l1_eq hk hcl', p17_eq hk hwl']
theorem roadCauses_holds : Rows.RoadCausesSaid := roadCauses_of plain8
end Go.Proofs.Ythniebmammmacaa
