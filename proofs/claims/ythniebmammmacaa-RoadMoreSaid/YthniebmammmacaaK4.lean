/- Lemmas and walks for the law RoadMore (part 4). No condition: every theorem names its own hypotheses. -/
import Derived.Test.YthniebmammmacaaK3
import Derived.Test.YthniebmammmacaaProg
set_option linter.unusedVariables false
set_option linter.unusedSimpArgs false
set_option maxHeartbeats 4000000
namespace Go.Proofs.Ythniebmammmacaa
open Go.RowKit
def p81 (k : Nat) (u0 : List Int) (u1G : Int) (u2G : List Int) : Option Bool :=
 jn (fun (b1 : Bool) => some b1) fun j2 => lt' (List.getD u0 0 0) fun x3 => lt' (x3 == u1G) fun b4 => sp b4 (gd ((0 : Int) ≤ u1G ∧ u1G < (u2G.length : Int)) <| lt' (List.getD u2G ((u1G).toNat) 0) fun x6 => lt' (List.getD u0 2 0) fun x7 => lt' (List.getD u0 1 0) fun x8 => gd ((0 : Int) ≤ x8 ∧ x8 < (u2G.length : Int)) <| lt' (List.getD u2G ((x8).toNat) 0) fun x10 => lt' (wr .i64 (x7 + x10)) fun x11 => lt' (x6 == x11) fun b12 => j2 b12) (j2 false)
theorem hf81 : Try.prog.funcs[81]? = some Try.f81 := by kernel_rfl
theorem w81 (k : Nat) {M : Mem} {bu1 cu2G bu2 : Nat} {Au2G : Option Addr} {u0 u2G : List Int} {u1G : Int} (hu0 : u0.length = 12) (hbu1 : MB M bu1 [oI u1G]) (hu2G : SlI M Au2G cu2G .i64 u2G) (hbu2 : MB M bu2 [oS Au2G u2G cu2G]) {r} (h : p81 k u0 u1G u2G = some r) :
  Fn Try.prog 81 [rval (.agg [.arr .i64 12 u0]),rval (lP bu1),rval (lP bu2)] M (fun x _ => x = vb r) := by
 unfold p81 at h
 refine FO [.agg [.arr .i64 12 u0],lP bu1,lP bu2] hf81 ⟨⟨hu0,trivial⟩,⟨trivial,⟨trivial,trivial⟩⟩⟩ fun w => ?_
 refine SQ0 (RG ?_)
 refine SG 2 (S4 [(1,lP bu1),(2,lP bu2),(3,lO 3)] [(3,[.arr .i64 12 u0])] [] M) ?_
 refine EN ?_
 obtain ⟨j2,e_j2,h⟩ := jn_some h
 refine T_cut (c1:=(sub [1,0] Bd81)) (c2:=(sub [1,1] Bd81)) (fun s' => ∃ (b1 : Bool),Sub { σ := [(4,vb b1)],H := [],V := [],M := M,ds := [] } s' ∧ j2 b1 = some r) (by kernel_rfl) ?_ ?_
 ·obtain ⟨x3,e_x3,h⟩ := lt_some h
  obtain ⟨b4,e_b4,h⟩ := lt_some h
  cases b4 with
  | true =>
   replace h := sp_t h
   obtain ⟨g5,h⟩ := gd_some h
   obtain ⟨x6,e_x6,h⟩ := lt_some h
   obtain ⟨x7,e_x7,h⟩ := lt_some h
   obtain ⟨x8,e_x8,h⟩ := lt_some h
   obtain ⟨g9,h⟩ := gd_some h
   obtain ⟨x10,e_x10,h⟩ := lt_some h
   obtain ⟨x11,e_x11,h⟩ := lt_some h
   obtain ⟨b12,e_b12,h⟩ := lt_some h
   refine T_draw' (id:=1) [] [0,0,0,0,0,0,0,0,0,0,0,0,0,0,0,0,0,0,0,0] (by kernel_rfl) (by kernel_rfl) (by kernel_rfl) (by kernel_rfl) [(5,lO 3),(6,vi x3),(7,vi u1G),(8,vb true),(9,vb true),(10,lS Au2G u2G cu2G),(11,vi u1G),(12,.lf (.ep (.slice Au2G (u2G.length) cu2G) 1 ((u1G).toNat) 0)),(13,vi x6),(14,.lf (.own 3 2)),(15,vi x7),(16,lS Au2G u2G cu2G),(17,.lf (.own 3 1)),(18,vi x8),(19,.lf (.ep (.slice Au2G (u2G.length) cu2G) 1 ((x8).toNat) 0)),(20,vi x10),(21,vi x11),(22,vb b12),(23,vb b12),(4,vb b12)] (by kernel_rfl) (wfs_lf _ (by kernel_rfl)) ?_
   refine Stage_nil (stage_all' [0,1,4,9,10,12,13,16,17,18,19] [2,3,5,6,7,8,11,14,15] (by kernel_rfl) (by subst_vars; kernel_rfl) (by kernel_rfl) ⟨QF_at (i:=2) (d:=7) (x:=vi u1G) (show OpAt _ _ _ 2 7 _ from by exact At_ldP (d:=7) (b:=bu1) (off:=0) (m:=1) (v:=(.int .i64 u1G)) (by subst_vars; kernel_rfl) (cell_blk hbu1 ⟨rfl,trivial⟩ (by kernel_rfl))) (by kernel_rfl) (by subst_vars; kernel_rfl),⟨QF_at (i:=3) (d:=8) (x:=vb true) (show OpAt _ _ _ 3 8 _ from by exact At_bin (d:=8) (b:=.eql) (u:=.int .i64 x3) (v:=.int .i64 u1G) (w':=.bool true) (by subst_vars; kernel_rfl) (by rw [show exBin .eql (.int .i64 x3) (.int .i64 u1G) = some (.bool (x3 == u1G)) from by kernel_rfl,← e_b4])) (by kernel_rfl) (by subst_vars; kernel_rfl),⟨QF_at (i:=5) (d:=10) (x:=lS Au2G u2G cu2G) (show OpAt _ _ _ 5 10 _ from by exact At_ldP (d:=10) (b:=bu2) (off:=0) (m:=1) (v:=(.slice Au2G (u2G.length) cu2G)) (by subst_vars; kernel_rfl) (cell_blk hbu2 ⟨rfl,trivial⟩ (by kernel_rfl))) (by kernel_rfl) (by subst_vars; kernel_rfl),⟨QF_at (i:=6) (d:=11) (x:=vi u1G) (show OpAt _ _ _ 6 11 _ from by exact At_ldP (d:=11) (b:=bu1) (off:=0) (m:=1) (v:=(.int .i64 u1G)) (by subst_vars; kernel_rfl) (cell_blk hbu1 ⟨rfl,trivial⟩ (by kernel_rfl))) (by kernel_rfl) (by subst_vars; kernel_rfl),⟨QF_at (i:=7) (d:=12) (x:=.lf (.ep (.slice Au2G (u2G.length) cu2G) 1 ((u1G).toNat) 0)) (show OpAt _ _ _ 7 12 _ from by exact At_idxI (d:=12) (z:=u1G) (by subst_vars; kernel_rfl) g5 hu2G) (by kernel_rfl) (by subst_vars; kernel_rfl),⟨QF_at (i:=8) (d:=13) (x:=vi x6) (show OpAt _ _ _ 8 13 _ from by rw [e_x6]; exact At_ldI (d:=13) (q:=(u1G).toNat) (by subst_vars; kernel_rfl) (toNat_lt g5) hu2G) (by kernel_rfl) (by subst_vars; kernel_rfl),⟨QF_at (i:=11) (d:=16) (x:=lS Au2G u2G cu2G) (show OpAt _ _ _ 11 16 _ from by exact At_ldP (d:=16) (b:=bu2) (off:=0) (m:=1) (v:=(.slice Au2G (u2G.length) cu2G)) (by subst_vars; kernel_rfl) (cell_blk hbu2 ⟨rfl,trivial⟩ (by kernel_rfl))) (by kernel_rfl) (by subst_vars; kernel_rfl),⟨QF_at (i:=14) (d:=19) (x:=.lf (.ep (.slice Au2G (u2G.length) cu2G) 1 ((x8).toNat) 0)) (show OpAt _ _ _ 14 19 _ from by exact At_idxI (d:=19) (z:=x8) (by subst_vars; kernel_rfl) g9 hu2G) (by kernel_rfl) (by subst_vars; kernel_rfl),⟨QF_at (i:=15) (d:=20) (x:=vi x10) (show OpAt _ _ _ 15 20 _ from by rw [e_x10]; exact At_ldI (d:=20) (q:=(x8).toNat) (by subst_vars; kernel_rfl) (toNat_lt g9) hu2G) (by kernel_rfl) (by subst_vars; kernel_rfl),trivial⟩⟩⟩⟩⟩⟩⟩⟩⟩) ?_
   refine thenQ_n ?_
   exact ⟨b12,keep_sub (ts:=[4]) (hs:=[]) (vs:=[]) (by subst_vars;kernel_rfl),h⟩
  | false =>
   replace h := sp_f h
   refine T_draw' (id:=1) [] [0,0,0,0,0,0,0,0,0,0,0,0,0,0,0,0,0,0,0,0] (by kernel_rfl) (by kernel_rfl) (by kernel_rfl) (by kernel_rfl) [(5,lO 3),(6,vi x3),(7,vi u1G),(8,vb false),(9,vb false),(10,.tup []),(11,.tup []),(12,.tup []),(13,.tup []),(14,.tup []),(15,.tup []),(16,.tup []),(17,.tup []),(18,.tup []),(19,.tup []),(20,.tup []),(21,.tup []),(22,.tup []),(23,vb false),(4,vb false)] (by kernel_rfl) ⟨trivial,⟨trivial,⟨trivial,⟨trivial,⟨trivial,⟨(by intro y hy;cases hy),⟨(by intro y hy;cases hy),⟨(by intro y hy;cases hy),⟨(by intro y hy;cases hy),⟨(by intro y hy;cases hy),⟨(by intro y hy;cases hy),⟨(by intro y hy;cases hy),⟨(by intro y hy;cases hy),⟨(by intro y hy;cases hy),⟨(by intro y hy;cases hy),⟨(by intro y hy;cases hy),⟨(by intro y hy;cases hy),⟨(by intro y hy;cases hy),⟨trivial,⟨trivial,trivial⟩⟩⟩⟩⟩⟩⟩⟩⟩⟩⟩⟩⟩⟩⟩⟩⟩⟩⟩⟩ ?_
   refine Stage_nil (stage_all' [0,1,4,5,6,7,8,9,10,11,12,13,14,15,16,17,18,19] [2,3] (by kernel_rfl) (by subst e_x3;kernel_rfl) (by kernel_rfl) ⟨QF_at (i:=2) (d:=7) (x:=vi u1G) (show OpAt _ _ _ 2 7 _ from by exact At_ldP (d:=7) (b:=bu1) (off:=0) (m:=1) (v:=(.int .i64 u1G)) (by subst e_x3;kernel_rfl) (cell_blk hbu1 ⟨rfl,trivial⟩ (by kernel_rfl))) (by kernel_rfl) (by subst e_x3;kernel_rfl),⟨QF_at (i:=3) (d:=8) (x:=vb false) (show OpAt _ _ _ 3 8 _ from by exact At_bin (d:=8) (b:=.eql) (u:=.int .i64 x3) (v:=.int .i64 u1G) (w':=.bool false) (by subst e_x3;kernel_rfl) (by rw [show exBin .eql (.int .i64 x3) (.int .i64 u1G) = some (.bool (x3 == u1G)) from by kernel_rfl,← e_b4])) (by kernel_rfl) (by subst e_x3;kernel_rfl),trivial⟩⟩) ?_
   refine thenQ_n ?_
   exact ⟨false,keep_sub (ts:=[4]) (hs:=[]) (vs:=[]) (by subst e_x3;kernel_rfl),h⟩
 ·rintro s' ⟨b1,hsub,h⟩
  subst e_j2
  refine T_sub hsub ?_
  refine RT ?_
  obtain rfl := sj h
  exact FT (vb b1) rfl
def p82 (k : Nat) (u0 : List Int) (u1G : Int) (u2G : List Int) : Option Bool :=
 jn (fun (b1 : Bool) => some b1) fun j2 => lt' (List.getD u0 0 0) fun x3 => lt' (x3 == u1G) fun b4 => sp b4 (gd ((0 : Int) ≤ u1G ∧ u1G < (u2G.length : Int)) <| lt' (List.getD u2G ((u1G).toNat) 0) fun x6 => lt' (List.getD u0 2 0) fun x7 => lt' (List.getD u0 1 0) fun x8 => gd ((0 : Int) ≤ x8 ∧ x8 < (u2G.length : Int)) <| lt' (List.getD u2G ((x8).toNat) 0) fun x10 => lt' (wr .i64 (x7 + x10)) fun x11 => lt' (x6 == x11) fun b12 => j2 b12) (j2 false)
theorem hf82 : Try.prog.funcs[82]? = some Try.f82 := by kernel_rfl
theorem w82 (k : Nat) {M : Mem} {bu1 cu2G bu2 : Nat} {Au2G : Option Addr} {u0 u2G : List Int} {u1G : Int} (hu0 : u0.length = 12) (hbu1 : MB M bu1 [oI u1G]) (hu2G : SlI M Au2G cu2G .i64 u2G) (hbu2 : MB M bu2 [oS Au2G u2G cu2G]) {r} (h : p82 k u0 u1G u2G = some r) :
  Fn Try.prog 82 [rval (.agg [.arr .i64 12 u0]),rval (lP bu1),rval (lP bu2)] M (fun x _ => x = vb r) := by
 unfold p82 at h
 refine FO [.agg [.arr .i64 12 u0],lP bu1,lP bu2] hf82 ⟨⟨hu0,trivial⟩,⟨trivial,⟨trivial,trivial⟩⟩⟩ fun w => ?_
 refine SQ0 (RG ?_)
 refine SG 2 (S4 [(1,lP bu1),(2,lP bu2),(3,lO 3)] [(3,[.arr .i64 12 u0])] [] M) ?_
 refine EN ?_
 obtain ⟨j2,e_j2,h⟩ := jn_some h
 refine T_cut (c1:=(sub [1,0] Bd82)) (c2:=(sub [1,1] Bd82)) (fun s' => ∃ (b1 : Bool),Sub { σ := [(4,vb b1)],H := [],V := [],M := M,ds := [] } s' ∧ j2 b1 = some r) (by kernel_rfl) ?_ ?_
 ·obtain ⟨x3,e_x3,h⟩ := lt_some h
  obtain ⟨b4,e_b4,h⟩ := lt_some h
  cases b4 with
  | true =>
   replace h := sp_t h
   obtain ⟨g5,h⟩ := gd_some h
   obtain ⟨x6,e_x6,h⟩ := lt_some h
   obtain ⟨x7,e_x7,h⟩ := lt_some h
   obtain ⟨x8,e_x8,h⟩ := lt_some h
   obtain ⟨g9,h⟩ := gd_some h
   obtain ⟨x10,e_x10,h⟩ := lt_some h
   obtain ⟨x11,e_x11,h⟩ := lt_some h
   obtain ⟨b12,e_b12,h⟩ := lt_some h
   refine T_draw' (id:=1) [] [0,0,0,0,0,0,0,0,0,0,0,0,0,0,0,0,0,0,0,0] (by kernel_rfl) (by kernel_rfl) (by kernel_rfl) (by kernel_rfl) [(5,lO 3),(6,vi x3),(7,vi u1G),(8,vb true),(9,vb true),(10,lS Au2G u2G cu2G),(11,vi u1G),(12,.lf (.ep (.slice Au2G (u2G.length) cu2G) 1 ((u1G).toNat) 0)),(13,vi x6),(14,.lf (.own 3 2)),(15,vi x7),(16,lS Au2G u2G cu2G),(17,.lf (.own 3 1)),(18,vi x8),(19,.lf (.ep (.slice Au2G (u2G.length) cu2G) 1 ((x8).toNat) 0)),(20,vi x10),(21,vi x11),(22,vb b12),(23,vb b12),(4,vb b12)] (by kernel_rfl) (wfs_lf _ (by kernel_rfl)) ?_
   refine Stage_nil (stage_all' [0,1,4,9,10,12,13,16,17,18,19] [2,3,5,6,7,8,11,14,15] (by kernel_rfl) (by subst_vars; kernel_rfl) (by kernel_rfl) ⟨QF_at (i:=2) (d:=7) (x:=vi u1G) (show OpAt _ _ _ 2 7 _ from by exact At_ldP (d:=7) (b:=bu1) (off:=0) (m:=1) (v:=(.int .i64 u1G)) (by subst_vars; kernel_rfl) (cell_blk hbu1 ⟨rfl,trivial⟩ (by kernel_rfl))) (by kernel_rfl) (by subst_vars; kernel_rfl),⟨QF_at (i:=3) (d:=8) (x:=vb true) (show OpAt _ _ _ 3 8 _ from by exact At_bin (d:=8) (b:=.eql) (u:=.int .i64 x3) (v:=.int .i64 u1G) (w':=.bool true) (by subst_vars; kernel_rfl) (by rw [show exBin .eql (.int .i64 x3) (.int .i64 u1G) = some (.bool (x3 == u1G)) from by kernel_rfl,← e_b4])) (by kernel_rfl) (by subst_vars; kernel_rfl),⟨QF_at (i:=5) (d:=10) (x:=lS Au2G u2G cu2G) (show OpAt _ _ _ 5 10 _ from by exact At_ldP (d:=10) (b:=bu2) (off:=0) (m:=1) (v:=(.slice Au2G (u2G.length) cu2G)) (by subst_vars; kernel_rfl) (cell_blk hbu2 ⟨rfl,trivial⟩ (by kernel_rfl))) (by kernel_rfl) (by subst_vars; kernel_rfl),⟨QF_at (i:=6) (d:=11) (x:=vi u1G) (show OpAt _ _ _ 6 11 _ from by exact At_ldP (d:=11) (b:=bu1) (off:=0) (m:=1) (v:=(.int .i64 u1G)) (by subst_vars; kernel_rfl) (cell_blk hbu1 ⟨rfl,trivial⟩ (by kernel_rfl))) (by kernel_rfl) (by subst_vars; kernel_rfl),⟨QF_at (i:=7) (d:=12) (x:=.lf (.ep (.slice Au2G (u2G.length) cu2G) 1 ((u1G).toNat) 0)) (show OpAt _ _ _ 7 12 _ from by exact At_idxI (d:=12) (z:=u1G) (by subst_vars; kernel_rfl) g5 hu2G) (by kernel_rfl) (by subst_vars; kernel_rfl),⟨QF_at (i:=8) (d:=13) (x:=vi x6) (show OpAt _ _ _ 8 13 _ from by rw [e_x6]; exact At_ldI (d:=13) (q:=(u1G).toNat) (by subst_vars; kernel_rfl) (toNat_lt g5) hu2G) (by kernel_rfl) (by subst_vars; kernel_rfl),⟨QF_at (i:=11) (d:=16) (x:=lS Au2G u2G cu2G) (show OpAt _ _ _ 11 16 _ from by exact At_ldP (d:=16) (b:=bu2) (off:=0) (m:=1) (v:=(.slice Au2G (u2G.length) cu2G)) (by subst_vars; kernel_rfl) (cell_blk hbu2 ⟨rfl,trivial⟩ (by kernel_rfl))) (by kernel_rfl) (by subst_vars; kernel_rfl),⟨QF_at (i:=14) (d:=19) (x:=.lf (.ep (.slice Au2G (u2G.length) cu2G) 1 ((x8).toNat) 0)) (show OpAt _ _ _ 14 19 _ from by exact At_idxI (d:=19) (z:=x8) (by subst_vars; kernel_rfl) g9 hu2G) (by kernel_rfl) (by subst_vars; kernel_rfl),⟨QF_at (i:=15) (d:=20) (x:=vi x10) (show OpAt _ _ _ 15 20 _ from by rw [e_x10]; exact At_ldI (d:=20) (q:=(x8).toNat) (by subst_vars; kernel_rfl) (toNat_lt g9) hu2G) (by kernel_rfl) (by subst_vars; kernel_rfl),trivial⟩⟩⟩⟩⟩⟩⟩⟩⟩) ?_
   refine thenQ_n ?_
   exact ⟨b12,keep_sub (ts:=[4]) (hs:=[]) (vs:=[]) (by subst_vars;kernel_rfl),h⟩
  | false =>
   replace h := sp_f h
   refine T_draw' (id:=1) [] [0,0,0,0,0,0,0,0,0,0,0,0,0,0,0,0,0,0,0,0] (by kernel_rfl) (by kernel_rfl) (by kernel_rfl) (by kernel_rfl) [(5,lO 3),(6,vi x3),(7,vi u1G),(8,vb false),(9,vb false),(10,.tup []),(11,.tup []),(12,.tup []),(13,.tup []),(14,.tup []),(15,.tup []),(16,.tup []),(17,.tup []),(18,.tup []),(19,.tup []),(20,.tup []),(21,.tup []),(22,.tup []),(23,vb false),(4,vb false)] (by kernel_rfl) ⟨trivial,⟨trivial,⟨trivial,⟨trivial,⟨trivial,⟨(by intro y hy;cases hy),⟨(by intro y hy;cases hy),⟨(by intro y hy;cases hy),⟨(by intro y hy;cases hy),⟨(by intro y hy;cases hy),⟨(by intro y hy;cases hy),⟨(by intro y hy;cases hy),⟨(by intro y hy;cases hy),⟨(by intro y hy;cases hy),⟨(by intro y hy;cases hy),⟨(by intro y hy;cases hy),⟨(by intro y hy;cases hy),⟨(by intro y hy;cases hy),⟨trivial,⟨trivial,trivial⟩⟩⟩⟩⟩⟩⟩⟩⟩⟩⟩⟩⟩⟩⟩⟩⟩⟩⟩⟩ ?_
   refine Stage_nil (stage_all' [0,1,4,5,6,7,8,9,10,11,12,13,14,15,16,17,18,19] [2,3] (by kernel_rfl) (by subst e_x3;kernel_rfl) (by kernel_rfl) ⟨QF_at (i:=2) (d:=7) (x:=vi u1G) (show OpAt _ _ _ 2 7 _ from by exact At_ldP (d:=7) (b:=bu1) (off:=0) (m:=1) (v:=(.int .i64 u1G)) (by subst e_x3;kernel_rfl) (cell_blk hbu1 ⟨rfl,trivial⟩ (by kernel_rfl))) (by kernel_rfl) (by subst e_x3;kernel_rfl),⟨QF_at (i:=3) (d:=8) (x:=vb false) (show OpAt _ _ _ 3 8 _ from by exact At_bin (d:=8) (b:=.eql) (u:=.int .i64 x3) (v:=.int .i64 u1G) (w':=.bool false) (by subst e_x3;kernel_rfl) (by rw [show exBin .eql (.int .i64 x3) (.int .i64 u1G) = some (.bool (x3 == u1G)) from by kernel_rfl,← e_b4])) (by kernel_rfl) (by subst e_x3;kernel_rfl),trivial⟩⟩) ?_
   refine thenQ_n ?_
   exact ⟨false,keep_sub (ts:=[4]) (hs:=[]) (vs:=[]) (by subst e_x3;kernel_rfl),h⟩
 ·rintro s' ⟨b1,hsub,h⟩
  subst e_j2
  refine T_sub hsub ?_
  refine RT ?_
  obtain rfl := sj h
  exact FT (vb b1) rfl
def p80a_l1 (k : Nat) (u0 : List (List Int)) (u1Y : Int) (u1Z : List Int) (j1 : Option Int) : Nat → Int → Option Int
 | 0,_ => none
 | n3 + 1,x2 => lt' (decide (x2 < (u0.length : Int))) fun b4 => sp b4 (gd ((0 : Int) ≤ x2 ∧ x2 < (u0.length : Int)) <| lt' (List.getD u0 ((x2).toNat) []) fun L6 => cl (p81 k L6 u1Y u1Z) fun v7 => sp v7 (some x2) (lt' (wr .i64 (x2 + (1 : Int))) fun x8 => p80a_l1 k u0 u1Y u1Z j1 n3 x8)) (j1)
def p80a (k : Nat) (u0 : List (List Int)) (u1Y : Int) (u1Z : List Int) : Option Int :=
 jn (some (-1 : Int)) fun j1 => p80a_l1 k u0 u1Y u1Z j1 k (0 : Int)
theorem hf80a : Try.prog.funcs[80]? = some Try.f80 := by kernel_rfl
theorem w80a (k : Nat) {M : Mem} {Au0 Au1Z : Option Addr} {cu0 bu1C cu1Z bu1D : Nat} {u0 : List (List Int)} {u1Y : Int} {u1Z : List Int} (hu0 : SlR M Au0 cu0 .i64 12 u0) (hbu1C : MB M bu1C [oI u1Y]) (hu1Z : SlI M Au1Z cu1Z .i64 u1Z) (hbu1D : MB M bu1D [oS Au1Z u1Z cu1Z]) {r} (h : p80a k u0 u1Y u1Z = some r) :
  Fn Try.prog 80 [rval (lS Au0 u0 cu0),rval (.lf (.v (.func (.func 81) #[] #[(.pointer (some ⟨bu1C,0,none⟩)),(.pointer (some ⟨bu1D,0,none⟩))])))] M (fun x _ => x = vi r) := by
 unfold p80a at h
 refine FO [lS Au0 u0 cu0,.lf (.v (.func (.func 81) #[] #[(.pointer (some ⟨bu1C,0,none⟩)),(.pointer (some ⟨bu1D,0,none⟩))]))] hf80a ⟨trivial,⟨trivial,trivial⟩⟩ fun w => ?_
 refine SQ0 (RG ?_)
 refine SG 1 (S4 [(0,lS Au0 u0 cu0),(1,.lf (.v (.func (.func 81) #[] #[(.pointer (some ⟨bu1C,0,none⟩)),(.pointer (some ⟨bu1D,0,none⟩))])))] [] [] M) ?_
 refine EN (SQ (SQ (RG ?_)))
 refine SS 3 [(0,lS Au0 u0 cu0),(1,.lf (.v (.func (.func 81) #[] #[(.pointer (some ⟨bu1C,0,none⟩)),(.pointer (some ⟨bu1D,0,none⟩))]))),(7,vi (u0.length : Int)),(8,vi (0 : Int))] ?_
 refine EN ?_
 obtain ⟨j1,e_j1,h⟩ := jn_some h
 refine T_bcut (id:=0) (c1:=(sub [1,0,1,0] Bd80)) (fun s' => Sub { σ := [],H := [],V := [],M := M,ds := [] } s' ∧ j1 = some r) (by kernel_rfl) ?_ ?_
 ·refine T_loop (c1:=(sub [1,0,1,0,0] Bd80)) (by kernel_rfl) (fun n3 s' => ∃ (x2 : Int),Sub { σ := [(0,lS Au0 u0 cu0),(1,.lf (.v (.func (.func 81) #[] #[(.pointer (some ⟨bu1C,0,none⟩)),(.pointer (some ⟨bu1D,0,none⟩))]))),(7,vi (u0.length : Int)),(8,vi x2)],H := [],V := [],M := M,ds := [] } s' ∧ p80a_l1 k u0 u1Y u1Z j1 n3 x2 = some r) (k:=k) ⟨(0 : Int),keep_sub (ts:=[0,1,7,8]) (hs:=[]) (vs:=[]) (by kernel_rfl),h⟩ ?_
  rintro n3 s' ⟨x2,hsub,h⟩
  cases n3 with
  | zero => rw [p80a_l1] at h;cases h
  | succ n3 =>
   rw [p80a_l1] at h
   refine T_sub hsub ?_
   refine SQ (RG ?_)
   obtain ⟨b4,e_b4,h⟩ := lt_some h
   refine SG 1 (S4 [(0,lS Au0 u0 cu0),(1,.lf (.v (.func (.func 81) #[] #[(.pointer (some ⟨bu1C,0,none⟩)),(.pointer (some ⟨bu1D,0,none⟩))]))),(7,vi (u0.length : Int)),(8,vi x2),(9,vb b4)] [] [] M) ?_ (by subst e_b4;kernel_rfl)
   refine EN (SQ ?_)
   cases b4 with
   | true =>
    replace h := sp_t h
    refine CT ?_
    refine KS [(0,lS Au0 u0 cu0),(1,.lf (.v (.func (.func 81) #[] #[(.pointer (some ⟨bu1C,0,none⟩)),(.pointer (some ⟨bu1D,0,none⟩))]))),(7,vi (u0.length : Int)),(8,vi x2)] ?_
    refine SN (SQ (BK 1 (SQ (RG ?_))))
    refine SS 2 [(0,lS Au0 u0 cu0),(1,.lf (.v (.func (.func 81) #[] #[(.pointer (some ⟨bu1C,0,none⟩)),(.pointer (some ⟨bu1D,0,none⟩))]))),(5,vi x2),(7,vi (u0.length : Int)),(8,vi x2)] ?_
    refine EN (SQ (RG ?_))
    refine SS 3 [(0,lS Au0 u0 cu0),(1,.lf (.v (.func (.func 81) #[] #[(.pointer (some ⟨bu1C,0,none⟩)),(.pointer (some ⟨bu1D,0,none⟩))]))),(5,vi x2),(7,vi (u0.length : Int)),(8,vi x2),(11,.lf (.v (.func (.func 81) #[] #[(.pointer (some ⟨bu1C,0,none⟩)),(.pointer (some ⟨bu1D,0,none⟩))]))),(12,lS Au0 u0 cu0),(13,vi x2)] ?_
    obtain ⟨g5,h⟩ := gd_some h
    refine AT 14 (.lf (.ep (.slice Au0 (u0.length) cu0) 12 ((x2).toNat) 0)) (At_idxR (z:=x2) (by kernel_rfl) g5 hu0) ?_
    obtain ⟨L6,e_L6,h⟩ := lt_some h
    have l_L6 : (L6).length = 12 := by rw [e_L6]; exact SlR_row hu0 (toNat_lt g5)
    refine AT 15 (.agg [.arr .i64 12 L6]) (by rw [e_L6]; exact At_ldRow (q:=(x2).toNat) (by subst e_L6; kernel_rfl) (toNat_lt g5) hu0) ?_ (hx:=⟨l_L6,trivial⟩)
    obtain ⟨v7,c_v7,h⟩ := cl_some h
    refine AC 16 (vb v7) (w81 k l_L6 hbu1C hu1Z hbu1D c_v7) ?_
    refine SH 6 [(0,lS Au0 u0 cu0),(1,.lf (.v (.func (.func 81) #[] #[(.pointer (some ⟨bu1C,0,none⟩)),(.pointer (some ⟨bu1D,0,none⟩))]))),(5,vi x2),(7,vi (u0.length : Int)),(8,vi x2),(16,vb v7)] [] ?_
    refine EN ?_
    cases v7 with
    | true =>
     replace h := sp_t h
     refine CT ?_
     refine KS [(5,vi x2)] ?_
     refine SQ (RG ?_)
     refine SS 2 [(4,vi x2)] ?_
     refine EN (RT (blockQ_r (thenQ_r (thenQ_r (blockQ_r (thenQ_r (thenQ_r ?_)))))))
     obtain rfl := sj h
     exact FT (vi x2) rfl
    | false =>
     replace h := sp_f h
     refine CF ?_
     refine KS [(0,lS Au0 u0 cu0),(1,.lf (.v (.func (.func 81) #[] #[(.pointer (some ⟨bu1C,0,none⟩)),(.pointer (some ⟨bu1D,0,none⟩))]))),(7,vi (u0.length : Int)),(8,vi x2)] ?_
     refine S0 (blockQ_n (thenQ_n (RG ?_)))
     obtain ⟨x8,e_x8,h⟩ := lt_some h
     refine SS 2 [(0,lS Au0 u0 cu0),(1,.lf (.v (.func (.func 81) #[] #[(.pointer (some ⟨bu1C,0,none⟩)),(.pointer (some ⟨bu1D,0,none⟩))]))),(7,vi (u0.length : Int)),(8,vi x8)] ?_ (by subst e_x8;kernel_rfl)
     refine EN ?_
     exact ⟨n3,Nat.lt_succ_self _,x8,keep_sub (ts:=[0,1,7,8]) (hs:=[]) (vs:=[]) (by kernel_rfl),h⟩
   | false =>
    replace h := sp_f h
    refine CF ?_
    refine KS [] ?_
    refine XI 0 (thenQ_x (thenQ_x (blockQ_x (thenQ_n ?_))))
    exact ⟨keep_sub (ts:=[]) (hs:=[]) (vs:=[]) (by kernel_rfl),h⟩
 ·rintro s' ⟨hsub,h⟩
  subst e_j1
  refine thenQ_n ?_
  refine T_sub hsub ?_
  refine SQ (RG ?_)
  refine SG 1 (S4 [(4,vi (-1 : Int))] [] [] M) ?_
  refine EN (RT ?_)
  obtain rfl := sj h
  exact FT (vi (-1 : Int)) rfl
def p80b_l1 (k : Nat) (u0 : List (List Int)) (u1Y : Int) (u1Z : List Int) (j1 : Option Int) : Nat → Int → Option Int
 | 0,_ => none
 | n3 + 1,x2 => lt' (decide (x2 < (u0.length : Int))) fun b4 => sp b4 (gd ((0 : Int) ≤ x2 ∧ x2 < (u0.length : Int)) <| lt' (List.getD u0 ((x2).toNat) []) fun L6 => cl (p82 k L6 u1Y u1Z) fun v7 => sp v7 (some x2) (lt' (wr .i64 (x2 + (1 : Int))) fun x8 => p80b_l1 k u0 u1Y u1Z j1 n3 x8)) (j1)
def p80b (k : Nat) (u0 : List (List Int)) (u1Y : Int) (u1Z : List Int) : Option Int :=
 jn (some (-1 : Int)) fun j1 => p80b_l1 k u0 u1Y u1Z j1 k (0 : Int)
theorem hf80b : Try.prog.funcs[80]? = some Try.f80 := by kernel_rfl
theorem w80b (k : Nat) {M : Mem} {Au0 Au1Z : Option Addr} {cu0 bu1C cu1Z bu1D : Nat} {u0 : List (List Int)} {u1Y : Int} {u1Z : List Int} (hu0 : SlR M Au0 cu0 .i64 12 u0) (hbu1C : MB M bu1C [oI u1Y]) (hu1Z : SlI M Au1Z cu1Z .i64 u1Z) (hbu1D : MB M bu1D [oS Au1Z u1Z cu1Z]) {r} (h : p80b k u0 u1Y u1Z = some r) :
  Fn Try.prog 80 [rval (lS Au0 u0 cu0),rval (.lf (.v (.func (.func 82) #[] #[(.pointer (some ⟨bu1C,0,none⟩)),(.pointer (some ⟨bu1D,0,none⟩))])))] M (fun x _ => x = vi r) := by
 unfold p80b at h
 refine FO [lS Au0 u0 cu0,.lf (.v (.func (.func 82) #[] #[(.pointer (some ⟨bu1C,0,none⟩)),(.pointer (some ⟨bu1D,0,none⟩))]))] hf80b ⟨trivial,⟨trivial,trivial⟩⟩ fun w => ?_
 refine SQ0 (RG ?_)
 refine SG 1 (S4 [(0,lS Au0 u0 cu0),(1,.lf (.v (.func (.func 82) #[] #[(.pointer (some ⟨bu1C,0,none⟩)),(.pointer (some ⟨bu1D,0,none⟩))])))] [] [] M) ?_
 refine EN (SQ (SQ (RG ?_)))
 refine SS 3 [(0,lS Au0 u0 cu0),(1,.lf (.v (.func (.func 82) #[] #[(.pointer (some ⟨bu1C,0,none⟩)),(.pointer (some ⟨bu1D,0,none⟩))]))),(7,vi (u0.length : Int)),(8,vi (0 : Int))] ?_
 refine EN ?_
 obtain ⟨j1,e_j1,h⟩ := jn_some h
 refine T_bcut (id:=0) (c1:=(sub [1,0,1,0] Bd80)) (fun s' => Sub { σ := [],H := [],V := [],M := M,ds := [] } s' ∧ j1 = some r) (by kernel_rfl) ?_ ?_
 ·refine T_loop (c1:=(sub [1,0,1,0,0] Bd80)) (by kernel_rfl) (fun n3 s' => ∃ (x2 : Int),Sub { σ := [(0,lS Au0 u0 cu0),(1,.lf (.v (.func (.func 82) #[] #[(.pointer (some ⟨bu1C,0,none⟩)),(.pointer (some ⟨bu1D,0,none⟩))]))),(7,vi (u0.length : Int)),(8,vi x2)],H := [],V := [],M := M,ds := [] } s' ∧ p80b_l1 k u0 u1Y u1Z j1 n3 x2 = some r) (k:=k) ⟨(0 : Int),keep_sub (ts:=[0,1,7,8]) (hs:=[]) (vs:=[]) (by kernel_rfl),h⟩ ?_
  rintro n3 s' ⟨x2,hsub,h⟩
  cases n3 with
  | zero => rw [p80b_l1] at h;cases h
  | succ n3 =>
   rw [p80b_l1] at h
   refine T_sub hsub ?_
   refine SQ (RG ?_)
   obtain ⟨b4,e_b4,h⟩ := lt_some h
   refine SG 1 (S4 [(0,lS Au0 u0 cu0),(1,.lf (.v (.func (.func 82) #[] #[(.pointer (some ⟨bu1C,0,none⟩)),(.pointer (some ⟨bu1D,0,none⟩))]))),(7,vi (u0.length : Int)),(8,vi x2),(9,vb b4)] [] [] M) ?_ (by subst e_b4;kernel_rfl)
   refine EN (SQ ?_)
   cases b4 with
   | true =>
    replace h := sp_t h
    refine CT ?_
    refine KS [(0,lS Au0 u0 cu0),(1,.lf (.v (.func (.func 82) #[] #[(.pointer (some ⟨bu1C,0,none⟩)),(.pointer (some ⟨bu1D,0,none⟩))]))),(7,vi (u0.length : Int)),(8,vi x2)] ?_
    refine SN (SQ (BK 1 (SQ (RG ?_))))
    refine SS 2 [(0,lS Au0 u0 cu0),(1,.lf (.v (.func (.func 82) #[] #[(.pointer (some ⟨bu1C,0,none⟩)),(.pointer (some ⟨bu1D,0,none⟩))]))),(5,vi x2),(7,vi (u0.length : Int)),(8,vi x2)] ?_
    refine EN (SQ (RG ?_))
    refine SS 3 [(0,lS Au0 u0 cu0),(1,.lf (.v (.func (.func 82) #[] #[(.pointer (some ⟨bu1C,0,none⟩)),(.pointer (some ⟨bu1D,0,none⟩))]))),(5,vi x2),(7,vi (u0.length : Int)),(8,vi x2),(11,.lf (.v (.func (.func 82) #[] #[(.pointer (some ⟨bu1C,0,none⟩)),(.pointer (some ⟨bu1D,0,none⟩))]))),(12,lS Au0 u0 cu0),(13,vi x2)] ?_
    obtain ⟨g5,h⟩ := gd_some h
    refine AT 14 (.lf (.ep (.slice Au0 (u0.length) cu0) 12 ((x2).toNat) 0)) (At_idxR (z:=x2) (by kernel_rfl) g5 hu0) ?_
    obtain ⟨L6,e_L6,h⟩ := lt_some h
    have l_L6 : (L6).length = 12 := by rw [e_L6]; exact SlR_row hu0 (toNat_lt g5)
    refine AT 15 (.agg [.arr .i64 12 L6]) (by rw [e_L6]; exact At_ldRow (q:=(x2).toNat) (by subst e_L6; kernel_rfl) (toNat_lt g5) hu0) ?_ (hx:=⟨l_L6,trivial⟩)
    obtain ⟨v7,c_v7,h⟩ := cl_some h
    refine AC 16 (vb v7) (w82 k l_L6 hbu1C hu1Z hbu1D c_v7) ?_
    refine SH 6 [(0,lS Au0 u0 cu0),(1,.lf (.v (.func (.func 82) #[] #[(.pointer (some ⟨bu1C,0,none⟩)),(.pointer (some ⟨bu1D,0,none⟩))]))),(5,vi x2),(7,vi (u0.length : Int)),(8,vi x2),(16,vb v7)] [] ?_
    refine EN ?_
    cases v7 with
    | true =>
     replace h := sp_t h
     refine CT ?_
     refine KS [(5,vi x2)] ?_
     refine SQ (RG ?_)
     refine SS 2 [(4,vi x2)] ?_
     refine EN (RT (blockQ_r (thenQ_r (thenQ_r (blockQ_r (thenQ_r (thenQ_r ?_)))))))
     obtain rfl := sj h
     exact FT (vi x2) rfl
    | false =>
     replace h := sp_f h
     refine CF ?_
     refine KS [(0,lS Au0 u0 cu0),(1,.lf (.v (.func (.func 82) #[] #[(.pointer (some ⟨bu1C,0,none⟩)),(.pointer (some ⟨bu1D,0,none⟩))]))),(7,vi (u0.length : Int)),(8,vi x2)] ?_
     refine S0 (blockQ_n (thenQ_n (RG ?_)))
     obtain ⟨x8,e_x8,h⟩ := lt_some h
     refine SS 2 [(0,lS Au0 u0 cu0),(1,.lf (.v (.func (.func 82) #[] #[(.pointer (some ⟨bu1C,0,none⟩)),(.pointer (some ⟨bu1D,0,none⟩))]))),(7,vi (u0.length : Int)),(8,vi x8)] ?_ (by subst e_x8;kernel_rfl)
     refine EN ?_
     exact ⟨n3,Nat.lt_succ_self _,x8,keep_sub (ts:=[0,1,7,8]) (hs:=[]) (vs:=[]) (by kernel_rfl),h⟩
   | false =>
    replace h := sp_f h
    refine CF ?_
    refine KS [] ?_
    refine XI 0 (thenQ_x (thenQ_x (blockQ_x (thenQ_n ?_))))
    exact ⟨keep_sub (ts:=[]) (hs:=[]) (vs:=[]) (by kernel_rfl),h⟩
 ·rintro s' ⟨hsub,h⟩
  subst e_j1
  refine thenQ_n ?_
  refine T_sub hsub ?_
  refine SQ (RG ?_)
  refine SG 1 (S4 [(4,vi (-1 : Int))] [] [] M) ?_
  refine EN (RT ?_)
  obtain rfl := sj h
  exact FT (vi (-1 : Int)) rfl
end Go.Proofs.Ythniebmammmacaa
namespace Go.Proofs.Ythniebmammmacaa
open Go.RowKit
def p121L (rec : Int → Int → Option (List Int)) (n s : Int) : Nat → Int → Option (List Int)
  | 0, _ => none
  | f + 1, i => lt' (decide (i < n)) fun b => sp b (gd (0 ≤ i) <| lt' (wr .u64 ((1 : Int) * 2 ^ (min (i).toNat (IntKind.bits .u64)))) fun x22 => lt' (wr .u64 (bor .u64 s x22)) fun x23 => lt' (wr .i64 (i + (1 : Int))) fun x25 => cl (rec x23 x25) fun L1 => lt' (wr .i64 (i + (1 : Int))) fun x18 => cl (p121L rec n s f x18) fun L2 => some (L1 ++ L2)) (some [])
def p121 (k : Nat) (n : Int) : Nat → Int → Int → Option (List Int)
  | 0, _, _ => none
  | f + 1, s, fr => cl (p121L (p121 k n f) n s k fr) fun L => some (s :: L)
def p120 (k : Nat) (n : Int) : Option (List Int) := p121 k n k 0 0
theorem hf121 : Try.prog.funcs[121]? = some Try.f121 := by kernel_rfl
theorem hf120 : Try.prog.funcs[120]? = some Try.f120 := by kernel_rfl
def w121P (M : Mem) (J : Mem → List Int → World → Prop) (Jx : World → Prop) (pr : List Int) (b : Bool) (w : World) : Prop := match b with | true => J M pr w | false => Stp Jx M w
theorem w121 (k : Nat) {n : Int} {ks : List Int} {l : Nat} {J : Mem → List Int → World → Prop} {Jx : World → Prop} (hyd : Yd enU Try.prog ks l J Jx) {M : Mem} {by' bn bw : Nat}
    (hby : memCell M by' 0 = some (.func (.yield l) #[] #[])) (hbn : memCell M bn 0 = some (.int .i64 n)) (hbw : memCell M bw 0 = some (.func (.func 121) #[] #[.pointer (some ⟨by', 0, none⟩), .pointer (some ⟨bn, 0, none⟩), .pointer (some ⟨bw, 0, none⟩)])) :
    ∀ (f : Nat) (s fr : Int) (L pr rest : List Int) (W : World), p121 k n f s fr = some L → pr ++ (L ++ rest) = ks → J M pr W → CallsIn Fence.wide 0 Try.prog 121 ([.int .u64 s, .int .i64 fr, .pointer (some ⟨by', 0, none⟩), .pointer (some ⟨bn, 0, none⟩), .pointer (some ⟨bw, 0, none⟩)] : List Value).toArray W fun e w' => ∃ b, e = .returned (.bool b) ∧ w121P M J Jx (pr ++ L) b w'
  | 0, s, fr, L, pr, rest, W, h, _, _ => by rw [p121] at h; cases h
  | f + 1, s, fr, L, pr, rest, W, h, hks, hJ => by
    rw [p121] at h
    obtain ⟨L0, h0, hL⟩ := cl_some h
    have hL := Option.some.inj hL
    refine calls_TWb (c := bodyOf Try.f121) (t := 7) [.lf (.v (.int .u64 s)), .lf (.v (.int .i64 fr)), (.lf (.v (.pointer (some ⟨by', 0, none⟩)))), (.lf (.v (.pointer (some ⟨bn, 0, none⟩)))), (.lf (.v (.pointer (some ⟨bw, 0, none⟩))))] hf121 (by kernel_rfl) (Nat.le_of_ble_eq_true (by kernel_rfl)) (by kernel_rfl) (by intro x hx; simp only [List.mem_cons, List.mem_nil_iff, or_false] at hx; rcases hx with rfl | rfl | rfl | rfl | rfl <;> trivial) (hyd.mem _ _ _ hJ) ?_
    refine TW_pre (pre' := J M pr) (by rintro w rfl; exact hJ) ?_
    have stop : ∀ {σ : List (Nat × SV)}, look σ 7 = some (.lf (.v (.bool false))) → NQ (fun e σ w => e = .ret ∧ ∃ b, look σ 7 = some (.lf (.v (.bool b))) ∧ w121P M J Jx (pr ++ L) b w) .ret σ (Stp Jx M) := fun hl w hw => ⟨rfl, false, hl, hw⟩
    refine W_seq (c1 := (sub [0] (bodyOf Try.f121))) (c2 := (sub [1] (bodyOf Try.f121))) (by kernel_rfl) ?_
    refine TW_region (id := 0) (by kernel_rfl) ?_
    refine TWI_pure (y := (7, (.lf (.v (.bool false))))) (by kernel_rfl) ?_
    refine TWI_keep (σ' := [(0, .lf (.v (.int .u64 s))), (1, .lf (.v (.int .i64 fr))), (2, (.lf (.v (.pointer (some ⟨by', 0, none⟩))))), (3, (.lf (.v (.pointer (some ⟨bn, 0, none⟩))))), (4, (.lf (.v (.pointer (some ⟨bw, 0, none⟩))))), (7, (.lf (.v (.bool false))))]) [0, 1, 2, 3, 4, 7] (by kernel_rfl) ?_
    refine WI_end (by kernel_rfl) ?_
    refine NQ_then ?_
    refine W_seq (c1 := (sub [1, 0] (bodyOf Try.f121))) (c2 := (sub [1, 1] (bodyOf Try.f121))) (by kernel_rfl) ?_
    refine W_seq (c1 := (sub [1, 0, 0] (bodyOf Try.f121))) (c2 := (sub [1, 0, 1] (bodyOf Try.f121))) (by kernel_rfl) ?_
    refine TW_region (id := 1) (by kernel_rfl) ?_
    refine TWI_at (d := 9) (x := (.lf (.v (.func (.yield l) #[] #[])))) (fun w => At_ldP (d := 9) (b := by') (off := 0) (m := 1) (v := (.func (.yield l) #[] #[])) (by kernel_rfl) hby) (hyd.gr _ _) (by kernel_rfl) trivial ?_
    refine TWI_pure (y := (10, .lf (.v (.int .u64 s)))) (by kernel_rfl) ?_
    refine WI_yield hyd (d := 11) (l := l) (pr := pr) (x := s) (by kernel_rfl) rfl ⟨L0 ++ rest, by rw [← hks, ← hL, List.append_assoc]; rfl⟩ (by kernel_rfl) ?_ ?_
    · refine TWI_pure (y := (12, (.lf (.v (.bool false))))) (by kernel_rfl) ?_
      refine TWI_keep (σ' := [(0, .lf (.v (.int .u64 s))), (1, .lf (.v (.int .i64 fr))), (2, (.lf (.v (.pointer (some ⟨by', 0, none⟩))))), (3, (.lf (.v (.pointer (some ⟨bn, 0, none⟩))))), (4, (.lf (.v (.pointer (some ⟨bw, 0, none⟩))))), (12, (.lf (.v (.bool false))))]) [0, 1, 2, 3, 4, 12] (by kernel_rfl) ?_
      refine WI_end (by kernel_rfl) ?_
      refine NQ_then ?_
      refine W_condF (x := .tmp 12) (c1 := (sub [1, 0, 1, 0] (bodyOf Try.f121))) (c2 := (sub [1, 0, 1, 1] (bodyOf Try.f121))) (by kernel_rfl) (by kernel_rfl) ?_
      refine W_skip (by kernel_rfl) ?_
      refine NQ_then ?_
      refine W_seq (c1 := (sub [1, 1, 0] (bodyOf Try.f121))) (c2 := (sub [1, 1, 1] (bodyOf Try.f121))) (by kernel_rfl) ?_
      refine W_seq (c1 := (sub [1, 1, 0, 0] (bodyOf Try.f121))) (c2 := (sub [1, 1, 0, 1] (bodyOf Try.f121))) (by kernel_rfl) ?_
      refine TW_region (id := 3) (by kernel_rfl) ?_
      refine TWI_pure (y := (13, .lf (.v (.int .i64 fr)))) (by kernel_rfl) ?_
      refine TWI_pure (y := (8, .lf (.v (.int .i64 fr)))) (by kernel_rfl) ?_
      refine TWI_keep (σ' := [(0, .lf (.v (.int .u64 s))), (1, .lf (.v (.int .i64 fr))), (2, (.lf (.v (.pointer (some ⟨by', 0, none⟩))))), (3, (.lf (.v (.pointer (some ⟨bn, 0, none⟩))))), (4, (.lf (.v (.pointer (some ⟨bw, 0, none⟩))))), (8, .lf (.v (.int .i64 fr)))]) [0, 1, 2, 3, 4, 8] (by kernel_rfl) ?_
      refine WI_end (by kernel_rfl) ?_
      refine NQ_then ?_
      refine TW_block (id := 0) (c1 := (sub [1, 1, 0, 1, 0] (bodyOf Try.f121))) (by kernel_rfl) ?_
      refine W_loop (γ := Int × List Int × List Int) (fun g => [(0, .lf (.v (.int .u64 s))), (1, .lf (.v (.int .i64 fr))), (2, (.lf (.v (.pointer (some ⟨by', 0, none⟩))))), (3, (.lf (.v (.pointer (some ⟨bn, 0, none⟩))))), (4, (.lf (.v (.pointer (some ⟨bw, 0, none⟩))))), (8, .lf (.v (.int .i64 g.1)))]) (fun g => J M g.2.1) (fun nf g => (g.2.1 ++ g.2.2 = pr ++ L) ∧ p121L (p121 k n f) n s nf g.1 = some g.2.2) (c1 := (sub [1, 1, 0, 1, 0, 0] (bodyOf Try.f121))) (g0 := (fr, pr ++ [s], L0)) (k := k) (by kernel_rfl) rfl ⟨by rw [← hL, List.append_assoc]; rfl, h0⟩ (fun w hw => hw) ?_
      rintro nf ⟨i, pq, rq⟩ ⟨hpq, h⟩
      replace hpq : pq ++ rq = pr ++ L := hpq
      replace h : p121L (p121 k n f) n s nf i = some rq := h
      change TW _ _ _ _ [(0, .lf (.v (.int .u64 s))), (1, .lf (.v (.int .i64 fr))), (2, (.lf (.v (.pointer (some ⟨by', 0, none⟩))))), (3, (.lf (.v (.pointer (some ⟨bn, 0, none⟩))))), (4, (.lf (.v (.pointer (some ⟨bw, 0, none⟩))))), (8, .lf (.v (.int .i64 i)))] (J M pq) _
      cases nf with
      | zero => rw [p121L] at h; cases h
      | succ nf =>
        rw [p121L] at h
        obtain ⟨b16, e16, h⟩ := lt_some h
        refine W_seq (c1 := (sub [1, 1, 0, 1, 0, 0, 0] (bodyOf Try.f121))) (c2 := (sub [1, 1, 0, 1, 0, 0, 1] (bodyOf Try.f121))) (by kernel_rfl) ?_
        refine W_seq (c1 := (sub [1, 1, 0, 1, 0, 0, 0, 0] (bodyOf Try.f121))) (c2 := (sub [1, 1, 0, 1, 0, 0, 0, 1] (bodyOf Try.f121))) (by kernel_rfl) ?_
        refine TW_region (id := 4) (by kernel_rfl) ?_
        refine TWI_pure (y := (14, .lf (.v (.int .i64 i)))) (by kernel_rfl) ?_
        refine TWI_at (d := 15) (x := .lf (.v (.int .i64 n))) (fun w => At_ldP (d := 15) (b := bn) (off := 0) (m := 1) (v := (.int .i64 n)) (by kernel_rfl) hbn) (hyd.gr _ _) (by kernel_rfl) trivial ?_
        refine TWI_pure (y := (16, .lf (.v (.bool b16)))) (by subst e16; kernel_rfl) ?_
        refine TWI_keep (σ' := [(0, .lf (.v (.int .u64 s))), (1, .lf (.v (.int .i64 fr))), (2, (.lf (.v (.pointer (some ⟨by', 0, none⟩))))), (3, (.lf (.v (.pointer (some ⟨bn, 0, none⟩))))), (4, (.lf (.v (.pointer (some ⟨bw, 0, none⟩))))), (8, .lf (.v (.int .i64 i))), (16, .lf (.v (.bool b16)))]) [0, 1, 2, 3, 4, 8, 16] (by kernel_rfl) ?_
        refine WI_end (by kernel_rfl) ?_
        refine NQ_then ?_
        cases b16 with
        | false =>
          replace h := sp_f h
          have h := Option.some.inj h
          refine W_condF (x := .tmp 16) (c1 := (sub [1, 1, 0, 1, 0, 0, 0, 1, 0] (bodyOf Try.f121))) (c2 := (sub [1, 1, 0, 1, 0, 0, 0, 1, 1] (bodyOf Try.f121))) (by kernel_rfl) (by kernel_rfl) ?_
          refine TW_keep (σ' := [(0, .lf (.v (.int .u64 s))), (1, .lf (.v (.int .i64 fr))), (2, (.lf (.v (.pointer (some ⟨by', 0, none⟩))))), (3, (.lf (.v (.pointer (some ⟨bn, 0, none⟩))))), (4, (.lf (.v (.pointer (some ⟨bw, 0, none⟩)))))]) [0, 1, 2, 3, 4] (by kernel_rfl) ?_
          refine W_exit (id := 0) (by kernel_rfl) ?_
          refine NQ_thenx ?_
          refine NQ_thenx ?_
          refine NQ_bx ?_
          refine NQ_then ?_
          refine W_seq (c1 := (sub [1, 1, 1, 0] (bodyOf Try.f121))) (c2 := (sub [1, 1, 1, 1] (bodyOf Try.f121))) (by kernel_rfl) ?_
          refine TW_region (id := 8) (by kernel_rfl) ?_
          refine TWI_pure (y := (7, (.lf (.v (.bool true))))) (by kernel_rfl) ?_
          refine WI_end (by kernel_rfl) ?_
          refine NQ_then ?_
          refine W_ret (by kernel_rfl) ?_
          intro w hw
          refine ⟨rfl, true, rfl, ?_⟩
          show J M (pr ++ L) w
          rw [← hpq, ← h, List.append_nil]
          exact hw
        | true =>
          replace h := sp_t h
          obtain ⟨g22, h⟩ := gd_some h
          obtain ⟨x22, e22, h⟩ := lt_some h
          obtain ⟨x23, e23, h⟩ := lt_some h
          obtain ⟨x25, e25, h⟩ := lt_some h
          obtain ⟨L1, c1, h⟩ := cl_some h
          obtain ⟨x18, e18, h⟩ := lt_some h
          obtain ⟨L2, c2, h⟩ := cl_some h
          have h := Option.some.inj h
          refine W_condT (x := .tmp 16) (c1 := (sub [1, 1, 0, 1, 0, 0, 0, 1, 0] (bodyOf Try.f121))) (c2 := (sub [1, 1, 0, 1, 0, 0, 0, 1, 1] (bodyOf Try.f121))) (by kernel_rfl) (by kernel_rfl) ?_
          refine TW_keep (σ' := [(0, .lf (.v (.int .u64 s))), (1, .lf (.v (.int .i64 fr))), (2, (.lf (.v (.pointer (some ⟨by', 0, none⟩))))), (3, (.lf (.v (.pointer (some ⟨bn, 0, none⟩))))), (4, (.lf (.v (.pointer (some ⟨bw, 0, none⟩))))), (8, .lf (.v (.int .i64 i)))]) [0, 1, 2, 3, 4, 8] (by kernel_rfl) ?_
          refine W_skip (by kernel_rfl) ?_
          refine NQ_then ?_
          refine W_seq (c1 := (sub [1, 1, 0, 1, 0, 0, 1, 0] (bodyOf Try.f121))) (c2 := (sub [1, 1, 0, 1, 0, 0, 1, 1] (bodyOf Try.f121))) (by kernel_rfl) ?_
          refine TW_block (id := 1) (c1 := (sub [1, 1, 0, 1, 0, 0, 1, 0, 0] (bodyOf Try.f121))) (by kernel_rfl) ?_
          refine W_seq (c1 := (sub [1, 1, 0, 1, 0, 0, 1, 0, 0, 0] (bodyOf Try.f121))) (c2 := (sub [1, 1, 0, 1, 0, 0, 1, 0, 0, 1] (bodyOf Try.f121))) (by kernel_rfl) ?_
          have hrec := fun (w : World) (hw : J M pq w) => w121 k hyd hby hbn hbw f x23 x25 L1 pq (L2 ++ rest) w c1 (by rw [← hks, ← List.append_assoc pr, ← hpq, ← h]; simp only [List.append_assoc]) hw
          refine W_draw (id := 6) [7] [0, 0, 0, 0, 0, 0, 0, 0, 1] (by kernel_rfl) (by kernel_rfl) (by kernel_rfl) (by kernel_rfl) [(19, .lf (.v (.func (.func 121) #[] #[.pointer (some ⟨by', 0, none⟩), .pointer (some ⟨bn, 0, none⟩), .pointer (some ⟨bw, 0, none⟩)]))), (20, .lf (.v (.int .u64 s))), (21, .lf (.v (.int .i64 i))), (22, .lf (.v (.int .u64 x22))), (23, .lf (.v (.int .u64 x23))), (24, .lf (.v (.int .i64 i))), (25, .lf (.v (.int .i64 x25)))] (by kernel_rfl) (wfs_mem ⟨trivial, ⟨trivial, ⟨trivial, ⟨trivial, ⟨trivial, ⟨trivial, ⟨trivial, trivial⟩⟩⟩⟩⟩⟩⟩) ?_
          refine ⟨hyd.gr _ _, fun i' o' h1 h2 w => stage_all' [1, 2, 4, 5, 6] [0, 3] (by kernel_rfl) (by subst e25 e23; kernel_rfl) (by kernel_rfl) ⟨QF_at (i := 0) (d := 19) (x := .lf (.v (.func (.func 121) #[] #[.pointer (some ⟨by', 0, none⟩), .pointer (some ⟨bn, 0, none⟩), .pointer (some ⟨bw, 0, none⟩)]))) (At_ldP (d := 19) (b := bw) (off := 0) (m := 1) (v := (.func (.func 121) #[] #[.pointer (some ⟨by', 0, none⟩), .pointer (some ⟨bn, 0, none⟩), .pointer (some ⟨bw, 0, none⟩)])) (by kernel_rfl) hbw) (by kernel_rfl) (by kernel_rfl), ⟨QF_at (i := 3) (d := 22) (x := .lf (.v (.int .u64 x22))) (show OpAt _ _ _ 3 22 (.lf (.v (.int .u64 x22))) from by rw [e22]; exact At_shl (d := 22) (k := .u64) (k' := .i64) (m := (1 : Int)) (n := i) (by kernel_rfl) g22) (by kernel_rfl) (by kernel_rfl), trivial⟩⟩ i' o' h1 h2, ?_⟩
          refine WL_callB (d := 26) (f := 121) (J M (pq ++ L1)) (Stp Jx M) (by kernel_rfl) (by kernel_rfl) (fun w hw hm => (hrec w hw).mono fun e w' ⟨b, q1, q2⟩ => ⟨b, q1, (by cases b with | true => exact hyd.mem _ _ _ q2 | false => exact q2.2), (by cases b with | true => exact q2 | false => exact q2)⟩) ?_ ?_
          · refine TWL_nil fun w hw => ⟨rfl, [(27, (.lf (.v (.bool false))))], J M (pq ++ L1), hw, by kernel_rfl, wfs_mem ⟨trivial, trivial⟩, hyd.gr _ _, fun i' o' h1 h2 w => stage_all' [8] [] (by kernel_rfl) (by kernel_rfl) (by kernel_rfl) trivial i' o' h1 h2, ?_⟩
            refine NQ_then ?_
            refine W_condF (x := .tmp 27) (c1 := (sub [1, 1, 0, 1, 0, 0, 1, 0, 0, 1, 0] (bodyOf Try.f121))) (c2 := (sub [1, 1, 0, 1, 0, 0, 1, 0, 0, 1, 1] (bodyOf Try.f121))) (by kernel_rfl) (by kernel_rfl) ?_
            refine TW_keep (σ' := [(0, .lf (.v (.int .u64 s))), (1, .lf (.v (.int .i64 fr))), (2, (.lf (.v (.pointer (some ⟨by', 0, none⟩))))), (3, (.lf (.v (.pointer (some ⟨bn, 0, none⟩))))), (4, (.lf (.v (.pointer (some ⟨bw, 0, none⟩))))), (8, .lf (.v (.int .i64 i)))]) [0, 1, 2, 3, 4, 8] (by kernel_rfl) ?_
            refine W_skip (by kernel_rfl) ?_
            refine NQ_bn ?_
            refine NQ_then ?_
            refine TW_region (id := 5) (by kernel_rfl) ?_
            refine TWI_pure (y := (17, .lf (.v (.int .i64 i)))) (by kernel_rfl) ?_
            refine TWI_pure (y := (18, .lf (.v (.int .i64 x18)))) (by subst e18; kernel_rfl) ?_
            refine TWI_pure (y := (8, .lf (.v (.int .i64 x18)))) (by kernel_rfl) ?_
            refine TWI_keep (σ' := [(0, .lf (.v (.int .u64 s))), (1, .lf (.v (.int .i64 fr))), (2, (.lf (.v (.pointer (some ⟨by', 0, none⟩))))), (3, (.lf (.v (.pointer (some ⟨bn, 0, none⟩))))), (4, (.lf (.v (.pointer (some ⟨bw, 0, none⟩))))), (8, .lf (.v (.int .i64 x18)))]) [0, 1, 2, 3, 4, 8] (by kernel_rfl) ?_
            refine WI_end (by kernel_rfl) ?_
            exact NQ_loop nf (x18, pq ++ L1, L2) (Nat.lt_succ_self _) rfl ⟨by rw [← hpq, ← h, List.append_assoc], c2⟩ (fun w hw => hw)
          · refine TWL_nil fun w hw => ⟨rfl, [(27, (.lf (.v (.bool true))))], Stp Jx M, hw, by kernel_rfl, wfs_mem ⟨trivial, trivial⟩, Stp.gr hyd.gx, fun i' o' h1 h2 w => stage_all' [8] [] (by kernel_rfl) (by kernel_rfl) (by kernel_rfl) trivial i' o' h1 h2, ?_⟩
            refine NQ_then ?_
            refine W_condT (x := .tmp 27) (c1 := (sub [1, 1, 0, 1, 0, 0, 1, 0, 0, 1, 0] (bodyOf Try.f121))) (c2 := (sub [1, 1, 0, 1, 0, 0, 1, 0, 0, 1, 1] (bodyOf Try.f121))) (by kernel_rfl) (by kernel_rfl) ?_
            refine W_seq (c1 := (sub [1, 1, 0, 1, 0, 0, 1, 0, 0, 1, 0, 0] (bodyOf Try.f121))) (c2 := (sub [1, 1, 0, 1, 0, 0, 1, 0, 0, 1, 0, 1] (bodyOf Try.f121))) (by kernel_rfl) ?_
            refine TW_region (id := 7) (by kernel_rfl) ?_
            refine TWI_pure (y := (7, (.lf (.v (.bool false))))) (by kernel_rfl) ?_
            refine WI_end (by kernel_rfl) ?_
            refine NQ_then ?_
            refine W_ret (by kernel_rfl) ?_
            refine NQ_br ?_
            refine NQ_thenr ?_
            refine NQ_thenr ?_
            refine NQ_br ?_
            refine NQ_thenr ?_
            exact stop rfl
    · refine TWI_pure (y := (12, (.lf (.v (.bool true))))) (by kernel_rfl) ?_
      refine TWI_keep (σ' := [(0, .lf (.v (.int .u64 s))), (1, .lf (.v (.int .i64 fr))), (2, (.lf (.v (.pointer (some ⟨by', 0, none⟩))))), (3, (.lf (.v (.pointer (some ⟨bn, 0, none⟩))))), (4, (.lf (.v (.pointer (some ⟨bw, 0, none⟩))))), (12, (.lf (.v (.bool true))))]) [0, 1, 2, 3, 4, 12] (by kernel_rfl) ?_
      refine WI_end (by kernel_rfl) ?_
      refine NQ_then ?_
      refine W_condT (x := .tmp 12) (c1 := (sub [1, 0, 1, 0] (bodyOf Try.f121))) (c2 := (sub [1, 0, 1, 1] (bodyOf Try.f121))) (by kernel_rfl) (by kernel_rfl) ?_
      refine W_seq (c1 := (sub [1, 0, 1, 0, 0] (bodyOf Try.f121))) (c2 := (sub [1, 0, 1, 0, 1] (bodyOf Try.f121))) (by kernel_rfl) ?_
      refine TW_region (id := 2) (by kernel_rfl) ?_
      refine TWI_pure (y := (7, (.lf (.v (.bool false))))) (by kernel_rfl) ?_
      refine WI_end (by kernel_rfl) ?_
      refine NQ_then ?_
      refine W_ret (by kernel_rfl) ?_
      refine NQ_thenr ?_
      exact stop rfl
theorem w120 (k : Nat) {M : Mem} {bu1 : Nat} {u1 : Int} (hbu1 : M bu1 = some (sgCells (fun _ => 0) (fun _ => .slice none 0 0) [.one (.v (.int .i64 u1))]).toArray) {ks} (h : p120 k u1 = some ks) :
    IterE enU Try.prog 120 [(.pointer (some ⟨bu1, 0, none⟩))] M ks := by
  unfold p120 at h
  obtain ⟨b1, hb1⟩ : ∃ b1, b1 = bu1 := ⟨_, rfl⟩
  rw [← hb1] at hbu1 ⊢
  refine IterE_of fun l J Jx W hyd hW h0 => ?_
  refine calls_TW (c := bodyOf Try.f120) [.lf (.v (.func (.yield l) #[] #[])), (.lf (.v (.pointer (some ⟨b1, 0, none⟩))))] hf120 (by kernel_rfl) (Nat.le_of_ble_eq_true (by kernel_rfl)) (by kernel_rfl) (by intro x hx; simp only [List.mem_cons, List.mem_nil_iff, or_false] at hx; rcases hx with rfl | rfl <;> trivial) hW ?_
  refine TW_pre (pre' := J M []) (by rintro w rfl; exact h0) ?_
  refine TS_enter fun w0 hw0 => ?_
  refine TS_seq (c1 := (sub [0] (bodyOf Try.f120))) (c2 := (sub [1] (bodyOf Try.f120))) (by kernel_rfl) ?_
  refine T_region (id := 0) (by kernel_rfl) ?_
  refine TI_segK (i := 0) (j := 1) (s' := { σ := [(1, (.lf (.v (.pointer (some ⟨b1, 0, none⟩))))), (2, .lf (.own 2 0))], H := [(2, [.one (.v (.func (.yield l) #[] #[]))])], V := [], M := M, ds := [] }) [1, 2] [2] [] (by kernel_rfl) (by kernel_rfl) ?_
  refine TI_end (by kernel_rfl) ?_
  refine ⟨rfl, ?_⟩
  refine TS_turn (turn_pubH 2 (c := [.one (.v (.func (.yield l) #[] #[]))]) (by kernel_rfl) (by kernel_rfl)) ?_
  rintro _ ⟨by', M1, rfl, hn1, e1, -, hM1⟩
  refine TS_sub (keep_sub (s' := { σ := [(1, (.lf (.v (.pointer (some ⟨b1, 0, none⟩))))), (2, (.lf (.v (.pointer (some ⟨by', 0, none⟩)))))], H := [], V := [], M := M1, ds := [] }) (ts := [1, 2]) (hs := []) (vs := []) (by kernel_rfl)) ?_
  refine TS_seq (c1 := (sub [1, 0] (bodyOf Try.f120))) (c2 := (sub [1, 1] (bodyOf Try.f120))) (by kernel_rfl) ?_
  refine T_region (id := 1) (by kernel_rfl) ?_
  refine TI_segK (i := 0) (j := 1) (s' := { σ := [(1, (.lf (.v (.pointer (some ⟨b1, 0, none⟩))))), (2, (.lf (.v (.pointer (some ⟨by', 0, none⟩))))), (3, .lf (.own 3 0))], H := [(3, [.one (.v .nilFunc)])], V := [], M := M1, ds := [] }) [1, 2, 3] [3] [] (by kernel_rfl) (by kernel_rfl) ?_
  refine TI_end (by kernel_rfl) ?_
  refine ⟨rfl, ?_⟩
  refine TS_turn (turn_tie 3 (c := [.one (.v .nilFunc)]) (by kernel_rfl)) ?_
  rintro _ ⟨bw, rfl, hn3, -⟩
  refine TS_seq (c1 := (sub [1, 1, 0] (bodyOf Try.f120))) (c2 := (sub [1, 1, 1] (bodyOf Try.f120))) (by kernel_rfl) ?_
  refine T_region (id := 2) (by kernel_rfl) ?_
  refine TI_turn (turn_at 3 (n := 3) (b := bw) (off := 0) (by kernel_rfl) (by kernel_rfl)) ?_
  rintro _ rfl
  refine TI_segK (i := 0) (j := 1) (s' := { σ := [(3, (.lf (.v (.pointer (some ⟨bw, 0, none⟩))))), (4, .lf (.v (.func (.func 121) #[] #[.pointer (some ⟨by', 0, none⟩), .pointer (some ⟨b1, 0, none⟩), .pointer (some ⟨bw, 0, none⟩)])))], H := [(3, [.one (.v .nilFunc)])], V := [], M := M1, ds := [], ats := [(3, bw)] }) [3, 4] [3] [] (by kernel_rfl) (by kernel_rfl) ?_
  refine TI_turn (turn_back 3 (n := 3) (b := bw) (off := 0) (by kernel_rfl) (by kernel_rfl)) ?_
  rintro _ rfl
  refine TI_segK (i := 1) (j := 2) (s' := { σ := [(3, .lf (.own 3 0))], H := [(3, [.one (.v (.func (.func 121) #[] #[.pointer (some ⟨by', 0, none⟩), .pointer (some ⟨b1, 0, none⟩), .pointer (some ⟨bw, 0, none⟩)]))])], V := [], M := M1, ds := [], ats := [(3, bw)] }) [3] [3] [] (by kernel_rfl) (by kernel_rfl) ?_
  refine TI_end (by kernel_rfl) ?_
  refine ⟨rfl, ?_⟩
  refine TS_turn (turn_pubT 3 bw (c := [.one (.v (.func (.func 121) #[] #[.pointer (some ⟨by', 0, none⟩), .pointer (some ⟨b1, 0, none⟩), .pointer (some ⟨bw, 0, none⟩)]))]) (by kernel_rfl) (by kernel_rfl) (by kernel_rfl)) ?_
  rintro _ ⟨rfl, hn4⟩
  obtain ⟨M2, e2⟩ : ∃ M2, M2 = addM M1 bw (sgCells (fun _ => 0) (fun _ => .slice none 0 0) [.one (.v (.func (.func 121) #[] #[.pointer (some ⟨by', 0, none⟩), .pointer (some ⟨b1, 0, none⟩), .pointer (some ⟨bw, 0, none⟩)]))]).toArray := ⟨_, rfl⟩
  have hM2 : Mem.le M1 M2 := by rw [e2]; exact addM_le hn4
  refine TS_sub (keep_sub (s' := { σ := [(3, (.lf (.v (.pointer (some ⟨bw, 0, none⟩)))))], H := [], V := [], M := M2, ds := [] }) (ts := [3]) (hs := []) (vs := []) (by subst e2; kernel_rfl)) ?_
  refine TS_leave (K := J M2 []) (closed_all (by kernel_rfl)) (Mem.le_trans hM1 hM2) (fun w hB hN => hyd.grow _ _ _ _ _ hw0 hB hN) ?_
  have hby : memCell M2 by' 0 = some (.func (.yield l) #[] #[]) := memCell_le hM2 (by rw [e1]; exact memCell_add rfl)
  have hbn0 : memCell M b1 0 = some (.int .i64 u1) := by unfold memCell; rw [hbu1]; rfl
  have hbn : memCell M2 b1 0 = some (.int .i64 u1) := memCell_le (Mem.le_trans hM1 hM2) hbn0
  have hbw : memCell M2 bw 0 = some (.func (.func 121) #[] #[.pointer (some ⟨by', 0, none⟩), .pointer (some ⟨b1, 0, none⟩), .pointer (some ⟨bw, 0, none⟩)]) := by rw [e2]; exact memCell_add rfl
  refine TW_region (id := 3) (by kernel_rfl) ?_
  refine TWI_at (d := 5) (x := .lf (.v (.func (.func 121) #[] #[.pointer (some ⟨by', 0, none⟩), .pointer (some ⟨b1, 0, none⟩), .pointer (some ⟨bw, 0, none⟩)]))) (fun w => At_ldP (d := 5) (b := bw) (off := 0) (m := 1) (v := (.func (.func 121) #[] #[.pointer (some ⟨by', 0, none⟩), .pointer (some ⟨b1, 0, none⟩), .pointer (some ⟨bw, 0, none⟩)])) (by kernel_rfl) hbw) (hyd.gr _ _) (by kernel_rfl) trivial ?_
  refine TWI_of (i := 1) (by kernel_rfl) ?_
  refine WL_callB (d := 6) (f := 121) (J M2 ks) (Stp Jx M2) (by kernel_rfl) (by kernel_rfl) (fun w hw hm => (w121 k hyd hby hbn hbw k 0 0 ks [] [] w h (by simp) hw).mono fun e w' ⟨b, q1, q2⟩ => ⟨b, q1, (by cases b with | true => exact hyd.mem _ _ _ q2 | false => exact q2.2), (by cases b with | true => exact q2 | false => exact q2)⟩) ?_ ?_
  · exact TWL_nil fun w hw => ⟨.inl rfl, .inl ⟨M2, hw⟩⟩
  · exact TWL_nil fun w hw => ⟨.inl rfl, .inr hw.1⟩
end Go.Proofs.Ythniebmammmacaa
namespace Go.Proofs.Ythniebmammmacaa
open Go.RowKit
def p73 (k : Nat) (u0 : Int) : Option (List (Int)) :=
 cl (p120 k u0) fun v4 => some v4
theorem hf73 : Try.prog.funcs[73]? = some Try.f73 := by kernel_rfl
theorem w73 (k : Nat) {M : Mem} {u0 : Int} {r} (h : p73 k u0 = some r) :
  Fn Try.prog 73 [rval (vi u0)] M (fun x M' => ∃ (lb1 : List Value),x = .lf (.v (.func (.func 120) #[] (List.toArray lb1))) ∧ IterE enU Try.prog 120 lb1 M' r) := by
 unfold p73 at h
 refine FO [vi u0] hf73 ⟨trivial,trivial⟩ fun w => ?_
 refine SQ0 (RG ?_)
 refine SG 2 (S4 [(1,lO 1)] [(1,[oI u0])] [] M) ?_
 refine EN ?_
 refine T_turn (turn_pubH 1 (c:=[oI u0]) (by kernel_rfl) (by kernel_rfl)) ?_
 rintro _ ⟨b2,M3,rfl,-,e_M3,-,hM3⟩
 have fb2 : MB M3 b2 [oI u0] := by rw [e_M3]; exact addM_at _ _ _
 refine KG (S4 [(1,lP b2)] [] [] M3) ?_
 refine SQ (RG ?_)
 refine SS 2 [(2,.lf (.v (.func (.func 120) #[] #[(.pointer (some ⟨b2,0,none⟩))])))] ?_
 refine EN ?_
 obtain ⟨v4,c_v4,h⟩ := cl_some h
 refine RT ?_
 obtain rfl := sj h
 refine FT (.lf (.v (.func (.func 120) #[] (List.toArray [(.pointer (some ⟨b2,0,none⟩))])))) ?_
 exact ⟨[(.pointer (some ⟨b2,0,none⟩))],rfl,(w120 k fb2 c_v4)⟩
end Go.Proofs.Ythniebmammmacaa
namespace Go.Proofs.Ythniebmammmacaa
open Go.RowKit
def p28_l2 (k : Nat) (u0_1 : List (List Int)) (x77 : Int) (j88 : Int → Option (List Int × List Int × Int × Int × Int)) (v9 : Int) (v10 : List (List Int)) (v11 : List WT) (v12 : List Int) (v50 : Int) (v67 : List Int) : Nat → Int → Option (List Int × List Int × Int × Int × Int)
 | 0,_ => none
 | n91 + 1,x89 => cl (p55 k v9 v10 v11 v12 v50 x89) fun v92 => sp v92 (j88 x89) (lt' (wr .i64 (x89 + (1 : Int))) fun x93 => gd ((0 : Int) ≤ x93 ∧ (0 : Int) ≤ (0 : Int) ∧ (x93).toNat ≤ List.length u0_1 ∧ List.length u0_1 ≤ List.length u0_1) <| lt' (part u0_1 ((x93).toNat) (u0_1.length)) fun P95 => cl (p80b k P95 x77 v67) fun v96 => lt' (wr .i64 ((1 : Int) + v96)) fun x99 => lt' (wr .i64 (x89 + x99)) fun x100 => p28_l2 k u0_1 x77 j88 v9 v10 v11 v12 v50 v67 n91 x100)
def p28_l1 (k : Nat) (u0_1 : List (List Int)) (u3 : Int) (j76 : Int → List Int → Option (List Int × List Int × Int × Int × Int)) (v9 : Int) (v10 : List (List Int)) (v11 : List WT) (v12 : List Int) (v50 : Int) (v67 : List Int) : Nat → Int → Int → List Int → Option (List Int × List Int × Int × Int × Int)
 | 0,_,_,_ => none
 | n81 + 1,x77,x78,L79 => lt' (x77 != u3) fun b82 => sp b82 (cl (p80a k u0_1 x77 v67) fun v83 => jn (fun (x86 : Int) => gd ((L79.length + List.length ([x86])) * 8 ≤ 140737488355328) <| lt' (L79 ++ ([x86])) fun W102 => gd ((0 : Int) ≤ x86 ∧ x86 < (u0_1.length : Int)) <| lt' (List.getD (List.getD u0_1 ((x86).toNat) []) 3 0) fun x104 => lt' (wr .i64 (x78 + x104)) fun x105 => gd ((0 : Int) ≤ x86 ∧ x86 < (u0_1.length : Int)) <| lt' (List.getD (List.getD u0_1 ((x86).toNat) []) 1 0) fun x107 => p28_l1 k u0_1 u3 j76 v9 v10 v11 v12 v50 v67 n81 x107 x105 W102) fun j88 => p28_l2 k u0_1 x77 j88 v9 v10 v11 v12 v50 v67 k v83) (j76 x78 L79)
def p28 (k : Nat) (u0_0 : Int) (u0_1 : List (List Int)) (u0_2 : List WT) (u1 : List Int) (u2 : Int) (u3 : Int) : Option (List Int × List Int × Int × Int × Int) :=
 cl5 (p68 k u0_0 u0_1 u0_2 u1) fun v9 v10 v11 v12 v13 => gd ((v12).length = 6) <| lt' (v13 != (0 : Int)) fun b24 => sp b24 (some (([] : List Int),([] : List Int),(0 : Int),(0 : Int),v13)) (cl (p67 k u0_0 u0_1 u0_2 ([u2,u3])) fun v36 => lt' (v36 != (0 : Int)) fun b37 => sp b37 (some (([] : List Int),([] : List Int),(0 : Int),(0 : Int),v36)) (cl (p73 k (u0_2.length : Int)) fun v47 => cl3 (p72a k v47 v9 v10 v11 v12 u3 u2) fun v50 v51 v52 => sp v52 (cl (p79 k v50) fun v55 => cl (p78 k v55) fun v58 => cl (p76 k v9 v10 v11 v12 v50) fun v63 => cl (p75a k v9 v10 v11 v12 u3 true v9 v10 v11 v12 v50) fun v67 => jn (fun (x73 : Int) (L74 : List Int) => some (L74,v58,v51,x73,(0 : Int))) fun j76 => p28_l1 k u0_1 u3 j76 v9 v10 v11 v12 v50 v67 k u2 (0 : Int) ([] : List Int)) (some (([] : List Int),([] : List Int),(0 : Int),(0 : Int),(15 : Int)))))
theorem hf28 : Try.prog.funcs[28]? = some Try.f28 := by kernel_rfl
theorem w28 (k : Nat) {M : Mem} {Au0_1 Au0_2 : Option Addr} {cu0_1 cu0_2 : Nat} {Hu0_2 : Nat → Option Addr} {Cu0_2 : Nat → Nat} {u0_0 u2 u3 : Int} {u0_1 : List (List Int)} {u0_2 : List WT} {u1 : List Int} (hu0_1 : SlR M Au0_1 cu0_1 .i64 12 u0_1) (hu0_2 : SlW M 3 Au0_2 cu0_2 Hu0_2 Cu0_2 u0_2) (hu1 : u1.length = 6) {r} (h : p28 k u0_0 u0_1 u0_2 u1 u2 u3 = some r) :
  Fn Try.prog 28 [rval (.agg [oI u0_0,oS Au0_1 u0_1 cu0_1,oS Au0_2 u0_2 cu0_2]),rval (.agg [.arr .i64 6 u1]),rval (vi u2),rval (vi u3)] M (fun x M' => ∃ (A1 : Option Addr) (c2 : Nat) (A3 : Option Addr) (c4 : Nat),x = .tup [(none,[oS A1 r.1 c2,oS A3 r.2.1 c4,oI r.2.2.1,oI r.2.2.2.1]),(some (.v (.int .i64 r.2.2.2.2)),[])] ∧ SlI M' A1 c2 .i64 r.1 ∧ SlI M' A3 c4 .i64 r.2.1) := by
 unfold p28 at h
 refine FO [.agg [oI u0_0,oS Au0_1 u0_1 cu0_1,oS Au0_2 u0_2 cu0_2],.agg [.arr .i64 6 u1],vi u2,vi u3] hf28 ⟨⟨rfl,⟨rfl,⟨rfl,trivial⟩⟩⟩,⟨⟨hu1,trivial⟩,⟨trivial,⟨trivial,trivial⟩⟩⟩⟩ fun w => ?_
 refine SQ0 (RG ?_)
 refine SG 6 (S4 [(4,lO 4),(5,lO 5),(6,lO 6),(7,lO 7),(8,lO 8)] [(4,[oI u0_0,oS Au0_1 u0_1 cu0_1,oS Au0_2 u0_2 cu0_2]),(5,[.arr .i64 6 u1]),(6,[oI u2]),(7,[oI u3]),(8,[oS none ([] : List Int) 0,oS none ([] : List Int) 0,oI (0 : Int),oI (0 : Int)])] [] M) ?_
 refine EN ?_
 refine T_turn (turn_nil 5005 3 1 [(4,lO 4),(5,lO 5),(6,lO 6),(7,lO 7),(8,lO 8)] [(4,[oI u0_0,oS Au0_1 u0_1 cu0_1,oS Au0_2 u0_2 cu0_2]),(5,[.arr .i64 6 u1]),(6,[oI u2]),(7,[oI u3]),(8,[.one (.vec 5005),oS none ([] : List Int) 0,oI (0 : Int),oI (0 : Int)])] (by kernel_rfl) (by kernel_rfl) (by kernel_rfl)) ?_
 rintro _ rfl
 refine T_turn (turn_nil 5006 3 1 [(4,lO 4),(5,lO 5),(6,lO 6),(7,lO 7),(8,lO 8)] [(4,[oI u0_0,oS Au0_1 u0_1 cu0_1,oS Au0_2 u0_2 cu0_2]),(5,[.arr .i64 6 u1]),(6,[oI u2]),(7,[oI u3]),(8,[.one (.vec 5005),.one (.vec 5006),oI (0 : Int),oI (0 : Int)])] (by kernel_rfl) (by kernel_rfl) (by kernel_rfl)) ?_
 rintro _ rfl
 refine KG (S4 [(4,lO 4),(5,lO 5),(6,lO 6),(7,lO 7),(8,lO 8)] [(4,[oI u0_0,oS Au0_1 u0_1 cu0_1,oS Au0_2 u0_2 cu0_2]),(5,[.arr .i64 6 u1]),(6,[oI u2]),(7,[oI u3]),(8,[.one (.vec 5005),.one (.vec 5006),oI (0 : Int),oI (0 : Int)])] [(5005,vI 3 1 ([] : List Int)),(5006,vI 3 1 ([] : List Int))] M) ?_
 refine T_turn (turn_pubH 7 (c:=[oI u3]) (by kernel_rfl) (by kernel_rfl)) ?_
 rintro _ ⟨b7,M8,rfl,-,e_M8,-,hM8⟩
 have fb7 : MB M8 b7 [oI u3] := by rw [e_M8]; exact addM_at _ _ _
 refine KG (S4 [(4,lO 4),(5,lO 5),(6,lO 6),(7,lP b7),(8,lO 8)] [(4,[oI u0_0,oS Au0_1 u0_1 cu0_1,oS Au0_2 u0_2 cu0_2]),(5,[.arr .i64 6 u1]),(6,[oI u2]),(8,[.one (.vec 5005),.one (.vec 5006),oI (0 : Int),oI (0 : Int)])] [(5005,vI 3 1 ([] : List Int)),(5006,vI 3 1 ([] : List Int))] M8) ?_
 refine SQ (RG ?_)
 refine SH 2 [(4,lO 4),(6,lO 6),(7,lP b7),(8,lO 8),(20,.agg [oI u0_0,oS Au0_1 u0_1 cu0_1,oS Au0_2 u0_2 cu0_2]),(21,.agg [.arr .i64 6 u1])] [(4,[oI u0_0,oS Au0_1 u0_1 cu0_1,oS Au0_2 u0_2 cu0_2]),(6,[oI u2]),(8,[.one (.vec 5005),.one (.vec 5006),oI (0 : Int),oI (0 : Int)])] ?_
 obtain ⟨v9,v10,v11,v12,v13,c_v9,h⟩ := cl5_some h
 obtain ⟨g20,h⟩ := gd_some h
 refine TI_of (i:=2) (by kernel_rfl) (TE_callR (d:=22) (f:=68) (args:=[rval (.agg [oI u0_0,oS Au0_1 u0_1 cu0_1,oS Au0_2 u0_2 cu0_2]),rval (.agg [.arr .i64 6 u1])]) (by kernel_rfl) (by kernel_rfl) (w68 k (hu0_1.le hM8) (hu0_2.le hM8) hu1 c_v9) ?_)
 rintro _ M21 _ hM21 _ ⟨A14,c15,A16,c17,H18,C19,rfl,fA14,fA16⟩
 refine SG 9 (S4 [(4,lO 4),(6,lO 6),(7,lP b7),(8,lO 8),(10,lO 10),(11,vi v13)] [(4,[oI u0_0,oS Au0_1 u0_1 cu0_1,oS Au0_2 u0_2 cu0_2]),(6,[oI u2]),(8,[.one (.vec 5005),.one (.vec 5006),oI (0 : Int),oI (0 : Int)]),(10,[oI v9,oS A14 v10 c15,oS A16 v11 c17,.arr .i64 6 v12])] [(5005,vI 3 1 ([] : List Int)),(5006,vI 3 1 ([] : List Int))] M21) ?_
 refine EN ?_
 refine T_turn (turn_pubH 10 (c:=[oI v9,oS A14 v10 c15,oS A16 v11 c17,.arr .i64 6 v12]) (by kernel_rfl) (by kernel_rfl)) ?_
 rintro _ ⟨b22,M23,rfl,-,e_M23,-,hM23⟩
 have fb22 : MB M23 b22 [oI v9,oS A14 v10 c15,oS A16 v11 c17,.arr .i64 6 v12] := by rw [e_M23]; exact addM_at _ _ _
 refine KG (S4 [(4,lO 4),(6,lO 6),(7,lP b7),(8,lO 8),(10,lP b22),(11,vi v13)] [(4,[oI u0_0,oS Au0_1 u0_1 cu0_1,oS Au0_2 u0_2 cu0_2]),(6,[oI u2]),(8,[.one (.vec 5005),.one (.vec 5006),oI (0 : Int),oI (0 : Int)])] [(5005,vI 3 1 ([] : List Int)),(5006,vI 3 1 ([] : List Int))] M23) ?_
 refine SQ (SQ (RG ?_))
 obtain ⟨b24,e_b24,h⟩ := lt_some h
 refine SS 2 [(4,lO 4),(6,lO 6),(7,lP b7),(8,lO 8),(10,lP b22),(11,vi v13),(26,vb b24)] ?_ (by subst e_b24;kernel_rfl)
 refine EN ?_
 cases b24 with
 | true =>
  replace h := sp_t h
  refine CT ?_
  refine KP [(8,lO 8),(11,vi v13)] [(8,[.one (.vec 5005),.one (.vec 5006),oI (0 : Int),oI (0 : Int)])] [(5005,vI 3 1 ([] : List Int)),(5006,vI 3 1 ([] : List Int))] ?_
  refine SQ (RG ?_)
  refine SK 4 [(8,lO 8),(9,vi v13)] [(8,[oS none ([] : List Int) 0,oS none ([] : List Int) 0,oI (0 : Int),oI (0 : Int)])] [] ?_
  refine EN ?_
  refine T_turn (turn_nil 5025 3 1 [(8,lO 8),(9,vi v13)] [(8,[.one (.vec 5025),oS none ([] : List Int) 0,oI (0 : Int),oI (0 : Int)])] (by kernel_rfl) (by kernel_rfl) (by kernel_rfl)) ?_
  rintro _ rfl
  refine T_turn (turn_nil 5026 3 1 [(8,lO 8),(9,vi v13)] [(8,[.one (.vec 5025),.one (.vec 5026),oI (0 : Int),oI (0 : Int)])] (by kernel_rfl) (by kernel_rfl) (by kernel_rfl)) ?_
  rintro _ rfl
  refine KG (S4 [(8,lO 8),(9,vi v13)] [(8,[.one (.vec 5025),.one (.vec 5026),oI (0 : Int),oI (0 : Int)])] [(5025,vI 3 1 ([] : List Int)),(5026,vI 3 1 ([] : List Int))] M23) ?_
  refine T_turn (turn_pubV 5025 (v:=vI 3 1 ([] : List Int)) (by kernel_rfl)) ?_
  rintro _ ⟨A27,c28,M29,rfl,hSA27,hcA27,-,hNA27,hM29⟩
  have fA27 : SlI M29 A27 c28 .i64 ([] : List Int) := ⟨hSA27,hcA27⟩
  refine KG (S4 [(8,lO 8),(9,vi v13)] [(8,[oS A27 ([] : List Int) c28,.one (.vec 5026),oI (0 : Int),oI (0 : Int)])] [(5026,vI 3 1 ([] : List Int))] M29) ?_
  refine T_turn (turn_pubV 5026 (v:=vI 3 1 ([] : List Int)) (by kernel_rfl)) ?_
  rintro _ ⟨A30,c31,M32,rfl,hSA30,hcA30,-,hNA30,hM32⟩
  have fA30 : SlI M32 A30 c31 .i64 ([] : List Int) := ⟨hSA30,hcA30⟩
  refine KG (S4 [(8,lO 8),(9,vi v13)] [(8,[oS A27 ([] : List Int) c28,oS A30 ([] : List Int) c31,oI (0 : Int),oI (0 : Int)])] [] M32) ?_
  refine RT (thenQ_r ?_)
  obtain rfl := sj h
  refine FT (.tup [(none,[oS A27 ([] : List Int) c28,oS A30 ([] : List Int) c31,oI (0 : Int),oI (0 : Int)]),(some (.v (.int .i64 v13)),[])]) ?_
  exact ⟨A27,c28,A30,c31,rfl,(fA27.le hM32),fA30⟩
 | false =>
  replace h := sp_f h
  refine CF ?_
  refine KS [(4,lO 4),(6,lO 6),(7,lP b7),(8,lO 8),(10,lP b22)] ?_
  refine SN (SQ (SQ (RG ?_)))
  refine SS 2 [(4,lO 4),(6,lO 6),(7,lP b7),(8,lO 8),(10,lP b22),(29,.agg [oI u0_0,oS Au0_1 u0_1 cu0_1,oS Au0_2 u0_2 cu0_2]),(30,vi u2)] ?_
  refine AT 31 (vi u3) (At_ldP (b:=b7) (off:=0) (m:=1) (v:=(.int .i64 u3)) (by kernel_rfl) (cell_blk (hM23 _ _ (hM21 _ _ fb7)) ⟨rfl,trivial⟩ (by kernel_rfl))) ?_
  refine TI_of (i:=3) (by kernel_rfl) (TE_litC (d:=32) (e:=3) (sz:=1) (len:=2) (cs:=ints .i64 ([u2,u3])) (by kernel_rfl) (by kernel_rfl) (by kernel_rfl) ?_)
  refine SG 4 (S4 [(4,lO 4),(6,lO 6),(7,lP b7),(8,lO 8),(10,lP b22),(29,.agg [oI u0_0,oS Au0_1 u0_1 cu0_1,oS Au0_2 u0_2 cu0_2]),(32,lV 32)] [(4,[oI u0_0,oS Au0_1 u0_1 cu0_1,oS Au0_2 u0_2 cu0_2]),(6,[oI u2]),(8,[.one (.vec 5005),.one (.vec 5006),oI (0 : Int),oI (0 : Int)])] [(32,vI 3 1 ([u2,u3])),(5005,vI 3 1 ([] : List Int)),(5006,vI 3 1 ([] : List Int))] M23) ?_
  refine TI_turn (turn_pubV 32 (v:=vI 3 1 ([u2,u3])) (by kernel_rfl)) ?_
  rintro _ ⟨A33,c34,M35,rfl,hSA33,hcA33,-,hNA33,hM35⟩
  have fA33 : SlI M35 A33 c34 .i64 ([u2,u3]) := ⟨hSA33,hcA33⟩
  obtain ⟨v36,c_v36,h⟩ := cl_some h
  refine AC 33 (vi v36) (w67 k ((((hu0_1.le hM8).le hM21).le hM23).le hM35) ((((hu0_2.le hM8).le hM21).le hM23).le hM35) fA33 c_v36) ?_
  refine SG 6 (S4 [(4,lO 4),(6,lO 6),(7,lP b7),(8,lO 8),(10,lP b22),(12,vi v36)] [(4,[oI u0_0,oS Au0_1 u0_1 cu0_1,oS Au0_2 u0_2 cu0_2]),(6,[oI u2]),(8,[.one (.vec 5005),.one (.vec 5006),oI (0 : Int),oI (0 : Int)])] [(5005,vI 3 1 ([] : List Int)),(5006,vI 3 1 ([] : List Int))] M35) ?_
  refine EN (SQ (RG ?_))
  obtain ⟨b37,e_b37,h⟩ := lt_some h
  refine SS 2 [(4,lO 4),(6,lO 6),(7,lP b7),(8,lO 8),(10,lP b22),(12,vi v36),(35,vb b37)] ?_ (by subst e_b37;kernel_rfl)
  refine EN ?_
  cases b37 with
  | true =>
   replace h := sp_t h
   refine CT ?_
   refine KP [(8,lO 8),(12,vi v36)] [(8,[.one (.vec 5005),.one (.vec 5006),oI (0 : Int),oI (0 : Int)])] [(5005,vI 3 1 ([] : List Int)),(5006,vI 3 1 ([] : List Int))] ?_
   refine SQ (RG ?_)
   refine SK 4 [(8,lO 8),(9,vi v36)] [(8,[oS none ([] : List Int) 0,oS none ([] : List Int) 0,oI (0 : Int),oI (0 : Int)])] [] ?_
   refine EN ?_
   refine T_turn (turn_nil 5038 3 1 [(8,lO 8),(9,vi v36)] [(8,[.one (.vec 5038),oS none ([] : List Int) 0,oI (0 : Int),oI (0 : Int)])] (by kernel_rfl) (by kernel_rfl) (by kernel_rfl)) ?_
   rintro _ rfl
   refine T_turn (turn_nil 5039 3 1 [(8,lO 8),(9,vi v36)] [(8,[.one (.vec 5038),.one (.vec 5039),oI (0 : Int),oI (0 : Int)])] (by kernel_rfl) (by kernel_rfl) (by kernel_rfl)) ?_
   rintro _ rfl
   refine KG (S4 [(8,lO 8),(9,vi v36)] [(8,[.one (.vec 5038),.one (.vec 5039),oI (0 : Int),oI (0 : Int)])] [(5038,vI 3 1 ([] : List Int)),(5039,vI 3 1 ([] : List Int))] M35) ?_
   refine T_turn (turn_pubV 5038 (v:=vI 3 1 ([] : List Int)) (by kernel_rfl)) ?_
   rintro _ ⟨A40,c41,M42,rfl,hSA40,hcA40,-,hNA40,hM42⟩
   have fA40 : SlI M42 A40 c41 .i64 ([] : List Int) := ⟨hSA40,hcA40⟩
   refine KG (S4 [(8,lO 8),(9,vi v36)] [(8,[oS A40 ([] : List Int) c41,.one (.vec 5039),oI (0 : Int),oI (0 : Int)])] [(5039,vI 3 1 ([] : List Int))] M42) ?_
   refine T_turn (turn_pubV 5039 (v:=vI 3 1 ([] : List Int)) (by kernel_rfl)) ?_
   rintro _ ⟨A43,c44,M45,rfl,hSA43,hcA43,-,hNA43,hM45⟩
   have fA43 : SlI M45 A43 c44 .i64 ([] : List Int) := ⟨hSA43,hcA43⟩
   refine KG (S4 [(8,lO 8),(9,vi v36)] [(8,[oS A40 ([] : List Int) c41,oS A43 ([] : List Int) c44,oI (0 : Int),oI (0 : Int)])] [] M45) ?_
   refine RT (thenQ_r ?_)
   obtain rfl := sj h
   refine FT (.tup [(none,[oS A40 ([] : List Int) c41,oS A43 ([] : List Int) c44,oI (0 : Int),oI (0 : Int)]),(some (.v (.int .i64 v36)),[])]) ?_
   exact ⟨A40,c41,A43,c44,rfl,(fA40.le hM45),fA43⟩
  | false =>
   replace h := sp_f h
   refine CF ?_
   refine KS [(4,lO 4),(6,lO 6),(7,lP b7),(8,lO 8),(10,lP b22)] ?_
   refine SN ?_
   refine T_turn (turn_tie 6 (c:=[oI u2]) (by kernel_rfl)) ?_
   rintro _ ⟨b46,rfl,-,-⟩
   refine SQ (RG ?_)
   refine SG 3 { σ := [(4,lO 4),(6,lO 6),(7,lP b7),(8,lO 8),(10,lP b22),(41,vi (u0_2.length : Int))],H := [(4,[oI u0_0,oS Au0_1 u0_1 cu0_1,oS Au0_2 u0_2 cu0_2]),(6,[oI u2]),(8,[.one (.vec 5005),.one (.vec 5006),oI (0 : Int),oI (0 : Int)])],V := [(5005,vI 3 1 ([] : List Int)),(5006,vI 3 1 ([] : List Int))],M := M35,ds := [],ats := [(6,b46)] } ?_
   obtain ⟨v47,c_v47,h⟩ := cl_some h
   refine TI_of (i:=3) (by kernel_rfl) (TE_callR (d:=42) (f:=73) (args:=[rval (vi (u0_2.length : Int))]) (by kernel_rfl) (by kernel_rfl) (w73 k  c_v47) ?_)
   rintro _ M49 _ hM49 _ ⟨lb48,rfl,flb48⟩
   refine SG 4 { σ := [(4,lO 4),(6,lO 6),(7,lP b7),(8,lO 8),(10,lP b22),(42,.lf (.v (.func (.func 120) #[] (List.toArray lb48))))],H := [(4,[oI u0_0,oS Au0_1 u0_1 cu0_1,oS Au0_2 u0_2 cu0_2]),(6,[oI u2]),(8,[.one (.vec 5005),.one (.vec 5006),oI (0 : Int),oI (0 : Int)])],V := [(5005,vI 3 1 ([] : List Int)),(5006,vI 3 1 ([] : List Int))],M := M49,ds := [],ats := [(6,b46)] } ?_
   refine TI_turn (turn_at 6 (n:=6) (b:=b46) (off:=0) (by kernel_rfl) (by kernel_rfl)) ?_
   rintro _ rfl
   refine SG 5 { σ := [(4,lO 4),(6,lP b46),(7,lP b7),(8,lO 8),(10,lP b22),(42,.lf (.v (.func (.func 120) #[] (List.toArray lb48)))),(43,.lf (.v (.func (.func 74) #[] #[(.pointer (some ⟨b22,0,none⟩)),(.pointer (some ⟨b7,0,none⟩)),(.pointer (some ⟨b46,0,none⟩))])))],H := [(4,[oI u0_0,oS Au0_1 u0_1 cu0_1,oS Au0_2 u0_2 cu0_2]),(6,[oI u2]),(8,[.one (.vec 5005),.one (.vec 5006),oI (0 : Int),oI (0 : Int)])],V := [(5005,vI 3 1 ([] : List Int)),(5006,vI 3 1 ([] : List Int))],M := M49,ds := [],ats := [(6,b46)] } ?_
   refine TI_turn (turn_back 6 (n:=6) (b:=b46) (off:=0) (by kernel_rfl) (by kernel_rfl)) ?_
   rintro _ rfl
   obtain ⟨v50,v51,v52,c_v50,h⟩ := cl3_some h
   refine TI_of (i:=5) (by kernel_rfl) (TE_lendT (d:=44) (f:=72) 6 b46 (c:=[oI u2]) (args:=[rval (.lf (.v (.func (.func 120) #[] (List.toArray lb48)))),rval (.lf (.v (.func (.func 74) #[] #[(.pointer (some ⟨b22,0,none⟩)),(.pointer (some ⟨b7,0,none⟩)),(.pointer (some ⟨b46,0,none⟩))])))]) (by kernel_rfl) (by kernel_rfl) (by kernel_rfl) (by kernel_rfl) (by kernel_rfl) (fun hb0 => w72a k (flb48.le (addM_le hb0)) ((((fA14.le hM23).le hM35).le hM49).le (addM_le hb0)) ((((fA16.le hM23).le hM35).le hM49).le (addM_le hb0)) g20 ((addM_le hb0) _ _ (hM49 _ _ (hM35 _ _ fb22))) ((addM_le hb0) _ _ (hM49 _ _ (hM35 _ _ (hM23 _ _ (hM21 _ _ fb7))))) (addM_at _ _ _) c_v50) ?_)
   rintro _ M53 M54 hb0 - e_M54 hM54 ⟨rfl⟩ -
   refine SG 13 { σ := [(4,lO 4),(6,lO 6),(7,lP b7),(8,lO 8),(10,lP b22),(13,.lf (.v (.int .u64 v50))),(14,vi v51),(15,vb v52)],H := [(4,[oI u0_0,oS Au0_1 u0_1 cu0_1,oS Au0_2 u0_2 cu0_2]),(6,[oI u2]),(8,[.one (.vec 5005),.one (.vec 5006),oI (0 : Int),oI (0 : Int)])],V := [(5005,vI 3 1 ([] : List Int)),(5006,vI 3 1 ([] : List Int))],M := M54,ds := [],ats := [(6,b46)] } ?_
   refine EN (SQ (SQ (RG ?_)))
   refine SS 2 [(4,lO 4),(6,lO 6),(7,lP b7),(8,lO 8),(10,lP b22),(13,.lf (.v (.int .u64 v50))),(14,vi v51),(49,vb (!v52))] ?_
   refine EN ?_
   cases v52 with
   | true =>
    replace h := sp_t h
    refine CF ?_
    refine KS [(4,lO 4),(6,lO 6),(7,lP b7),(8,lO 8),(10,lP b22),(13,.lf (.v (.int .u64 v50))),(14,vi v51)] ?_
    refine SN (SQ (RG ?_))
    refine SS 1 [(4,lO 4),(6,lO 6),(7,lP b7),(8,lO 8),(10,lP b22),(13,.lf (.v (.int .u64 v50))),(14,vi v51),(51,.lf (.v (.int .u64 v50)))] ?_
    obtain ⟨v55,c_v55,h⟩ := cl_some h
    refine TI_of (i:=1) (by kernel_rfl) (TE_callR (d:=52) (f:=79) (args:=[rval (.lf (.v (.int .u64 v50)))]) (by kernel_rfl) (by kernel_rfl) (w79 k  c_v55) ?_)
    rintro _ M57 _ hM57 _ ⟨lb56,rfl,flb56⟩
    obtain ⟨v58,c_v58,h⟩ := cl_some h
    refine TI_of (i:=2) (by kernel_rfl) (TE_callR (d:=53) (f:=78) (args:=[rval (.lf (.v (.func (.func 124) #[] (List.toArray lb56))))]) (by kernel_rfl) (by kernel_rfl) (w78 k flb56 c_v58) ?_)
    rintro _ M61 _ hM61 _ ⟨A59,c60,rfl,fA59⟩
    refine SG 7 { σ := [(4,lO 4),(6,lO 6),(7,lP b7),(8,lO 8),(10,lP b22),(13,.lf (.v (.int .u64 v50))),(16,lO 16)],H := [(4,[oI u0_0,oS Au0_1 u0_1 cu0_1,oS Au0_2 u0_2 cu0_2]),(6,[oI u2]),(8,[.one (.vec 5005),.one (.vec 5006),oI (0 : Int),oI (0 : Int)]),(16,[oS none ([] : List Int) 0,oS A59 v58 c60,oI v51,oI (0 : Int)])],V := [(5005,vI 3 1 ([] : List Int)),(5006,vI 3 1 ([] : List Int))],M := M61,ds := [],ats := [(6,b46)] } ?_
    refine EN ?_
    refine T_turn (turn_nil 5062 3 1 [(4,lO 4),(6,lO 6),(7,lP b7),(8,lO 8),(10,lP b22),(13,.lf (.v (.int .u64 v50))),(16,lO 16)] [(4,[oI u0_0,oS Au0_1 u0_1 cu0_1,oS Au0_2 u0_2 cu0_2]),(6,[oI u2]),(8,[.one (.vec 5005),.one (.vec 5006),oI (0 : Int),oI (0 : Int)]),(16,[.one (.vec 5062),oS A59 v58 c60,oI v51,oI (0 : Int)])] (by kernel_rfl) (by kernel_rfl) (by kernel_rfl)) ?_
    rintro _ rfl
    refine KG { σ := [(4,lO 4),(6,lO 6),(7,lP b7),(8,lO 8),(10,lP b22),(13,.lf (.v (.int .u64 v50))),(16,lO 16)],H := [(4,[oI u0_0,oS Au0_1 u0_1 cu0_1,oS Au0_2 u0_2 cu0_2]),(6,[oI u2]),(8,[.one (.vec 5005),.one (.vec 5006),oI (0 : Int),oI (0 : Int)]),(16,[.one (.vec 5062),oS A59 v58 c60,oI v51,oI (0 : Int)])],V := [(5005,vI 3 1 ([] : List Int)),(5006,vI 3 1 ([] : List Int)),(5062,vI 3 1 ([] : List Int))],M := M61,ds := [],ats := [(6,b46)] } ?_
    refine SQ ?_
    obtain ⟨v63,c_v63,h⟩ := cl_some h
    obtain ⟨v67,c_v67,h⟩ := cl_some h
    refine T_drawT (id:=11) 4 [4,5,6,7] [[],[],[],[],[],[],[],[]] (by kernel_rfl) (by kernel_rfl) (by kernel_rfl) (by kernel_rfl) [(56,.agg [oI v9,oS A14 v10 c15,oS A16 v11 c17,.arr .i64 6 v12]),(57,vi u3),(58,.agg [oI v9,oS A14 v10 c15,oS A16 v11 c17,.arr .i64 6 v12]),(59,.lf (.v (.int .u64 v50)))] (by kernel_rfl) ⟨⟨rfl,⟨rfl,⟨rfl,⟨g20,trivial⟩⟩⟩⟩,⟨trivial,⟨⟨rfl,⟨rfl,⟨rfl,⟨g20,trivial⟩⟩⟩⟩,⟨trivial,trivial⟩⟩⟩⟩ ?_
    refine StageT_cons [4,6] (stageT_all [3] [0,1,2] (by kernel_rfl) (by kernel_rfl) (by kernel_rfl) ⟨QF_at (i:=0) (d:=56) (x:=.agg [oI v9,oS A14 v10 c15,oS A16 v11 c17,.arr .i64 6 v12]) (show OpAt _ _ _ 0 56 _ from by exact At_ldPR (d:=56) (b:=b22) (off:=0) (m:=9) (c:=[oI v9,oS A14 v10 c15,oS A16 v11 c17,.arr .i64 6 v12]) (by kernel_rfl) (by kernel_rfl) (sgCells_length ⟨rfl,⟨rfl,⟨rfl,⟨g20,trivial⟩⟩⟩⟩) (cells_blk (m:=9) (hM61 _ _ (hM57 _ _ (hM54 _ _ (hM49 _ _ (hM35 _ _ fb22))))) ⟨rfl,⟨rfl,⟨rfl,⟨g20,trivial⟩⟩⟩⟩ (by kernel_rfl) rfl)) (by kernel_rfl) (by kernel_rfl),⟨QF_at (i:=1) (d:=57) (x:=vi u3) (show OpAt _ _ _ 1 57 _ from by exact At_ldP (d:=57) (b:=b7) (off:=0) (m:=1) (v:=(.int .i64 u3)) (by kernel_rfl) (cell_blk (hM61 _ _ (hM57 _ _ (hM54 _ _ (hM49 _ _ (hM35 _ _ (hM23 _ _ (hM21 _ _ fb7))))))) ⟨rfl,trivial⟩ (by kernel_rfl))) (by kernel_rfl) (by kernel_rfl),⟨QF_at (i:=2) (d:=58) (x:=.agg [oI v9,oS A14 v10 c15,oS A16 v11 c17,.arr .i64 6 v12]) (show OpAt _ _ _ 2 58 _ from by exact At_ldPR (d:=58) (b:=b22) (off:=0) (m:=9) (c:=[oI v9,oS A14 v10 c15,oS A16 v11 c17,.arr .i64 6 v12]) (by kernel_rfl) (by kernel_rfl) (sgCells_length ⟨rfl,⟨rfl,⟨rfl,⟨g20,trivial⟩⟩⟩⟩) (cells_blk (m:=9) (hM61 _ _ (hM57 _ _ (hM54 _ _ (hM49 _ _ (hM35 _ _ fb22))))) ⟨rfl,⟨rfl,⟨rfl,⟨g20,trivial⟩⟩⟩⟩ (by kernel_rfl) rfl)) (by kernel_rfl) (by kernel_rfl),trivial⟩⟩⟩) (by kernel_rfl) (by kernel_rfl) ⟨?_,?_,trivial⟩
    ·refine TE_callR (d:=60) (f:=76) (args:=[rval (.agg [oI v9,oS A14 v10 c15,oS A16 v11 c17,.arr .i64 6 v12]),rval (.lf (.v (.int .u64 v50)))]) (by kernel_rfl) (by kernel_rfl) (w76 k ((((((fA14.le hM23).le hM35).le hM49).le hM54).le hM57).le hM61) ((((((fA16.le hM23).le hM35).le hM49).le hM54).le hM57).le hM61) g20 c_v63) ?_
     rintro _ M66 _ hM66 _ ⟨b64,b65,rfl,fb64,fb65⟩
     refine TL_nil (stageTQ_of [] (by kernel_rfl) trivial ?_)
     refine StageT_cons [5,6] (stageT_all [] [0,1] (by kernel_rfl) (by kernel_rfl) (by kernel_rfl) ⟨QF_at (i:=0) (d:=56) (x:=.agg [oI v9,oS A14 v10 c15,oS A16 v11 c17,.arr .i64 6 v12]) (show OpAt _ _ _ 0 56 _ from by exact At_ldPR (d:=56) (b:=b22) (off:=0) (m:=9) (c:=[oI v9,oS A14 v10 c15,oS A16 v11 c17,.arr .i64 6 v12]) (by kernel_rfl) (by kernel_rfl) (sgCells_length ⟨rfl,⟨rfl,⟨rfl,⟨g20,trivial⟩⟩⟩⟩) (cells_blk (m:=9) (hM66 _ _ (hM61 _ _ (hM57 _ _ (hM54 _ _ (hM49 _ _ (hM35 _ _ fb22)))))) ⟨rfl,⟨rfl,⟨rfl,⟨g20,trivial⟩⟩⟩⟩ (by kernel_rfl) rfl)) (by kernel_rfl) (by kernel_rfl),⟨QF_at (i:=1) (d:=57) (x:=vi u3) (show OpAt _ _ _ 1 57 _ from by exact At_ldP (d:=57) (b:=b7) (off:=0) (m:=1) (v:=(.int .i64 u3)) (by kernel_rfl) (cell_blk (hM66 _ _ (hM61 _ _ (hM57 _ _ (hM54 _ _ (hM49 _ _ (hM35 _ _ (hM23 _ _ (hM21 _ _ fb7)))))))) ⟨rfl,trivial⟩ (by kernel_rfl))) (by kernel_rfl) (by kernel_rfl),trivial⟩⟩) (by kernel_rfl) (by kernel_rfl) ⟨?_,?_,trivial⟩
     ·refine TE_callR (d:=61) (f:=75) (args:=[rval (.agg [oI v9,oS A14 v10 c15,oS A16 v11 c17,.arr .i64 6 v12]),rval (vi u3),rval (vb true),rval (.lf (.v (.func (.func 122) #[] #[(.pointer (some ⟨b64,0,none⟩)),(.pointer (some ⟨b65,0,none⟩))])))]) (by kernel_rfl) (by kernel_rfl) (w75a k (((((((fA14.le hM23).le hM35).le hM49).le hM54).le hM57).le hM61).le hM66) (((((((fA16.le hM23).le hM35).le hM49).le hM54).le hM57).le hM61).le hM66) g20 (((((((fA14.le hM23).le hM35).le hM49).le hM54).le hM57).le hM61).le hM66) (((((((fA16.le hM23).le hM35).le hM49).le hM54).le hM57).le hM61).le hM66) g20 fb64 fb65 c_v67) ?_
      rintro _ M70 _ hM70 _ ⟨A68,c69,rfl,fA68⟩
      refine TL_nil (stageTQ_of [] (by kernel_rfl) trivial ?_)
      refine StageT_cons [6] (stageT_all [] [] (by kernel_rfl) (by kernel_rfl) (by kernel_rfl) trivial) (by kernel_rfl) (by kernel_rfl) ⟨?_,trivial⟩
      ·refine StepT_ex ({ σ := [(17,lO 17),(61,lS A68 v67 c69),(60,.lf (.v (.func (.func 122) #[] #[(.pointer (some ⟨b64,0,none⟩)),(.pointer (some ⟨b65,0,none⟩))]))),(56,.agg [oI v9,oS A14 v10 c15,oS A16 v11 c17,.arr .i64 6 v12]),(57,vi u3),(58,.agg [oI v9,oS A14 v10 c15,oS A16 v11 c17,.arr .i64 6 v12]),(59,.lf (.v (.int .u64 v50))),(4,lO 4),(6,lO 6),(7,lP b7),(8,lO 8),(10,lP b22),(13,.lf (.v (.int .u64 v50))),(16,lO 16)],H := [(17,[oS none ([] : List Int) 0]),(4,[oI u0_0,oS Au0_1 u0_1 cu0_1,oS Au0_2 u0_2 cu0_2]),(6,[oI u2]),(8,[.one (.vec 5005),.one (.vec 5006),oI (0 : Int),oI (0 : Int)]),(16,[.one (.vec 5062),oS A59 v58 c60,oI v51,oI (0 : Int)])],V := [(5005,vI 3 1 ([] : List Int)),(5006,vI 3 1 ([] : List Int)),(5062,vI 3 1 ([] : List Int))],M := M70,ds := [],ats := [(6,b46)] }) (by kernel_rfl) [] (by kernel_rfl) trivial ?_
       refine StageT_cons [7] (stageT_all [] [] (by kernel_rfl) (by kernel_rfl) (by kernel_rfl) trivial) (by kernel_rfl) (by kernel_rfl) ⟨?_,trivial⟩
       ·refine StepT_ex ({ σ := [(17,lO 17),(61,lS A68 v67 c69),(60,.lf (.v (.func (.func 122) #[] #[(.pointer (some ⟨b64,0,none⟩)),(.pointer (some ⟨b65,0,none⟩))]))),(56,.agg [oI v9,oS A14 v10 c15,oS A16 v11 c17,.arr .i64 6 v12]),(57,vi u3),(58,.agg [oI v9,oS A14 v10 c15,oS A16 v11 c17,.arr .i64 6 v12]),(59,.lf (.v (.int .u64 v50))),(4,lO 4),(6,lO 6),(7,lP b7),(8,lO 8),(10,lP b22),(13,.lf (.v (.int .u64 v50))),(16,lO 16)],H := [(17,[oS A68 v67 c69]),(17,[oS none ([] : List Int) 0]),(4,[oI u0_0,oS Au0_1 u0_1 cu0_1,oS Au0_2 u0_2 cu0_2]),(6,[oI u2]),(8,[.one (.vec 5005),.one (.vec 5006),oI (0 : Int),oI (0 : Int)]),(16,[.one (.vec 5062),oS A59 v58 c60,oI v51,oI (0 : Int)])],V := [(5005,vI 3 1 ([] : List Int)),(5006,vI 3 1 ([] : List Int)),(5062,vI 3 1 ([] : List Int))],M := M70,ds := [],ats := [(6,b46)] }) (by kernel_rfl) [] (by kernel_rfl) trivial ?_
        refine StageT_leaf (stageT_all [] [] (by kernel_rfl) (by kernel_rfl) (by kernel_rfl) trivial) (by kernel_rfl) ?_
        refine thenQ_n ?_
        refine KG { σ := [(4,lO 4),(6,lO 6),(7,lP b7),(8,lO 8),(10,lP b22),(13,.lf (.v (.int .u64 v50))),(16,lO 16),(17,lO 17)],H := [(4,[oI u0_0,oS Au0_1 u0_1 cu0_1,oS Au0_2 u0_2 cu0_2]),(6,[oI u2]),(8,[.one (.vec 5005),.one (.vec 5006),oI (0 : Int),oI (0 : Int)]),(16,[.one (.vec 5062),oS A59 v58 c60,oI v51,oI (0 : Int)]),(17,[oS A68 v67 c69])],V := [(5005,vI 3 1 ([] : List Int)),(5006,vI 3 1 ([] : List Int)),(5062,vI 3 1 ([] : List Int))],M := M70,ds := [],ats := [(6,b46)] } ?_
        refine T_turn (turn_pubH 17 (c:=[oS A68 v67 c69]) (by kernel_rfl) (by kernel_rfl)) ?_
        rintro _ ⟨b71,M72,rfl,-,e_M72,-,hM72⟩
        have fb71 : MB M72 b71 [oS A68 v67 c69] := by rw [e_M72]; exact addM_at _ _ _
        refine KG { σ := [(4,lO 4),(6,lO 6),(7,lP b7),(8,lO 8),(10,lP b22),(13,.lf (.v (.int .u64 v50))),(16,lO 16),(17,lP b71)],H := [(4,[oI u0_0,oS Au0_1 u0_1 cu0_1,oS Au0_2 u0_2 cu0_2]),(6,[oI u2]),(8,[.one (.vec 5005),.one (.vec 5006),oI (0 : Int),oI (0 : Int)]),(16,[.one (.vec 5062),oS A59 v58 c60,oI v51,oI (0 : Int)])],V := [(5005,vI 3 1 ([] : List Int)),(5006,vI 3 1 ([] : List Int)),(5062,vI 3 1 ([] : List Int))],M := M72,ds := [],ats := [(6,b46)] } ?_
        refine SQ ?_
        obtain ⟨j76,e_j76,h⟩ := jn_some h
        refine T_bcut (id:=0) (c1:=(sub [1,1,1,1,1,1,1,1,0,0] Bd28)) (fun s' => ∃ (x73 : Int) (L74 : List Int) (M75 : Mem),Sub { σ := [(8,lO 8),(16,lO 16)],H := [(8,[.one (.vec 5005),.one (.vec 5006),oI (0 : Int),oI (0 : Int)]),(16,[.one (.vec 5062),oS A59 v58 c60,oI v51,oI x73])],V := [(5005,vI 3 1 ([] : List Int)),(5006,vI 3 1 ([] : List Int)),(5062,vI 3 1 L74)],M := M75,ds := [],ats := [(6,b46)] } s' ∧ Mem.le M72 M75 ∧ j76 x73 L74 = some r) (by kernel_rfl) ?_ ?_
        ·refine T_loop (c1:=(sub [1,1,1,1,1,1,1,1,0,0,0] Bd28)) (by kernel_rfl) (fun n81 s' => ∃ (x77 : Int) (x78 : Int) (L79 : List Int) (M80 : Mem),Sub { σ := [(4,lO 4),(6,lO 6),(7,lP b7),(8,lO 8),(10,lP b22),(13,.lf (.v (.int .u64 v50))),(16,lO 16),(17,lP b71)],H := [(4,[oI u0_0,oS Au0_1 u0_1 cu0_1,oS Au0_2 u0_2 cu0_2]),(6,[oI x77]),(8,[.one (.vec 5005),.one (.vec 5006),oI (0 : Int),oI (0 : Int)]),(16,[.one (.vec 5062),oS A59 v58 c60,oI v51,oI x78])],V := [(5005,vI 3 1 ([] : List Int)),(5006,vI 3 1 ([] : List Int)),(5062,vI 3 1 L79)],M := M80,ds := [],ats := [(6,b46)] } s' ∧ Mem.le M72 M80 ∧ p28_l1 k u0_1 u3 j76 v9 v10 v11 v12 v50 v67 n81 x77 x78 L79 = some r) (k:=k) ⟨u2,(0 : Int),([] : List Int),M72,keep_sub (ts:=[4,6,7,8,10,13,16,17]) (hs:=[4,6,8,16]) (vs:=[5005,5006,5062]) (by kernel_rfl),(Mem.le_refl _),h⟩ ?_
         rintro n81 s' ⟨x77,x78,L79,M80,hsub,hM80,h⟩
         cases n81 with
         | zero => rw [p28_l1] at h;cases h
         | succ n81 =>
          rw [p28_l1] at h
          refine T_sub hsub ?_
          refine SQ (SQ (RG ?_))
          refine SG 1 { σ := [(4,lO 4),(6,lO 6),(7,lP b7),(8,lO 8),(10,lP b22),(13,.lf (.v (.int .u64 v50))),(16,lO 16),(17,lP b71),(62,vi x77)],H := [(4,[oI u0_0,oS Au0_1 u0_1 cu0_1,oS Au0_2 u0_2 cu0_2]),(6,[oI x77]),(8,[.one (.vec 5005),.one (.vec 5006),oI (0 : Int),oI (0 : Int)]),(16,[.one (.vec 5062),oS A59 v58 c60,oI v51,oI x78])],V := [(5005,vI 3 1 ([] : List Int)),(5006,vI 3 1 ([] : List Int)),(5062,vI 3 1 L79)],M := M80,ds := [],ats := [(6,b46)] } ?_
          refine AT 63 (vi u3) (At_ldP (b:=b7) (off:=0) (m:=1) (v:=(.int .i64 u3)) (by kernel_rfl) (cell_blk (hM80 _ _ (hM72 _ _ (hM70 _ _ (hM66 _ _ (hM61 _ _ (hM57 _ _ (hM54 _ _ (hM49 _ _ (hM35 _ _ (hM23 _ _ (hM21 _ _ fb7))))))))))) ⟨rfl,trivial⟩ (by kernel_rfl))) ?_
          obtain ⟨b82,e_b82,h⟩ := lt_some h
          refine SH 3 [(4,lO 4),(6,lO 6),(7,lP b7),(8,lO 8),(10,lP b22),(13,.lf (.v (.int .u64 v50))),(16,lO 16),(17,lP b71),(64,vb b82)] [(4,[oI u0_0,oS Au0_1 u0_1 cu0_1,oS Au0_2 u0_2 cu0_2]),(6,[oI x77]),(8,[.one (.vec 5005),.one (.vec 5006),oI (0 : Int),oI (0 : Int)]),(16,[.one (.vec 5062),oS A59 v58 c60,oI v51,oI x78])] ?_ (by subst e_b82;kernel_rfl)
          refine EN ?_
          cases b82 with
          | true =>
           replace h := sp_t h
           refine CT ?_
           refine KS [(4,lO 4),(6,lO 6),(7,lP b7),(8,lO 8),(10,lP b22),(13,.lf (.v (.int .u64 v50))),(16,lO 16),(17,lP b71)] ?_
           refine SN (BK 1 (SQ (RG ?_)))
           refine SS 2 [(4,lO 4),(6,lO 6),(7,lP b7),(8,lO 8),(10,lP b22),(13,.lf (.v (.int .u64 v50))),(16,lO 16),(17,lP b71),(66,lS Au0_1 u0_1 cu0_1)] ?_
           refine TI_turn (turn_at 6 (n:=6) (b:=b46) (off:=0) (by kernel_rfl) (by kernel_rfl)) ?_
           rintro _ rfl
           refine SG 3 { σ := [(4,lO 4),(6,lP b46),(7,lP b7),(8,lO 8),(10,lP b22),(13,.lf (.v (.int .u64 v50))),(16,lO 16),(17,lP b71),(66,lS Au0_1 u0_1 cu0_1),(67,.lf (.v (.func (.func 81) #[] #[(.pointer (some ⟨b46,0,none⟩)),(.pointer (some ⟨b71,0,none⟩))])))],H := [(4,[oI u0_0,oS Au0_1 u0_1 cu0_1,oS Au0_2 u0_2 cu0_2]),(6,[oI x77]),(8,[.one (.vec 5005),.one (.vec 5006),oI (0 : Int),oI (0 : Int)]),(16,[.one (.vec 5062),oS A59 v58 c60,oI v51,oI x78])],V := [(5005,vI 3 1 ([] : List Int)),(5006,vI 3 1 ([] : List Int)),(5062,vI 3 1 L79)],M := M80,ds := [],ats := [(6,b46)] } ?_
           refine TI_turn (turn_back 6 (n:=6) (b:=b46) (off:=0) (by kernel_rfl) (by kernel_rfl)) ?_
           rintro _ rfl
           obtain ⟨v83,c_v83,h⟩ := cl_some h
           refine TI_of (i:=3) (by kernel_rfl) (TE_lendT (d:=68) (f:=80) 6 b46 (c:=[oI x77]) (args:=[rval (lS Au0_1 u0_1 cu0_1),rval (.lf (.v (.func (.func 81) #[] #[(.pointer (some ⟨b46,0,none⟩)),(.pointer (some ⟨b71,0,none⟩))])))]) (by kernel_rfl) (by kernel_rfl) (by kernel_rfl) (by kernel_rfl) (by kernel_rfl) (fun hb0 => w80a k (((((((((((((hu0_1.le hM8).le hM21).le hM23).le hM35).le hM49).le hM54).le hM57).le hM61).le hM66).le hM70).le hM72).le hM80).le (addM_le hb0)) (addM_at _ _ _) (((fA68.le hM72).le hM80).le (addM_le hb0)) ((addM_le hb0) _ _ (hM80 _ _ fb71)) c_v83) ?_)
           rintro _ M84 M85 hb0 - e_M85 hM85 ⟨rfl⟩ -
           refine SG 5 { σ := [(4,lO 4),(6,lO 6),(7,lP b7),(8,lO 8),(10,lP b22),(13,.lf (.v (.int .u64 v50))),(16,lO 16),(17,lP b71),(18,vi v83)],H := [(4,[oI u0_0,oS Au0_1 u0_1 cu0_1,oS Au0_2 u0_2 cu0_2]),(6,[oI x77]),(8,[.one (.vec 5005),.one (.vec 5006),oI (0 : Int),oI (0 : Int)]),(16,[.one (.vec 5062),oS A59 v58 c60,oI v51,oI x78])],V := [(5005,vI 3 1 ([] : List Int)),(5006,vI 3 1 ([] : List Int)),(5062,vI 3 1 L79)],M := M85,ds := [],ats := [(6,b46)] } ?_
           refine EN (SQ ?_)
           obtain ⟨j88,e_j88,h⟩ := jn_some h
           refine T_bcut (id:=2) (c1:=(sub [1,1,1,1,1,1,1,1,0,0,0,1,0,1,0,0] Bd28)) (fun s' => ∃ (x86 : Int) (M87 : Mem),Sub { σ := [(4,lO 4),(6,lO 6),(7,lP b7),(8,lO 8),(10,lP b22),(13,.lf (.v (.int .u64 v50))),(16,lO 16),(17,lP b71),(18,vi x86)],H := [(4,[oI u0_0,oS Au0_1 u0_1 cu0_1,oS Au0_2 u0_2 cu0_2]),(6,[oI x77]),(8,[.one (.vec 5005),.one (.vec 5006),oI (0 : Int),oI (0 : Int)]),(16,[.one (.vec 5062),oS A59 v58 c60,oI v51,oI x78])],V := [(5005,vI 3 1 ([] : List Int)),(5006,vI 3 1 ([] : List Int)),(5062,vI 3 1 L79)],M := M87,ds := [],ats := [(6,b46)] } s' ∧ Mem.le M85 M87 ∧ j88 x86 = some r) (by kernel_rfl) ?_ ?_
           ·refine T_loop (c1:=(sub [1,1,1,1,1,1,1,1,0,0,0,1,0,1,0,0,0] Bd28)) (by kernel_rfl) (fun n91 s' => ∃ (x89 : Int) (M90 : Mem),Sub { σ := [(4,lO 4),(6,lO 6),(7,lP b7),(8,lO 8),(10,lP b22),(13,.lf (.v (.int .u64 v50))),(16,lO 16),(17,lP b71),(18,vi x89)],H := [(4,[oI u0_0,oS Au0_1 u0_1 cu0_1,oS Au0_2 u0_2 cu0_2]),(6,[oI x77]),(8,[.one (.vec 5005),.one (.vec 5006),oI (0 : Int),oI (0 : Int)]),(16,[.one (.vec 5062),oS A59 v58 c60,oI v51,oI x78])],V := [(5005,vI 3 1 ([] : List Int)),(5006,vI 3 1 ([] : List Int)),(5062,vI 3 1 L79)],M := M90,ds := [],ats := [(6,b46)] } s' ∧ Mem.le M85 M90 ∧ p28_l2 k u0_1 x77 j88 v9 v10 v11 v12 v50 v67 n91 x89 = some r) (k:=k) ⟨v83,M85,keep_sub (ts:=[4,6,7,8,10,13,16,17,18]) (hs:=[4,6,8,16]) (vs:=[5005,5006,5062]) (by kernel_rfl),(Mem.le_refl _),h⟩ ?_
            rintro n91 s' ⟨x89,M90,hsub,hM90,h⟩
            cases n91 with
            | zero => rw [p28_l2] at h;cases h
            | succ n91 =>
             rw [p28_l2] at h
             refine T_sub hsub ?_
             refine SQ (SQ (RG ?_))
             refine AT 69 (.agg [oI v9,oS A14 v10 c15,oS A16 v11 c17,.arr .i64 6 v12]) (At_ldPR (b:=b22) (off:=0) (m:=9) (c:=[oI v9,oS A14 v10 c15,oS A16 v11 c17,.arr .i64 6 v12]) (by kernel_rfl) (by kernel_rfl) (sgCells_length ⟨rfl,⟨rfl,⟨rfl,⟨g20,trivial⟩⟩⟩⟩) (cells_blk (m:=9) (hM90 _ _ (hM85 _ _ (hM80 _ _ (hM72 _ _ (hM70 _ _ (hM66 _ _ (hM61 _ _ (hM57 _ _ (hM54 _ _ (hM49 _ _ (hM35 _ _ fb22))))))))))) ⟨rfl,⟨rfl,⟨rfl,⟨g20,trivial⟩⟩⟩⟩ (by kernel_rfl) rfl)) ?_ (hx:=⟨rfl,⟨rfl,⟨rfl,⟨g20,trivial⟩⟩⟩⟩)
             refine SG 3 { σ := [(4,lO 4),(6,lO 6),(7,lP b7),(8,lO 8),(10,lP b22),(13,.lf (.v (.int .u64 v50))),(16,lO 16),(17,lP b71),(18,vi x89),(69,.agg [oI v9,oS A14 v10 c15,oS A16 v11 c17,.arr .i64 6 v12]),(70,.lf (.v (.int .u64 v50))),(71,vi x89)],H := [(4,[oI u0_0,oS Au0_1 u0_1 cu0_1,oS Au0_2 u0_2 cu0_2]),(6,[oI x77]),(8,[.one (.vec 5005),.one (.vec 5006),oI (0 : Int),oI (0 : Int)]),(16,[.one (.vec 5062),oS A59 v58 c60,oI v51,oI x78])],V := [(5005,vI 3 1 ([] : List Int)),(5006,vI 3 1 ([] : List Int)),(5062,vI 3 1 L79)],M := M90,ds := [],ats := [(6,b46)] } ?_
             obtain ⟨v92,c_v92,h⟩ := cl_some h
             refine AC 72 (vb v92) (w55 k ((((((((((((fA14.le hM23).le hM35).le hM49).le hM54).le hM57).le hM61).le hM66).le hM70).le hM72).le hM80).le hM85).le hM90) ((((((((((((fA16.le hM23).le hM35).le hM49).le hM54).le hM57).le hM61).le hM66).le hM70).le hM72).le hM80).le hM85).le hM90) g20 c_v92) ?_
             refine SH 5 [(4,lO 4),(6,lO 6),(7,lP b7),(8,lO 8),(10,lP b22),(13,.lf (.v (.int .u64 v50))),(16,lO 16),(17,lP b71),(18,vi x89),(73,vb (!v92))] [(4,[oI u0_0,oS Au0_1 u0_1 cu0_1,oS Au0_2 u0_2 cu0_2]),(6,[oI x77]),(8,[.one (.vec 5005),.one (.vec 5006),oI (0 : Int),oI (0 : Int)]),(16,[.one (.vec 5062),oS A59 v58 c60,oI v51,oI x78])] ?_
             refine EN ?_
             cases v92 with
             | true =>
              replace h := sp_t h
              refine CF ?_
              refine KS [(4,lO 4),(6,lO 6),(7,lP b7),(8,lO 8),(10,lP b22),(13,.lf (.v (.int .u64 v50))),(16,lO 16),(17,lP b71),(18,vi x89)] ?_
              refine XI 2 (thenQ_x (thenQ_x (blockQ_x (thenQ_n ?_))))
              exact ⟨x89,M90,keep_sub (ts:=[4,6,7,8,10,13,16,17,18]) (hs:=[4,6,8,16]) (vs:=[5005,5006,5062]) (by kernel_rfl),(Mem.le_trans (Mem.le_refl _) hM90),h⟩
             | false =>
              replace h := sp_f h
              refine CT ?_
              refine KS [(4,lO 4),(6,lO 6),(7,lP b7),(8,lO 8),(10,lP b22),(13,.lf (.v (.int .u64 v50))),(16,lO 16),(17,lP b71),(18,vi x89)] ?_
              refine SN (BK 3 (RG ?_))
              obtain ⟨x93,e_x93,h⟩ := lt_some h
              refine SS 5 [(4,lO 4),(6,lO 6),(7,lP b7),(8,lO 8),(10,lP b22),(13,.lf (.v (.int .u64 v50))),(16,lO 16),(17,lP b71),(74,vi x89),(76,lS Au0_1 u0_1 cu0_1),(78,vi x93)] ?_ (by subst e_x93;kernel_rfl)
              obtain ⟨g94,h⟩ := gd_some h
              obtain ⟨P95,e_P95,h⟩ := lt_some h
              refine AT 79 (lS (cutA Au0_1 cu0_1 ((x93).toNat) 12) P95 (cu0_1 - (x93).toNat)) (At_slR (a:=(some x93)) (b:=none) (P:=P95) (by subst e_P95;kernel_rfl) ((((((((((((((hu0_1.le hM8).le hM21).le hM23).le hM35).le hM49).le hM54).le hM57).le hM61).le hM66).le hM70).le hM72).le hM80).le hM85).le hM90) (some_nn g94.1) none_nn g94.2.2.1 g94.2.2.2 e_P95) ?_
              refine SH 6 [(4,lO 4),(6,lO 6),(7,lP b7),(8,lO 8),(10,lP b22),(13,.lf (.v (.int .u64 v50))),(16,lO 16),(17,lP b71),(74,vi x89),(79,lS (cutA Au0_1 cu0_1 ((x93).toNat) 12) P95 (cu0_1 - (x93).toNat))] [(4,[oI u0_0,oS Au0_1 u0_1 cu0_1,oS Au0_2 u0_2 cu0_2]),(6,[oI x77]),(8,[.one (.vec 5005),.one (.vec 5006),oI (0 : Int),oI (0 : Int)]),(16,[.one (.vec 5062),oS A59 v58 c60,oI v51,oI x78])] ?_
              refine TI_turn (turn_at 6 (n:=6) (b:=b46) (off:=0) (by kernel_rfl) (by kernel_rfl)) ?_
              rintro _ rfl
              refine SG 7 { σ := [(4,lO 4),(6,lP b46),(7,lP b7),(8,lO 8),(10,lP b22),(13,.lf (.v (.int .u64 v50))),(16,lO 16),(17,lP b71),(74,vi x89),(79,lS (cutA Au0_1 cu0_1 ((x93).toNat) 12) P95 (cu0_1 - (x93).toNat)),(80,.lf (.v (.func (.func 82) #[] #[(.pointer (some ⟨b46,0,none⟩)),(.pointer (some ⟨b71,0,none⟩))])))],H := [(4,[oI u0_0,oS Au0_1 u0_1 cu0_1,oS Au0_2 u0_2 cu0_2]),(6,[oI x77]),(8,[.one (.vec 5005),.one (.vec 5006),oI (0 : Int),oI (0 : Int)]),(16,[.one (.vec 5062),oS A59 v58 c60,oI v51,oI x78])],V := [(5005,vI 3 1 ([] : List Int)),(5006,vI 3 1 ([] : List Int)),(5062,vI 3 1 L79)],M := M90,ds := [],ats := [(6,b46)] } ?_
              refine TI_turn (turn_back 6 (n:=6) (b:=b46) (off:=0) (by kernel_rfl) (by kernel_rfl)) ?_
              rintro _ rfl
              obtain ⟨v96,c_v96,h⟩ := cl_some h
              refine TI_of (i:=7) (by kernel_rfl) (TE_lendT (d:=81) (f:=80) 6 b46 (c:=[oI x77]) (args:=[rval (lS (cutA Au0_1 cu0_1 ((x93).toNat) 12) P95 (cu0_1 - (x93).toNat)),rval (.lf (.v (.func (.func 82) #[] #[(.pointer (some ⟨b46,0,none⟩)),(.pointer (some ⟨b71,0,none⟩))])))]) (by kernel_rfl) (by kernel_rfl) (by kernel_rfl) (by kernel_rfl) (by kernel_rfl) (fun hb0 => w80b k ((SlR.part ((((((((((((((hu0_1.le hM8).le hM21).le hM23).le hM35).le hM49).le hM54).le hM57).le hM61).le hM66).le hM70).le hM72).le hM80).le hM85).le hM90) e_P95 g94.2.2.1 g94.2.2.2).le (addM_le hb0)) (addM_at _ _ _) (((((fA68.le hM72).le hM80).le hM85).le hM90).le (addM_le hb0)) ((addM_le hb0) _ _ (hM90 _ _ (hM85 _ _ (hM80 _ _ fb71)))) c_v96) ?_)
              rintro _ M97 M98 hb0 - e_M98 hM98 ⟨rfl⟩ -
              obtain ⟨x99,e_x99,h⟩ := lt_some h
              obtain ⟨x100,e_x100,h⟩ := lt_some h
              refine SG 11 { σ := [(4,lO 4),(6,lO 6),(7,lP b7),(8,lO 8),(10,lP b22),(13,.lf (.v (.int .u64 v50))),(16,lO 16),(17,lP b71),(18,vi x100)],H := [(4,[oI u0_0,oS Au0_1 u0_1 cu0_1,oS Au0_2 u0_2 cu0_2]),(6,[oI x77]),(8,[.one (.vec 5005),.one (.vec 5006),oI (0 : Int),oI (0 : Int)]),(16,[.one (.vec 5062),oS A59 v58 c60,oI v51,oI x78])],V := [(5005,vI 3 1 ([] : List Int)),(5006,vI 3 1 ([] : List Int)),(5062,vI 3 1 L79)],M := M98,ds := [],ats := [(6,b46)] } ?_ (by subst e_x100 e_x99;kernel_rfl)
              refine E0 (blockQ_n (thenQ_n ?_))
              exact ⟨n91,Nat.lt_succ_self _,x100,M98,keep_sub (ts:=[4,6,7,8,10,13,16,17,18]) (hs:=[4,6,8,16]) (vs:=[5005,5006,5062]) (by kernel_rfl),(Mem.le_trans (Mem.le_trans (Mem.le_refl _) hM90) hM98),h⟩
           ·rintro s' ⟨x86,M87,hsub,hM87,h⟩
            subst e_j88
            refine thenQ_n ?_
            refine T_sub hsub ?_
            refine SQ (RG ?_)
            refine SG 3 { σ := [(4,lO 4),(6,lO 6),(7,lP b7),(8,lO 8),(10,lP b22),(13,.lf (.v (.int .u64 v50))),(16,lO 16),(17,lP b71),(18,vi x86),(85,lV 5062),(86,vi x86)],H := [(4,[oI u0_0,oS Au0_1 u0_1 cu0_1,oS Au0_2 u0_2 cu0_2]),(6,[oI x77]),(8,[.one (.vec 5005),.one (.vec 5006),oI (0 : Int),oI (0 : Int)]),(16,[.one (.vec 5062),oS A59 v58 c60,oI v51,oI x78])],V := [(5005,vI 3 1 ([] : List Int)),(5006,vI 3 1 ([] : List Int)),(5062,vI 3 1 L79)],M := M87,ds := [],ats := [(6,b46)] } ?_
            refine TI_of (i:=3) (by kernel_rfl) (TE_litC (d:=87) (e:=3) (sz:=1) (len:=1) (cs:=ints .i64 ([x86])) (by kernel_rfl) (by kernel_rfl) (by kernel_rfl) ?_)
            obtain ⟨g101,h⟩ := gd_some h
            obtain ⟨W102,e_W102,h⟩ := lt_some h
            refine TI_of (i:=4) (by kernel_rfl) (TE_appC (d:=88) (e:=3) (sz:=1) (bytes:=8) (n:=5062) (x:=(.tmp 87)) (len:=List.length L79) (cs0:=ints .i64 L79) (cs2:=ints .i64 W102) (by subst e_W102;kernel_rfl) (by kernel_rfl) (by subst e_W102;kernel_rfl) (vecI_src (n:=87) (e:=3) (k:=.i64) (L:=[x86]) (by subst e_W102;kernel_rfl) (by subst e_W102;kernel_rfl)) g101 rfl (len_app_eq e_W102) (ints_app_eq e_W102) ?_)
            refine SG 7 { σ := [(4,lO 4),(6,lO 6),(7,lP b7),(8,lO 8),(10,lP b22),(13,.lf (.v (.int .u64 v50))),(16,lO 16),(17,lP b71),(18,vi x86)],H := [(4,[oI u0_0,oS Au0_1 u0_1 cu0_1,oS Au0_2 u0_2 cu0_2]),(6,[oI x77]),(8,[.one (.vec 5005),.one (.vec 5006),oI (0 : Int),oI (0 : Int)]),(16,[.one (.vec 88),oS A59 v58 c60,oI v51,oI x78])],V := [(88,vI 3 1 W102),(5005,vI 3 1 ([] : List Int)),(5006,vI 3 1 ([] : List Int))],M := M87,ds := [],ats := [(6,b46)] } ?_
            refine EN (SQ ?_)
            obtain ⟨g103,h⟩ := gd_some h
            obtain ⟨x104,e_x104,h⟩ := lt_some h
            obtain ⟨x105,e_x105,h⟩ := lt_some h
            refine T_draw' (id:=17) [10] [0,0,0,0,0,0,0,0,0,0,0] (by kernel_rfl) (by kernel_rfl) (by kernel_rfl) (by kernel_rfl) [(90,.lf (.own 16 3)),(91,vi x78),(92,.lf (.own 4 1)),(93,lS Au0_1 u0_1 cu0_1),(94,vi x86),(95,.lf (.ep (.slice Au0_1 (u0_1.length) cu0_1) 12 ((x86).toNat) 0)),(96,.lf (.ep (.slice Au0_1 (u0_1.length) cu0_1) 12 ((x86).toNat) 3)),(97,vi x104),(98,vi x105),(99,.lf (.own 16 3))] (by kernel_rfl) (wfs_lf _ (by kernel_rfl)) ?_
            refine Stage_ex (stage_all' [0,1,2,3,4,6,8,9] [5,7] (by kernel_rfl) (by subst e_x105 e_x104; kernel_rfl) (by kernel_rfl) ⟨QF_at (i:=5) (d:=95) (x:=.lf (.ep (.slice Au0_1 (u0_1.length) cu0_1) 12 ((x86).toNat) 0)) (show OpAt _ _ _ 5 95 _ from by exact At_idxR (d:=95) (z:=x86) (by subst e_x105 e_x104; kernel_rfl) g103 ((((((((((((((hu0_1.le hM8).le hM21).le hM23).le hM35).le hM49).le hM54).le hM57).le hM61).le hM66).le hM70).le hM72).le hM80).le hM85).le hM87)) (by kernel_rfl) (by subst e_x105 e_x104; kernel_rfl),⟨QF_at (i:=7) (d:=97) (x:=vi x104) (show OpAt _ _ _ 7 97 _ from by rw [e_x104]; exact At_ldR1 (d:=97) (q:=(x86).toNat) (j:=3) (by subst e_x105 e_x104; kernel_rfl) rfl (toNat_lt g103) ((((((((((((((hu0_1.le hM8).le hM21).le hM23).le hM35).le hM49).le hM54).le hM57).le hM61).le hM66).le hM70).le hM72).le hM80).le hM85).le hM87)) (by kernel_rfl) (by subst e_x105 e_x104; kernel_rfl),trivial⟩⟩) ({ σ := [(90,.lf (.own 16 3)),(91,vi x78),(92,.lf (.own 4 1)),(93,lS Au0_1 u0_1 cu0_1),(94,vi x86),(95,.lf (.ep (.slice Au0_1 (u0_1.length) cu0_1) 12 ((x86).toNat) 0)),(96,.lf (.ep (.slice Au0_1 (u0_1.length) cu0_1) 12 ((x86).toNat) 3)),(97,vi x104),(98,vi x105),(99,.lf (.own 16 3)),(4,lO 4),(6,lO 6),(7,lP b7),(8,lO 8),(10,lP b22),(13,.lf (.v (.int .u64 v50))),(16,lO 16),(17,lP b71),(18,vi x86)],H := [(16,[.one (.vec 88),oS A59 v58 c60,oI v51,oI x105]),(4,[oI u0_0,oS Au0_1 u0_1 cu0_1,oS Au0_2 u0_2 cu0_2]),(6,[oI x77]),(8,[.one (.vec 5005),.one (.vec 5006),oI (0 : Int),oI (0 : Int)]),(16,[.one (.vec 88),oS A59 v58 c60,oI v51,oI x78])],V := [(88,vI 3 1 W102),(5005,vI 3 1 ([] : List Int)),(5006,vI 3 1 ([] : List Int))],M := M87,ds := [],ats := [(6,b46)] }) (by subst e_x105 e_x104; kernel_rfl) [] (by kernel_rfl) trivial ?_
            refine Stage_nil (stage_all' [] [] (by kernel_rfl) (by subst e_x105 e_x104;kernel_rfl) (by kernel_rfl) trivial) ?_
            refine thenQ_n ?_
            refine KG { σ := [(4,lO 4),(6,lO 6),(7,lP b7),(8,lO 8),(10,lP b22),(13,.lf (.v (.int .u64 v50))),(16,lO 16),(17,lP b71),(18,vi x86)],H := [(4,[oI u0_0,oS Au0_1 u0_1 cu0_1,oS Au0_2 u0_2 cu0_2]),(6,[oI x77]),(8,[.one (.vec 5005),.one (.vec 5006),oI (0 : Int),oI (0 : Int)]),(16,[.one (.vec 88),oS A59 v58 c60,oI v51,oI x105])],V := [(88,vI 3 1 W102),(5005,vI 3 1 ([] : List Int)),(5006,vI 3 1 ([] : List Int))],M := M87,ds := [],ats := [(6,b46)] } ?_ (by subst e_x105 e_x104;kernel_rfl)
            refine RG ?_
            refine SS 3 [(4,lO 4),(6,lO 6),(7,lP b7),(8,lO 8),(10,lP b22),(13,.lf (.v (.int .u64 v50))),(16,lO 16),(17,lP b71),(101,lS Au0_1 u0_1 cu0_1),(102,vi x86)] ?_
            obtain ⟨g106,h⟩ := gd_some h
            refine AT 103 (.lf (.ep (.slice Au0_1 (u0_1.length) cu0_1) 12 ((x86).toNat) 0)) (At_idxR (z:=x86) (by kernel_rfl) g106 ((((((((((((((hu0_1.le hM8).le hM21).le hM23).le hM35).le hM49).le hM54).le hM57).le hM61).le hM66).le hM70).le hM72).le hM80).le hM85).le hM87)) ?_
            refine SH 5 [(4,lO 4),(6,lO 6),(7,lP b7),(8,lO 8),(10,lP b22),(13,.lf (.v (.int .u64 v50))),(16,lO 16),(17,lP b71),(104,.lf (.ep (.slice Au0_1 (u0_1.length) cu0_1) 12 ((x86).toNat) 1))] [(4,[oI u0_0,oS Au0_1 u0_1 cu0_1,oS Au0_2 u0_2 cu0_2]),(6,[oI x77]),(8,[.one (.vec 5005),.one (.vec 5006),oI (0 : Int),oI (0 : Int)]),(16,[.one (.vec 88),oS A59 v58 c60,oI v51,oI x105])] ?_
            obtain ⟨x107,e_x107,h⟩ := lt_some h
            refine AT 105 (vi x107) (by rw [e_x107]; exact At_ldR1 (q:=(x86).toNat) (j:=1) (by subst e_x107; kernel_rfl) rfl (toNat_lt g106) ((((((((((((((hu0_1.le hM8).le hM21).le hM23).le hM35).le hM49).le hM54).le hM57).le hM61).le hM66).le hM70).le hM72).le hM80).le hM85).le hM87)) ?_
            refine SH 7 [(4,lO 4),(6,lO 6),(7,lP b7),(8,lO 8),(10,lP b22),(13,.lf (.v (.int .u64 v50))),(16,lO 16),(17,lP b71)] [(4,[oI u0_0,oS Au0_1 u0_1 cu0_1,oS Au0_2 u0_2 cu0_2]),(6,[oI x107]),(8,[.one (.vec 5005),.one (.vec 5006),oI (0 : Int),oI (0 : Int)]),(16,[.one (.vec 88),oS A59 v58 c60,oI v51,oI x105])] ?_
            refine E0 (blockQ_n (thenQ_n ?_))
            exact ⟨n81,Nat.lt_succ_self _,x107,x105,W102,M87,Sub.trans (keep_sub (ts:=[4,6,7,8,10,13,16,17]) (hs:=[4,6,8,16]) (vs:=[5005,5006,5062]) (by kernel_rfl)) (Sub.trans (ren_sub 88 5062 (s':={ σ := [(4,lO 4),(6,lO 6),(7,lP b7),(8,lO 8),(10,lP b22),(13,.lf (.v (.int .u64 v50))),(16,lO 16),(17,lP b71)],H := [(4,[oI u0_0,oS Au0_1 u0_1 cu0_1,oS Au0_2 u0_2 cu0_2]),(6,[oI x107]),(8,[.one (.vec 5005),.one (.vec 5006),oI (0 : Int),oI (0 : Int)]),(16,[.one (.vec 5062),oS A59 v58 c60,oI v51,oI x105])],V := [(5062,vI 3 1 W102),(5005,vI 3 1 ([] : List Int)),(5006,vI 3 1 ([] : List Int))],M := M87,ds := [],ats := [(6,b46)] }) (by kernel_rfl) (by kernel_rfl)) (keep_sub (s':={ σ := [(4,lO 4),(6,lO 6),(7,lP b7),(8,lO 8),(10,lP b22),(13,.lf (.v (.int .u64 v50))),(16,lO 16),(17,lP b71)],H := [(4,[oI u0_0,oS Au0_1 u0_1 cu0_1,oS Au0_2 u0_2 cu0_2]),(6,[oI x107]),(8,[.one (.vec 5005),.one (.vec 5006),oI (0 : Int),oI (0 : Int)]),(16,[.one (.vec 88),oS A59 v58 c60,oI v51,oI x105])],V := [(88,vI 3 1 W102),(5005,vI 3 1 ([] : List Int)),(5006,vI 3 1 ([] : List Int))],M := M87,ds := [],ats := [(6,b46)] }) (ts:=[4,6,7,8,10,13,16,17]) (hs:=[4,6,8,16]) (vs:=[88,5005,5006]) (by kernel_rfl))),(Mem.le_trans (Mem.le_trans (Mem.le_trans (Mem.le_refl _) hM80) hM85) hM87),h⟩
          | false =>
           replace h := sp_f h
           refine CF ?_
           refine KP [(8,lO 8),(16,lO 16)] [(8,[.one (.vec 5005),.one (.vec 5006),oI (0 : Int),oI (0 : Int)]),(16,[.one (.vec 5062),oS A59 v58 c60,oI v51,oI x78])] [(5005,vI 3 1 ([] : List Int)),(5006,vI 3 1 ([] : List Int)),(5062,vI 3 1 L79)] ?_
           refine XI 0 (thenQ_x (thenQ_x (blockQ_x (thenQ_n ?_))))
           exact ⟨x78,L79,M80,keep_sub (ts:=[8,16]) (hs:=[8,16]) (vs:=[5005,5006,5062]) (by kernel_rfl),(Mem.le_trans (Mem.le_refl _) hM80),h⟩
        ·rintro s' ⟨x73,L74,M75,hsub,hM75,h⟩
         subst e_j76
         refine thenQ_n ?_
         refine T_sub hsub ?_
         refine SQ (RG ?_)
         refine SG 3 { σ := [(8,lO 8),(9,vi (0 : Int))],H := [(8,[.one (.vec 5062),oS A59 v58 c60,oI v51,oI x73])],V := [(5062,vI 3 1 L74)],M := M75,ds := [],ats := [(6,b46)] } ?_
         refine EN ?_
         refine T_turn (turn_pubV 5062 (v:=vI 3 1 L74) (by kernel_rfl)) ?_
         rintro _ ⟨A108,c109,M110,rfl,hSA108,hcA108,-,hNA108,hM110⟩
         have fA108 : SlI M110 A108 c109 .i64 L74 := ⟨hSA108,hcA108⟩
         refine KG { σ := [(8,lO 8),(9,vi (0 : Int))],H := [(8,[oS A108 L74 c109,oS A59 v58 c60,oI v51,oI x73])],V := [],M := M110,ds := [],ats := [(6,b46)] } ?_
         refine RT ?_
         obtain rfl := sj h
         refine FT (.tup [(none,[oS A108 L74 c109,oS A59 v58 c60,oI v51,oI x73]),(some (.v (.int .i64 (0 : Int))),[])]) ?_
         exact ⟨A108,c109,A59,c60,rfl,fA108,(((((fA59.le hM66).le hM70).le hM72).le hM75).le hM110)⟩
     ·refine StepT_ex ({ σ := [(17,lO 17),(60,.lf (.v (.func (.func 122) #[] #[(.pointer (some ⟨b64,0,none⟩)),(.pointer (some ⟨b65,0,none⟩))]))),(56,.agg [oI v9,oS A14 v10 c15,oS A16 v11 c17,.arr .i64 6 v12]),(57,vi u3),(58,.agg [oI v9,oS A14 v10 c15,oS A16 v11 c17,.arr .i64 6 v12]),(59,.lf (.v (.int .u64 v50))),(4,lO 4),(6,lO 6),(7,lP b7),(8,lO 8),(10,lP b22),(13,.lf (.v (.int .u64 v50))),(16,lO 16)],H := [(17,[oS none ([] : List Int) 0]),(4,[oI u0_0,oS Au0_1 u0_1 cu0_1,oS Au0_2 u0_2 cu0_2]),(6,[oI u2]),(8,[.one (.vec 5005),.one (.vec 5006),oI (0 : Int),oI (0 : Int)]),(16,[.one (.vec 5062),oS A59 v58 c60,oI v51,oI (0 : Int)])],V := [(5005,vI 3 1 ([] : List Int)),(5006,vI 3 1 ([] : List Int)),(5062,vI 3 1 ([] : List Int))],M := M66,ds := [],ats := [(6,b46)] }) (by kernel_rfl) [] (by kernel_rfl) trivial ?_
      refine StageT_cons [5] (stageT_all [] [0,1] (by kernel_rfl) (by kernel_rfl) (by kernel_rfl) ⟨QF_at (i:=0) (d:=56) (x:=.agg [oI v9,oS A14 v10 c15,oS A16 v11 c17,.arr .i64 6 v12]) (show OpAt _ _ _ 0 56 _ from by exact At_ldPR (d:=56) (b:=b22) (off:=0) (m:=9) (c:=[oI v9,oS A14 v10 c15,oS A16 v11 c17,.arr .i64 6 v12]) (by kernel_rfl) (by kernel_rfl) (sgCells_length ⟨rfl,⟨rfl,⟨rfl,⟨g20,trivial⟩⟩⟩⟩) (cells_blk (m:=9) (hM66 _ _ (hM61 _ _ (hM57 _ _ (hM54 _ _ (hM49 _ _ (hM35 _ _ fb22)))))) ⟨rfl,⟨rfl,⟨rfl,⟨g20,trivial⟩⟩⟩⟩ (by kernel_rfl) rfl)) (by kernel_rfl) (by kernel_rfl),⟨QF_at (i:=1) (d:=57) (x:=vi u3) (show OpAt _ _ _ 1 57 _ from by exact At_ldP (d:=57) (b:=b7) (off:=0) (m:=1) (v:=(.int .i64 u3)) (by kernel_rfl) (cell_blk (hM66 _ _ (hM61 _ _ (hM57 _ _ (hM54 _ _ (hM49 _ _ (hM35 _ _ (hM23 _ _ (hM21 _ _ fb7)))))))) ⟨rfl,trivial⟩ (by kernel_rfl))) (by kernel_rfl) (by kernel_rfl),trivial⟩⟩) (by kernel_rfl) (by kernel_rfl) ⟨?_,trivial⟩
      ·refine TE_callR (d:=61) (f:=75) (args:=[rval (.agg [oI v9,oS A14 v10 c15,oS A16 v11 c17,.arr .i64 6 v12]),rval (vi u3),rval (vb true),rval (.lf (.v (.func (.func 122) #[] #[(.pointer (some ⟨b64,0,none⟩)),(.pointer (some ⟨b65,0,none⟩))])))]) (by kernel_rfl) (by kernel_rfl) (w75a k (((((((fA14.le hM23).le hM35).le hM49).le hM54).le hM57).le hM61).le hM66) (((((((fA16.le hM23).le hM35).le hM49).le hM54).le hM57).le hM61).le hM66) g20 (((((((fA14.le hM23).le hM35).le hM49).le hM54).le hM57).le hM61).le hM66) (((((((fA16.le hM23).le hM35).le hM49).le hM54).le hM57).le hM61).le hM66) g20 fb64 fb65 c_v67) ?_
       rintro _ M70 _ hM70 _ ⟨A68,c69,rfl,fA68⟩
       refine TL_nil (stageTQ_of [] (by kernel_rfl) trivial ?_)
       refine StageT_cons [7] (stageT_all [] [] (by kernel_rfl) (by kernel_rfl) (by kernel_rfl) trivial) (by kernel_rfl) (by kernel_rfl) ⟨?_,trivial⟩
       ·refine StepT_ex ({ σ := [(61,lS A68 v67 c69),(17,lO 17),(60,.lf (.v (.func (.func 122) #[] #[(.pointer (some ⟨b64,0,none⟩)),(.pointer (some ⟨b65,0,none⟩))]))),(56,.agg [oI v9,oS A14 v10 c15,oS A16 v11 c17,.arr .i64 6 v12]),(57,vi u3),(58,.agg [oI v9,oS A14 v10 c15,oS A16 v11 c17,.arr .i64 6 v12]),(59,.lf (.v (.int .u64 v50))),(4,lO 4),(6,lO 6),(7,lP b7),(8,lO 8),(10,lP b22),(13,.lf (.v (.int .u64 v50))),(16,lO 16)],H := [(17,[oS A68 v67 c69]),(17,[oS none ([] : List Int) 0]),(4,[oI u0_0,oS Au0_1 u0_1 cu0_1,oS Au0_2 u0_2 cu0_2]),(6,[oI u2]),(8,[.one (.vec 5005),.one (.vec 5006),oI (0 : Int),oI (0 : Int)]),(16,[.one (.vec 5062),oS A59 v58 c60,oI v51,oI (0 : Int)])],V := [(5005,vI 3 1 ([] : List Int)),(5006,vI 3 1 ([] : List Int)),(5062,vI 3 1 ([] : List Int))],M := M70,ds := [],ats := [(6,b46)] }) (by kernel_rfl) [] (by kernel_rfl) trivial ?_
        refine StageT_leaf (stageT_all [] [] (by kernel_rfl) (by kernel_rfl) (by kernel_rfl) trivial) (by kernel_rfl) ?_
        refine thenQ_n ?_
        refine KG { σ := [(4,lO 4),(6,lO 6),(7,lP b7),(8,lO 8),(10,lP b22),(13,.lf (.v (.int .u64 v50))),(16,lO 16),(17,lO 17)],H := [(4,[oI u0_0,oS Au0_1 u0_1 cu0_1,oS Au0_2 u0_2 cu0_2]),(6,[oI u2]),(8,[.one (.vec 5005),.one (.vec 5006),oI (0 : Int),oI (0 : Int)]),(16,[.one (.vec 5062),oS A59 v58 c60,oI v51,oI (0 : Int)]),(17,[oS A68 v67 c69])],V := [(5005,vI 3 1 ([] : List Int)),(5006,vI 3 1 ([] : List Int)),(5062,vI 3 1 ([] : List Int))],M := M70,ds := [],ats := [(6,b46)] } ?_
        refine T_turn (turn_pubH 17 (c:=[oS A68 v67 c69]) (by kernel_rfl) (by kernel_rfl)) ?_
        rintro _ ⟨b71,M72,rfl,-,e_M72,-,hM72⟩
        have fb71 : MB M72 b71 [oS A68 v67 c69] := by rw [e_M72]; exact addM_at _ _ _
        refine KG { σ := [(4,lO 4),(6,lO 6),(7,lP b7),(8,lO 8),(10,lP b22),(13,.lf (.v (.int .u64 v50))),(16,lO 16),(17,lP b71)],H := [(4,[oI u0_0,oS Au0_1 u0_1 cu0_1,oS Au0_2 u0_2 cu0_2]),(6,[oI u2]),(8,[.one (.vec 5005),.one (.vec 5006),oI (0 : Int),oI (0 : Int)]),(16,[.one (.vec 5062),oS A59 v58 c60,oI v51,oI (0 : Int)])],V := [(5005,vI 3 1 ([] : List Int)),(5006,vI 3 1 ([] : List Int)),(5062,vI 3 1 ([] : List Int))],M := M72,ds := [],ats := [(6,b46)] } ?_
        refine SQ ?_
        obtain ⟨j76,e_j76,h⟩ := jn_some h
        refine T_bcut (id:=0) (c1:=(sub [1,1,1,1,1,1,1,1,0,0] Bd28)) (fun s' => ∃ (x73 : Int) (L74 : List Int) (M75 : Mem),Sub { σ := [(8,lO 8),(16,lO 16)],H := [(8,[.one (.vec 5005),.one (.vec 5006),oI (0 : Int),oI (0 : Int)]),(16,[.one (.vec 5062),oS A59 v58 c60,oI v51,oI x73])],V := [(5005,vI 3 1 ([] : List Int)),(5006,vI 3 1 ([] : List Int)),(5062,vI 3 1 L74)],M := M75,ds := [],ats := [(6,b46)] } s' ∧ Mem.le M72 M75 ∧ j76 x73 L74 = some r) (by kernel_rfl) ?_ ?_
        ·refine T_loop (c1:=(sub [1,1,1,1,1,1,1,1,0,0,0] Bd28)) (by kernel_rfl) (fun n81 s' => ∃ (x77 : Int) (x78 : Int) (L79 : List Int) (M80 : Mem),Sub { σ := [(4,lO 4),(6,lO 6),(7,lP b7),(8,lO 8),(10,lP b22),(13,.lf (.v (.int .u64 v50))),(16,lO 16),(17,lP b71)],H := [(4,[oI u0_0,oS Au0_1 u0_1 cu0_1,oS Au0_2 u0_2 cu0_2]),(6,[oI x77]),(8,[.one (.vec 5005),.one (.vec 5006),oI (0 : Int),oI (0 : Int)]),(16,[.one (.vec 5062),oS A59 v58 c60,oI v51,oI x78])],V := [(5005,vI 3 1 ([] : List Int)),(5006,vI 3 1 ([] : List Int)),(5062,vI 3 1 L79)],M := M80,ds := [],ats := [(6,b46)] } s' ∧ Mem.le M72 M80 ∧ p28_l1 k u0_1 u3 j76 v9 v10 v11 v12 v50 v67 n81 x77 x78 L79 = some r) (k:=k) ⟨u2,(0 : Int),([] : List Int),M72,keep_sub (ts:=[4,6,7,8,10,13,16,17]) (hs:=[4,6,8,16]) (vs:=[5005,5006,5062]) (by kernel_rfl),(Mem.le_refl _),h⟩ ?_
         rintro n81 s' ⟨x77,x78,L79,M80,hsub,hM80,h⟩
         cases n81 with
         | zero => rw [p28_l1] at h;cases h
         | succ n81 =>
          rw [p28_l1] at h
          refine T_sub hsub ?_
          refine SQ (SQ (RG ?_))
          refine SG 1 { σ := [(4,lO 4),(6,lO 6),(7,lP b7),(8,lO 8),(10,lP b22),(13,.lf (.v (.int .u64 v50))),(16,lO 16),(17,lP b71),(62,vi x77)],H := [(4,[oI u0_0,oS Au0_1 u0_1 cu0_1,oS Au0_2 u0_2 cu0_2]),(6,[oI x77]),(8,[.one (.vec 5005),.one (.vec 5006),oI (0 : Int),oI (0 : Int)]),(16,[.one (.vec 5062),oS A59 v58 c60,oI v51,oI x78])],V := [(5005,vI 3 1 ([] : List Int)),(5006,vI 3 1 ([] : List Int)),(5062,vI 3 1 L79)],M := M80,ds := [],ats := [(6,b46)] } ?_
          refine AT 63 (vi u3) (At_ldP (b:=b7) (off:=0) (m:=1) (v:=(.int .i64 u3)) (by kernel_rfl) (cell_blk (hM80 _ _ (hM72 _ _ (hM70 _ _ (hM66 _ _ (hM61 _ _ (hM57 _ _ (hM54 _ _ (hM49 _ _ (hM35 _ _ (hM23 _ _ (hM21 _ _ fb7))))))))))) ⟨rfl,trivial⟩ (by kernel_rfl))) ?_
          obtain ⟨b82,e_b82,h⟩ := lt_some h
          refine SH 3 [(4,lO 4),(6,lO 6),(7,lP b7),(8,lO 8),(10,lP b22),(13,.lf (.v (.int .u64 v50))),(16,lO 16),(17,lP b71),(64,vb b82)] [(4,[oI u0_0,oS Au0_1 u0_1 cu0_1,oS Au0_2 u0_2 cu0_2]),(6,[oI x77]),(8,[.one (.vec 5005),.one (.vec 5006),oI (0 : Int),oI (0 : Int)]),(16,[.one (.vec 5062),oS A59 v58 c60,oI v51,oI x78])] ?_ (by subst e_b82;kernel_rfl)
          refine EN ?_
          cases b82 with
          | true =>
           replace h := sp_t h
           refine CT ?_
           refine KS [(4,lO 4),(6,lO 6),(7,lP b7),(8,lO 8),(10,lP b22),(13,.lf (.v (.int .u64 v50))),(16,lO 16),(17,lP b71)] ?_
           refine SN (BK 1 (SQ (RG ?_)))
           refine SS 2 [(4,lO 4),(6,lO 6),(7,lP b7),(8,lO 8),(10,lP b22),(13,.lf (.v (.int .u64 v50))),(16,lO 16),(17,lP b71),(66,lS Au0_1 u0_1 cu0_1)] ?_
           refine TI_turn (turn_at 6 (n:=6) (b:=b46) (off:=0) (by kernel_rfl) (by kernel_rfl)) ?_
           rintro _ rfl
           refine SG 3 { σ := [(4,lO 4),(6,lP b46),(7,lP b7),(8,lO 8),(10,lP b22),(13,.lf (.v (.int .u64 v50))),(16,lO 16),(17,lP b71),(66,lS Au0_1 u0_1 cu0_1),(67,.lf (.v (.func (.func 81) #[] #[(.pointer (some ⟨b46,0,none⟩)),(.pointer (some ⟨b71,0,none⟩))])))],H := [(4,[oI u0_0,oS Au0_1 u0_1 cu0_1,oS Au0_2 u0_2 cu0_2]),(6,[oI x77]),(8,[.one (.vec 5005),.one (.vec 5006),oI (0 : Int),oI (0 : Int)]),(16,[.one (.vec 5062),oS A59 v58 c60,oI v51,oI x78])],V := [(5005,vI 3 1 ([] : List Int)),(5006,vI 3 1 ([] : List Int)),(5062,vI 3 1 L79)],M := M80,ds := [],ats := [(6,b46)] } ?_
           refine TI_turn (turn_back 6 (n:=6) (b:=b46) (off:=0) (by kernel_rfl) (by kernel_rfl)) ?_
           rintro _ rfl
           obtain ⟨v83,c_v83,h⟩ := cl_some h
           refine TI_of (i:=3) (by kernel_rfl) (TE_lendT (d:=68) (f:=80) 6 b46 (c:=[oI x77]) (args:=[rval (lS Au0_1 u0_1 cu0_1),rval (.lf (.v (.func (.func 81) #[] #[(.pointer (some ⟨b46,0,none⟩)),(.pointer (some ⟨b71,0,none⟩))])))]) (by kernel_rfl) (by kernel_rfl) (by kernel_rfl) (by kernel_rfl) (by kernel_rfl) (fun hb0 => w80a k (((((((((((((hu0_1.le hM8).le hM21).le hM23).le hM35).le hM49).le hM54).le hM57).le hM61).le hM66).le hM70).le hM72).le hM80).le (addM_le hb0)) (addM_at _ _ _) (((fA68.le hM72).le hM80).le (addM_le hb0)) ((addM_le hb0) _ _ (hM80 _ _ fb71)) c_v83) ?_)
           rintro _ M84 M85 hb0 - e_M85 hM85 ⟨rfl⟩ -
           refine SG 5 { σ := [(4,lO 4),(6,lO 6),(7,lP b7),(8,lO 8),(10,lP b22),(13,.lf (.v (.int .u64 v50))),(16,lO 16),(17,lP b71),(18,vi v83)],H := [(4,[oI u0_0,oS Au0_1 u0_1 cu0_1,oS Au0_2 u0_2 cu0_2]),(6,[oI x77]),(8,[.one (.vec 5005),.one (.vec 5006),oI (0 : Int),oI (0 : Int)]),(16,[.one (.vec 5062),oS A59 v58 c60,oI v51,oI x78])],V := [(5005,vI 3 1 ([] : List Int)),(5006,vI 3 1 ([] : List Int)),(5062,vI 3 1 L79)],M := M85,ds := [],ats := [(6,b46)] } ?_
           refine EN (SQ ?_)
           obtain ⟨j88,e_j88,h⟩ := jn_some h
           refine T_bcut (id:=2) (c1:=(sub [1,1,1,1,1,1,1,1,0,0,0,1,0,1,0,0] Bd28)) (fun s' => ∃ (x86 : Int) (M87 : Mem),Sub { σ := [(4,lO 4),(6,lO 6),(7,lP b7),(8,lO 8),(10,lP b22),(13,.lf (.v (.int .u64 v50))),(16,lO 16),(17,lP b71),(18,vi x86)],H := [(4,[oI u0_0,oS Au0_1 u0_1 cu0_1,oS Au0_2 u0_2 cu0_2]),(6,[oI x77]),(8,[.one (.vec 5005),.one (.vec 5006),oI (0 : Int),oI (0 : Int)]),(16,[.one (.vec 5062),oS A59 v58 c60,oI v51,oI x78])],V := [(5005,vI 3 1 ([] : List Int)),(5006,vI 3 1 ([] : List Int)),(5062,vI 3 1 L79)],M := M87,ds := [],ats := [(6,b46)] } s' ∧ Mem.le M85 M87 ∧ j88 x86 = some r) (by kernel_rfl) ?_ ?_
           ·refine T_loop (c1:=(sub [1,1,1,1,1,1,1,1,0,0,0,1,0,1,0,0,0] Bd28)) (by kernel_rfl) (fun n91 s' => ∃ (x89 : Int) (M90 : Mem),Sub { σ := [(4,lO 4),(6,lO 6),(7,lP b7),(8,lO 8),(10,lP b22),(13,.lf (.v (.int .u64 v50))),(16,lO 16),(17,lP b71),(18,vi x89)],H := [(4,[oI u0_0,oS Au0_1 u0_1 cu0_1,oS Au0_2 u0_2 cu0_2]),(6,[oI x77]),(8,[.one (.vec 5005),.one (.vec 5006),oI (0 : Int),oI (0 : Int)]),(16,[.one (.vec 5062),oS A59 v58 c60,oI v51,oI x78])],V := [(5005,vI 3 1 ([] : List Int)),(5006,vI 3 1 ([] : List Int)),(5062,vI 3 1 L79)],M := M90,ds := [],ats := [(6,b46)] } s' ∧ Mem.le M85 M90 ∧ p28_l2 k u0_1 x77 j88 v9 v10 v11 v12 v50 v67 n91 x89 = some r) (k:=k) ⟨v83,M85,keep_sub (ts:=[4,6,7,8,10,13,16,17,18]) (hs:=[4,6,8,16]) (vs:=[5005,5006,5062]) (by kernel_rfl),(Mem.le_refl _),h⟩ ?_
            rintro n91 s' ⟨x89,M90,hsub,hM90,h⟩
            cases n91 with
            | zero => rw [p28_l2] at h;cases h
            | succ n91 =>
             rw [p28_l2] at h
             refine T_sub hsub ?_
             refine SQ (SQ (RG ?_))
             refine AT 69 (.agg [oI v9,oS A14 v10 c15,oS A16 v11 c17,.arr .i64 6 v12]) (At_ldPR (b:=b22) (off:=0) (m:=9) (c:=[oI v9,oS A14 v10 c15,oS A16 v11 c17,.arr .i64 6 v12]) (by kernel_rfl) (by kernel_rfl) (sgCells_length ⟨rfl,⟨rfl,⟨rfl,⟨g20,trivial⟩⟩⟩⟩) (cells_blk (m:=9) (hM90 _ _ (hM85 _ _ (hM80 _ _ (hM72 _ _ (hM70 _ _ (hM66 _ _ (hM61 _ _ (hM57 _ _ (hM54 _ _ (hM49 _ _ (hM35 _ _ fb22))))))))))) ⟨rfl,⟨rfl,⟨rfl,⟨g20,trivial⟩⟩⟩⟩ (by kernel_rfl) rfl)) ?_ (hx:=⟨rfl,⟨rfl,⟨rfl,⟨g20,trivial⟩⟩⟩⟩)
             refine SG 3 { σ := [(4,lO 4),(6,lO 6),(7,lP b7),(8,lO 8),(10,lP b22),(13,.lf (.v (.int .u64 v50))),(16,lO 16),(17,lP b71),(18,vi x89),(69,.agg [oI v9,oS A14 v10 c15,oS A16 v11 c17,.arr .i64 6 v12]),(70,.lf (.v (.int .u64 v50))),(71,vi x89)],H := [(4,[oI u0_0,oS Au0_1 u0_1 cu0_1,oS Au0_2 u0_2 cu0_2]),(6,[oI x77]),(8,[.one (.vec 5005),.one (.vec 5006),oI (0 : Int),oI (0 : Int)]),(16,[.one (.vec 5062),oS A59 v58 c60,oI v51,oI x78])],V := [(5005,vI 3 1 ([] : List Int)),(5006,vI 3 1 ([] : List Int)),(5062,vI 3 1 L79)],M := M90,ds := [],ats := [(6,b46)] } ?_
             obtain ⟨v92,c_v92,h⟩ := cl_some h
             refine AC 72 (vb v92) (w55 k ((((((((((((fA14.le hM23).le hM35).le hM49).le hM54).le hM57).le hM61).le hM66).le hM70).le hM72).le hM80).le hM85).le hM90) ((((((((((((fA16.le hM23).le hM35).le hM49).le hM54).le hM57).le hM61).le hM66).le hM70).le hM72).le hM80).le hM85).le hM90) g20 c_v92) ?_
             refine SH 5 [(4,lO 4),(6,lO 6),(7,lP b7),(8,lO 8),(10,lP b22),(13,.lf (.v (.int .u64 v50))),(16,lO 16),(17,lP b71),(18,vi x89),(73,vb (!v92))] [(4,[oI u0_0,oS Au0_1 u0_1 cu0_1,oS Au0_2 u0_2 cu0_2]),(6,[oI x77]),(8,[.one (.vec 5005),.one (.vec 5006),oI (0 : Int),oI (0 : Int)]),(16,[.one (.vec 5062),oS A59 v58 c60,oI v51,oI x78])] ?_
             refine EN ?_
             cases v92 with
             | true =>
              replace h := sp_t h
              refine CF ?_
              refine KS [(4,lO 4),(6,lO 6),(7,lP b7),(8,lO 8),(10,lP b22),(13,.lf (.v (.int .u64 v50))),(16,lO 16),(17,lP b71),(18,vi x89)] ?_
              refine XI 2 (thenQ_x (thenQ_x (blockQ_x (thenQ_n ?_))))
              exact ⟨x89,M90,keep_sub (ts:=[4,6,7,8,10,13,16,17,18]) (hs:=[4,6,8,16]) (vs:=[5005,5006,5062]) (by kernel_rfl),(Mem.le_trans (Mem.le_refl _) hM90),h⟩
             | false =>
              replace h := sp_f h
              refine CT ?_
              refine KS [(4,lO 4),(6,lO 6),(7,lP b7),(8,lO 8),(10,lP b22),(13,.lf (.v (.int .u64 v50))),(16,lO 16),(17,lP b71),(18,vi x89)] ?_
              refine SN (BK 3 (RG ?_))
              obtain ⟨x93,e_x93,h⟩ := lt_some h
              refine SS 5 [(4,lO 4),(6,lO 6),(7,lP b7),(8,lO 8),(10,lP b22),(13,.lf (.v (.int .u64 v50))),(16,lO 16),(17,lP b71),(74,vi x89),(76,lS Au0_1 u0_1 cu0_1),(78,vi x93)] ?_ (by subst e_x93;kernel_rfl)
              obtain ⟨g94,h⟩ := gd_some h
              obtain ⟨P95,e_P95,h⟩ := lt_some h
              refine AT 79 (lS (cutA Au0_1 cu0_1 ((x93).toNat) 12) P95 (cu0_1 - (x93).toNat)) (At_slR (a:=(some x93)) (b:=none) (P:=P95) (by subst e_P95;kernel_rfl) ((((((((((((((hu0_1.le hM8).le hM21).le hM23).le hM35).le hM49).le hM54).le hM57).le hM61).le hM66).le hM70).le hM72).le hM80).le hM85).le hM90) (some_nn g94.1) none_nn g94.2.2.1 g94.2.2.2 e_P95) ?_
              refine SH 6 [(4,lO 4),(6,lO 6),(7,lP b7),(8,lO 8),(10,lP b22),(13,.lf (.v (.int .u64 v50))),(16,lO 16),(17,lP b71),(74,vi x89),(79,lS (cutA Au0_1 cu0_1 ((x93).toNat) 12) P95 (cu0_1 - (x93).toNat))] [(4,[oI u0_0,oS Au0_1 u0_1 cu0_1,oS Au0_2 u0_2 cu0_2]),(6,[oI x77]),(8,[.one (.vec 5005),.one (.vec 5006),oI (0 : Int),oI (0 : Int)]),(16,[.one (.vec 5062),oS A59 v58 c60,oI v51,oI x78])] ?_
              refine TI_turn (turn_at 6 (n:=6) (b:=b46) (off:=0) (by kernel_rfl) (by kernel_rfl)) ?_
              rintro _ rfl
              refine SG 7 { σ := [(4,lO 4),(6,lP b46),(7,lP b7),(8,lO 8),(10,lP b22),(13,.lf (.v (.int .u64 v50))),(16,lO 16),(17,lP b71),(74,vi x89),(79,lS (cutA Au0_1 cu0_1 ((x93).toNat) 12) P95 (cu0_1 - (x93).toNat)),(80,.lf (.v (.func (.func 82) #[] #[(.pointer (some ⟨b46,0,none⟩)),(.pointer (some ⟨b71,0,none⟩))])))],H := [(4,[oI u0_0,oS Au0_1 u0_1 cu0_1,oS Au0_2 u0_2 cu0_2]),(6,[oI x77]),(8,[.one (.vec 5005),.one (.vec 5006),oI (0 : Int),oI (0 : Int)]),(16,[.one (.vec 5062),oS A59 v58 c60,oI v51,oI x78])],V := [(5005,vI 3 1 ([] : List Int)),(5006,vI 3 1 ([] : List Int)),(5062,vI 3 1 L79)],M := M90,ds := [],ats := [(6,b46)] } ?_
              refine TI_turn (turn_back 6 (n:=6) (b:=b46) (off:=0) (by kernel_rfl) (by kernel_rfl)) ?_
              rintro _ rfl
              obtain ⟨v96,c_v96,h⟩ := cl_some h
              refine TI_of (i:=7) (by kernel_rfl) (TE_lendT (d:=81) (f:=80) 6 b46 (c:=[oI x77]) (args:=[rval (lS (cutA Au0_1 cu0_1 ((x93).toNat) 12) P95 (cu0_1 - (x93).toNat)),rval (.lf (.v (.func (.func 82) #[] #[(.pointer (some ⟨b46,0,none⟩)),(.pointer (some ⟨b71,0,none⟩))])))]) (by kernel_rfl) (by kernel_rfl) (by kernel_rfl) (by kernel_rfl) (by kernel_rfl) (fun hb0 => w80b k ((SlR.part ((((((((((((((hu0_1.le hM8).le hM21).le hM23).le hM35).le hM49).le hM54).le hM57).le hM61).le hM66).le hM70).le hM72).le hM80).le hM85).le hM90) e_P95 g94.2.2.1 g94.2.2.2).le (addM_le hb0)) (addM_at _ _ _) (((((fA68.le hM72).le hM80).le hM85).le hM90).le (addM_le hb0)) ((addM_le hb0) _ _ (hM90 _ _ (hM85 _ _ (hM80 _ _ fb71)))) c_v96) ?_)
              rintro _ M97 M98 hb0 - e_M98 hM98 ⟨rfl⟩ -
              obtain ⟨x99,e_x99,h⟩ := lt_some h
              obtain ⟨x100,e_x100,h⟩ := lt_some h
              refine SG 11 { σ := [(4,lO 4),(6,lO 6),(7,lP b7),(8,lO 8),(10,lP b22),(13,.lf (.v (.int .u64 v50))),(16,lO 16),(17,lP b71),(18,vi x100)],H := [(4,[oI u0_0,oS Au0_1 u0_1 cu0_1,oS Au0_2 u0_2 cu0_2]),(6,[oI x77]),(8,[.one (.vec 5005),.one (.vec 5006),oI (0 : Int),oI (0 : Int)]),(16,[.one (.vec 5062),oS A59 v58 c60,oI v51,oI x78])],V := [(5005,vI 3 1 ([] : List Int)),(5006,vI 3 1 ([] : List Int)),(5062,vI 3 1 L79)],M := M98,ds := [],ats := [(6,b46)] } ?_ (by subst e_x100 e_x99;kernel_rfl)
              refine E0 (blockQ_n (thenQ_n ?_))
              exact ⟨n91,Nat.lt_succ_self _,x100,M98,keep_sub (ts:=[4,6,7,8,10,13,16,17,18]) (hs:=[4,6,8,16]) (vs:=[5005,5006,5062]) (by kernel_rfl),(Mem.le_trans (Mem.le_trans (Mem.le_refl _) hM90) hM98),h⟩
           ·rintro s' ⟨x86,M87,hsub,hM87,h⟩
            subst e_j88
            refine thenQ_n ?_
            refine T_sub hsub ?_
            refine SQ (RG ?_)
            refine SG 3 { σ := [(4,lO 4),(6,lO 6),(7,lP b7),(8,lO 8),(10,lP b22),(13,.lf (.v (.int .u64 v50))),(16,lO 16),(17,lP b71),(18,vi x86),(85,lV 5062),(86,vi x86)],H := [(4,[oI u0_0,oS Au0_1 u0_1 cu0_1,oS Au0_2 u0_2 cu0_2]),(6,[oI x77]),(8,[.one (.vec 5005),.one (.vec 5006),oI (0 : Int),oI (0 : Int)]),(16,[.one (.vec 5062),oS A59 v58 c60,oI v51,oI x78])],V := [(5005,vI 3 1 ([] : List Int)),(5006,vI 3 1 ([] : List Int)),(5062,vI 3 1 L79)],M := M87,ds := [],ats := [(6,b46)] } ?_
            refine TI_of (i:=3) (by kernel_rfl) (TE_litC (d:=87) (e:=3) (sz:=1) (len:=1) (cs:=ints .i64 ([x86])) (by kernel_rfl) (by kernel_rfl) (by kernel_rfl) ?_)
            obtain ⟨g101,h⟩ := gd_some h
            obtain ⟨W102,e_W102,h⟩ := lt_some h
            refine TI_of (i:=4) (by kernel_rfl) (TE_appC (d:=88) (e:=3) (sz:=1) (bytes:=8) (n:=5062) (x:=(.tmp 87)) (len:=List.length L79) (cs0:=ints .i64 L79) (cs2:=ints .i64 W102) (by subst e_W102;kernel_rfl) (by kernel_rfl) (by subst e_W102;kernel_rfl) (vecI_src (n:=87) (e:=3) (k:=.i64) (L:=[x86]) (by subst e_W102;kernel_rfl) (by subst e_W102;kernel_rfl)) g101 rfl (len_app_eq e_W102) (ints_app_eq e_W102) ?_)
            refine SG 7 { σ := [(4,lO 4),(6,lO 6),(7,lP b7),(8,lO 8),(10,lP b22),(13,.lf (.v (.int .u64 v50))),(16,lO 16),(17,lP b71),(18,vi x86)],H := [(4,[oI u0_0,oS Au0_1 u0_1 cu0_1,oS Au0_2 u0_2 cu0_2]),(6,[oI x77]),(8,[.one (.vec 5005),.one (.vec 5006),oI (0 : Int),oI (0 : Int)]),(16,[.one (.vec 88),oS A59 v58 c60,oI v51,oI x78])],V := [(88,vI 3 1 W102),(5005,vI 3 1 ([] : List Int)),(5006,vI 3 1 ([] : List Int))],M := M87,ds := [],ats := [(6,b46)] } ?_
            refine EN (SQ ?_)
            obtain ⟨g103,h⟩ := gd_some h
            obtain ⟨x104,e_x104,h⟩ := lt_some h
            obtain ⟨x105,e_x105,h⟩ := lt_some h
            refine T_draw' (id:=17) [10] [0,0,0,0,0,0,0,0,0,0,0] (by kernel_rfl) (by kernel_rfl) (by kernel_rfl) (by kernel_rfl) [(90,.lf (.own 16 3)),(91,vi x78),(92,.lf (.own 4 1)),(93,lS Au0_1 u0_1 cu0_1),(94,vi x86),(95,.lf (.ep (.slice Au0_1 (u0_1.length) cu0_1) 12 ((x86).toNat) 0)),(96,.lf (.ep (.slice Au0_1 (u0_1.length) cu0_1) 12 ((x86).toNat) 3)),(97,vi x104),(98,vi x105),(99,.lf (.own 16 3))] (by kernel_rfl) (wfs_lf _ (by kernel_rfl)) ?_
            refine Stage_ex (stage_all' [0,1,2,3,4,6,8,9] [5,7] (by kernel_rfl) (by subst e_x105 e_x104; kernel_rfl) (by kernel_rfl) ⟨QF_at (i:=5) (d:=95) (x:=.lf (.ep (.slice Au0_1 (u0_1.length) cu0_1) 12 ((x86).toNat) 0)) (show OpAt _ _ _ 5 95 _ from by exact At_idxR (d:=95) (z:=x86) (by subst e_x105 e_x104; kernel_rfl) g103 ((((((((((((((hu0_1.le hM8).le hM21).le hM23).le hM35).le hM49).le hM54).le hM57).le hM61).le hM66).le hM70).le hM72).le hM80).le hM85).le hM87)) (by kernel_rfl) (by subst e_x105 e_x104; kernel_rfl),⟨QF_at (i:=7) (d:=97) (x:=vi x104) (show OpAt _ _ _ 7 97 _ from by rw [e_x104]; exact At_ldR1 (d:=97) (q:=(x86).toNat) (j:=3) (by subst e_x105 e_x104; kernel_rfl) rfl (toNat_lt g103) ((((((((((((((hu0_1.le hM8).le hM21).le hM23).le hM35).le hM49).le hM54).le hM57).le hM61).le hM66).le hM70).le hM72).le hM80).le hM85).le hM87)) (by kernel_rfl) (by subst e_x105 e_x104; kernel_rfl),trivial⟩⟩) ({ σ := [(90,.lf (.own 16 3)),(91,vi x78),(92,.lf (.own 4 1)),(93,lS Au0_1 u0_1 cu0_1),(94,vi x86),(95,.lf (.ep (.slice Au0_1 (u0_1.length) cu0_1) 12 ((x86).toNat) 0)),(96,.lf (.ep (.slice Au0_1 (u0_1.length) cu0_1) 12 ((x86).toNat) 3)),(97,vi x104),(98,vi x105),(99,.lf (.own 16 3)),(4,lO 4),(6,lO 6),(7,lP b7),(8,lO 8),(10,lP b22),(13,.lf (.v (.int .u64 v50))),(16,lO 16),(17,lP b71),(18,vi x86)],H := [(16,[.one (.vec 88),oS A59 v58 c60,oI v51,oI x105]),(4,[oI u0_0,oS Au0_1 u0_1 cu0_1,oS Au0_2 u0_2 cu0_2]),(6,[oI x77]),(8,[.one (.vec 5005),.one (.vec 5006),oI (0 : Int),oI (0 : Int)]),(16,[.one (.vec 88),oS A59 v58 c60,oI v51,oI x78])],V := [(88,vI 3 1 W102),(5005,vI 3 1 ([] : List Int)),(5006,vI 3 1 ([] : List Int))],M := M87,ds := [],ats := [(6,b46)] }) (by subst e_x105 e_x104; kernel_rfl) [] (by kernel_rfl) trivial ?_
            refine Stage_nil (stage_all' [] [] (by kernel_rfl) (by subst e_x105 e_x104;kernel_rfl) (by kernel_rfl) trivial) ?_
            refine thenQ_n ?_
            refine KG { σ := [(4,lO 4),(6,lO 6),(7,lP b7),(8,lO 8),(10,lP b22),(13,.lf (.v (.int .u64 v50))),(16,lO 16),(17,lP b71),(18,vi x86)],H := [(4,[oI u0_0,oS Au0_1 u0_1 cu0_1,oS Au0_2 u0_2 cu0_2]),(6,[oI x77]),(8,[.one (.vec 5005),.one (.vec 5006),oI (0 : Int),oI (0 : Int)]),(16,[.one (.vec 88),oS A59 v58 c60,oI v51,oI x105])],V := [(88,vI 3 1 W102),(5005,vI 3 1 ([] : List Int)),(5006,vI 3 1 ([] : List Int))],M := M87,ds := [],ats := [(6,b46)] } ?_ (by subst e_x105 e_x104;kernel_rfl)
            refine RG ?_
            refine SS 3 [(4,lO 4),(6,lO 6),(7,lP b7),(8,lO 8),(10,lP b22),(13,.lf (.v (.int .u64 v50))),(16,lO 16),(17,lP b71),(101,lS Au0_1 u0_1 cu0_1),(102,vi x86)] ?_
            obtain ⟨g106,h⟩ := gd_some h
            refine AT 103 (.lf (.ep (.slice Au0_1 (u0_1.length) cu0_1) 12 ((x86).toNat) 0)) (At_idxR (z:=x86) (by kernel_rfl) g106 ((((((((((((((hu0_1.le hM8).le hM21).le hM23).le hM35).le hM49).le hM54).le hM57).le hM61).le hM66).le hM70).le hM72).le hM80).le hM85).le hM87)) ?_
            refine SH 5 [(4,lO 4),(6,lO 6),(7,lP b7),(8,lO 8),(10,lP b22),(13,.lf (.v (.int .u64 v50))),(16,lO 16),(17,lP b71),(104,.lf (.ep (.slice Au0_1 (u0_1.length) cu0_1) 12 ((x86).toNat) 1))] [(4,[oI u0_0,oS Au0_1 u0_1 cu0_1,oS Au0_2 u0_2 cu0_2]),(6,[oI x77]),(8,[.one (.vec 5005),.one (.vec 5006),oI (0 : Int),oI (0 : Int)]),(16,[.one (.vec 88),oS A59 v58 c60,oI v51,oI x105])] ?_
            obtain ⟨x107,e_x107,h⟩ := lt_some h
            refine AT 105 (vi x107) (by rw [e_x107]; exact At_ldR1 (q:=(x86).toNat) (j:=1) (by subst e_x107; kernel_rfl) rfl (toNat_lt g106) ((((((((((((((hu0_1.le hM8).le hM21).le hM23).le hM35).le hM49).le hM54).le hM57).le hM61).le hM66).le hM70).le hM72).le hM80).le hM85).le hM87)) ?_
            refine SH 7 [(4,lO 4),(6,lO 6),(7,lP b7),(8,lO 8),(10,lP b22),(13,.lf (.v (.int .u64 v50))),(16,lO 16),(17,lP b71)] [(4,[oI u0_0,oS Au0_1 u0_1 cu0_1,oS Au0_2 u0_2 cu0_2]),(6,[oI x107]),(8,[.one (.vec 5005),.one (.vec 5006),oI (0 : Int),oI (0 : Int)]),(16,[.one (.vec 88),oS A59 v58 c60,oI v51,oI x105])] ?_
            refine E0 (blockQ_n (thenQ_n ?_))
            exact ⟨n81,Nat.lt_succ_self _,x107,x105,W102,M87,Sub.trans (keep_sub (ts:=[4,6,7,8,10,13,16,17]) (hs:=[4,6,8,16]) (vs:=[5005,5006,5062]) (by kernel_rfl)) (Sub.trans (ren_sub 88 5062 (s':={ σ := [(4,lO 4),(6,lO 6),(7,lP b7),(8,lO 8),(10,lP b22),(13,.lf (.v (.int .u64 v50))),(16,lO 16),(17,lP b71)],H := [(4,[oI u0_0,oS Au0_1 u0_1 cu0_1,oS Au0_2 u0_2 cu0_2]),(6,[oI x107]),(8,[.one (.vec 5005),.one (.vec 5006),oI (0 : Int),oI (0 : Int)]),(16,[.one (.vec 5062),oS A59 v58 c60,oI v51,oI x105])],V := [(5062,vI 3 1 W102),(5005,vI 3 1 ([] : List Int)),(5006,vI 3 1 ([] : List Int))],M := M87,ds := [],ats := [(6,b46)] }) (by kernel_rfl) (by kernel_rfl)) (keep_sub (s':={ σ := [(4,lO 4),(6,lO 6),(7,lP b7),(8,lO 8),(10,lP b22),(13,.lf (.v (.int .u64 v50))),(16,lO 16),(17,lP b71)],H := [(4,[oI u0_0,oS Au0_1 u0_1 cu0_1,oS Au0_2 u0_2 cu0_2]),(6,[oI x107]),(8,[.one (.vec 5005),.one (.vec 5006),oI (0 : Int),oI (0 : Int)]),(16,[.one (.vec 88),oS A59 v58 c60,oI v51,oI x105])],V := [(88,vI 3 1 W102),(5005,vI 3 1 ([] : List Int)),(5006,vI 3 1 ([] : List Int))],M := M87,ds := [],ats := [(6,b46)] }) (ts:=[4,6,7,8,10,13,16,17]) (hs:=[4,6,8,16]) (vs:=[88,5005,5006]) (by kernel_rfl))),(Mem.le_trans (Mem.le_trans (Mem.le_trans (Mem.le_refl _) hM80) hM85) hM87),h⟩
          | false =>
           replace h := sp_f h
           refine CF ?_
           refine KP [(8,lO 8),(16,lO 16)] [(8,[.one (.vec 5005),.one (.vec 5006),oI (0 : Int),oI (0 : Int)]),(16,[.one (.vec 5062),oS A59 v58 c60,oI v51,oI x78])] [(5005,vI 3 1 ([] : List Int)),(5006,vI 3 1 ([] : List Int)),(5062,vI 3 1 L79)] ?_
           refine XI 0 (thenQ_x (thenQ_x (blockQ_x (thenQ_n ?_))))
           exact ⟨x78,L79,M80,keep_sub (ts:=[8,16]) (hs:=[8,16]) (vs:=[5005,5006,5062]) (by kernel_rfl),(Mem.le_trans (Mem.le_refl _) hM80),h⟩
        ·rintro s' ⟨x73,L74,M75,hsub,hM75,h⟩
         subst e_j76
         refine thenQ_n ?_
         refine T_sub hsub ?_
         refine SQ (RG ?_)
         refine SG 3 { σ := [(8,lO 8),(9,vi (0 : Int))],H := [(8,[.one (.vec 5062),oS A59 v58 c60,oI v51,oI x73])],V := [(5062,vI 3 1 L74)],M := M75,ds := [],ats := [(6,b46)] } ?_
         refine EN ?_
         refine T_turn (turn_pubV 5062 (v:=vI 3 1 L74) (by kernel_rfl)) ?_
         rintro _ ⟨A108,c109,M110,rfl,hSA108,hcA108,-,hNA108,hM110⟩
         have fA108 : SlI M110 A108 c109 .i64 L74 := ⟨hSA108,hcA108⟩
         refine KG { σ := [(8,lO 8),(9,vi (0 : Int))],H := [(8,[oS A108 L74 c109,oS A59 v58 c60,oI v51,oI x73])],V := [],M := M110,ds := [],ats := [(6,b46)] } ?_
         refine RT ?_
         obtain rfl := sj h
         refine FT (.tup [(none,[oS A108 L74 c109,oS A59 v58 c60,oI v51,oI x73]),(some (.v (.int .i64 (0 : Int))),[])]) ?_
         exact ⟨A108,c109,A59,c60,rfl,fA108,(((((fA59.le hM66).le hM70).le hM72).le hM75).le hM110)⟩
    ·refine StepT_ex ({ σ := [(17,lO 17),(56,.agg [oI v9,oS A14 v10 c15,oS A16 v11 c17,.arr .i64 6 v12]),(57,vi u3),(58,.agg [oI v9,oS A14 v10 c15,oS A16 v11 c17,.arr .i64 6 v12]),(59,.lf (.v (.int .u64 v50))),(4,lO 4),(6,lO 6),(7,lP b7),(8,lO 8),(10,lP b22),(13,.lf (.v (.int .u64 v50))),(16,lO 16)],H := [(17,[oS none ([] : List Int) 0]),(4,[oI u0_0,oS Au0_1 u0_1 cu0_1,oS Au0_2 u0_2 cu0_2]),(6,[oI u2]),(8,[.one (.vec 5005),.one (.vec 5006),oI (0 : Int),oI (0 : Int)]),(16,[.one (.vec 5062),oS A59 v58 c60,oI v51,oI (0 : Int)])],V := [(5005,vI 3 1 ([] : List Int)),(5006,vI 3 1 ([] : List Int)),(5062,vI 3 1 ([] : List Int))],M := M61,ds := [],ats := [(6,b46)] }) (by kernel_rfl) [] (by kernel_rfl) trivial ?_
     refine StageT_cons [4] (stageT_all [3] [0,1,2] (by kernel_rfl) (by kernel_rfl) (by kernel_rfl) ⟨QF_at (i:=0) (d:=56) (x:=.agg [oI v9,oS A14 v10 c15,oS A16 v11 c17,.arr .i64 6 v12]) (show OpAt _ _ _ 0 56 _ from by exact At_ldPR (d:=56) (b:=b22) (off:=0) (m:=9) (c:=[oI v9,oS A14 v10 c15,oS A16 v11 c17,.arr .i64 6 v12]) (by kernel_rfl) (by kernel_rfl) (sgCells_length ⟨rfl,⟨rfl,⟨rfl,⟨g20,trivial⟩⟩⟩⟩) (cells_blk (m:=9) (hM61 _ _ (hM57 _ _ (hM54 _ _ (hM49 _ _ (hM35 _ _ fb22))))) ⟨rfl,⟨rfl,⟨rfl,⟨g20,trivial⟩⟩⟩⟩ (by kernel_rfl) rfl)) (by kernel_rfl) (by kernel_rfl),⟨QF_at (i:=1) (d:=57) (x:=vi u3) (show OpAt _ _ _ 1 57 _ from by exact At_ldP (d:=57) (b:=b7) (off:=0) (m:=1) (v:=(.int .i64 u3)) (by kernel_rfl) (cell_blk (hM61 _ _ (hM57 _ _ (hM54 _ _ (hM49 _ _ (hM35 _ _ (hM23 _ _ (hM21 _ _ fb7))))))) ⟨rfl,trivial⟩ (by kernel_rfl))) (by kernel_rfl) (by kernel_rfl),⟨QF_at (i:=2) (d:=58) (x:=.agg [oI v9,oS A14 v10 c15,oS A16 v11 c17,.arr .i64 6 v12]) (show OpAt _ _ _ 2 58 _ from by exact At_ldPR (d:=58) (b:=b22) (off:=0) (m:=9) (c:=[oI v9,oS A14 v10 c15,oS A16 v11 c17,.arr .i64 6 v12]) (by kernel_rfl) (by kernel_rfl) (sgCells_length ⟨rfl,⟨rfl,⟨rfl,⟨g20,trivial⟩⟩⟩⟩) (cells_blk (m:=9) (hM61 _ _ (hM57 _ _ (hM54 _ _ (hM49 _ _ (hM35 _ _ fb22))))) ⟨rfl,⟨rfl,⟨rfl,⟨g20,trivial⟩⟩⟩⟩ (by kernel_rfl) rfl)) (by kernel_rfl) (by kernel_rfl),trivial⟩⟩⟩) (by kernel_rfl) (by kernel_rfl) ⟨?_,trivial⟩
     ·refine TE_callR (d:=60) (f:=76) (args:=[rval (.agg [oI v9,oS A14 v10 c15,oS A16 v11 c17,.arr .i64 6 v12]),rval (.lf (.v (.int .u64 v50)))]) (by kernel_rfl) (by kernel_rfl) (w76 k ((((((fA14.le hM23).le hM35).le hM49).le hM54).le hM57).le hM61) ((((((fA16.le hM23).le hM35).le hM49).le hM54).le hM57).le hM61) g20 c_v63) ?_
      rintro _ M66 _ hM66 _ ⟨b64,b65,rfl,fb64,fb65⟩
      refine TL_nil (stageTQ_of [] (by kernel_rfl) trivial ?_)
      refine StageT_cons [5] (stageT_all [] [0,1] (by kernel_rfl) (by kernel_rfl) (by kernel_rfl) ⟨QF_at (i:=0) (d:=56) (x:=.agg [oI v9,oS A14 v10 c15,oS A16 v11 c17,.arr .i64 6 v12]) (show OpAt _ _ _ 0 56 _ from by exact At_ldPR (d:=56) (b:=b22) (off:=0) (m:=9) (c:=[oI v9,oS A14 v10 c15,oS A16 v11 c17,.arr .i64 6 v12]) (by kernel_rfl) (by kernel_rfl) (sgCells_length ⟨rfl,⟨rfl,⟨rfl,⟨g20,trivial⟩⟩⟩⟩) (cells_blk (m:=9) (hM66 _ _ (hM61 _ _ (hM57 _ _ (hM54 _ _ (hM49 _ _ (hM35 _ _ fb22)))))) ⟨rfl,⟨rfl,⟨rfl,⟨g20,trivial⟩⟩⟩⟩ (by kernel_rfl) rfl)) (by kernel_rfl) (by kernel_rfl),⟨QF_at (i:=1) (d:=57) (x:=vi u3) (show OpAt _ _ _ 1 57 _ from by exact At_ldP (d:=57) (b:=b7) (off:=0) (m:=1) (v:=(.int .i64 u3)) (by kernel_rfl) (cell_blk (hM66 _ _ (hM61 _ _ (hM57 _ _ (hM54 _ _ (hM49 _ _ (hM35 _ _ (hM23 _ _ (hM21 _ _ fb7)))))))) ⟨rfl,trivial⟩ (by kernel_rfl))) (by kernel_rfl) (by kernel_rfl),trivial⟩⟩) (by kernel_rfl) (by kernel_rfl) ⟨?_,trivial⟩
      ·refine TE_callR (d:=61) (f:=75) (args:=[rval (.agg [oI v9,oS A14 v10 c15,oS A16 v11 c17,.arr .i64 6 v12]),rval (vi u3),rval (vb true),rval (.lf (.v (.func (.func 122) #[] #[(.pointer (some ⟨b64,0,none⟩)),(.pointer (some ⟨b65,0,none⟩))])))]) (by kernel_rfl) (by kernel_rfl) (w75a k (((((((fA14.le hM23).le hM35).le hM49).le hM54).le hM57).le hM61).le hM66) (((((((fA16.le hM23).le hM35).le hM49).le hM54).le hM57).le hM61).le hM66) g20 (((((((fA14.le hM23).le hM35).le hM49).le hM54).le hM57).le hM61).le hM66) (((((((fA16.le hM23).le hM35).le hM49).le hM54).le hM57).le hM61).le hM66) g20 fb64 fb65 c_v67) ?_
       rintro _ M70 _ hM70 _ ⟨A68,c69,rfl,fA68⟩
       refine TL_nil (stageTQ_of [] (by kernel_rfl) trivial ?_)
       refine StageT_cons [7] (stageT_all [] [] (by kernel_rfl) (by kernel_rfl) (by kernel_rfl) trivial) (by kernel_rfl) (by kernel_rfl) ⟨?_,trivial⟩
       ·refine StepT_ex ({ σ := [(61,lS A68 v67 c69),(60,.lf (.v (.func (.func 122) #[] #[(.pointer (some ⟨b64,0,none⟩)),(.pointer (some ⟨b65,0,none⟩))]))),(17,lO 17),(56,.agg [oI v9,oS A14 v10 c15,oS A16 v11 c17,.arr .i64 6 v12]),(57,vi u3),(58,.agg [oI v9,oS A14 v10 c15,oS A16 v11 c17,.arr .i64 6 v12]),(59,.lf (.v (.int .u64 v50))),(4,lO 4),(6,lO 6),(7,lP b7),(8,lO 8),(10,lP b22),(13,.lf (.v (.int .u64 v50))),(16,lO 16)],H := [(17,[oS A68 v67 c69]),(17,[oS none ([] : List Int) 0]),(4,[oI u0_0,oS Au0_1 u0_1 cu0_1,oS Au0_2 u0_2 cu0_2]),(6,[oI u2]),(8,[.one (.vec 5005),.one (.vec 5006),oI (0 : Int),oI (0 : Int)]),(16,[.one (.vec 5062),oS A59 v58 c60,oI v51,oI (0 : Int)])],V := [(5005,vI 3 1 ([] : List Int)),(5006,vI 3 1 ([] : List Int)),(5062,vI 3 1 ([] : List Int))],M := M70,ds := [],ats := [(6,b46)] }) (by kernel_rfl) [] (by kernel_rfl) trivial ?_
        refine StageT_leaf (stageT_all [] [] (by kernel_rfl) (by kernel_rfl) (by kernel_rfl) trivial) (by kernel_rfl) ?_
        refine thenQ_n ?_
        refine KG { σ := [(4,lO 4),(6,lO 6),(7,lP b7),(8,lO 8),(10,lP b22),(13,.lf (.v (.int .u64 v50))),(16,lO 16),(17,lO 17)],H := [(4,[oI u0_0,oS Au0_1 u0_1 cu0_1,oS Au0_2 u0_2 cu0_2]),(6,[oI u2]),(8,[.one (.vec 5005),.one (.vec 5006),oI (0 : Int),oI (0 : Int)]),(16,[.one (.vec 5062),oS A59 v58 c60,oI v51,oI (0 : Int)]),(17,[oS A68 v67 c69])],V := [(5005,vI 3 1 ([] : List Int)),(5006,vI 3 1 ([] : List Int)),(5062,vI 3 1 ([] : List Int))],M := M70,ds := [],ats := [(6,b46)] } ?_
        refine T_turn (turn_pubH 17 (c:=[oS A68 v67 c69]) (by kernel_rfl) (by kernel_rfl)) ?_
        rintro _ ⟨b71,M72,rfl,-,e_M72,-,hM72⟩
        have fb71 : MB M72 b71 [oS A68 v67 c69] := by rw [e_M72]; exact addM_at _ _ _
        refine KG { σ := [(4,lO 4),(6,lO 6),(7,lP b7),(8,lO 8),(10,lP b22),(13,.lf (.v (.int .u64 v50))),(16,lO 16),(17,lP b71)],H := [(4,[oI u0_0,oS Au0_1 u0_1 cu0_1,oS Au0_2 u0_2 cu0_2]),(6,[oI u2]),(8,[.one (.vec 5005),.one (.vec 5006),oI (0 : Int),oI (0 : Int)]),(16,[.one (.vec 5062),oS A59 v58 c60,oI v51,oI (0 : Int)])],V := [(5005,vI 3 1 ([] : List Int)),(5006,vI 3 1 ([] : List Int)),(5062,vI 3 1 ([] : List Int))],M := M72,ds := [],ats := [(6,b46)] } ?_
        refine SQ ?_
        obtain ⟨j76,e_j76,h⟩ := jn_some h
        refine T_bcut (id:=0) (c1:=(sub [1,1,1,1,1,1,1,1,0,0] Bd28)) (fun s' => ∃ (x73 : Int) (L74 : List Int) (M75 : Mem),Sub { σ := [(8,lO 8),(16,lO 16)],H := [(8,[.one (.vec 5005),.one (.vec 5006),oI (0 : Int),oI (0 : Int)]),(16,[.one (.vec 5062),oS A59 v58 c60,oI v51,oI x73])],V := [(5005,vI 3 1 ([] : List Int)),(5006,vI 3 1 ([] : List Int)),(5062,vI 3 1 L74)],M := M75,ds := [],ats := [(6,b46)] } s' ∧ Mem.le M72 M75 ∧ j76 x73 L74 = some r) (by kernel_rfl) ?_ ?_
        ·refine T_loop (c1:=(sub [1,1,1,1,1,1,1,1,0,0,0] Bd28)) (by kernel_rfl) (fun n81 s' => ∃ (x77 : Int) (x78 : Int) (L79 : List Int) (M80 : Mem),Sub { σ := [(4,lO 4),(6,lO 6),(7,lP b7),(8,lO 8),(10,lP b22),(13,.lf (.v (.int .u64 v50))),(16,lO 16),(17,lP b71)],H := [(4,[oI u0_0,oS Au0_1 u0_1 cu0_1,oS Au0_2 u0_2 cu0_2]),(6,[oI x77]),(8,[.one (.vec 5005),.one (.vec 5006),oI (0 : Int),oI (0 : Int)]),(16,[.one (.vec 5062),oS A59 v58 c60,oI v51,oI x78])],V := [(5005,vI 3 1 ([] : List Int)),(5006,vI 3 1 ([] : List Int)),(5062,vI 3 1 L79)],M := M80,ds := [],ats := [(6,b46)] } s' ∧ Mem.le M72 M80 ∧ p28_l1 k u0_1 u3 j76 v9 v10 v11 v12 v50 v67 n81 x77 x78 L79 = some r) (k:=k) ⟨u2,(0 : Int),([] : List Int),M72,keep_sub (ts:=[4,6,7,8,10,13,16,17]) (hs:=[4,6,8,16]) (vs:=[5005,5006,5062]) (by kernel_rfl),(Mem.le_refl _),h⟩ ?_
         rintro n81 s' ⟨x77,x78,L79,M80,hsub,hM80,h⟩
         cases n81 with
         | zero => rw [p28_l1] at h;cases h
         | succ n81 =>
          rw [p28_l1] at h
          refine T_sub hsub ?_
          refine SQ (SQ (RG ?_))
          refine SG 1 { σ := [(4,lO 4),(6,lO 6),(7,lP b7),(8,lO 8),(10,lP b22),(13,.lf (.v (.int .u64 v50))),(16,lO 16),(17,lP b71),(62,vi x77)],H := [(4,[oI u0_0,oS Au0_1 u0_1 cu0_1,oS Au0_2 u0_2 cu0_2]),(6,[oI x77]),(8,[.one (.vec 5005),.one (.vec 5006),oI (0 : Int),oI (0 : Int)]),(16,[.one (.vec 5062),oS A59 v58 c60,oI v51,oI x78])],V := [(5005,vI 3 1 ([] : List Int)),(5006,vI 3 1 ([] : List Int)),(5062,vI 3 1 L79)],M := M80,ds := [],ats := [(6,b46)] } ?_
          refine AT 63 (vi u3) (At_ldP (b:=b7) (off:=0) (m:=1) (v:=(.int .i64 u3)) (by kernel_rfl) (cell_blk (hM80 _ _ (hM72 _ _ (hM70 _ _ (hM66 _ _ (hM61 _ _ (hM57 _ _ (hM54 _ _ (hM49 _ _ (hM35 _ _ (hM23 _ _ (hM21 _ _ fb7))))))))))) ⟨rfl,trivial⟩ (by kernel_rfl))) ?_
          obtain ⟨b82,e_b82,h⟩ := lt_some h
          refine SH 3 [(4,lO 4),(6,lO 6),(7,lP b7),(8,lO 8),(10,lP b22),(13,.lf (.v (.int .u64 v50))),(16,lO 16),(17,lP b71),(64,vb b82)] [(4,[oI u0_0,oS Au0_1 u0_1 cu0_1,oS Au0_2 u0_2 cu0_2]),(6,[oI x77]),(8,[.one (.vec 5005),.one (.vec 5006),oI (0 : Int),oI (0 : Int)]),(16,[.one (.vec 5062),oS A59 v58 c60,oI v51,oI x78])] ?_ (by subst e_b82;kernel_rfl)
          refine EN ?_
          cases b82 with
          | true =>
           replace h := sp_t h
           refine CT ?_
           refine KS [(4,lO 4),(6,lO 6),(7,lP b7),(8,lO 8),(10,lP b22),(13,.lf (.v (.int .u64 v50))),(16,lO 16),(17,lP b71)] ?_
           refine SN (BK 1 (SQ (RG ?_)))
           refine SS 2 [(4,lO 4),(6,lO 6),(7,lP b7),(8,lO 8),(10,lP b22),(13,.lf (.v (.int .u64 v50))),(16,lO 16),(17,lP b71),(66,lS Au0_1 u0_1 cu0_1)] ?_
           refine TI_turn (turn_at 6 (n:=6) (b:=b46) (off:=0) (by kernel_rfl) (by kernel_rfl)) ?_
           rintro _ rfl
           refine SG 3 { σ := [(4,lO 4),(6,lP b46),(7,lP b7),(8,lO 8),(10,lP b22),(13,.lf (.v (.int .u64 v50))),(16,lO 16),(17,lP b71),(66,lS Au0_1 u0_1 cu0_1),(67,.lf (.v (.func (.func 81) #[] #[(.pointer (some ⟨b46,0,none⟩)),(.pointer (some ⟨b71,0,none⟩))])))],H := [(4,[oI u0_0,oS Au0_1 u0_1 cu0_1,oS Au0_2 u0_2 cu0_2]),(6,[oI x77]),(8,[.one (.vec 5005),.one (.vec 5006),oI (0 : Int),oI (0 : Int)]),(16,[.one (.vec 5062),oS A59 v58 c60,oI v51,oI x78])],V := [(5005,vI 3 1 ([] : List Int)),(5006,vI 3 1 ([] : List Int)),(5062,vI 3 1 L79)],M := M80,ds := [],ats := [(6,b46)] } ?_
           refine TI_turn (turn_back 6 (n:=6) (b:=b46) (off:=0) (by kernel_rfl) (by kernel_rfl)) ?_
           rintro _ rfl
           obtain ⟨v83,c_v83,h⟩ := cl_some h
           refine TI_of (i:=3) (by kernel_rfl) (TE_lendT (d:=68) (f:=80) 6 b46 (c:=[oI x77]) (args:=[rval (lS Au0_1 u0_1 cu0_1),rval (.lf (.v (.func (.func 81) #[] #[(.pointer (some ⟨b46,0,none⟩)),(.pointer (some ⟨b71,0,none⟩))])))]) (by kernel_rfl) (by kernel_rfl) (by kernel_rfl) (by kernel_rfl) (by kernel_rfl) (fun hb0 => w80a k (((((((((((((hu0_1.le hM8).le hM21).le hM23).le hM35).le hM49).le hM54).le hM57).le hM61).le hM66).le hM70).le hM72).le hM80).le (addM_le hb0)) (addM_at _ _ _) (((fA68.le hM72).le hM80).le (addM_le hb0)) ((addM_le hb0) _ _ (hM80 _ _ fb71)) c_v83) ?_)
           rintro _ M84 M85 hb0 - e_M85 hM85 ⟨rfl⟩ -
           refine SG 5 { σ := [(4,lO 4),(6,lO 6),(7,lP b7),(8,lO 8),(10,lP b22),(13,.lf (.v (.int .u64 v50))),(16,lO 16),(17,lP b71),(18,vi v83)],H := [(4,[oI u0_0,oS Au0_1 u0_1 cu0_1,oS Au0_2 u0_2 cu0_2]),(6,[oI x77]),(8,[.one (.vec 5005),.one (.vec 5006),oI (0 : Int),oI (0 : Int)]),(16,[.one (.vec 5062),oS A59 v58 c60,oI v51,oI x78])],V := [(5005,vI 3 1 ([] : List Int)),(5006,vI 3 1 ([] : List Int)),(5062,vI 3 1 L79)],M := M85,ds := [],ats := [(6,b46)] } ?_
           refine EN (SQ ?_)
           obtain ⟨j88,e_j88,h⟩ := jn_some h
           refine T_bcut (id:=2) (c1:=(sub [1,1,1,1,1,1,1,1,0,0,0,1,0,1,0,0] Bd28)) (fun s' => ∃ (x86 : Int) (M87 : Mem),Sub { σ := [(4,lO 4),(6,lO 6),(7,lP b7),(8,lO 8),(10,lP b22),(13,.lf (.v (.int .u64 v50))),(16,lO 16),(17,lP b71),(18,vi x86)],H := [(4,[oI u0_0,oS Au0_1 u0_1 cu0_1,oS Au0_2 u0_2 cu0_2]),(6,[oI x77]),(8,[.one (.vec 5005),.one (.vec 5006),oI (0 : Int),oI (0 : Int)]),(16,[.one (.vec 5062),oS A59 v58 c60,oI v51,oI x78])],V := [(5005,vI 3 1 ([] : List Int)),(5006,vI 3 1 ([] : List Int)),(5062,vI 3 1 L79)],M := M87,ds := [],ats := [(6,b46)] } s' ∧ Mem.le M85 M87 ∧ j88 x86 = some r) (by kernel_rfl) ?_ ?_
           ·refine T_loop (c1:=(sub [1,1,1,1,1,1,1,1,0,0,0,1,0,1,0,0,0] Bd28)) (by kernel_rfl) (fun n91 s' => ∃ (x89 : Int) (M90 : Mem),Sub { σ := [(4,lO 4),(6,lO 6),(7,lP b7),(8,lO 8),(10,lP b22),(13,.lf (.v (.int .u64 v50))),(16,lO 16),(17,lP b71),(18,vi x89)],H := [(4,[oI u0_0,oS Au0_1 u0_1 cu0_1,oS Au0_2 u0_2 cu0_2]),(6,[oI x77]),(8,[.one (.vec 5005),.one (.vec 5006),oI (0 : Int),oI (0 : Int)]),(16,[.one (.vec 5062),oS A59 v58 c60,oI v51,oI x78])],V := [(5005,vI 3 1 ([] : List Int)),(5006,vI 3 1 ([] : List Int)),(5062,vI 3 1 L79)],M := M90,ds := [],ats := [(6,b46)] } s' ∧ Mem.le M85 M90 ∧ p28_l2 k u0_1 x77 j88 v9 v10 v11 v12 v50 v67 n91 x89 = some r) (k:=k) ⟨v83,M85,keep_sub (ts:=[4,6,7,8,10,13,16,17,18]) (hs:=[4,6,8,16]) (vs:=[5005,5006,5062]) (by kernel_rfl),(Mem.le_refl _),h⟩ ?_
            rintro n91 s' ⟨x89,M90,hsub,hM90,h⟩
            cases n91 with
            | zero => rw [p28_l2] at h;cases h
            | succ n91 =>
             rw [p28_l2] at h
             refine T_sub hsub ?_
             refine SQ (SQ (RG ?_))
             refine AT 69 (.agg [oI v9,oS A14 v10 c15,oS A16 v11 c17,.arr .i64 6 v12]) (At_ldPR (b:=b22) (off:=0) (m:=9) (c:=[oI v9,oS A14 v10 c15,oS A16 v11 c17,.arr .i64 6 v12]) (by kernel_rfl) (by kernel_rfl) (sgCells_length ⟨rfl,⟨rfl,⟨rfl,⟨g20,trivial⟩⟩⟩⟩) (cells_blk (m:=9) (hM90 _ _ (hM85 _ _ (hM80 _ _ (hM72 _ _ (hM70 _ _ (hM66 _ _ (hM61 _ _ (hM57 _ _ (hM54 _ _ (hM49 _ _ (hM35 _ _ fb22))))))))))) ⟨rfl,⟨rfl,⟨rfl,⟨g20,trivial⟩⟩⟩⟩ (by kernel_rfl) rfl)) ?_ (hx:=⟨rfl,⟨rfl,⟨rfl,⟨g20,trivial⟩⟩⟩⟩)
             refine SG 3 { σ := [(4,lO 4),(6,lO 6),(7,lP b7),(8,lO 8),(10,lP b22),(13,.lf (.v (.int .u64 v50))),(16,lO 16),(17,lP b71),(18,vi x89),(69,.agg [oI v9,oS A14 v10 c15,oS A16 v11 c17,.arr .i64 6 v12]),(70,.lf (.v (.int .u64 v50))),(71,vi x89)],H := [(4,[oI u0_0,oS Au0_1 u0_1 cu0_1,oS Au0_2 u0_2 cu0_2]),(6,[oI x77]),(8,[.one (.vec 5005),.one (.vec 5006),oI (0 : Int),oI (0 : Int)]),(16,[.one (.vec 5062),oS A59 v58 c60,oI v51,oI x78])],V := [(5005,vI 3 1 ([] : List Int)),(5006,vI 3 1 ([] : List Int)),(5062,vI 3 1 L79)],M := M90,ds := [],ats := [(6,b46)] } ?_
             obtain ⟨v92,c_v92,h⟩ := cl_some h
             refine AC 72 (vb v92) (w55 k ((((((((((((fA14.le hM23).le hM35).le hM49).le hM54).le hM57).le hM61).le hM66).le hM70).le hM72).le hM80).le hM85).le hM90) ((((((((((((fA16.le hM23).le hM35).le hM49).le hM54).le hM57).le hM61).le hM66).le hM70).le hM72).le hM80).le hM85).le hM90) g20 c_v92) ?_
             refine SH 5 [(4,lO 4),(6,lO 6),(7,lP b7),(8,lO 8),(10,lP b22),(13,.lf (.v (.int .u64 v50))),(16,lO 16),(17,lP b71),(18,vi x89),(73,vb (!v92))] [(4,[oI u0_0,oS Au0_1 u0_1 cu0_1,oS Au0_2 u0_2 cu0_2]),(6,[oI x77]),(8,[.one (.vec 5005),.one (.vec 5006),oI (0 : Int),oI (0 : Int)]),(16,[.one (.vec 5062),oS A59 v58 c60,oI v51,oI x78])] ?_
             refine EN ?_
             cases v92 with
             | true =>
              replace h := sp_t h
              refine CF ?_
              refine KS [(4,lO 4),(6,lO 6),(7,lP b7),(8,lO 8),(10,lP b22),(13,.lf (.v (.int .u64 v50))),(16,lO 16),(17,lP b71),(18,vi x89)] ?_
              refine XI 2 (thenQ_x (thenQ_x (blockQ_x (thenQ_n ?_))))
              exact ⟨x89,M90,keep_sub (ts:=[4,6,7,8,10,13,16,17,18]) (hs:=[4,6,8,16]) (vs:=[5005,5006,5062]) (by kernel_rfl),(Mem.le_trans (Mem.le_refl _) hM90),h⟩
             | false =>
              replace h := sp_f h
              refine CT ?_
              refine KS [(4,lO 4),(6,lO 6),(7,lP b7),(8,lO 8),(10,lP b22),(13,.lf (.v (.int .u64 v50))),(16,lO 16),(17,lP b71),(18,vi x89)] ?_
              refine SN (BK 3 (RG ?_))
              obtain ⟨x93,e_x93,h⟩ := lt_some h
              refine SS 5 [(4,lO 4),(6,lO 6),(7,lP b7),(8,lO 8),(10,lP b22),(13,.lf (.v (.int .u64 v50))),(16,lO 16),(17,lP b71),(74,vi x89),(76,lS Au0_1 u0_1 cu0_1),(78,vi x93)] ?_ (by subst e_x93;kernel_rfl)
              obtain ⟨g94,h⟩ := gd_some h
              obtain ⟨P95,e_P95,h⟩ := lt_some h
              refine AT 79 (lS (cutA Au0_1 cu0_1 ((x93).toNat) 12) P95 (cu0_1 - (x93).toNat)) (At_slR (a:=(some x93)) (b:=none) (P:=P95) (by subst e_P95;kernel_rfl) ((((((((((((((hu0_1.le hM8).le hM21).le hM23).le hM35).le hM49).le hM54).le hM57).le hM61).le hM66).le hM70).le hM72).le hM80).le hM85).le hM90) (some_nn g94.1) none_nn g94.2.2.1 g94.2.2.2 e_P95) ?_
              refine SH 6 [(4,lO 4),(6,lO 6),(7,lP b7),(8,lO 8),(10,lP b22),(13,.lf (.v (.int .u64 v50))),(16,lO 16),(17,lP b71),(74,vi x89),(79,lS (cutA Au0_1 cu0_1 ((x93).toNat) 12) P95 (cu0_1 - (x93).toNat))] [(4,[oI u0_0,oS Au0_1 u0_1 cu0_1,oS Au0_2 u0_2 cu0_2]),(6,[oI x77]),(8,[.one (.vec 5005),.one (.vec 5006),oI (0 : Int),oI (0 : Int)]),(16,[.one (.vec 5062),oS A59 v58 c60,oI v51,oI x78])] ?_
              refine TI_turn (turn_at 6 (n:=6) (b:=b46) (off:=0) (by kernel_rfl) (by kernel_rfl)) ?_
              rintro _ rfl
              refine SG 7 { σ := [(4,lO 4),(6,lP b46),(7,lP b7),(8,lO 8),(10,lP b22),(13,.lf (.v (.int .u64 v50))),(16,lO 16),(17,lP b71),(74,vi x89),(79,lS (cutA Au0_1 cu0_1 ((x93).toNat) 12) P95 (cu0_1 - (x93).toNat)),(80,.lf (.v (.func (.func 82) #[] #[(.pointer (some ⟨b46,0,none⟩)),(.pointer (some ⟨b71,0,none⟩))])))],H := [(4,[oI u0_0,oS Au0_1 u0_1 cu0_1,oS Au0_2 u0_2 cu0_2]),(6,[oI x77]),(8,[.one (.vec 5005),.one (.vec 5006),oI (0 : Int),oI (0 : Int)]),(16,[.one (.vec 5062),oS A59 v58 c60,oI v51,oI x78])],V := [(5005,vI 3 1 ([] : List Int)),(5006,vI 3 1 ([] : List Int)),(5062,vI 3 1 L79)],M := M90,ds := [],ats := [(6,b46)] } ?_
              refine TI_turn (turn_back 6 (n:=6) (b:=b46) (off:=0) (by kernel_rfl) (by kernel_rfl)) ?_
              rintro _ rfl
              obtain ⟨v96,c_v96,h⟩ := cl_some h
              refine TI_of (i:=7) (by kernel_rfl) (TE_lendT (d:=81) (f:=80) 6 b46 (c:=[oI x77]) (args:=[rval (lS (cutA Au0_1 cu0_1 ((x93).toNat) 12) P95 (cu0_1 - (x93).toNat)),rval (.lf (.v (.func (.func 82) #[] #[(.pointer (some ⟨b46,0,none⟩)),(.pointer (some ⟨b71,0,none⟩))])))]) (by kernel_rfl) (by kernel_rfl) (by kernel_rfl) (by kernel_rfl) (by kernel_rfl) (fun hb0 => w80b k ((SlR.part ((((((((((((((hu0_1.le hM8).le hM21).le hM23).le hM35).le hM49).le hM54).le hM57).le hM61).le hM66).le hM70).le hM72).le hM80).le hM85).le hM90) e_P95 g94.2.2.1 g94.2.2.2).le (addM_le hb0)) (addM_at _ _ _) (((((fA68.le hM72).le hM80).le hM85).le hM90).le (addM_le hb0)) ((addM_le hb0) _ _ (hM90 _ _ (hM85 _ _ (hM80 _ _ fb71)))) c_v96) ?_)
              rintro _ M97 M98 hb0 - e_M98 hM98 ⟨rfl⟩ -
              obtain ⟨x99,e_x99,h⟩ := lt_some h
              obtain ⟨x100,e_x100,h⟩ := lt_some h
              refine SG 11 { σ := [(4,lO 4),(6,lO 6),(7,lP b7),(8,lO 8),(10,lP b22),(13,.lf (.v (.int .u64 v50))),(16,lO 16),(17,lP b71),(18,vi x100)],H := [(4,[oI u0_0,oS Au0_1 u0_1 cu0_1,oS Au0_2 u0_2 cu0_2]),(6,[oI x77]),(8,[.one (.vec 5005),.one (.vec 5006),oI (0 : Int),oI (0 : Int)]),(16,[.one (.vec 5062),oS A59 v58 c60,oI v51,oI x78])],V := [(5005,vI 3 1 ([] : List Int)),(5006,vI 3 1 ([] : List Int)),(5062,vI 3 1 L79)],M := M98,ds := [],ats := [(6,b46)] } ?_ (by subst e_x100 e_x99;kernel_rfl)
              refine E0 (blockQ_n (thenQ_n ?_))
              exact ⟨n91,Nat.lt_succ_self _,x100,M98,keep_sub (ts:=[4,6,7,8,10,13,16,17,18]) (hs:=[4,6,8,16]) (vs:=[5005,5006,5062]) (by kernel_rfl),(Mem.le_trans (Mem.le_trans (Mem.le_refl _) hM90) hM98),h⟩
           ·rintro s' ⟨x86,M87,hsub,hM87,h⟩
            subst e_j88
            refine thenQ_n ?_
            refine T_sub hsub ?_
            refine SQ (RG ?_)
            refine SG 3 { σ := [(4,lO 4),(6,lO 6),(7,lP b7),(8,lO 8),(10,lP b22),(13,.lf (.v (.int .u64 v50))),(16,lO 16),(17,lP b71),(18,vi x86),(85,lV 5062),(86,vi x86)],H := [(4,[oI u0_0,oS Au0_1 u0_1 cu0_1,oS Au0_2 u0_2 cu0_2]),(6,[oI x77]),(8,[.one (.vec 5005),.one (.vec 5006),oI (0 : Int),oI (0 : Int)]),(16,[.one (.vec 5062),oS A59 v58 c60,oI v51,oI x78])],V := [(5005,vI 3 1 ([] : List Int)),(5006,vI 3 1 ([] : List Int)),(5062,vI 3 1 L79)],M := M87,ds := [],ats := [(6,b46)] } ?_
            refine TI_of (i:=3) (by kernel_rfl) (TE_litC (d:=87) (e:=3) (sz:=1) (len:=1) (cs:=ints .i64 ([x86])) (by kernel_rfl) (by kernel_rfl) (by kernel_rfl) ?_)
            obtain ⟨g101,h⟩ := gd_some h
            obtain ⟨W102,e_W102,h⟩ := lt_some h
            refine TI_of (i:=4) (by kernel_rfl) (TE_appC (d:=88) (e:=3) (sz:=1) (bytes:=8) (n:=5062) (x:=(.tmp 87)) (len:=List.length L79) (cs0:=ints .i64 L79) (cs2:=ints .i64 W102) (by subst e_W102;kernel_rfl) (by kernel_rfl) (by subst e_W102;kernel_rfl) (vecI_src (n:=87) (e:=3) (k:=.i64) (L:=[x86]) (by subst e_W102;kernel_rfl) (by subst e_W102;kernel_rfl)) g101 rfl (len_app_eq e_W102) (ints_app_eq e_W102) ?_)
            refine SG 7 { σ := [(4,lO 4),(6,lO 6),(7,lP b7),(8,lO 8),(10,lP b22),(13,.lf (.v (.int .u64 v50))),(16,lO 16),(17,lP b71),(18,vi x86)],H := [(4,[oI u0_0,oS Au0_1 u0_1 cu0_1,oS Au0_2 u0_2 cu0_2]),(6,[oI x77]),(8,[.one (.vec 5005),.one (.vec 5006),oI (0 : Int),oI (0 : Int)]),(16,[.one (.vec 88),oS A59 v58 c60,oI v51,oI x78])],V := [(88,vI 3 1 W102),(5005,vI 3 1 ([] : List Int)),(5006,vI 3 1 ([] : List Int))],M := M87,ds := [],ats := [(6,b46)] } ?_
            refine EN (SQ ?_)
            obtain ⟨g103,h⟩ := gd_some h
            obtain ⟨x104,e_x104,h⟩ := lt_some h
            obtain ⟨x105,e_x105,h⟩ := lt_some h
            refine T_draw' (id:=17) [10] [0,0,0,0,0,0,0,0,0,0,0] (by kernel_rfl) (by kernel_rfl) (by kernel_rfl) (by kernel_rfl) [(90,.lf (.own 16 3)),(91,vi x78),(92,.lf (.own 4 1)),(93,lS Au0_1 u0_1 cu0_1),(94,vi x86),(95,.lf (.ep (.slice Au0_1 (u0_1.length) cu0_1) 12 ((x86).toNat) 0)),(96,.lf (.ep (.slice Au0_1 (u0_1.length) cu0_1) 12 ((x86).toNat) 3)),(97,vi x104),(98,vi x105),(99,.lf (.own 16 3))] (by kernel_rfl) (wfs_lf _ (by kernel_rfl)) ?_
            refine Stage_ex (stage_all' [0,1,2,3,4,6,8,9] [5,7] (by kernel_rfl) (by subst e_x105 e_x104; kernel_rfl) (by kernel_rfl) ⟨QF_at (i:=5) (d:=95) (x:=.lf (.ep (.slice Au0_1 (u0_1.length) cu0_1) 12 ((x86).toNat) 0)) (show OpAt _ _ _ 5 95 _ from by exact At_idxR (d:=95) (z:=x86) (by subst e_x105 e_x104; kernel_rfl) g103 ((((((((((((((hu0_1.le hM8).le hM21).le hM23).le hM35).le hM49).le hM54).le hM57).le hM61).le hM66).le hM70).le hM72).le hM80).le hM85).le hM87)) (by kernel_rfl) (by subst e_x105 e_x104; kernel_rfl),⟨QF_at (i:=7) (d:=97) (x:=vi x104) (show OpAt _ _ _ 7 97 _ from by rw [e_x104]; exact At_ldR1 (d:=97) (q:=(x86).toNat) (j:=3) (by subst e_x105 e_x104; kernel_rfl) rfl (toNat_lt g103) ((((((((((((((hu0_1.le hM8).le hM21).le hM23).le hM35).le hM49).le hM54).le hM57).le hM61).le hM66).le hM70).le hM72).le hM80).le hM85).le hM87)) (by kernel_rfl) (by subst e_x105 e_x104; kernel_rfl),trivial⟩⟩) ({ σ := [(90,.lf (.own 16 3)),(91,vi x78),(92,.lf (.own 4 1)),(93,lS Au0_1 u0_1 cu0_1),(94,vi x86),(95,.lf (.ep (.slice Au0_1 (u0_1.length) cu0_1) 12 ((x86).toNat) 0)),(96,.lf (.ep (.slice Au0_1 (u0_1.length) cu0_1) 12 ((x86).toNat) 3)),(97,vi x104),(98,vi x105),(99,.lf (.own 16 3)),(4,lO 4),(6,lO 6),(7,lP b7),(8,lO 8),(10,lP b22),(13,.lf (.v (.int .u64 v50))),(16,lO 16),(17,lP b71),(18,vi x86)],H := [(16,[.one (.vec 88),oS A59 v58 c60,oI v51,oI x105]),(4,[oI u0_0,oS Au0_1 u0_1 cu0_1,oS Au0_2 u0_2 cu0_2]),(6,[oI x77]),(8,[.one (.vec 5005),.one (.vec 5006),oI (0 : Int),oI (0 : Int)]),(16,[.one (.vec 88),oS A59 v58 c60,oI v51,oI x78])],V := [(88,vI 3 1 W102),(5005,vI 3 1 ([] : List Int)),(5006,vI 3 1 ([] : List Int))],M := M87,ds := [],ats := [(6,b46)] }) (by subst e_x105 e_x104; kernel_rfl) [] (by kernel_rfl) trivial ?_
            refine Stage_nil (stage_all' [] [] (by kernel_rfl) (by subst e_x105 e_x104;kernel_rfl) (by kernel_rfl) trivial) ?_
            refine thenQ_n ?_
            refine KG { σ := [(4,lO 4),(6,lO 6),(7,lP b7),(8,lO 8),(10,lP b22),(13,.lf (.v (.int .u64 v50))),(16,lO 16),(17,lP b71),(18,vi x86)],H := [(4,[oI u0_0,oS Au0_1 u0_1 cu0_1,oS Au0_2 u0_2 cu0_2]),(6,[oI x77]),(8,[.one (.vec 5005),.one (.vec 5006),oI (0 : Int),oI (0 : Int)]),(16,[.one (.vec 88),oS A59 v58 c60,oI v51,oI x105])],V := [(88,vI 3 1 W102),(5005,vI 3 1 ([] : List Int)),(5006,vI 3 1 ([] : List Int))],M := M87,ds := [],ats := [(6,b46)] } ?_ (by subst e_x105 e_x104;kernel_rfl)
            refine RG ?_
            refine SS 3 [(4,lO 4),(6,lO 6),(7,lP b7),(8,lO 8),(10,lP b22),(13,.lf (.v (.int .u64 v50))),(16,lO 16),(17,lP b71),(101,lS Au0_1 u0_1 cu0_1),(102,vi x86)] ?_
            obtain ⟨g106,h⟩ := gd_some h
            refine AT 103 (.lf (.ep (.slice Au0_1 (u0_1.length) cu0_1) 12 ((x86).toNat) 0)) (At_idxR (z:=x86) (by kernel_rfl) g106 ((((((((((((((hu0_1.le hM8).le hM21).le hM23).le hM35).le hM49).le hM54).le hM57).le hM61).le hM66).le hM70).le hM72).le hM80).le hM85).le hM87)) ?_
            refine SH 5 [(4,lO 4),(6,lO 6),(7,lP b7),(8,lO 8),(10,lP b22),(13,.lf (.v (.int .u64 v50))),(16,lO 16),(17,lP b71),(104,.lf (.ep (.slice Au0_1 (u0_1.length) cu0_1) 12 ((x86).toNat) 1))] [(4,[oI u0_0,oS Au0_1 u0_1 cu0_1,oS Au0_2 u0_2 cu0_2]),(6,[oI x77]),(8,[.one (.vec 5005),.one (.vec 5006),oI (0 : Int),oI (0 : Int)]),(16,[.one (.vec 88),oS A59 v58 c60,oI v51,oI x105])] ?_
            obtain ⟨x107,e_x107,h⟩ := lt_some h
            refine AT 105 (vi x107) (by rw [e_x107]; exact At_ldR1 (q:=(x86).toNat) (j:=1) (by subst e_x107; kernel_rfl) rfl (toNat_lt g106) ((((((((((((((hu0_1.le hM8).le hM21).le hM23).le hM35).le hM49).le hM54).le hM57).le hM61).le hM66).le hM70).le hM72).le hM80).le hM85).le hM87)) ?_
            refine SH 7 [(4,lO 4),(6,lO 6),(7,lP b7),(8,lO 8),(10,lP b22),(13,.lf (.v (.int .u64 v50))),(16,lO 16),(17,lP b71)] [(4,[oI u0_0,oS Au0_1 u0_1 cu0_1,oS Au0_2 u0_2 cu0_2]),(6,[oI x107]),(8,[.one (.vec 5005),.one (.vec 5006),oI (0 : Int),oI (0 : Int)]),(16,[.one (.vec 88),oS A59 v58 c60,oI v51,oI x105])] ?_
            refine E0 (blockQ_n (thenQ_n ?_))
            exact ⟨n81,Nat.lt_succ_self _,x107,x105,W102,M87,Sub.trans (keep_sub (ts:=[4,6,7,8,10,13,16,17]) (hs:=[4,6,8,16]) (vs:=[5005,5006,5062]) (by kernel_rfl)) (Sub.trans (ren_sub 88 5062 (s':={ σ := [(4,lO 4),(6,lO 6),(7,lP b7),(8,lO 8),(10,lP b22),(13,.lf (.v (.int .u64 v50))),(16,lO 16),(17,lP b71)],H := [(4,[oI u0_0,oS Au0_1 u0_1 cu0_1,oS Au0_2 u0_2 cu0_2]),(6,[oI x107]),(8,[.one (.vec 5005),.one (.vec 5006),oI (0 : Int),oI (0 : Int)]),(16,[.one (.vec 5062),oS A59 v58 c60,oI v51,oI x105])],V := [(5062,vI 3 1 W102),(5005,vI 3 1 ([] : List Int)),(5006,vI 3 1 ([] : List Int))],M := M87,ds := [],ats := [(6,b46)] }) (by kernel_rfl) (by kernel_rfl)) (keep_sub (s':={ σ := [(4,lO 4),(6,lO 6),(7,lP b7),(8,lO 8),(10,lP b22),(13,.lf (.v (.int .u64 v50))),(16,lO 16),(17,lP b71)],H := [(4,[oI u0_0,oS Au0_1 u0_1 cu0_1,oS Au0_2 u0_2 cu0_2]),(6,[oI x107]),(8,[.one (.vec 5005),.one (.vec 5006),oI (0 : Int),oI (0 : Int)]),(16,[.one (.vec 88),oS A59 v58 c60,oI v51,oI x105])],V := [(88,vI 3 1 W102),(5005,vI 3 1 ([] : List Int)),(5006,vI 3 1 ([] : List Int))],M := M87,ds := [],ats := [(6,b46)] }) (ts:=[4,6,7,8,10,13,16,17]) (hs:=[4,6,8,16]) (vs:=[88,5005,5006]) (by kernel_rfl))),(Mem.le_trans (Mem.le_trans (Mem.le_trans (Mem.le_refl _) hM80) hM85) hM87),h⟩
          | false =>
           replace h := sp_f h
           refine CF ?_
           refine KP [(8,lO 8),(16,lO 16)] [(8,[.one (.vec 5005),.one (.vec 5006),oI (0 : Int),oI (0 : Int)]),(16,[.one (.vec 5062),oS A59 v58 c60,oI v51,oI x78])] [(5005,vI 3 1 ([] : List Int)),(5006,vI 3 1 ([] : List Int)),(5062,vI 3 1 L79)] ?_
           refine XI 0 (thenQ_x (thenQ_x (blockQ_x (thenQ_n ?_))))
           exact ⟨x78,L79,M80,keep_sub (ts:=[8,16]) (hs:=[8,16]) (vs:=[5005,5006,5062]) (by kernel_rfl),(Mem.le_trans (Mem.le_refl _) hM80),h⟩
        ·rintro s' ⟨x73,L74,M75,hsub,hM75,h⟩
         subst e_j76
         refine thenQ_n ?_
         refine T_sub hsub ?_
         refine SQ (RG ?_)
         refine SG 3 { σ := [(8,lO 8),(9,vi (0 : Int))],H := [(8,[.one (.vec 5062),oS A59 v58 c60,oI v51,oI x73])],V := [(5062,vI 3 1 L74)],M := M75,ds := [],ats := [(6,b46)] } ?_
         refine EN ?_
         refine T_turn (turn_pubV 5062 (v:=vI 3 1 L74) (by kernel_rfl)) ?_
         rintro _ ⟨A108,c109,M110,rfl,hSA108,hcA108,-,hNA108,hM110⟩
         have fA108 : SlI M110 A108 c109 .i64 L74 := ⟨hSA108,hcA108⟩
         refine KG { σ := [(8,lO 8),(9,vi (0 : Int))],H := [(8,[oS A108 L74 c109,oS A59 v58 c60,oI v51,oI x73])],V := [],M := M110,ds := [],ats := [(6,b46)] } ?_
         refine RT ?_
         obtain rfl := sj h
         refine FT (.tup [(none,[oS A108 L74 c109,oS A59 v58 c60,oI v51,oI x73]),(some (.v (.int .i64 (0 : Int))),[])]) ?_
         exact ⟨A108,c109,A59,c60,rfl,fA108,(((((fA59.le hM66).le hM70).le hM72).le hM75).le hM110)⟩
   | false =>
    replace h := sp_f h
    refine CT ?_
    refine KP [(8,lO 8)] [(8,[.one (.vec 5005),.one (.vec 5006),oI (0 : Int),oI (0 : Int)])] [(5005,vI 3 1 ([] : List Int)),(5006,vI 3 1 ([] : List Int))] ?_
    refine SQ (RG ?_)
    refine SK 3 [(8,lO 8),(9,vi (15 : Int))] [(8,[oS none ([] : List Int) 0,oS none ([] : List Int) 0,oI (0 : Int),oI (0 : Int)])] [] ?_
    refine EN ?_
    refine T_turn (turn_nil 5111 3 1 [(8,lO 8),(9,vi (15 : Int))] [(8,[.one (.vec 5111),oS none ([] : List Int) 0,oI (0 : Int),oI (0 : Int)])] (by kernel_rfl) (by kernel_rfl) (by kernel_rfl)) ?_
    rintro _ rfl
    refine T_turn (turn_nil 5112 3 1 [(8,lO 8),(9,vi (15 : Int))] [(8,[.one (.vec 5111),.one (.vec 5112),oI (0 : Int),oI (0 : Int)])] (by kernel_rfl) (by kernel_rfl) (by kernel_rfl)) ?_
    rintro _ rfl
    refine KG { σ := [(8,lO 8),(9,vi (15 : Int))],H := [(8,[.one (.vec 5111),.one (.vec 5112),oI (0 : Int),oI (0 : Int)])],V := [(5111,vI 3 1 ([] : List Int)),(5112,vI 3 1 ([] : List Int))],M := M54,ds := [],ats := [(6,b46)] } ?_
    refine T_turn (turn_pubV 5111 (v:=vI 3 1 ([] : List Int)) (by kernel_rfl)) ?_
    rintro _ ⟨A113,c114,M115,rfl,hSA113,hcA113,-,hNA113,hM115⟩
    have fA113 : SlI M115 A113 c114 .i64 ([] : List Int) := ⟨hSA113,hcA113⟩
    refine KG { σ := [(8,lO 8),(9,vi (15 : Int))],H := [(8,[oS A113 ([] : List Int) c114,.one (.vec 5112),oI (0 : Int),oI (0 : Int)])],V := [(5112,vI 3 1 ([] : List Int))],M := M115,ds := [],ats := [(6,b46)] } ?_
    refine T_turn (turn_pubV 5112 (v:=vI 3 1 ([] : List Int)) (by kernel_rfl)) ?_
    rintro _ ⟨A116,c117,M118,rfl,hSA116,hcA116,-,hNA116,hM118⟩
    have fA116 : SlI M118 A116 c117 .i64 ([] : List Int) := ⟨hSA116,hcA116⟩
    refine KG { σ := [(8,lO 8),(9,vi (15 : Int))],H := [(8,[oS A113 ([] : List Int) c114,oS A116 ([] : List Int) c117,oI (0 : Int),oI (0 : Int)])],V := [],M := M118,ds := [],ats := [(6,b46)] } ?_
    refine RT (thenQ_r ?_)
    obtain rfl := sj h
    refine FT (.tup [(none,[oS A113 ([] : List Int) c114,oS A116 ([] : List Int) c117,oI (0 : Int),oI (0 : Int)]),(some (.v (.int .i64 (15 : Int))),[])]) ?_
    exact ⟨A113,c114,A116,c117,rfl,(fA113.le hM118),fA116⟩
end Go.Proofs.Ythniebmammmacaa
namespace Go.Proofs.Ythniebmammmacaa
open Go.RowKit
def p23 (k : Nat) (u0_0 : Int) (u0_1 : List (List Int)) (u0_2 : List WT) (u1 : List Int) (u2 : Int) (u3 : Int) : Option Bool :=
 jn (fun (b1 : Bool) => some b1) fun j2 => cl (p13 k u0_0 u0_1 u0_2) fun v3 => sp v3 (j2 false) (cl (p29 k u0_0 u0_1 u0_2) fun v4 => lt' (v4 == (0 : Int)) fun b5 => sp b5 (cl (p40 k u1) fun v6 => lt' (v6 == (0 : Int)) fun b7 => sp b7 (lt' (decide (u2 ≥ (0 : Int))) fun b8 => sp b8 (lt' (decide (u2 < u0_0)) fun b9 => sp b9 (lt' (decide (u3 ≥ (0 : Int))) fun b10 => sp b10 (lt' (decide (u3 < u0_0)) fun b11 => j2 b11) (j2 false)) (j2 false)) (j2 false)) (j2 false)) (j2 false))
theorem hf23 : Try.prog.funcs[23]? = some Try.f23 := by kernel_rfl
theorem w23 (k : Nat) {M : Mem} {Au0_1 Au0_2 : Option Addr} {cu0_1 cu0_2 : Nat} {Hu0_2 : Nat → Option Addr} {Cu0_2 : Nat → Nat} {u0_0 u2 u3 : Int} {u0_1 : List (List Int)} {u0_2 : List WT} {u1 : List Int} (hu0_1 : SlR M Au0_1 cu0_1 .i64 12 u0_1) (hu0_2 : SlW M 3 Au0_2 cu0_2 Hu0_2 Cu0_2 u0_2) (hu1 : u1.length = 6) {r} (h : p23 k u0_0 u0_1 u0_2 u1 u2 u3 = some r) :
  Fn Try.prog 23 [rval (.agg [oI u0_0,oS Au0_1 u0_1 cu0_1,oS Au0_2 u0_2 cu0_2]),rval (.agg [.arr .i64 6 u1]),rval (vi u2),rval (vi u3)] M (fun x _ => x = vb r) := by
 unfold p23 at h
 refine FO [.agg [oI u0_0,oS Au0_1 u0_1 cu0_1,oS Au0_2 u0_2 cu0_2],.agg [.arr .i64 6 u1],vi u2,vi u3] hf23 ⟨⟨rfl,⟨rfl,⟨rfl,trivial⟩⟩⟩,⟨⟨hu1,trivial⟩,⟨trivial,⟨trivial,trivial⟩⟩⟩⟩ fun w => ?_
 refine SQ0 (RG ?_)
 refine SG 3 (S4 [(2,vi u2),(3,vi u3),(4,lO 4),(5,lO 5)] [(4,[oI u0_0,oS Au0_1 u0_1 cu0_1,oS Au0_2 u0_2 cu0_2]),(5,[.arr .i64 6 u1])] [] M) ?_
 refine EN ?_
 obtain ⟨j2,e_j2,h⟩ := jn_some h
 refine T_cut (c1:=(sub [1,0] Bd23)) (c2:=(sub [1,1] Bd23)) (fun s' => ∃ (b1 : Bool),Sub { σ := [(8,vb b1)],H := [],V := [],M := M,ds := [] } s' ∧ j2 b1 = some r) (by kernel_rfl) ?_ ?_
 ·refine RG ?_
  refine SG 1 (S4 [(2,vi u2),(3,vi u3),(4,lO 4),(5,lO 5),(9,.agg [oI u0_0,oS Au0_1 u0_1 cu0_1,oS Au0_2 u0_2 cu0_2])] [(4,[oI u0_0,oS Au0_1 u0_1 cu0_1,oS Au0_2 u0_2 cu0_2]),(5,[.arr .i64 6 u1])] [] M) ?_
  obtain ⟨v3,c_v3,h⟩ := cl_some h
  refine AC 10 (vb v3) (w13 k hu0_1 hu0_2 c_v3) ?_
  refine SH 4 [(2,vi u2),(3,vi u3),(4,lO 4),(5,lO 5),(12,vb (!v3))] [(4,[oI u0_0,oS Au0_1 u0_1 cu0_1,oS Au0_2 u0_2 cu0_2]),(5,[.arr .i64 6 u1])] ?_
  cases v3 with
  | true =>
   replace h := sp_t h
   refine SH 34 [(8,vb false)] [] ?_
   refine EN ?_
   exact ⟨false,keep_sub (ts:=[8]) (hs:=[]) (vs:=[]) (by kernel_rfl),h⟩
  | false =>
   replace h := sp_f h
   refine SS 5 [(2,vi u2),(3,vi u3),(4,lO 4),(5,lO 5),(12,vb true),(13,.agg [oI u0_0,oS Au0_1 u0_1 cu0_1,oS Au0_2 u0_2 cu0_2])] ?_
   obtain ⟨v4,c_v4,h⟩ := cl_some h
   refine AC 14 (vi v4) (w29 k hu0_1 hu0_2 c_v4) ?_
   obtain ⟨b5,e_b5,h⟩ := lt_some h
   refine SH 9 [(2,vi u2),(3,vi u3),(4,lO 4),(5,lO 5),(17,vb b5)] [(4,[oI u0_0,oS Au0_1 u0_1 cu0_1,oS Au0_2 u0_2 cu0_2]),(5,[.arr .i64 6 u1])] ?_ (by subst e_b5;kernel_rfl)
   cases b5 with
   | true =>
    replace h := sp_t h
    refine SH 10 [(2,vi u2),(3,vi u3),(4,lO 4),(17,vb true),(18,.agg [.arr .i64 6 u1])] [(4,[oI u0_0,oS Au0_1 u0_1 cu0_1,oS Au0_2 u0_2 cu0_2])] ?_
    obtain ⟨v6,c_v6,h⟩ := cl_some h
    refine AC 19 (vi v6) (w40 k hu1 c_v6) ?_
    obtain ⟨b7,e_b7,h⟩ := lt_some h
    refine SH 14 [(2,vi u2),(3,vi u3),(4,lO 4),(22,vb b7)] [(4,[oI u0_0,oS Au0_1 u0_1 cu0_1,oS Au0_2 u0_2 cu0_2])] ?_ (by subst e_b7;kernel_rfl)
    cases b7 with
    | true =>
     replace h := sp_t h
     obtain ⟨b8,e_b8,h⟩ := lt_some h
     refine SS 18 [(2,vi u2),(3,vi u3),(4,lO 4),(26,vb b8)] ?_ (by subst e_b8;kernel_rfl)
     cases b8 with
     | true =>
      replace h := sp_t h
      obtain ⟨b9,e_b9,h⟩ := lt_some h
      refine SS 24 [(3,vi u3),(4,lO 4),(32,vb b9)] ?_ (by subst e_b9;kernel_rfl)
      cases b9 with
      | true =>
       replace h := sp_t h
       obtain ⟨b10,e_b10,h⟩ := lt_some h
       refine SS 28 [(3,vi u3),(4,lO 4),(36,vb b10)] ?_ (by subst e_b10;kernel_rfl)
       cases b10 with
       | true =>
        replace h := sp_t h
        obtain ⟨b11,e_b11,h⟩ := lt_some h
        refine SH 34 [(8,vb b11)] [] ?_ (by subst e_b11;kernel_rfl)
        refine EN ?_
        exact ⟨b11,keep_sub (ts:=[8]) (hs:=[]) (vs:=[]) (by kernel_rfl),h⟩
       | false =>
        replace h := sp_f h
        refine SH 34 [(8,vb false)] [] ?_
        refine EN ?_
        exact ⟨false,keep_sub (ts:=[8]) (hs:=[]) (vs:=[]) (by kernel_rfl),h⟩
      | false =>
       replace h := sp_f h
       refine SH 34 [(8,vb false)] [] ?_
       refine EN ?_
       exact ⟨false,keep_sub (ts:=[8]) (hs:=[]) (vs:=[]) (by kernel_rfl),h⟩
     | false =>
      replace h := sp_f h
      refine SH 34 [(8,vb false)] [] ?_
      refine EN ?_
      exact ⟨false,keep_sub (ts:=[8]) (hs:=[]) (vs:=[]) (by kernel_rfl),h⟩
    | false =>
     replace h := sp_f h
     refine SH 34 [(8,vb false)] [] ?_
     refine EN ?_
     exact ⟨false,keep_sub (ts:=[8]) (hs:=[]) (vs:=[]) (by kernel_rfl),h⟩
   | false =>
    replace h := sp_f h
    refine SH 34 [(8,vb false)] [] ?_
    refine EN ?_
    exact ⟨false,keep_sub (ts:=[8]) (hs:=[]) (vs:=[]) (by kernel_rfl),h⟩
 ·rintro s' ⟨b1,hsub,h⟩
  subst e_j2
  refine T_sub hsub ?_
  refine RT ?_
  obtain rfl := sj h
  exact FT (vb b1) rfl
def p51_l1 (k : Nat) (j8 : List (List Int) → Option (Int × List (List Int) × List WT)) : Nat → Int → List (List Int) → Option (Int × List (List Int) × List WT)
 | 0,_,_ => none
 | n11 + 1,x9,R10 => lt' (decide (x9 < (3 : Int))) fun b12 => sp b12 (gd ((0 : Int) ≤ x9 ∧ x9 < (R10.length : Int)) <| lt' (rowSet R10 ((x9).toNat) 3 [(60 : Int)]) fun R14 => gd ((0 : Int) ≤ x9 ∧ x9 < (R14.length : Int)) <| lt' (rowSet R14 ((x9).toNat) 4 [(480 : Int)]) fun R16 => gd ((0 : Int) ≤ x9 ∧ x9 < (R16.length : Int)) <| lt' (rowSet R16 ((x9).toNat) 5 [(600 : Int)]) fun R18 => gd ((0 : Int) ≤ x9 ∧ x9 < (R18.length : Int)) <| lt' (rowSet R18 ((x9).toNat) 6 ([(5000 : Int),(5000 : Int),(5000 : Int),(5000 : Int),(5000 : Int),(5000 : Int)])) fun R20 => lt' (wr .i64 (x9 + (1 : Int))) fun x21 => p51_l1 k j8 n11 x21 R20) (j8 R10)
def p51 (k : Nat) : Option (Int × List (List Int) × List WT) :=
 jn (fun (R7 : List (List Int)) => gd ((0 : Int) ≤ (1 : Int) ∧ (1 : Int) < (R7.length : Int)) <| gd ((0 : Int) ≤ (1 : Int) ∧ (1 : Int) < ((6 : Nat) : Int)) <| lt' (rowSet R7 1 (6 + 1) [(3000 : Int)]) fun R24 => gd ((0 : Int) ≤ (2 : Int) ∧ (2 : Int) < (R24.length : Int)) <| gd ((0 : Int) ≤ (1 : Int) ∧ (1 : Int) < ((6 : Nat) : Int)) <| lt' (rowSet R24 2 (6 + 1) [(2000 : Int)]) fun R27 => some ((3 : Int),R27,([([(1 : Int)],[(1 : Int),(4000 : Int),(4 : Int)]),([(2 : Int)],[(1 : Int),(4000 : Int),(12 : Int)])] : List WT))) fun j8 => p51_l1 k j8 k (0 : Int) ([[(0 : Int),(1 : Int),(10 : Int),(0 : Int),(0 : Int),(0 : Int),(0 : Int),(0 : Int),(0 : Int),(0 : Int),(0 : Int),(0 : Int)],[(1 : Int),(2 : Int),(10 : Int),(0 : Int),(0 : Int),(0 : Int),(0 : Int),(0 : Int),(0 : Int),(0 : Int),(0 : Int),(0 : Int)],[(0 : Int),(2 : Int),(15 : Int),(0 : Int),(0 : Int),(0 : Int),(0 : Int),(0 : Int),(0 : Int),(0 : Int),(0 : Int),(0 : Int)]])
theorem hf51 : Try.prog.funcs[51]? = some Try.f51 := by kernel_rfl
theorem w51 (k : Nat) {M : Mem} {r} (h : p51 k = some r) :
  Fn Try.prog 51 [] M (fun x M' => ∃ (A1 : Option Addr) (c2 : Nat) (A3 : Option Addr) (c4 : Nat) (H5 : Nat → Option Addr) (C6 : Nat → Nat),x = .agg [oI r.1,oS A1 r.2.1 c2,oS A3 r.2.2 c4] ∧ SlR M' A1 c2 .i64 12 r.2.1 ∧ SlW M' 3 A3 c4 H5 C6 r.2.2) := by
 unfold p51 at h
 refine FO [] hf51 trivial fun w => ?_
 refine SQ0 (RG ?_)
 refine SG 1 (S4 [(0,lO 0)] [(0,[oI (0 : Int),oS none ([] : List (List Int)) 0,oS none ([] : List WT) 0])] [] M) ?_
 refine EN (SQ (RG ?_))
 refine SH 3 [(0,lO 0),(1,lO 1)] [(0,[oI (0 : Int),oS none ([] : List (List Int)) 0,oS none ([] : List WT) 0]),(1,[.arr .i64 6 [(5000 : Int),(5000 : Int),(5000 : Int),(5000 : Int),(5000 : Int),(5000 : Int)]])] ?_
 refine EN (SQ (RG ?_))
 refine SS 3 [(0,lO 0),(1,lO 1),(5,.agg [.arr .i64 12 [(0 : Int),(1 : Int),(10 : Int),(0 : Int),(0 : Int),(0 : Int),(0 : Int),(0 : Int),(0 : Int),(0 : Int),(0 : Int),(0 : Int)]]),(6,.agg [.arr .i64 12 [(1 : Int),(2 : Int),(10 : Int),(0 : Int),(0 : Int),(0 : Int),(0 : Int),(0 : Int),(0 : Int),(0 : Int),(0 : Int),(0 : Int)]]),(7,.agg [.arr .i64 12 [(0 : Int),(2 : Int),(15 : Int),(0 : Int),(0 : Int),(0 : Int),(0 : Int),(0 : Int),(0 : Int),(0 : Int),(0 : Int),(0 : Int)]])] ?_
 refine TI_of (i:=3) (by kernel_rfl) (TE_litC (d:=8) (e:=76) (sz:=12) (len:=3) (cs:=rowsC .i64 ([[(0 : Int),(1 : Int),(10 : Int),(0 : Int),(0 : Int),(0 : Int),(0 : Int),(0 : Int),(0 : Int),(0 : Int),(0 : Int),(0 : Int)],[(1 : Int),(2 : Int),(10 : Int),(0 : Int),(0 : Int),(0 : Int),(0 : Int),(0 : Int),(0 : Int),(0 : Int),(0 : Int),(0 : Int)],[(0 : Int),(2 : Int),(15 : Int),(0 : Int),(0 : Int),(0 : Int),(0 : Int),(0 : Int),(0 : Int),(0 : Int),(0 : Int),(0 : Int)]])) (by kernel_rfl) (by kernel_rfl) (by kernel_rfl) ?_)
 refine SG 7 (S4 [(0,lO 0),(1,lO 1),(2,lO 2)] [(0,[oI (0 : Int),oS none ([] : List (List Int)) 0,oS none ([] : List WT) 0]),(1,[.arr .i64 6 [(5000 : Int),(5000 : Int),(5000 : Int),(5000 : Int),(5000 : Int),(5000 : Int)]]),(2,[oI (3 : Int),.one (.vec 8),oS none ([] : List WT) 0])] [(8,⟨76,12,List.length ([[(0 : Int),(1 : Int),(10 : Int),(0 : Int),(0 : Int),(0 : Int),(0 : Int),(0 : Int),(0 : Int),(0 : Int),(0 : Int),(0 : Int)],[(1 : Int),(2 : Int),(10 : Int),(0 : Int),(0 : Int),(0 : Int),(0 : Int),(0 : Int),(0 : Int),(0 : Int),(0 : Int),(0 : Int)],[(0 : Int),(2 : Int),(15 : Int),(0 : Int),(0 : Int),(0 : Int),(0 : Int),(0 : Int),(0 : Int),(0 : Int),(0 : Int),(0 : Int)]]),rowsC .i64 ([[(0 : Int),(1 : Int),(10 : Int),(0 : Int),(0 : Int),(0 : Int),(0 : Int),(0 : Int),(0 : Int),(0 : Int),(0 : Int),(0 : Int)],[(1 : Int),(2 : Int),(10 : Int),(0 : Int),(0 : Int),(0 : Int),(0 : Int),(0 : Int),(0 : Int),(0 : Int),(0 : Int),(0 : Int)],[(0 : Int),(2 : Int),(15 : Int),(0 : Int),(0 : Int),(0 : Int),(0 : Int),(0 : Int),(0 : Int),(0 : Int),(0 : Int),(0 : Int)]])⟩)] M) ?_
 refine EN (SQ (SQ (RG ?_)))
 refine SS 1 [(0,lO 0),(1,lO 1),(2,lO 2),(3,vi (0 : Int))] ?_
 refine EN ?_
 obtain ⟨j8,e_j8,h⟩ := jn_some h
 refine T_bcut (id:=0) (c1:=(sub [1,1,1,0,1,0] Bd51)) (fun s' => ∃ (R7 : List (List Int)),Sub { σ := [(0,lO 0),(2,lO 2)],H := [(0,[oI (0 : Int),oS none ([] : List (List Int)) 0,oS none ([] : List WT) 0]),(2,[oI (3 : Int),.one (.vec 8),oS none ([] : List WT) 0])],V := [(8,⟨76,12,List.length R7,rowsC .i64 R7⟩)],M := M,ds := [] } s' ∧ (∀ r ∈ R7,r.length = 12) ∧ j8 R7 = some r) (by kernel_rfl) ?_ ?_
 ·refine T_loop (c1:=(sub [1,1,1,0,1,0,0] Bd51)) (by kernel_rfl) (fun n11 s' => ∃ (x9 : Int) (R10 : List (List Int)),Sub { σ := [(0,lO 0),(1,lO 1),(2,lO 2),(3,vi x9)],H := [(0,[oI (0 : Int),oS none ([] : List (List Int)) 0,oS none ([] : List WT) 0]),(1,[.arr .i64 6 [(5000 : Int),(5000 : Int),(5000 : Int),(5000 : Int),(5000 : Int),(5000 : Int)]]),(2,[oI (3 : Int),.one (.vec 8),oS none ([] : List WT) 0])],V := [(8,⟨76,12,List.length R10,rowsC .i64 R10⟩)],M := M,ds := [] } s' ∧ (∀ r ∈ R10,r.length = 12) ∧ p51_l1 k j8 n11 x9 R10 = some r) (k:=k) ⟨(0 : Int),([[(0 : Int),(1 : Int),(10 : Int),(0 : Int),(0 : Int),(0 : Int),(0 : Int),(0 : Int),(0 : Int),(0 : Int),(0 : Int),(0 : Int)],[(1 : Int),(2 : Int),(10 : Int),(0 : Int),(0 : Int),(0 : Int),(0 : Int),(0 : Int),(0 : Int),(0 : Int),(0 : Int),(0 : Int)],[(0 : Int),(2 : Int),(15 : Int),(0 : Int),(0 : Int),(0 : Int),(0 : Int),(0 : Int),(0 : Int),(0 : Int),(0 : Int),(0 : Int)]]),keep_sub (ts:=[0,1,2,3]) (hs:=[0,1,2]) (vs:=[8]) (by kernel_rfl),(rows_cons rfl (rows_cons rfl (rows_cons rfl rows_nil))),h⟩ ?_
  rintro n11 s' ⟨x9,R10,hsub,r_R10,h⟩
  cases n11 with
  | zero => rw [p51_l1] at h;cases h
  | succ n11 =>
   rw [p51_l1] at h
   refine T_sub hsub ?_
   refine SQ (SQ (RG ?_))
   obtain ⟨b12,e_b12,h⟩ := lt_some h
   refine SG 2 (S4 [(0,lO 0),(1,lO 1),(2,lO 2),(3,vi x9),(11,vb b12)] [(0,[oI (0 : Int),oS none ([] : List (List Int)) 0,oS none ([] : List WT) 0]),(1,[.arr .i64 6 [(5000 : Int),(5000 : Int),(5000 : Int),(5000 : Int),(5000 : Int),(5000 : Int)]]),(2,[oI (3 : Int),.one (.vec 8),oS none ([] : List WT) 0])] [(8,⟨76,12,List.length R10,rowsC .i64 R10⟩)] M) ?_ (by subst e_b12;kernel_rfl)
   refine EN ?_
   cases b12 with
   | true =>
    replace h := sp_t h
    refine CT ?_
    refine KS [(0,lO 0),(1,lO 1),(2,lO 2),(3,vi x9)] ?_
    refine SN (SQ (BK 1 ?_))
    obtain ⟨g13,h⟩ := gd_some h
    obtain ⟨R14,e_R14,h⟩ := lt_some h
    have r_R14 : ∀ r ∈ R14,r.length = 12 := by rw [e_R14]; exact rowSet_rows r_R10 (toNat_lt g13) (Nat.le_of_ble_eq_true rfl)
    obtain ⟨g15,h⟩ := gd_some h
    obtain ⟨R16,e_R16,h⟩ := lt_some h
    have r_R16 : ∀ r ∈ R16,r.length = 12 := by rw [e_R16]; exact rowSet_rows r_R14 (toNat_lt g15) (Nat.le_of_ble_eq_true rfl)
    obtain ⟨g17,h⟩ := gd_some h
    obtain ⟨R18,e_R18,h⟩ := lt_some h
    have r_R18 : ∀ r ∈ R18,r.length = 12 := by rw [e_R18]; exact rowSet_rows r_R16 (toNat_lt g17) (Nat.le_of_ble_eq_true rfl)
    obtain ⟨g19,h⟩ := gd_some h
    obtain ⟨R20,e_R20,h⟩ := lt_some h
    have r_R20 : ∀ r ∈ R20,r.length = 12 := by rw [e_R20]; exact rowSet_rows r_R18 (toNat_lt g19) (by have hz : ([(5000 : Int),(5000 : Int),(5000 : Int),(5000 : Int),(5000 : Int),(5000 : Int)]).length = 6 := rfl; rw [hz]; exact Nat.le_of_ble_eq_true rfl)
    refine T_draw' (id:=6) [15,18,21,24] [0,0,0,0,0,0,0,0,0,0,0,0,0,0,0,0,1,1,0,2,2,0,3,3,0] (by kernel_rfl) (by kernel_rfl) (by kernel_rfl) (by kernel_rfl) [(14,.lf (.own 2 1)),(15,lV 8),(16,vi x9),(17,.lf (.own 2 1)),(18,lV 8),(19,vi x9),(20,.lf (.own 2 1)),(21,lV 8),(22,vi x9),(23,.lf (.own 2 1)),(24,lV 8),(25,vi x9),(26,.agg [.arr .i64 6 [(5000 : Int),(5000 : Int),(5000 : Int),(5000 : Int),(5000 : Int),(5000 : Int)]]),(27,.lf (.vel 8 12 ((x9).toNat) 0)),(28,.lf (.vel 8 12 ((x9).toNat) 3))] (by kernel_rfl) ⟨trivial,⟨trivial,⟨trivial,⟨trivial,⟨trivial,⟨trivial,⟨trivial,⟨trivial,⟨trivial,⟨trivial,⟨trivial,⟨trivial,⟨⟨rfl,trivial⟩,⟨trivial,⟨trivial,trivial⟩⟩⟩⟩⟩⟩⟩⟩⟩⟩⟩⟩⟩⟩⟩ ?_
    refine Stage_te (stage_all' [0,1,2,3,4,5,6,7,8,9,10,11,12,14] [13] (by kernel_rfl) (by subst_vars; kernel_rfl) (by kernel_rfl) ⟨QF_at (i:=13) (d:=27) (x:=.lf (.vel 8 12 ((x9).toNat) 0)) (show OpAt _ _ _ 13 27 _ from by exact At_idxV (d:=27) (z:=x9) (n:=8) (sz:=12) (v:=⟨76,12,List.length R10,rowsC .i64 R10⟩) (by subst_vars; kernel_rfl) (by subst_vars; kernel_rfl) g13) (by kernel_rfl) (by subst_vars; kernel_rfl),trivial⟩) (TE_stC (len2:=List.length R14) (m:=1) (n:=8) (sz:=12) (j:=(x9).toNat) (q:=3) (e:=76) (len:=List.length R10) (c:=[oI (60 : Int)]) (cs0:=rowsC .i64 R10) (cs2:=rowsC .i64 R14) (by subst_vars; kernel_rfl) (by kernel_rfl) (by subst_vars; kernel_rfl) (vle2 (toNat_lt g13) (Nat.le_of_ble_eq_true rfl)) (by kernel_rfl) (by rw [e_R14]; exact setp_one r_R10 (toNat_lt g13) (Nat.le_of_ble_eq_true rfl)) (by rw [e_R14,rowSet_length]) ?_) 
    refine TL_nil (stageQ_of [(29,.lf (.vel 8 12 ((x9).toNat) 0)),(30,.lf (.vel 8 12 ((x9).toNat) 4))] (by kernel_rfl) ⟨trivial,⟨trivial,trivial⟩⟩ ?_)
    refine Stage_te (stage_all' [3,4,5,6,7,8,9,10,11,12,17] [16] (by kernel_rfl) (by subst_vars; kernel_rfl) (by kernel_rfl) ⟨QF_at (i:=16) (d:=29) (x:=.lf (.vel 8 12 ((x9).toNat) 0)) (show OpAt _ _ _ 16 29 _ from by exact At_idxV (d:=29) (z:=x9) (n:=8) (sz:=12) (v:=⟨76,12,List.length R14,rowsC .i64 R14⟩) (by subst_vars; kernel_rfl) (by subst_vars; kernel_rfl) g15) (by kernel_rfl) (by subst_vars; kernel_rfl),trivial⟩) (TE_stC (len2:=List.length R16) (m:=1) (n:=8) (sz:=12) (j:=(x9).toNat) (q:=4) (e:=76) (len:=List.length R14) (c:=[oI (480 : Int)]) (cs0:=rowsC .i64 R14) (cs2:=rowsC .i64 R16) (by subst_vars; kernel_rfl) (by kernel_rfl) (by subst_vars; kernel_rfl) (vle2 (toNat_lt g15) (Nat.le_of_ble_eq_true rfl)) (by kernel_rfl) (by rw [e_R16]; exact setp_one r_R14 (toNat_lt g15) (Nat.le_of_ble_eq_true rfl)) (by rw [e_R16,rowSet_length]) ?_) 
    refine TL_nil (stageQ_of [(31,.lf (.vel 8 12 ((x9).toNat) 0)),(32,.lf (.vel 8 12 ((x9).toNat) 5))] (by kernel_rfl) ⟨trivial,⟨trivial,trivial⟩⟩ ?_)
    refine Stage_te (stage_all' [6,7,8,9,10,11,12,20] [19] (by kernel_rfl) (by subst_vars; kernel_rfl) (by kernel_rfl) ⟨QF_at (i:=19) (d:=31) (x:=.lf (.vel 8 12 ((x9).toNat) 0)) (show OpAt _ _ _ 19 31 _ from by exact At_idxV (d:=31) (z:=x9) (n:=8) (sz:=12) (v:=⟨76,12,List.length R16,rowsC .i64 R16⟩) (by subst_vars; kernel_rfl) (by subst_vars; kernel_rfl) g17) (by kernel_rfl) (by subst_vars; kernel_rfl),trivial⟩) (TE_stC (len2:=List.length R18) (m:=1) (n:=8) (sz:=12) (j:=(x9).toNat) (q:=5) (e:=76) (len:=List.length R16) (c:=[oI (600 : Int)]) (cs0:=rowsC .i64 R16) (cs2:=rowsC .i64 R18) (by subst_vars; kernel_rfl) (by kernel_rfl) (by subst_vars; kernel_rfl) (vle2 (toNat_lt g17) (Nat.le_of_ble_eq_true rfl)) (by kernel_rfl) (by rw [e_R18]; exact setp_one r_R16 (toNat_lt g17) (Nat.le_of_ble_eq_true rfl)) (by rw [e_R18,rowSet_length]) ?_) 
    refine TL_nil (stageQ_of [(33,.lf (.vel 8 12 ((x9).toNat) 0)),(34,.lf (.vel 8 12 ((x9).toNat) 6))] (by kernel_rfl) ⟨trivial,⟨trivial,trivial⟩⟩ ?_)
    refine Stage_te (stage_all' [9,10,11,12,23] [22] (by kernel_rfl) (by subst_vars; kernel_rfl) (by kernel_rfl) ⟨QF_at (i:=22) (d:=33) (x:=.lf (.vel 8 12 ((x9).toNat) 0)) (show OpAt _ _ _ 22 33 _ from by exact At_idxV (d:=33) (z:=x9) (n:=8) (sz:=12) (v:=⟨76,12,List.length R18,rowsC .i64 R18⟩) (by subst_vars; kernel_rfl) (by subst_vars; kernel_rfl) g19) (by kernel_rfl) (by subst_vars; kernel_rfl),trivial⟩) (TE_stC (len2:=List.length R20) (m:=6) (n:=8) (sz:=12) (j:=(x9).toNat) (q:=6) (e:=76) (len:=List.length R18) (c:=[.arr .i64 6 [(5000 : Int),(5000 : Int),(5000 : Int),(5000 : Int),(5000 : Int),(5000 : Int)]]) (cs0:=rowsC .i64 R18) (cs2:=rowsC .i64 R20) (by subst_vars; kernel_rfl) (by kernel_rfl) (by subst_vars; kernel_rfl) (vle2 (toNat_lt g19) (Nat.le_of_ble_eq_true rfl)) (by kernel_rfl) (by rw [e_R20]; exact setp_arr r_R18 (toNat_lt g19) rfl (Nat.le_of_ble_eq_true rfl)) (by rw [e_R20,rowSet_length]) ?_) 
    refine TL_nil (stageQ_of [] (by kernel_rfl) trivial ?_)
    refine Stage_nil (stage_all' [] [] (by kernel_rfl) (by subst_vars;kernel_rfl) (by kernel_rfl) trivial) ?_
    refine blockQ_n (thenQ_n ?_)
    refine KG (S4 [(0,lO 0),(1,lO 1),(2,lO 2),(3,vi x9)] [(0,[oI (0 : Int),oS none ([] : List (List Int)) 0,oS none ([] : List WT) 0]),(1,[.arr .i64 6 [(5000 : Int),(5000 : Int),(5000 : Int),(5000 : Int),(5000 : Int),(5000 : Int)]]),(2,[oI (3 : Int),.one (.vec 8),oS none ([] : List WT) 0])] [(8,⟨76,12,List.length R20,rowsC .i64 R20⟩)] M) ?_ (by subst_vars;kernel_rfl)
    refine RG ?_
    obtain ⟨x21,e_x21,h⟩ := lt_some h
    refine SS 3 [(0,lO 0),(1,lO 1),(2,lO 2),(3,vi x21)] ?_ (by subst e_x21;kernel_rfl)
    refine EN ?_
    exact ⟨n11,Nat.lt_succ_self _,x21,R20,keep_sub (ts:=[0,1,2,3]) (hs:=[0,1,2]) (vs:=[8]) (by kernel_rfl),r_R20,h⟩
   | false =>
    replace h := sp_f h
    refine CF ?_
    refine KP [(0,lO 0),(2,lO 2)] [(0,[oI (0 : Int),oS none ([] : List (List Int)) 0,oS none ([] : List WT) 0]),(2,[oI (3 : Int),.one (.vec 8),oS none ([] : List WT) 0])] [(8,⟨76,12,List.length R10,rowsC .i64 R10⟩)] ?_
    refine XI 0 (thenQ_x (thenQ_x (blockQ_x (thenQ_n ?_))))
    exact ⟨R10,keep_sub (ts:=[0,2]) (hs:=[0,2]) (vs:=[8]) (by kernel_rfl),r_R10,h⟩
 ·rintro s' ⟨R7,hsub,r_R7,h⟩
  subst e_j8
  refine thenQ_n ?_
  refine T_sub hsub ?_
  refine SQ ?_
  obtain ⟨g22,h⟩ := gd_some h
  obtain ⟨g23,h⟩ := gd_some h
  obtain ⟨R24,e_R24,h⟩ := lt_some h
  have r_R24 : ∀ r ∈ R24,r.length = 12 := by rw [e_R24]; exact rowSet_rows r_R7 (toNat_lt g22) (by show 6 + 1 + 1 ≤ 12; omega)
  obtain ⟨g25,h⟩ := gd_some h
  obtain ⟨g26,h⟩ := gd_some h
  obtain ⟨R27,e_R27,h⟩ := lt_some h
  have r_R27 : ∀ r ∈ R27,r.length = 12 := by rw [e_R27]; exact rowSet_rows r_R24 (toNat_lt g25) (by show 6 + 1 + 1 ≤ 12; omega)
  refine T_draw' (id:=7) [7,11] [0,0,0,0,0,0,0,0,0,0,1,0] (by kernel_rfl) (by kernel_rfl) (by kernel_rfl) (by kernel_rfl) [(35,.lf (.own 2 1)),(36,lV 8),(37,.lf (.own 2 1)),(38,lV 8),(39,.lf (.vel 8 12 1 0)),(40,.lf (.vel 8 12 1 6)),(41,.lf (.vel 8 12 1 (6 + 1))),(42,.lf (.vel 8 12 2 0)),(43,.lf (.vel 8 12 2 6))] (by kernel_rfl) (wfs_lf _ (by kernel_rfl)) ?_
  refine Stage_te (stage_all' [0,1,2,3,5,9] [4,6,8] (by kernel_rfl) (by subst e_R27 e_R24; kernel_rfl) (by kernel_rfl) ⟨QF_at (i:=4) (d:=39) (x:=.lf (.vel 8 12 1 0)) (show OpAt _ _ _ 4 39 _ from by exact At_idxV (d:=39) (z:=(1 : Int)) (n:=8) (sz:=12) (v:=⟨76,12,List.length R7,rowsC .i64 R7⟩) (by subst e_R27 e_R24; kernel_rfl) (by subst e_R27 e_R24; kernel_rfl) g22) (by kernel_rfl) (by subst e_R27 e_R24; kernel_rfl),⟨QF_at (i:=6) (d:=41) (x:=.lf (.vel 8 12 1 (6 + 1))) (show OpAt _ _ _ 6 41 _ from by exact At_idxW (d:=41) (z:=(1 : Int)) (m:=8) (sz:=12) (q:=1) (j:=6) (es:=1) (n:=6) (by subst e_R27 e_R24; kernel_rfl) g23) (by kernel_rfl) (by subst e_R27 e_R24; kernel_rfl),⟨QF_at (i:=8) (d:=42) (x:=.lf (.vel 8 12 2 0)) (show OpAt _ _ _ 8 42 _ from by exact At_idxV (d:=42) (z:=(2 : Int)) (n:=8) (sz:=12) (v:=⟨76,12,List.length R7,rowsC .i64 R7⟩) (by subst e_R27 e_R24; kernel_rfl) (by subst e_R27 e_R24; kernel_rfl) (by have q9 := g25; simp only [e_R24,e_R27,List.length_set,rowSet_length] at q9 ⊢; exact q9)) (by kernel_rfl) (by subst e_R27 e_R24; kernel_rfl),trivial⟩⟩⟩) (TE_stC (len2:=List.length R24) (m:=1) (n:=8) (sz:=12) (j:=1) (q:=6 + 1) (e:=76) (len:=List.length R7) (c:=[oI (3000 : Int)]) (cs0:=rowsC .i64 R7) (cs2:=rowsC .i64 R24) (by subst e_R27 e_R24; kernel_rfl) (by kernel_rfl) (by subst e_R27 e_R24; kernel_rfl) (vle2 (toNat_lt g22) (by omega)) (by kernel_rfl) (by rw [e_R24]; exact setp_one r_R7 (toNat_lt g22) (by omega)) (by rw [e_R24,rowSet_length]) ?_) 
  refine TL_nil (stageQ_of [(44,.lf (.vel 8 12 2 (6 + 1)))] (by kernel_rfl) ⟨trivial,trivial⟩ ?_)
  refine Stage_te (stage_all' [2,3,9] [8,10] (by kernel_rfl) (by subst e_R27 e_R24; kernel_rfl) (by kernel_rfl) ⟨QF_at (i:=8) (d:=42) (x:=.lf (.vel 8 12 2 0)) (show OpAt _ _ _ 8 42 _ from by exact At_idxV (d:=42) (z:=(2 : Int)) (n:=8) (sz:=12) (v:=⟨76,12,List.length R24,rowsC .i64 R24⟩) (by subst e_R27 e_R24; kernel_rfl) (by subst e_R27 e_R24; kernel_rfl) g25) (by kernel_rfl) (by subst e_R27 e_R24; kernel_rfl),⟨QF_at (i:=10) (d:=44) (x:=.lf (.vel 8 12 2 (6 + 1))) (show OpAt _ _ _ 10 44 _ from by exact At_idxW (d:=44) (z:=(1 : Int)) (m:=8) (sz:=12) (q:=2) (j:=6) (es:=1) (n:=6) (by subst e_R27 e_R24; kernel_rfl) g26) (by kernel_rfl) (by subst e_R27 e_R24; kernel_rfl),trivial⟩⟩) (TE_stC (len2:=List.length R27) (m:=1) (n:=8) (sz:=12) (j:=2) (q:=6 + 1) (e:=76) (len:=List.length R24) (c:=[oI (2000 : Int)]) (cs0:=rowsC .i64 R24) (cs2:=rowsC .i64 R27) (by subst e_R27 e_R24; kernel_rfl) (by kernel_rfl) (by subst e_R27 e_R24; kernel_rfl) (vle2 (toNat_lt g25) (by omega)) (by kernel_rfl) (by rw [e_R27]; exact setp_one r_R24 (toNat_lt g25) (by omega)) (by rw [e_R27,rowSet_length]) ?_) 
  refine TL_nil (stageQ_of [] (by kernel_rfl) trivial ?_)
  refine Stage_nil (stage_all' [] [] (by kernel_rfl) (by subst e_R27 e_R24;kernel_rfl) (by kernel_rfl) trivial) ?_
  refine thenQ_n ?_
  refine KG (S4 [(0,lO 0),(2,lO 2)] [(0,[oI (0 : Int),oS none ([] : List (List Int)) 0,oS none ([] : List WT) 0]),(2,[oI (3 : Int),.one (.vec 8),oS none ([] : List WT) 0])] [(8,⟨76,12,List.length R27,rowsC .i64 R27⟩)] M) ?_ (by subst e_R27 e_R24;kernel_rfl)
  refine SQ (RG ?_)
  refine TI_of (i:=0) (by kernel_rfl) (TE_litC (d:=45) (e:=3) (sz:=1) (len:=1) (cs:=ints .i64 ([(1 : Int)])) (by kernel_rfl) (by kernel_rfl) (by kernel_rfl) ?_)
  refine SG 2 (S4 [(0,lO 0),(2,lO 2),(46,.agg [.one (.vec 45),oI (1 : Int),oI (4000 : Int),oI (4 : Int)])] [(0,[oI (0 : Int),oS none ([] : List (List Int)) 0,oS none ([] : List WT) 0]),(2,[oI (3 : Int),.one (.vec 8),oS none ([] : List WT) 0])] [(8,⟨76,12,List.length R27,rowsC .i64 R27⟩),(45,⟨3,1,List.length ([(1 : Int)]),ints .i64 ([(1 : Int)])⟩)] M) ?_
  refine TI_of (i:=2) (by kernel_rfl) (TE_litC (d:=47) (e:=3) (sz:=1) (len:=1) (cs:=ints .i64 ([(2 : Int)])) (by kernel_rfl) (by kernel_rfl) (by kernel_rfl) ?_)
  refine SG 4 (S4 [(0,lO 0),(2,lO 2),(46,.agg [.one (.vec 45),oI (1 : Int),oI (4000 : Int),oI (4 : Int)]),(48,.agg [.one (.vec 47),oI (1 : Int),oI (4000 : Int),oI (12 : Int)])] [(0,[oI (0 : Int),oS none ([] : List (List Int)) 0,oS none ([] : List WT) 0]),(2,[oI (3 : Int),.one (.vec 8),oS none ([] : List WT) 0])] [(8,⟨76,12,List.length R27,rowsC .i64 R27⟩),(45,⟨3,1,List.length ([(1 : Int)]),ints .i64 ([(1 : Int)])⟩),(47,⟨3,1,List.length ([(2 : Int)]),ints .i64 ([(2 : Int)])⟩)] M) ?_
  refine TI_turn (turn_pubV 45 (v:=⟨3,1,List.length ([(1 : Int)]),ints .i64 ([(1 : Int)])⟩) (by kernel_rfl)) ?_
  rintro _ ⟨A28,c29,M30,rfl,hSA28,hcA28,-,hNA28,hM30⟩
  have fA28 : SlI M30 A28 c29 .i64 ([(1 : Int)]) := ⟨hSA28,hcA28⟩
  refine TI_turn (turn_pubV 47 (v:=⟨3,1,List.length ([(2 : Int)]),ints .i64 ([(2 : Int)])⟩) (by kernel_rfl)) ?_
  rintro _ ⟨A31,c32,M33,rfl,hSA31,hcA31,-,hNA31,hM33⟩
  have fA31 : SlI M33 A31 c32 .i64 ([(2 : Int)]) := ⟨hSA31,hcA31⟩
  refine TI_of (i:=4) (by kernel_rfl) (TE_litC (d:=49) (e:=54) (sz:=4) (len:=2) (cs:=xC ([((A28,c29),([(1 : Int)],[(1 : Int),(4000 : Int),(4 : Int)])),((A31,c32),([(2 : Int)],[(1 : Int),(4000 : Int),(12 : Int)]))] : List XT)) (by kernel_rfl) (by kernel_rfl) (by kernel_rfl) ?_)
  have fx49_q34 : XOK M33 3 ([((A28,c29),([(1 : Int)],[(1 : Int),(4000 : Int),(4 : Int)])),((A31,c32),([(2 : Int)],[(1 : Int),(4000 : Int),(12 : Int)]))] : List XT) ([([(1 : Int)],[(1 : Int),(4000 : Int),(4 : Int)]),([(2 : Int)],[(1 : Int),(4000 : Int),(12 : Int)])] : List WT) := (XOK.cons (fA28.le hM33) rfl (XOK.cons fA31 rfl (XOK.nil _ _)))
  refine SG 7 (S4 [(0,lO 0),(2,lO 2)] [(0,[oI (0 : Int),oS none ([] : List (List Int)) 0,oS none ([] : List WT) 0]),(2,[oI (3 : Int),.one (.vec 8),.one (.vec 49)])] [(8,⟨76,12,List.length R27,rowsC .i64 R27⟩),(49,⟨54,4,List.length ([([(1 : Int)],[(1 : Int),(4000 : Int),(4 : Int)]),([(2 : Int)],[(1 : Int),(4000 : Int),(12 : Int)])] : List WT),xC ([((A28,c29),([(1 : Int)],[(1 : Int),(4000 : Int),(4 : Int)])),((A31,c32),([(2 : Int)],[(1 : Int),(4000 : Int),(12 : Int)]))] : List XT)⟩)] M33) ?_
  refine EN (SQ (RG ?_))
  refine SH 2 [(0,lO 0)] [(0,[oI (3 : Int),.one (.vec 8),.one (.vec 49)])] ?_
  refine EN ?_
  refine T_turn (turn_pubV 8 (v:=⟨76,12,List.length R27,rowsC .i64 R27⟩) (by kernel_rfl)) ?_
  rintro _ ⟨A35,c36,M37,rfl,hSA35,hcA35,-,hNA35,hM37⟩
  have fA35 : SlR M37 A35 c36 .i64 12 R27 := ⟨r_R27,hSA35,hcA35⟩
  refine KG (S4 [(0,lO 0)] [(0,[oI (3 : Int),oS A35 R27 c36,.one (.vec 49)])] [(49,⟨54,4,List.length ([([(1 : Int)],[(1 : Int),(4000 : Int),(4 : Int)]),([(2 : Int)],[(1 : Int),(4000 : Int),(12 : Int)])] : List WT),xC ([((A28,c29),([(1 : Int)],[(1 : Int),(4000 : Int),(4 : Int)])),((A31,c32),([(2 : Int)],[(1 : Int),(4000 : Int),(12 : Int)]))] : List XT)⟩)] M37) ?_
  refine T_turn (turn_pubV 49 (v:=⟨54,4,List.length ([([(1 : Int)],[(1 : Int),(4000 : Int),(4 : Int)]),([(2 : Int)],[(1 : Int),(4000 : Int),(12 : Int)])] : List WT),xC ([((A28,c29),([(1 : Int)],[(1 : Int),(4000 : Int),(4 : Int)])),((A31,c32),([(2 : Int)],[(1 : Int),(4000 : Int),(12 : Int)]))] : List XT)⟩) (by kernel_rfl)) ?_
  rintro _ ⟨A38,c39,M40,rfl,hSA38,hcA38,-,hNA38,hM40⟩
  have fA38 : SlW M40 3 A38 c39 (hx ([((A28,c29),([(1 : Int)],[(1 : Int),(4000 : Int),(4 : Int)])),((A31,c32),([(2 : Int)],[(1 : Int),(4000 : Int),(12 : Int)]))] : List XT)) (cx ([((A28,c29),([(1 : Int)],[(1 : Int),(4000 : Int),(4 : Int)])),((A31,c32),([(2 : Int)],[(1 : Int),(4000 : Int),(12 : Int)]))] : List XT)) ([([(1 : Int)],[(1 : Int),(4000 : Int),(4 : Int)]),([(2 : Int)],[(1 : Int),(4000 : Int),(12 : Int)])] : List WT) := XOK.slW ((fx49_q34.le hM37).le hM40) hSA38 hcA38
  refine KG (S4 [(0,lO 0)] [(0,[oI (3 : Int),oS A35 R27 c36,oS A38 ([([(1 : Int)],[(1 : Int),(4000 : Int),(4 : Int)]),([(2 : Int)],[(1 : Int),(4000 : Int),(12 : Int)])] : List WT) c39])] [] M40) ?_
  refine RT ?_
  obtain rfl := sj h
  refine FT (.agg [oI (3 : Int),oS A35 R27 c36,oS A38 ([([(1 : Int)],[(1 : Int),(4000 : Int),(4 : Int)]),([(2 : Int)],[(1 : Int),(4000 : Int),(12 : Int)])] : List WT) c39]) ?_
  exact ⟨A35,c36,A38,c39,(hx ([((A28,c29),([(1 : Int)],[(1 : Int),(4000 : Int),(4 : Int)])),((A31,c32),([(2 : Int)],[(1 : Int),(4000 : Int),(12 : Int)]))] : List XT)),(cx ([((A28,c29),([(1 : Int)],[(1 : Int),(4000 : Int),(4 : Int)])),((A31,c32),([(2 : Int)],[(1 : Int),(4000 : Int),(12 : Int)]))] : List XT)),rfl,(fA35.le hM40),fA38⟩
def p14 (k : Nat) : Option Bool :=
 cl3 (p51 k ) fun v1 v2 v3 => cl5 (p28 k v1 v2 v3 ([(0 : Int),(4000 : Int),(0 : Int),(0 : Int),(0 : Int),(0 : Int)]) (0 : Int) (2 : Int)) fun v11 v12 v13 v14 v15 => cl3 (p51 k ) fun v21 v22 v23 => cl2 (p24 k v21 v22 v23 ([(0 : Int),(1 : Int)]) (500 : Int)) fun v34 v35 => jn (fun (b36 : Bool) => some b36) fun j37 => lt' (v15 == (0 : Int)) fun b38 => sp b38 (lt' (v35 == (0 : Int)) fun b39 => sp b39 (lt' (v13 == (24 : Int)) fun b40 => sp b40 (lt' ((v11.length : Int) == (2 : Int)) fun b41 => sp b41 (lt' ((v12.length : Int) == (1 : Int)) fun b42 => sp b42 (lt' (v34 == (1980 : Int)) fun b43 => j37 b43) (j37 false)) (j37 false)) (j37 false)) (j37 false)) (j37 false)
theorem hf14 : Try.prog.funcs[14]? = some Try.f14 := by kernel_rfl
theorem w14 (k : Nat) {M : Mem} {r} (h : p14 k = some r) :
  Fn Try.prog 14 [] M (fun x _ => x = vb r) := by
 unfold p14 at h
 refine FO [] hf14 trivial fun w => ?_
 refine SQ0 (RG ?_)
 refine SG 1 (S4 [] [] [] M) ?_
 refine EN (SQ (RG ?_))
 obtain ⟨v1,v2,v3,c_v1,h⟩ := cl3_some h
 refine TI_of (i:=0) (by kernel_rfl) (TE_callR (d:=6) (f:=51) (args:=[]) (by kernel_rfl) (by kernel_rfl) (w51 k  c_v1) ?_)
 rintro _ M10 _ hM10 _ ⟨A4,c5,A6,c7,H8,C9,rfl,fA4,fA6⟩
 refine SG 2 (S4 [(6,.agg [oI v1,oS A4 v2 c5,oS A6 v3 c7]),(7,.agg [.arr .i64 6 [(0 : Int),(4000 : Int),(0 : Int),(0 : Int),(0 : Int),(0 : Int)]])] [] [] M10) ?_
 obtain ⟨v11,v12,v13,v14,v15,c_v11,h⟩ := cl5_some h
 refine TI_of (i:=2) (by kernel_rfl) (TE_callR (d:=8) (f:=28) (args:=[rval (.agg [oI v1,oS A4 v2 c5,oS A6 v3 c7]),rval (.agg [.arr .i64 6 [(0 : Int),(4000 : Int),(0 : Int),(0 : Int),(0 : Int),(0 : Int)]]),rval (vi (0 : Int)),rval (vi (2 : Int))]) (by kernel_rfl) (by kernel_rfl) (w28 k fA4 fA6 rfl c_v11) ?_)
 rintro _ M20 _ hM20 _ ⟨A16,c17,A18,c19,rfl,fA16,fA18⟩
 refine SG 9 (S4 [(1,lO 1),(2,vi v15)] [(1,[oS A16 v11 c17,oS A18 v12 c19,oI v13,oI v14])] [] M20) ?_
 refine EN (SQ (RG ?_))
 obtain ⟨v21,v22,v23,c_v21,h⟩ := cl3_some h
 refine TI_of (i:=0) (by kernel_rfl) (TE_callR (d:=12) (f:=51) (args:=[]) (by kernel_rfl) (by kernel_rfl) (w51 k  c_v21) ?_)
 rintro _ M30 _ hM30 _ ⟨A24,c25,A26,c27,H28,C29,rfl,fA24,fA26⟩
 refine TI_of (i:=1) (by kernel_rfl) (TE_litC (d:=13) (e:=3) (sz:=1) (len:=2) (cs:=ints .i64 ([(0 : Int),(1 : Int)])) (by kernel_rfl) (by kernel_rfl) (by kernel_rfl) ?_)
 refine SG 2 (S4 [(1,lO 1),(2,vi v15),(12,.agg [oI v21,oS A24 v22 c25,oS A26 v23 c27]),(13,lV 13)] [(1,[oS A16 v11 c17,oS A18 v12 c19,oI v13,oI v14])] [(13,⟨3,1,List.length ([(0 : Int),(1 : Int)]),ints .i64 ([(0 : Int),(1 : Int)])⟩)] M30) ?_
 refine TI_turn (turn_pubV 13 (v:=⟨3,1,List.length ([(0 : Int),(1 : Int)]),ints .i64 ([(0 : Int),(1 : Int)])⟩) (by kernel_rfl)) ?_
 rintro _ ⟨A31,c32,M33,rfl,hSA31,hcA31,-,hNA31,hM33⟩
 have fA31 : SlI M33 A31 c32 .i64 ([(0 : Int),(1 : Int)]) := ⟨hSA31,hcA31⟩
 obtain ⟨v34,v35,c_v34,h⟩ := cl2_some h
 refine AC 14 (.tup [(some (.v (.int .i64 v34)),[]),(some (.v (.int .i64 v35)),[])]) (w24 k (fA24.le hM33) (fA26.le hM33) fA31 c_v34) ?_ (hx:=(by intro y hy; simp only [List.mem_cons,List.mem_nil_iff,or_false] at hy; rcases hy with rfl | rfl <;> exact trivial))
 refine SG 8 (S4 [(1,lO 1),(2,vi v15),(3,vi v34),(4,vi v35)] [(1,[oS A16 v11 c17,oS A18 v12 c19,oI v13,oI v14])] [] M33) ?_
 refine EN ?_
 obtain ⟨j37,e_j37,h⟩ := jn_some h
 refine T_cut (c1:=(sub [1,1,1,0] Bd14)) (c2:=(sub [1,1,1,1] Bd14)) (fun s' => ∃ (b36 : Bool),Sub { σ := [(0,vb b36)],H := [],V := [],M := M33,ds := [] } s' ∧ j37 b36 = some r) (by kernel_rfl) ?_ ?_
 ·refine RG ?_
  obtain ⟨b38,e_b38,h⟩ := lt_some h
  refine SG 3 (S4 [(1,lO 1),(3,vi v34),(4,vi v35),(19,vb b38)] [(1,[oS A16 v11 c17,oS A18 v12 c19,oI v13,oI v14])] [] M33) ?_ (by subst e_b38;kernel_rfl)
  cases b38 with
  | true =>
   replace h := sp_t h
   obtain ⟨b39,e_b39,h⟩ := lt_some h
   refine SS 7 [(1,lO 1),(3,vi v34),(23,vb b39)] ?_ (by subst e_b39;kernel_rfl)
   cases b39 with
   | true =>
    replace h := sp_t h
    obtain ⟨b40,e_b40,h⟩ := lt_some h
    refine SS 12 [(1,lO 1),(3,vi v34),(28,vb b40)] ?_ (by subst e_b40;kernel_rfl)
    cases b40 with
    | true =>
     replace h := sp_t h
     obtain ⟨b41,e_b41,h⟩ := lt_some h
     refine SS 18 [(1,lO 1),(3,vi v34),(34,vb b41)] ?_ (by subst e_b41;kernel_rfl)
     cases b41 with
     | true =>
      replace h := sp_t h
      obtain ⟨b42,e_b42,h⟩ := lt_some h
      refine SH 24 [(3,vi v34),(40,vb b42)] [] ?_ (by subst e_b42;kernel_rfl)
      cases b42 with
      | true =>
       replace h := sp_t h
       obtain ⟨b43,e_b43,h⟩ := lt_some h
       refine SS 28 [(0,vb b43)] ?_ (by subst e_b43;kernel_rfl)
       refine EN ?_
       exact ⟨b43,keep_sub (ts:=[0]) (hs:=[]) (vs:=[]) (by kernel_rfl),h⟩
      | false =>
       replace h := sp_f h
       refine SS 28 [(0,vb false)] ?_
       refine EN ?_
       exact ⟨false,keep_sub (ts:=[0]) (hs:=[]) (vs:=[]) (by kernel_rfl),h⟩
     | false =>
      replace h := sp_f h
      refine SH 28 [(0,vb false)] [] ?_
      refine EN ?_
      exact ⟨false,keep_sub (ts:=[0]) (hs:=[]) (vs:=[]) (by kernel_rfl),h⟩
    | false =>
     replace h := sp_f h
     refine SH 28 [(0,vb false)] [] ?_
     refine EN ?_
     exact ⟨false,keep_sub (ts:=[0]) (hs:=[]) (vs:=[]) (by kernel_rfl),h⟩
   | false =>
    replace h := sp_f h
    refine SH 28 [(0,vb false)] [] ?_
    refine EN ?_
    exact ⟨false,keep_sub (ts:=[0]) (hs:=[]) (vs:=[]) (by kernel_rfl),h⟩
  | false =>
   replace h := sp_f h
   refine SH 28 [(0,vb false)] [] ?_
   refine EN ?_
   exact ⟨false,keep_sub (ts:=[0]) (hs:=[]) (vs:=[]) (by kernel_rfl),h⟩
 ·rintro s' ⟨b36,hsub,h⟩
  subst e_j37
  refine T_sub hsub ?_
  refine RT ?_
  obtain rfl := sj h
  exact FT (vb b36) rfl
end Go.Proofs.Ythniebmammmacaa
namespace Go.Proofs.Ythniebmammmacaa
open Go.RowKit
def p5 (k : Nat) (u0_0 : Int) (u0_1 : List (List Int)) (u0_2 : List WT) (u1 : List Int) (u2 : Int) (u3 : Int) (u4 : Int) (u5 : Int) (u6_0 : List Int) (u6_1 : Int) (u6_2 : Int) (u6_3 : Int) : Option Bool :=
 cl (p23 k u0_0 u0_1 u0_2 u1 u2 u3) fun v1 => sp v1 (cl5 (p28 k u0_0 u0_1 u0_2 u1 u2 u3) fun v2 v3 v4 v5 v6 => lt' (v6 != (0 : Int)) fun b12 => sp b12 (jn (fun (b13 : Bool) => some b13) fun j14 => lt' (v6 == (15 : Int)) fun b15 => sp b15 (cl (p14 k ) fun v16 => j14 v16) (j14 false)) (jn (fun (L17 : List Int) => cl5 (p28 k u0_0 u0_1 u0_2 L17 u2 u3) fun v31 v32 v33 v34 v35 => jn (fun (b41 : Bool) => sp b41 (some false) (gd ((List.length ([] : List WT) + List.length u0_2) * 48 ≤ 140737488355328) <| lt' (([] : List WT) ++ u0_2) fun W47 => gd ((W47.length + List.length ([(u6_0,[u6_1,u6_2,u6_3])] : List WT)) * 48 ≤ 140737488355328) <| lt' (W47 ++ ([(u6_0,[u6_1,u6_2,u6_3])] : List WT)) fun W50 => jn (fun (b54 : Bool) => sp b54 (cl (p14 k ) fun v59 => some v59) (cl5 (p28 k u0_0 u0_1 W50 u1 u2 u3) fun v60 v61 v62 v63 v64 => jn (fun (b70 : Bool) => some b70) fun j71 => lt' (v64 == (0 : Int)) fun b72 => sp b72 (lt' (decide (v62 ≤ v4)) fun b73 => sp b73 (cl (p14 k ) fun v74 => j71 v74) (j71 false)) (j71 false))) fun j55 => lt' (decide ((u6_0.length : Int) > (40 : Int))) fun b56 => sp b56 (j55 true) (cl (p29 k u0_0 u0_1 W50) fun v57 => lt' (v57 != (0 : Int)) fun b58 => j55 b58))) fun j42 => lt' (v35 != (0 : Int)) fun b43 => sp b43 (j42 true) (lt' (decide (v33 > v4)) fun b44 => j42 b44)) fun j18 => jn (fun (b19 : Bool) => sp b19 (lt' (wr .i64 (u4)) fun x27 => lt' (Int.tmod x27 (6 : Int)) fun x28 => gd ((0 : Int) ≤ x28 ∧ x28 < ((6 : Nat) : Int)) <| lt' (List.take (0 + (x28).toNat * 1) u1 ++ (u5::[]) ++ List.drop (0 + (x28).toNat * 1 + 1) u1) fun L30 => j18 L30) (j18 u1)) fun j20 => lt' (decide (u5 ≥ (0 : Int))) fun b21 => sp b21 (lt' (wr .i64 (u4)) fun x22 => lt' (Int.tmod x22 (6 : Int)) fun x23 => gd ((0 : Int) ≤ x23 ∧ x23 < ((6 : Nat) : Int)) <| lt' (List.getD u1 (0 + (x23).toNat * 1) 0) fun x25 => lt' (decide (u5 < x25)) fun b26 => j20 b26) (j20 false))) (cl (p14 k ) fun v75 => some v75)
theorem hf5 : Try.prog.funcs[5]? = some Try.f5 := by kernel_rfl
theorem w5 (k : Nat) {M : Mem} {Au0_1 Au0_2 Au6_0 : Option Addr} {cu0_1 cu0_2 cu6_0 : Nat} {Hu0_2 : Nat → Option Addr} {Cu0_2 : Nat → Nat} {u0_0 u2 u3 u4 u5 u6_1 u6_2 u6_3 : Int} {u0_1 : List (List Int)} {u0_2 : List WT} {u1 u6_0 : List Int} (hu0_1 : SlR M Au0_1 cu0_1 .i64 12 u0_1) (hu0_2 : SlW M 3 Au0_2 cu0_2 Hu0_2 Cu0_2 u0_2) (hu1 : u1.length = 6) (hu6_0 : SlI M Au6_0 cu6_0 .i64 u6_0) {r} (h : p5 k u0_0 u0_1 u0_2 u1 u2 u3 u4 u5 u6_0 u6_1 u6_2 u6_3 = some r) :
  Fn Try.prog 5 [rval (.agg [oI u0_0,oS Au0_1 u0_1 cu0_1,oS Au0_2 u0_2 cu0_2]),rval (.agg [.arr .i64 6 u1]),rval (vi u2),rval (vi u3),rval (.lf (.v (.int .u8 u4))),rval (vi u5),rval (.agg [oS Au6_0 u6_0 cu6_0,oI u6_1,oI u6_2,oI u6_3])] M (fun x _ => x = vb r) := by
 unfold p5 at h
 refine FO [.agg [oI u0_0,oS Au0_1 u0_1 cu0_1,oS Au0_2 u0_2 cu0_2],.agg [.arr .i64 6 u1],vi u2,vi u3,.lf (.v (.int .u8 u4)),vi u5,.agg [oS Au6_0 u6_0 cu6_0,oI u6_1,oI u6_2,oI u6_3]] hf5 ⟨⟨rfl,⟨rfl,⟨rfl,trivial⟩⟩⟩,⟨⟨hu1,trivial⟩,⟨trivial,⟨trivial,⟨trivial,⟨trivial,⟨⟨rfl,⟨rfl,⟨rfl,⟨rfl,trivial⟩⟩⟩⟩,trivial⟩⟩⟩⟩⟩⟩⟩ fun w => ?_
 refine SQ0 (RG ?_)
 refine SG 4 (S4 [(2,vi u2),(3,vi u3),(4,.lf (.v (.int .u8 u4))),(5,vi u5),(7,lO 7),(8,lO 8),(13,lO 13)] [(7,[oI u0_0,oS Au0_1 u0_1 cu0_1,oS Au0_2 u0_2 cu0_2]),(8,[.arr .i64 6 u1]),(13,[oS Au6_0 u6_0 cu6_0,oI u6_1,oI u6_2,oI u6_3])] [] M) ?_
 refine EN (SQ (SQ (RG ?_)))
 refine SS 4 [(2,vi u2),(3,vi u3),(4,.lf (.v (.int .u8 u4))),(5,vi u5),(7,lO 7),(8,lO 8),(13,lO 13),(21,.agg [oI u0_0,oS Au0_1 u0_1 cu0_1,oS Au0_2 u0_2 cu0_2]),(22,.agg [.arr .i64 6 u1]),(23,vi u2),(24,vi u3)] ?_
 obtain ⟨v1,c_v1,h⟩ := cl_some h
 refine AC 25 (vb v1) (w23 k hu0_1 hu0_2 hu1 c_v1) ?_
 refine SH 6 [(2,vi u2),(3,vi u3),(4,.lf (.v (.int .u8 u4))),(5,vi u5),(7,lO 7),(8,lO 8),(13,lO 13),(26,vb (!v1))] [(7,[oI u0_0,oS Au0_1 u0_1 cu0_1,oS Au0_2 u0_2 cu0_2]),(8,[.arr .i64 6 u1]),(13,[oS Au6_0 u6_0 cu6_0,oI u6_1,oI u6_2,oI u6_3])] ?_
 refine EN ?_
 cases v1 with
 | true =>
  replace h := sp_t h
  refine CF ?_
  refine KS [(2,vi u2),(3,vi u3),(4,.lf (.v (.int .u8 u4))),(5,vi u5),(7,lO 7),(8,lO 8),(13,lO 13)] ?_
  refine SN (SQ (RG ?_))
  refine SS 4 [(2,vi u2),(3,vi u3),(4,.lf (.v (.int .u8 u4))),(5,vi u5),(7,lO 7),(8,lO 8),(13,lO 13),(29,.agg [oI u0_0,oS Au0_1 u0_1 cu0_1,oS Au0_2 u0_2 cu0_2]),(30,.agg [.arr .i64 6 u1]),(31,vi u2),(32,vi u3)] ?_
  obtain ⟨v2,v3,v4,v5,v6,c_v2,h⟩ := cl5_some h
  refine TI_of (i:=4) (by kernel_rfl) (TE_callR (d:=33) (f:=28) (args:=[rval (.agg [oI u0_0,oS Au0_1 u0_1 cu0_1,oS Au0_2 u0_2 cu0_2]),rval (.agg [.arr .i64 6 u1]),rval (vi u2),rval (vi u3)]) (by kernel_rfl) (by kernel_rfl) (w28 k hu0_1 hu0_2 hu1 c_v2) ?_)
  rintro _ M11 _ hM11 _ ⟨A7,c8,A9,c10,rfl,fA7,fA9⟩
  refine SG 11 (S4 [(2,vi u2),(3,vi u3),(4,.lf (.v (.int .u8 u4))),(5,vi u5),(7,lO 7),(8,lO 8),(13,lO 13),(15,lO 15),(16,vi v6)] [(7,[oI u0_0,oS Au0_1 u0_1 cu0_1,oS Au0_2 u0_2 cu0_2]),(8,[.arr .i64 6 u1]),(13,[oS Au6_0 u6_0 cu6_0,oI u6_1,oI u6_2,oI u6_3]),(15,[oS A7 v2 c8,oS A9 v3 c10,oI v4,oI v5])] [] M11) ?_
  refine EN (SQ (SQ (RG ?_)))
  obtain ⟨b12,e_b12,h⟩ := lt_some h
  refine SS 2 [(2,vi u2),(3,vi u3),(4,.lf (.v (.int .u8 u4))),(5,vi u5),(7,lO 7),(8,lO 8),(13,lO 13),(15,lO 15),(16,vi v6),(37,vb b12)] ?_ (by subst e_b12;kernel_rfl)
  refine EN ?_
  cases b12 with
  | true =>
   replace h := sp_t h
   refine CT ?_
   refine KP [(16,vi v6)] [] [] ?_
   obtain ⟨j14,e_j14,h⟩ := jn_some h
   refine T_cut (c1:=(sub [1,1,1,0,1,0,0] Bd5)) (c2:=(sub [1,1,1,0,1,0,1] Bd5)) (fun s' => ∃ (b13 : Bool),Sub { σ := [(14,vb b13)],H := [],V := [],M := M11,ds := [] } s' ∧ j14 b13 = some r) (by kernel_rfl) ?_ ?_
   ·refine RG ?_
    obtain ⟨b15,e_b15,h⟩ := lt_some h
    refine SG 3 (S4 [(40,vb b15)] [] [] M11) ?_ (by subst e_b15;kernel_rfl)
    cases b15 with
    | true =>
     replace h := sp_t h
     obtain ⟨v16,c_v16,h⟩ := cl_some h
     refine AC 41 (vb v16) (w14 k  c_v16) ?_
     refine SH 6 [(14,vb v16)] [] ?_
     refine EN ?_
     exact ⟨v16,keep_sub (ts:=[14]) (hs:=[]) (vs:=[]) (by kernel_rfl),h⟩
    | false =>
     replace h := sp_f h
     refine SS 6 [(14,vb false)] ?_
     refine EN ?_
     exact ⟨false,keep_sub (ts:=[14]) (hs:=[]) (vs:=[]) (by kernel_rfl),h⟩
   ·rintro s' ⟨b13,hsub,h⟩
    subst e_j14
    refine T_sub hsub ?_
    refine RT (thenQ_r ?_)
    obtain rfl := sj h
    exact FT (vb b13) rfl
  | false =>
   replace h := sp_f h
   refine CF ?_
   refine KS [(2,vi u2),(3,vi u3),(4,.lf (.v (.int .u8 u4))),(5,vi u5),(7,lO 7),(8,lO 8),(13,lO 13),(15,lO 15)] ?_
   refine SN (SQ (RG ?_))
   refine SH 3 [(2,vi u2),(3,vi u3),(4,.lf (.v (.int .u8 u4))),(5,vi u5),(7,lO 7),(8,lO 8),(13,lO 13),(15,lO 15),(17,lO 17)] [(7,[oI u0_0,oS Au0_1 u0_1 cu0_1,oS Au0_2 u0_2 cu0_2]),(8,[.arr .i64 6 u1]),(13,[oS Au6_0 u6_0 cu6_0,oI u6_1,oI u6_2,oI u6_3]),(15,[oS A7 v2 c8,oS A9 v3 c10,oI v4,oI v5]),(17,[.arr .i64 6 u1])] ?_
   refine EN ?_
   obtain ⟨j18,e_j18,h⟩ := jn_some h
   refine T_cut (c1:=(sub [1,1,1,1,1,0] Bd5)) (c2:=(sub [1,1,1,1,1,1] Bd5)) (fun s' => ∃ (L17 : List Int),Sub { σ := [(2,vi u2),(3,vi u3),(7,lO 7),(8,lO 8),(13,lO 13),(15,lO 15),(17,lO 17)],H := [(7,[oI u0_0,oS Au0_1 u0_1 cu0_1,oS Au0_2 u0_2 cu0_2]),(8,[.arr .i64 6 u1]),(13,[oS Au6_0 u6_0 cu6_0,oI u6_1,oI u6_2,oI u6_3]),(15,[oS A7 v2 c8,oS A9 v3 c10,oI v4,oI v5]),(17,[.arr .i64 6 L17])],V := [],M := M11,ds := [] } s' ∧ (L17).length = 6 ∧ j18 L17 = some r) (by kernel_rfl) ?_ ?_
   ·obtain ⟨j20,e_j20,h⟩ := jn_some h
    refine T_cut (c1:=(sub [1,1,1,1,1,0,0] Bd5)) (c2:=(sub [1,1,1,1,1,0,1] Bd5)) (fun s' => ∃ (b19 : Bool),Sub { σ := [(2,vi u2),(3,vi u3),(4,.lf (.v (.int .u8 u4))),(5,vi u5),(7,lO 7),(8,lO 8),(13,lO 13),(15,lO 15),(17,lO 17),(54,vb b19)],H := [(7,[oI u0_0,oS Au0_1 u0_1 cu0_1,oS Au0_2 u0_2 cu0_2]),(8,[.arr .i64 6 u1]),(13,[oS Au6_0 u6_0 cu6_0,oI u6_1,oI u6_2,oI u6_3]),(15,[oS A7 v2 c8,oS A9 v3 c10,oI v4,oI v5]),(17,[.arr .i64 6 u1])],V := [],M := M11,ds := [] } s' ∧ j20 b19 = some r) (by kernel_rfl) ?_ ?_
    ·refine RG ?_
     obtain ⟨b21,e_b21,h⟩ := lt_some h
     refine SG 3 (S4 [(2,vi u2),(3,vi u3),(4,.lf (.v (.int .u8 u4))),(5,vi u5),(7,lO 7),(8,lO 8),(13,lO 13),(15,lO 15),(17,lO 17),(46,vb b21)] [(7,[oI u0_0,oS Au0_1 u0_1 cu0_1,oS Au0_2 u0_2 cu0_2]),(8,[.arr .i64 6 u1]),(13,[oS Au6_0 u6_0 cu6_0,oI u6_1,oI u6_2,oI u6_3]),(15,[oS A7 v2 c8,oS A9 v3 c10,oI v4,oI v5]),(17,[.arr .i64 6 u1])] [] M11) ?_ (by subst e_b21;kernel_rfl)
     cases b21 with
     | true =>
      replace h := sp_t h
      obtain ⟨x22,e_x22,h⟩ := lt_some h
      obtain ⟨x23,e_x23,h⟩ := lt_some h
      refine SS 7 [(2,vi u2),(3,vi u3),(4,.lf (.v (.int .u8 u4))),(5,vi u5),(7,lO 7),(8,lO 8),(13,lO 13),(15,lO 15),(17,lO 17),(46,vb true),(47,vi u5),(50,vi x23)] ?_ (by subst e_x23 e_x22;kernel_rfl)
      obtain ⟨g24,h⟩ := gd_some h
      refine AT 51 (.lf (.oel 17 (0 + (x23).toNat * 1))) (At_idxO (z:=x23) (b:=17) (off:=0) (sz:=1) (n:=6) (by kernel_rfl) g24) ?_
      obtain ⟨x25,e_x25,h⟩ := lt_some h
      refine AT 52 (vi x25) (by rw [e_x25]; exact At_ldO1 (b:=17) (off:=0 + (x23).toNat * 1) (base:=0) (q:=0 + (x23).toNat * 1) (n:=6) (k:=.i64) (L:=u1) (by subst e_x25; kernel_rfl) (by subst e_x25; kernel_rfl) (by omega) (by omega)) ?_
      obtain ⟨b26,e_b26,h⟩ := lt_some h
      refine SH 11 [(2,vi u2),(3,vi u3),(4,.lf (.v (.int .u8 u4))),(5,vi u5),(7,lO 7),(8,lO 8),(13,lO 13),(15,lO 15),(17,lO 17),(54,vb b26)] [(7,[oI u0_0,oS Au0_1 u0_1 cu0_1,oS Au0_2 u0_2 cu0_2]),(8,[.arr .i64 6 u1]),(13,[oS Au6_0 u6_0 cu6_0,oI u6_1,oI u6_2,oI u6_3]),(15,[oS A7 v2 c8,oS A9 v3 c10,oI v4,oI v5]),(17,[.arr .i64 6 u1])] ?_ (by subst e_b26;kernel_rfl)
      refine EN ?_
      exact ⟨b26,keep_sub (ts:=[2,3,4,5,7,8,13,15,17,54]) (hs:=[7,8,13,15,17]) (vs:=[]) (by kernel_rfl),h⟩
     | false =>
      replace h := sp_f h
      refine SS 11 [(2,vi u2),(3,vi u3),(4,.lf (.v (.int .u8 u4))),(5,vi u5),(7,lO 7),(8,lO 8),(13,lO 13),(15,lO 15),(17,lO 17),(54,vb false)] ?_
      refine EN ?_
      exact ⟨false,keep_sub (ts:=[2,3,4,5,7,8,13,15,17,54]) (hs:=[7,8,13,15,17]) (vs:=[]) (by kernel_rfl),h⟩
    ·rintro s' ⟨b19,hsub,h⟩
     subst e_j20
     refine T_sub hsub ?_
     cases b19 with
     | true =>
      replace h := sp_t h
      refine CT ?_
      refine KG (S4 [(2,vi u2),(3,vi u3),(4,.lf (.v (.int .u8 u4))),(5,vi u5),(7,lO 7),(8,lO 8),(13,lO 13),(15,lO 15),(17,lO 17)] [(7,[oI u0_0,oS Au0_1 u0_1 cu0_1,oS Au0_2 u0_2 cu0_2]),(8,[.arr .i64 6 u1]),(13,[oS Au6_0 u6_0 cu6_0,oI u6_1,oI u6_2,oI u6_3]),(15,[oS A7 v2 c8,oS A9 v3 c10,oI v4,oI v5]),(17,[.arr .i64 6 u1])] [] M11) ?_
      refine RG ?_
      obtain ⟨x27,e_x27,h⟩ := lt_some h
      obtain ⟨x28,e_x28,h⟩ := lt_some h
      refine SS 4 [(2,vi u2),(3,vi u3),(7,lO 7),(8,lO 8),(13,lO 13),(15,lO 15),(17,lO 17),(57,vi x28),(58,vi u5)] ?_ (by subst e_x28 e_x27;kernel_rfl)
      obtain ⟨g29,h⟩ := gd_some h
      refine AT 59 (.lf (.oel 17 (0 + (x28).toNat * 1))) (At_idxO (z:=x28) (b:=17) (off:=0) (sz:=1) (n:=6) (by kernel_rfl) g29) ?_
      obtain ⟨L30,e_L30,h⟩ := lt_some h
      have l_L30 : (L30).length = 6 := by rw [e_L30]; have q0 := (show (u1).length = 6 from hu1); simp only [List.length_append,List.length_take,List.length_drop,List.length_cons,List.length_nil]; omega
      refine TI_of (i:=5) (by kernel_rfl) (TE_stOC (m:=1) (b:=17) (off:=0 + (x28).toNat * 1) (base:=0) (q:=0 + (x28).toNat * 1) (n:=6) (k:=.i64) (L:=u1) (L2:=L30) (Z:=(u5::[])) (e:=[oI u5]) (c':=[.arr .i64 6 L30]) (by subst e_L30;kernel_rfl) (by kernel_rfl) (by subst e_L30;kernel_rfl) (by omega) (by omega) (by kernel_rfl) (by kernel_rfl) e_L30 (by kernel_rfl) ?_)
      refine SG 6 (S4 [(2,vi u2),(3,vi u3),(7,lO 7),(8,lO 8),(13,lO 13),(15,lO 15),(17,lO 17)] [(7,[oI u0_0,oS Au0_1 u0_1 cu0_1,oS Au0_2 u0_2 cu0_2]),(8,[.arr .i64 6 u1]),(13,[oS Au6_0 u6_0 cu6_0,oI u6_1,oI u6_2,oI u6_3]),(15,[oS A7 v2 c8,oS A9 v3 c10,oI v4,oI v5]),(17,[.arr .i64 6 L30])] [] M11) ?_
      refine EN ?_
      exact ⟨L30,keep_sub (ts:=[2,3,7,8,13,15,17]) (hs:=[7,8,13,15,17]) (vs:=[]) (by kernel_rfl),l_L30,h⟩
     | false =>
      replace h := sp_f h
      refine CF ?_
      refine KG (S4 [(2,vi u2),(3,vi u3),(7,lO 7),(8,lO 8),(13,lO 13),(15,lO 15),(17,lO 17)] [(7,[oI u0_0,oS Au0_1 u0_1 cu0_1,oS Au0_2 u0_2 cu0_2]),(8,[.arr .i64 6 u1]),(13,[oS Au6_0 u6_0 cu6_0,oI u6_1,oI u6_2,oI u6_3]),(15,[oS A7 v2 c8,oS A9 v3 c10,oI v4,oI v5]),(17,[.arr .i64 6 u1])] [] M11) ?_
      refine SN ?_
      exact ⟨u1,keep_sub (ts:=[2,3,7,8,13,15,17]) (hs:=[7,8,13,15,17]) (vs:=[]) (by kernel_rfl),hu1,h⟩
   ·rintro s' ⟨L17,hsub,l_L17,h⟩
    subst e_j18
    refine T_sub hsub ?_
    refine SQ (RG ?_)
    refine SG 4 (S4 [(2,vi u2),(3,vi u3),(7,lO 7),(8,lO 8),(13,lO 13),(15,lO 15),(61,.agg [oI u0_0,oS Au0_1 u0_1 cu0_1,oS Au0_2 u0_2 cu0_2]),(62,.agg [.arr .i64 6 L17]),(63,vi u2),(64,vi u3)] [(7,[oI u0_0,oS Au0_1 u0_1 cu0_1,oS Au0_2 u0_2 cu0_2]),(8,[.arr .i64 6 u1]),(13,[oS Au6_0 u6_0 cu6_0,oI u6_1,oI u6_2,oI u6_3]),(15,[oS A7 v2 c8,oS A9 v3 c10,oI v4,oI v5])] [] M11) ?_
    obtain ⟨v31,v32,v33,v34,v35,c_v31,h⟩ := cl5_some h
    refine TI_of (i:=4) (by kernel_rfl) (TE_callR (d:=65) (f:=28) (args:=[rval (.agg [oI u0_0,oS Au0_1 u0_1 cu0_1,oS Au0_2 u0_2 cu0_2]),rval (.agg [.arr .i64 6 L17]),rval (vi u2),rval (vi u3)]) (by kernel_rfl) (by kernel_rfl) (w28 k (hu0_1.le hM11) (hu0_2.le hM11) l_L17 c_v31) ?_)
    rintro _ M40 _ hM40 _ ⟨A36,c37,A38,c39,rfl,fA36,fA38⟩
    refine SG 11 (S4 [(2,vi u2),(3,vi u3),(7,lO 7),(8,lO 8),(13,lO 13),(15,lO 15),(18,lO 18),(19,vi v35)] [(7,[oI u0_0,oS Au0_1 u0_1 cu0_1,oS Au0_2 u0_2 cu0_2]),(8,[.arr .i64 6 u1]),(13,[oS Au6_0 u6_0 cu6_0,oI u6_1,oI u6_2,oI u6_3]),(15,[oS A7 v2 c8,oS A9 v3 c10,oI v4,oI v5]),(18,[oS A36 v31 c37,oS A38 v32 c39,oI v33,oI v34])] [] M40) ?_
    refine EN (SQ ?_)
    obtain ⟨j42,e_j42,h⟩ := jn_some h
    refine T_cut (c1:=(sub [1,1,1,1,1,1,1,0,0] Bd5)) (c2:=(sub [1,1,1,1,1,1,1,0,1] Bd5)) (fun s' => ∃ (b41 : Bool),Sub { σ := [(2,vi u2),(3,vi u3),(7,lO 7),(8,lO 8),(13,lO 13),(15,lO 15),(18,lO 18),(76,vb b41)],H := [(7,[oI u0_0,oS Au0_1 u0_1 cu0_1,oS Au0_2 u0_2 cu0_2]),(8,[.arr .i64 6 u1]),(13,[oS Au6_0 u6_0 cu6_0,oI u6_1,oI u6_2,oI u6_3]),(15,[oS A7 v2 c8,oS A9 v3 c10,oI v4,oI v5]),(18,[oS A36 v31 c37,oS A38 v32 c39,oI v33,oI v34])],V := [],M := M40,ds := [] } s' ∧ j42 b41 = some r) (by kernel_rfl) ?_ ?_
    ·refine RG ?_
     obtain ⟨b43,e_b43,h⟩ := lt_some h
     refine SG 3 (S4 [(2,vi u2),(3,vi u3),(7,lO 7),(8,lO 8),(13,lO 13),(15,lO 15),(18,lO 18),(70,vb b43)] [(7,[oI u0_0,oS Au0_1 u0_1 cu0_1,oS Au0_2 u0_2 cu0_2]),(8,[.arr .i64 6 u1]),(13,[oS Au6_0 u6_0 cu6_0,oI u6_1,oI u6_2,oI u6_3]),(15,[oS A7 v2 c8,oS A9 v3 c10,oI v4,oI v5]),(18,[oS A36 v31 c37,oS A38 v32 c39,oI v33,oI v34])] [] M40) ?_ (by subst e_b43;kernel_rfl)
     cases b43 with
     | true =>
      replace h := sp_t h
      refine SS 9 [(2,vi u2),(3,vi u3),(7,lO 7),(8,lO 8),(13,lO 13),(15,lO 15),(18,lO 18),(76,vb true)] ?_
      refine EN ?_
      exact ⟨true,keep_sub (ts:=[2,3,7,8,13,15,18,76]) (hs:=[7,8,13,15,18]) (vs:=[]) (by kernel_rfl),h⟩
     | false =>
      replace h := sp_f h
      obtain ⟨b44,e_b44,h⟩ := lt_some h
      refine SS 9 [(2,vi u2),(3,vi u3),(7,lO 7),(8,lO 8),(13,lO 13),(15,lO 15),(18,lO 18),(76,vb b44)] ?_ (by subst e_b44;kernel_rfl)
      refine EN ?_
      exact ⟨b44,keep_sub (ts:=[2,3,7,8,13,15,18,76]) (hs:=[7,8,13,15,18]) (vs:=[]) (by kernel_rfl),h⟩
    ·rintro s' ⟨b41,hsub,h⟩
     subst e_j42
     refine T_sub hsub ?_
     cases b41 with
     | true =>
      replace h := sp_t h
      refine CT ?_
      refine KG (S4 [] [] [] M40) ?_
      refine SQ (RG ?_)
      refine SS 1 [(14,vb false)] ?_
      refine EN (RT (thenQ_r ?_))
      obtain rfl := sj h
      exact FT (vb false) rfl
     | false =>
      replace h := sp_f h
      refine CF ?_
      refine KG (S4 [(2,vi u2),(3,vi u3),(7,lO 7),(8,lO 8),(13,lO 13),(15,lO 15),(18,lO 18)] [(7,[oI u0_0,oS Au0_1 u0_1 cu0_1,oS Au0_2 u0_2 cu0_2]),(8,[.arr .i64 6 u1]),(13,[oS Au6_0 u6_0 cu6_0,oI u6_1,oI u6_2,oI u6_3]),(15,[oS A7 v2 c8,oS A9 v3 c10,oI v4,oI v5]),(18,[oS A36 v31 c37,oS A38 v32 c39,oI v33,oI v34])] [] M40) ?_
      refine SN (SQ (RG ?_))
      refine SH 3 [(2,vi u2),(3,vi u3),(7,lO 7),(8,lO 8),(13,lO 13),(15,lO 15),(18,lO 18),(20,lO 20)] [(7,[oI u0_0,oS Au0_1 u0_1 cu0_1,oS Au0_2 u0_2 cu0_2]),(8,[.arr .i64 6 u1]),(13,[oS Au6_0 u6_0 cu6_0,oI u6_1,oI u6_2,oI u6_3]),(15,[oS A7 v2 c8,oS A9 v3 c10,oI v4,oI v5]),(18,[oS A36 v31 c37,oS A38 v32 c39,oI v33,oI v34]),(20,[oI u0_0,oS Au0_1 u0_1 cu0_1,oS Au0_2 u0_2 cu0_2])] ?_
      refine EN (SQ ?_)
      obtain ⟨g46,h⟩ := gd_some h
      obtain ⟨W47,e_W47,h⟩ := lt_some h
      obtain ⟨g49,h⟩ := gd_some h
      obtain ⟨W50,e_W50,h⟩ := lt_some h
      have fx78_q45 : XOK M40 3 ([] : List XT) ([] : List WT) := (XOK.nil _ _)
      have fx_W47 : XOK M40 3 (([] : List XT) ++ (toX Hu0_2 Cu0_2 0 u0_2)) W47 := XOK.app fx78_q45 (SlW.xok ((hu0_2.le hM11).le hM40)) e_W47
      have fx83_q48 : XOK M40 3 ([((Au6_0,cu6_0),(u6_0,[u6_1,u6_2,u6_3]))] : List XT) ([(u6_0,[u6_1,u6_2,u6_3])] : List WT) := (XOK.cons ((hu6_0.le hM11).le hM40) rfl (XOK.nil _ _))
      have fx_W50 : XOK M40 3 ((([] : List XT) ++ (toX Hu0_2 Cu0_2 0 u0_2)) ++ ([((Au6_0,cu6_0),(u6_0,[u6_1,u6_2,u6_3]))] : List XT)) W50 := XOK.app fx_W47 fx83_q48 e_W50
      refine T_rcut ({ σ := [(2,vi u2),(3,vi u3),(8,lO 8),(13,lO 13),(15,lO 15),(18,lO 18),(20,lO 20)],H := [(8,[.arr .i64 6 u1]),(13,[oS Au6_0 u6_0 cu6_0,oI u6_1,oI u6_2,oI u6_3]),(15,[oS A7 v2 c8,oS A9 v3 c10,oI v4,oI v5]),(18,[oS A36 v31 c37,oS A38 v32 c39,oI v33,oI v34]),(20,[oI u0_0,oS Au0_1 u0_1 cu0_1,.one (.vec 84)])],V := [(84,⟨54,4,List.length W50,xC ((([] : List XT) ++ (toX Hu0_2 Cu0_2 0 u0_2)) ++ ([((Au6_0,cu6_0),(u6_0,[u6_1,u6_2,u6_3]))] : List XT))⟩)],M := M40,ds := [] }) ?_ ?_
      ·refine T_drawT (id:=13) 5 [0,3,5,6,8] [[],[],[],[],[],[],[],[0,3,5,6],[]] (by kernel_rfl) (by kernel_rfl) (by kernel_rfl) (by kernel_rfl) [(79,.lf (.own 7 2)),(80,lS Au0_2 u0_2 cu0_2),(82,.agg [oS Au6_0 u6_0 cu6_0,oI u6_1,oI u6_2,oI u6_3])] (by kernel_rfl) ⟨trivial,⟨trivial,⟨⟨rfl,⟨rfl,⟨rfl,⟨rfl,trivial⟩⟩⟩⟩,trivial⟩⟩⟩ ?_
       refine StageT_cons [0,5] (stageT_all [1,2,4] [] (by kernel_rfl) (by subst e_W50 e_W47;kernel_rfl) (by kernel_rfl) trivial) (by kernel_rfl) (by kernel_rfl) ⟨?_,?_,trivial⟩
       ·refine TE_litC (d:=78) (e:=54) (sz:=4) (len:=0) (cs:=xC ([] : List XT)) (by subst e_W50 e_W47;kernel_rfl) (by kernel_rfl) (by kernel_rfl) ?_
        refine TL_nil (stageTQ_of [] (by kernel_rfl) trivial ?_)
        refine StageT_cons [3,5] (stageT_all [1,2,4] [] (by kernel_rfl) (by subst e_W50 e_W47;kernel_rfl) (by kernel_rfl) trivial) (by kernel_rfl) (by kernel_rfl) ⟨?_,?_,trivial⟩
        ·refine TE_appC (d:=81) (e:=54) (sz:=4) (bytes:=48) (n:=78) (x:=(.tmp 80)) (len:=List.length ([] : List WT)) (cs0:=xC ([] : List XT)) (cs2:=xC (([] : List XT) ++ (toX Hu0_2 Cu0_2 0 u0_2))) (by subst e_W50 e_W47;kernel_rfl) (by kernel_rfl) (by subst e_W50 e_W47;kernel_rfl) (SlW.src (m:=3) (by subst e_W50 e_W47;kernel_rfl) ((hu0_2.le hM11).le hM40)) g46 rfl (len_app_eq e_W47) (xC_app _ _) ?_
         refine TL_nil (stageTQ_of [] (by kernel_rfl) trivial ?_)
         refine StageT_cons [5] (stageT_all [4] [] (by kernel_rfl) (by subst e_W50 e_W47;kernel_rfl) (by kernel_rfl) trivial) (by kernel_rfl) (by kernel_rfl) ⟨?_,trivial⟩
         ·refine TE_litC (d:=83) (e:=54) (sz:=4) (len:=1) (cs:=xC ([((Au6_0,cu6_0),(u6_0,[u6_1,u6_2,u6_3]))] : List XT)) (by subst e_W50 e_W47;kernel_rfl) (by kernel_rfl) (by kernel_rfl) ?_
          refine TL_nil (stageTQ_of [] (by kernel_rfl) trivial ?_)
          refine StageT_cons [6] (stageT_all [] [] (by kernel_rfl) (by subst e_W50 e_W47;kernel_rfl) (by kernel_rfl) trivial) (by kernel_rfl) (by kernel_rfl) ⟨?_,trivial⟩
          ·refine TE_appC (d:=84) (e:=54) (sz:=4) (bytes:=48) (n:=81) (x:=(.tmp 83)) (len:=List.length W47) (cs0:=xC (([] : List XT) ++ (toX Hu0_2 Cu0_2 0 u0_2))) (cs2:=xC ((([] : List XT) ++ (toX Hu0_2 Cu0_2 0 u0_2)) ++ ([((Au6_0,cu6_0),(u6_0,[u6_1,u6_2,u6_3]))] : List XT))) (by subst e_W50 e_W47;kernel_rfl) (by kernel_rfl) (by subst e_W50 e_W47;kernel_rfl) (vecX_src (n:=83) (e:=54) (m:=3) (W:=([(u6_0,[u6_1,u6_2,u6_3])] : List WT)) (by subst e_W50 e_W47;kernel_rfl) (by subst e_W50 e_W47;kernel_rfl) fx83_q48) g49 rfl (len_app_eq e_W50) (xC_app _ _) ?_
           refine TL_nil (stageTQ_of [(85,.lf (.own 20 2))] (by kernel_rfl) ⟨trivial,trivial⟩ ?_)
           refine StageT_cons [8] (stageT_all [7] [] (by kernel_rfl) (by subst e_W50 e_W47;kernel_rfl) (by kernel_rfl) trivial) (by kernel_rfl) (by kernel_rfl) ⟨?_,trivial⟩
           ·refine StepT_ex ({ σ := [(85,.lf (.own 20 2)),(84,lV 84),(83,lV 83),(81,lV 81),(78,lV 78),(79,.lf (.own 7 2)),(80,lS Au0_2 u0_2 cu0_2),(82,.agg [oS Au6_0 u6_0 cu6_0,oI u6_1,oI u6_2,oI u6_3]),(2,vi u2),(3,vi u3),(7,lO 7),(8,lO 8),(13,lO 13),(15,lO 15),(18,lO 18),(20,lO 20)],H := [(20,[oI u0_0,oS Au0_1 u0_1 cu0_1,.one (.vec 84)]),(7,[oI u0_0,oS Au0_1 u0_1 cu0_1,oS Au0_2 u0_2 cu0_2]),(8,[.arr .i64 6 u1]),(13,[oS Au6_0 u6_0 cu6_0,oI u6_1,oI u6_2,oI u6_3]),(15,[oS A7 v2 c8,oS A9 v3 c10,oI v4,oI v5]),(18,[oS A36 v31 c37,oS A38 v32 c39,oI v33,oI v34]),(20,[oI u0_0,oS Au0_1 u0_1 cu0_1,oS Au0_2 u0_2 cu0_2])],V := [(84,⟨54,4,List.length W50,xC ((([] : List XT) ++ (toX Hu0_2 Cu0_2 0 u0_2)) ++ ([((Au6_0,cu6_0),(u6_0,[u6_1,u6_2,u6_3]))] : List XT))⟩),(83,⟨54,4,List.length ([(u6_0,[u6_1,u6_2,u6_3])] : List WT),xC ([((Au6_0,cu6_0),(u6_0,[u6_1,u6_2,u6_3]))] : List XT)⟩)],M := M40,ds := [] }) (by subst e_W50 e_W47;kernel_rfl) [] (by kernel_rfl) trivial ?_
            refine StageT_leaf (stageT_all [] [] (by kernel_rfl) (by subst e_W50 e_W47;kernel_rfl) (by kernel_rfl) trivial) (by kernel_rfl) ?_
            exact ⟨rfl,keep_sub (s':={ σ := [(2,vi u2),(3,vi u3),(8,lO 8),(13,lO 13),(15,lO 15),(18,lO 18),(20,lO 20)],H := [(8,[.arr .i64 6 u1]),(13,[oS Au6_0 u6_0 cu6_0,oI u6_1,oI u6_2,oI u6_3]),(15,[oS A7 v2 c8,oS A9 v3 c10,oI v4,oI v5]),(18,[oS A36 v31 c37,oS A38 v32 c39,oI v33,oI v34]),(20,[oI u0_0,oS Au0_1 u0_1 cu0_1,.one (.vec 84)])],V := [(84,⟨54,4,List.length W50,xC ((([] : List XT) ++ (toX Hu0_2 Cu0_2 0 u0_2)) ++ ([((Au6_0,cu6_0),(u6_0,[u6_1,u6_2,u6_3]))] : List XT))⟩)],M := M40,ds := [] }) (ts:=[2,3,8,13,15,18,20]) (hs:=[8,13,15,18,20]) (vs:=[84]) (by subst e_W50 e_W47;kernel_rfl)⟩
        ·refine TE_litC (d:=83) (e:=54) (sz:=4) (len:=1) (cs:=xC ([((Au6_0,cu6_0),(u6_0,[u6_1,u6_2,u6_3]))] : List XT)) (by subst e_W50 e_W47;kernel_rfl) (by kernel_rfl) (by kernel_rfl) ?_
         refine TL_nil (stageTQ_of [] (by kernel_rfl) trivial ?_)
         refine StageT_cons [3] (stageT_all [1,2] [] (by kernel_rfl) (by subst e_W50 e_W47;kernel_rfl) (by kernel_rfl) trivial) (by kernel_rfl) (by kernel_rfl) ⟨?_,trivial⟩
         ·refine TE_appC (d:=81) (e:=54) (sz:=4) (bytes:=48) (n:=78) (x:=(.tmp 80)) (len:=List.length ([] : List WT)) (cs0:=xC ([] : List XT)) (cs2:=xC (([] : List XT) ++ (toX Hu0_2 Cu0_2 0 u0_2))) (by subst e_W50 e_W47;kernel_rfl) (by kernel_rfl) (by subst e_W50 e_W47;kernel_rfl) (SlW.src (m:=3) (by subst e_W50 e_W47;kernel_rfl) ((hu0_2.le hM11).le hM40)) g46 rfl (len_app_eq e_W47) (xC_app _ _) ?_
          refine TL_nil (stageTQ_of [] (by kernel_rfl) trivial ?_)
          refine StageT_cons [6] (stageT_all [] [] (by kernel_rfl) (by subst e_W50 e_W47;kernel_rfl) (by kernel_rfl) trivial) (by kernel_rfl) (by kernel_rfl) ⟨?_,trivial⟩
          ·refine TE_appC (d:=84) (e:=54) (sz:=4) (bytes:=48) (n:=81) (x:=(.tmp 83)) (len:=List.length W47) (cs0:=xC (([] : List XT) ++ (toX Hu0_2 Cu0_2 0 u0_2))) (cs2:=xC ((([] : List XT) ++ (toX Hu0_2 Cu0_2 0 u0_2)) ++ ([((Au6_0,cu6_0),(u6_0,[u6_1,u6_2,u6_3]))] : List XT))) (by subst e_W50 e_W47;kernel_rfl) (by kernel_rfl) (by subst e_W50 e_W47;kernel_rfl) (vecX_src (n:=83) (e:=54) (m:=3) (W:=([(u6_0,[u6_1,u6_2,u6_3])] : List WT)) (by subst e_W50 e_W47;kernel_rfl) (by subst e_W50 e_W47;kernel_rfl) fx83_q48) g49 rfl (len_app_eq e_W50) (xC_app _ _) ?_
           refine TL_nil (stageTQ_of [(85,.lf (.own 20 2))] (by kernel_rfl) ⟨trivial,trivial⟩ ?_)
           refine StageT_cons [8] (stageT_all [7] [] (by kernel_rfl) (by subst e_W50 e_W47;kernel_rfl) (by kernel_rfl) trivial) (by kernel_rfl) (by kernel_rfl) ⟨?_,trivial⟩
           ·refine StepT_ex ({ σ := [(85,.lf (.own 20 2)),(84,lV 84),(81,lV 81),(83,lV 83),(78,lV 78),(79,.lf (.own 7 2)),(80,lS Au0_2 u0_2 cu0_2),(82,.agg [oS Au6_0 u6_0 cu6_0,oI u6_1,oI u6_2,oI u6_3]),(2,vi u2),(3,vi u3),(7,lO 7),(8,lO 8),(13,lO 13),(15,lO 15),(18,lO 18),(20,lO 20)],H := [(20,[oI u0_0,oS Au0_1 u0_1 cu0_1,.one (.vec 84)]),(7,[oI u0_0,oS Au0_1 u0_1 cu0_1,oS Au0_2 u0_2 cu0_2]),(8,[.arr .i64 6 u1]),(13,[oS Au6_0 u6_0 cu6_0,oI u6_1,oI u6_2,oI u6_3]),(15,[oS A7 v2 c8,oS A9 v3 c10,oI v4,oI v5]),(18,[oS A36 v31 c37,oS A38 v32 c39,oI v33,oI v34]),(20,[oI u0_0,oS Au0_1 u0_1 cu0_1,oS Au0_2 u0_2 cu0_2])],V := [(84,⟨54,4,List.length W50,xC ((([] : List XT) ++ (toX Hu0_2 Cu0_2 0 u0_2)) ++ ([((Au6_0,cu6_0),(u6_0,[u6_1,u6_2,u6_3]))] : List XT))⟩),(83,⟨54,4,List.length ([(u6_0,[u6_1,u6_2,u6_3])] : List WT),xC ([((Au6_0,cu6_0),(u6_0,[u6_1,u6_2,u6_3]))] : List XT)⟩)],M := M40,ds := [] }) (by subst e_W50 e_W47;kernel_rfl) [] (by kernel_rfl) trivial ?_
            refine StageT_leaf (stageT_all [] [] (by kernel_rfl) (by subst e_W50 e_W47;kernel_rfl) (by kernel_rfl) trivial) (by kernel_rfl) ?_
            exact ⟨rfl,keep_sub (s':={ σ := [(2,vi u2),(3,vi u3),(8,lO 8),(13,lO 13),(15,lO 15),(18,lO 18),(20,lO 20)],H := [(8,[.arr .i64 6 u1]),(13,[oS Au6_0 u6_0 cu6_0,oI u6_1,oI u6_2,oI u6_3]),(15,[oS A7 v2 c8,oS A9 v3 c10,oI v4,oI v5]),(18,[oS A36 v31 c37,oS A38 v32 c39,oI v33,oI v34]),(20,[oI u0_0,oS Au0_1 u0_1 cu0_1,.one (.vec 84)])],V := [(84,⟨54,4,List.length W50,xC ((([] : List XT) ++ (toX Hu0_2 Cu0_2 0 u0_2)) ++ ([((Au6_0,cu6_0),(u6_0,[u6_1,u6_2,u6_3]))] : List XT))⟩)],M := M40,ds := [] }) (ts:=[2,3,8,13,15,18,20]) (hs:=[8,13,15,18,20]) (vs:=[84]) (by subst e_W50 e_W47;kernel_rfl)⟩
       ·refine TE_litC (d:=83) (e:=54) (sz:=4) (len:=1) (cs:=xC ([((Au6_0,cu6_0),(u6_0,[u6_1,u6_2,u6_3]))] : List XT)) (by subst e_W50 e_W47;kernel_rfl) (by kernel_rfl) (by kernel_rfl) ?_
        refine TL_nil (stageTQ_of [] (by kernel_rfl) trivial ?_)
        refine StageT_cons [0] (stageT_all [1,2] [] (by kernel_rfl) (by subst e_W50 e_W47;kernel_rfl) (by kernel_rfl) trivial) (by kernel_rfl) (by kernel_rfl) ⟨?_,trivial⟩
        ·refine TE_litC (d:=78) (e:=54) (sz:=4) (len:=0) (cs:=xC ([] : List XT)) (by subst e_W50 e_W47;kernel_rfl) (by kernel_rfl) (by kernel_rfl) ?_
         refine TL_nil (stageTQ_of [] (by kernel_rfl) trivial ?_)
         refine StageT_cons [3] (stageT_all [1,2] [] (by kernel_rfl) (by subst e_W50 e_W47;kernel_rfl) (by kernel_rfl) trivial) (by kernel_rfl) (by kernel_rfl) ⟨?_,trivial⟩
         ·refine TE_appC (d:=81) (e:=54) (sz:=4) (bytes:=48) (n:=78) (x:=(.tmp 80)) (len:=List.length ([] : List WT)) (cs0:=xC ([] : List XT)) (cs2:=xC (([] : List XT) ++ (toX Hu0_2 Cu0_2 0 u0_2))) (by subst e_W50 e_W47;kernel_rfl) (by kernel_rfl) (by subst e_W50 e_W47;kernel_rfl) (SlW.src (m:=3) (by subst e_W50 e_W47;kernel_rfl) ((hu0_2.le hM11).le hM40)) g46 rfl (len_app_eq e_W47) (xC_app _ _) ?_
          refine TL_nil (stageTQ_of [] (by kernel_rfl) trivial ?_)
          refine StageT_cons [6] (stageT_all [] [] (by kernel_rfl) (by subst e_W50 e_W47;kernel_rfl) (by kernel_rfl) trivial) (by kernel_rfl) (by kernel_rfl) ⟨?_,trivial⟩
          ·refine TE_appC (d:=84) (e:=54) (sz:=4) (bytes:=48) (n:=81) (x:=(.tmp 83)) (len:=List.length W47) (cs0:=xC (([] : List XT) ++ (toX Hu0_2 Cu0_2 0 u0_2))) (cs2:=xC ((([] : List XT) ++ (toX Hu0_2 Cu0_2 0 u0_2)) ++ ([((Au6_0,cu6_0),(u6_0,[u6_1,u6_2,u6_3]))] : List XT))) (by subst e_W50 e_W47;kernel_rfl) (by kernel_rfl) (by subst e_W50 e_W47;kernel_rfl) (vecX_src (n:=83) (e:=54) (m:=3) (W:=([(u6_0,[u6_1,u6_2,u6_3])] : List WT)) (by subst e_W50 e_W47;kernel_rfl) (by subst e_W50 e_W47;kernel_rfl) fx83_q48) g49 rfl (len_app_eq e_W50) (xC_app _ _) ?_
           refine TL_nil (stageTQ_of [(85,.lf (.own 20 2))] (by kernel_rfl) ⟨trivial,trivial⟩ ?_)
           refine StageT_cons [8] (stageT_all [7] [] (by kernel_rfl) (by subst e_W50 e_W47;kernel_rfl) (by kernel_rfl) trivial) (by kernel_rfl) (by kernel_rfl) ⟨?_,trivial⟩
           ·refine StepT_ex ({ σ := [(85,.lf (.own 20 2)),(84,lV 84),(81,lV 81),(78,lV 78),(83,lV 83),(79,.lf (.own 7 2)),(80,lS Au0_2 u0_2 cu0_2),(82,.agg [oS Au6_0 u6_0 cu6_0,oI u6_1,oI u6_2,oI u6_3]),(2,vi u2),(3,vi u3),(7,lO 7),(8,lO 8),(13,lO 13),(15,lO 15),(18,lO 18),(20,lO 20)],H := [(20,[oI u0_0,oS Au0_1 u0_1 cu0_1,.one (.vec 84)]),(7,[oI u0_0,oS Au0_1 u0_1 cu0_1,oS Au0_2 u0_2 cu0_2]),(8,[.arr .i64 6 u1]),(13,[oS Au6_0 u6_0 cu6_0,oI u6_1,oI u6_2,oI u6_3]),(15,[oS A7 v2 c8,oS A9 v3 c10,oI v4,oI v5]),(18,[oS A36 v31 c37,oS A38 v32 c39,oI v33,oI v34]),(20,[oI u0_0,oS Au0_1 u0_1 cu0_1,oS Au0_2 u0_2 cu0_2])],V := [(84,⟨54,4,List.length W50,xC ((([] : List XT) ++ (toX Hu0_2 Cu0_2 0 u0_2)) ++ ([((Au6_0,cu6_0),(u6_0,[u6_1,u6_2,u6_3]))] : List XT))⟩),(83,⟨54,4,List.length ([(u6_0,[u6_1,u6_2,u6_3])] : List WT),xC ([((Au6_0,cu6_0),(u6_0,[u6_1,u6_2,u6_3]))] : List XT)⟩)],M := M40,ds := [] }) (by subst e_W50 e_W47;kernel_rfl) [] (by kernel_rfl) trivial ?_
            refine StageT_leaf (stageT_all [] [] (by kernel_rfl) (by subst e_W50 e_W47;kernel_rfl) (by kernel_rfl) trivial) (by kernel_rfl) ?_
            exact ⟨rfl,keep_sub (s':={ σ := [(2,vi u2),(3,vi u3),(8,lO 8),(13,lO 13),(15,lO 15),(18,lO 18),(20,lO 20)],H := [(8,[.arr .i64 6 u1]),(13,[oS Au6_0 u6_0 cu6_0,oI u6_1,oI u6_2,oI u6_3]),(15,[oS A7 v2 c8,oS A9 v3 c10,oI v4,oI v5]),(18,[oS A36 v31 c37,oS A38 v32 c39,oI v33,oI v34]),(20,[oI u0_0,oS Au0_1 u0_1 cu0_1,.one (.vec 84)])],V := [(84,⟨54,4,List.length W50,xC ((([] : List XT) ++ (toX Hu0_2 Cu0_2 0 u0_2)) ++ ([((Au6_0,cu6_0),(u6_0,[u6_1,u6_2,u6_3]))] : List XT))⟩)],M := M40,ds := [] }) (ts:=[2,3,8,13,15,18,20]) (hs:=[8,13,15,18,20]) (vs:=[84]) (by subst e_W50 e_W47;kernel_rfl)⟩
      ·intro s' hsub
       refine thenQ_n ?_
       refine T_sub hsub ?_
       refine T_turn (turn_pubV 84 (v:=⟨54,4,List.length W50,xC ((([] : List XT) ++ (toX Hu0_2 Cu0_2 0 u0_2)) ++ ([((Au6_0,cu6_0),(u6_0,[u6_1,u6_2,u6_3]))] : List XT))⟩) (by kernel_rfl)) ?_
       rintro _ ⟨A51,c52,M53,rfl,hSA51,hcA51,-,hNA51,hM53⟩
       have fA51 : SlW M53 3 A51 c52 (hx ((([] : List XT) ++ (toX Hu0_2 Cu0_2 0 u0_2)) ++ ([((Au6_0,cu6_0),(u6_0,[u6_1,u6_2,u6_3]))] : List XT))) (cx ((([] : List XT) ++ (toX Hu0_2 Cu0_2 0 u0_2)) ++ ([((Au6_0,cu6_0),(u6_0,[u6_1,u6_2,u6_3]))] : List XT))) W50 := XOK.slW (fx_W50.le hM53) hSA51 hcA51
       refine KG (S4 [(2,vi u2),(3,vi u3),(8,lO 8),(13,lO 13),(15,lO 15),(18,lO 18),(20,lO 20)] [(8,[.arr .i64 6 u1]),(13,[oS Au6_0 u6_0 cu6_0,oI u6_1,oI u6_2,oI u6_3]),(15,[oS A7 v2 c8,oS A9 v3 c10,oI v4,oI v5]),(18,[oS A36 v31 c37,oS A38 v32 c39,oI v33,oI v34]),(20,[oI u0_0,oS Au0_1 u0_1 cu0_1,oS A51 W50 c52])] [] M53) ?_
       refine SQ ?_
       obtain ⟨j55,e_j55,h⟩ := jn_some h
       refine T_cut (c1:=(sub [1,1,1,1,1,1,1,1,1,1,0,0] Bd5)) (c2:=(sub [1,1,1,1,1,1,1,1,1,1,0,1] Bd5)) (fun s' => ∃ (b54 : Bool),Sub { σ := [(2,vi u2),(3,vi u3),(8,lO 8),(15,lO 15),(18,lO 18),(20,lO 20),(94,vb b54)],H := [(8,[.arr .i64 6 u1]),(15,[oS A7 v2 c8,oS A9 v3 c10,oI v4,oI v5]),(18,[oS A36 v31 c37,oS A38 v32 c39,oI v33,oI v34]),(20,[oI u0_0,oS Au0_1 u0_1 cu0_1,oS A51 W50 c52])],V := [],M := M53,ds := [] } s' ∧ j55 b54 = some r) (by kernel_rfl) ?_ ?_
       ·refine RG ?_
        obtain ⟨b56,e_b56,h⟩ := lt_some h
        refine SG 5 (S4 [(2,vi u2),(3,vi u3),(8,lO 8),(15,lO 15),(18,lO 18),(20,lO 20),(90,vb b56)] [(8,[.arr .i64 6 u1]),(15,[oS A7 v2 c8,oS A9 v3 c10,oI v4,oI v5]),(18,[oS A36 v31 c37,oS A38 v32 c39,oI v33,oI v34]),(20,[oI u0_0,oS Au0_1 u0_1 cu0_1,oS A51 W50 c52])] [] M53) ?_ (by subst e_b56;kernel_rfl)
        cases b56 with
        | true =>
         replace h := sp_t h
         refine SS 9 [(2,vi u2),(3,vi u3),(8,lO 8),(15,lO 15),(18,lO 18),(20,lO 20),(94,vb true)] ?_
         refine EN ?_
         exact ⟨true,keep_sub (ts:=[2,3,8,15,18,20,94]) (hs:=[8,15,18,20]) (vs:=[]) (by kernel_rfl),h⟩
        | false =>
         replace h := sp_f h
         refine SS 6 [(2,vi u2),(3,vi u3),(8,lO 8),(15,lO 15),(18,lO 18),(20,lO 20),(90,vb false),(91,.agg [oI u0_0,oS Au0_1 u0_1 cu0_1,oS A51 W50 c52])] ?_
         obtain ⟨v57,c_v57,h⟩ := cl_some h
         refine AC 92 (vi v57) (w29 k (((hu0_1.le hM11).le hM40).le hM53) fA51 c_v57) ?_
         obtain ⟨b58,e_b58,h⟩ := lt_some h
         refine SH 9 [(2,vi u2),(3,vi u3),(8,lO 8),(15,lO 15),(18,lO 18),(20,lO 20),(94,vb b58)] [(8,[.arr .i64 6 u1]),(15,[oS A7 v2 c8,oS A9 v3 c10,oI v4,oI v5]),(18,[oS A36 v31 c37,oS A38 v32 c39,oI v33,oI v34]),(20,[oI u0_0,oS Au0_1 u0_1 cu0_1,oS A51 W50 c52])] ?_ (by subst e_b58;kernel_rfl)
         refine EN ?_
         exact ⟨b58,keep_sub (ts:=[2,3,8,15,18,20,94]) (hs:=[8,15,18,20]) (vs:=[]) (by kernel_rfl),h⟩
       ·rintro s' ⟨b54,hsub,h⟩
        subst e_j55
        refine T_sub hsub ?_
        cases b54 with
        | true =>
         replace h := sp_t h
         refine CT ?_
         refine KG (S4 [] [] [] M53) ?_
         refine SQ (RG ?_)
         obtain ⟨v59,c_v59,h⟩ := cl_some h
         refine AC 95 (vb v59) (w14 k  c_v59) ?_
         refine SH 2 [(14,vb v59)] [] ?_
         refine EN (RT (thenQ_r ?_))
         obtain rfl := sj h
         exact FT (vb v59) rfl
        | false =>
         replace h := sp_f h
         refine CF ?_
         refine KG (S4 [(2,vi u2),(3,vi u3),(8,lO 8),(15,lO 15),(18,lO 18),(20,lO 20)] [(8,[.arr .i64 6 u1]),(15,[oS A7 v2 c8,oS A9 v3 c10,oI v4,oI v5]),(18,[oS A36 v31 c37,oS A38 v32 c39,oI v33,oI v34]),(20,[oI u0_0,oS Au0_1 u0_1 cu0_1,oS A51 W50 c52])] [] M53) ?_
         refine SN (SQ (RG ?_))
         refine SH 4 [(15,lO 15),(18,lO 18),(97,.agg [oI u0_0,oS Au0_1 u0_1 cu0_1,oS A51 W50 c52]),(98,.agg [.arr .i64 6 u1]),(99,vi u2),(100,vi u3)] [(15,[oS A7 v2 c8,oS A9 v3 c10,oI v4,oI v5]),(18,[oS A36 v31 c37,oS A38 v32 c39,oI v33,oI v34])] ?_
         obtain ⟨v60,v61,v62,v63,v64,c_v60,h⟩ := cl5_some h
         refine TI_of (i:=4) (by kernel_rfl) (TE_callR (d:=101) (f:=28) (args:=[rval (.agg [oI u0_0,oS Au0_1 u0_1 cu0_1,oS A51 W50 c52]),rval (.agg [.arr .i64 6 u1]),rval (vi u2),rval (vi u3)]) (by kernel_rfl) (by kernel_rfl) (w28 k (((hu0_1.le hM11).le hM40).le hM53) fA51 hu1 c_v60) ?_)
         rintro _ M69 _ hM69 _ ⟨A65,c66,A67,c68,rfl,fA65,fA67⟩
         refine SG 10 (S4 [(15,lO 15),(18,lO 18),(19,vi v64)] [(15,[oS A7 v2 c8,oS A9 v3 c10,oI v4,oI v5]),(18,[oS A65 v60 c66,oS A67 v61 c68,oI v62,oI v63])] [] M69) ?_
         refine EN ?_
         obtain ⟨j71,e_j71,h⟩ := jn_some h
         refine T_cut (c1:=(sub [1,1,1,1,1,1,1,1,1,1,1,1,0] Bd5)) (c2:=(sub [1,1,1,1,1,1,1,1,1,1,1,1,1] Bd5)) (fun s' => ∃ (b70 : Bool),Sub { σ := [(14,vb b70)],H := [],V := [],M := M69,ds := [] } s' ∧ j71 b70 = some r) (by kernel_rfl) ?_ ?_
         ·refine RG ?_
          obtain ⟨b72,e_b72,h⟩ := lt_some h
          refine SG 3 (S4 [(15,lO 15),(18,lO 18),(106,vb b72)] [(15,[oS A7 v2 c8,oS A9 v3 c10,oI v4,oI v5]),(18,[oS A65 v60 c66,oS A67 v61 c68,oI v62,oI v63])] [] M69) ?_ (by subst e_b72;kernel_rfl)
          cases b72 with
          | true =>
           replace h := sp_t h
           obtain ⟨b73,e_b73,h⟩ := lt_some h
           refine SH 10 [(113,vb b73)] [] ?_ (by subst e_b73;kernel_rfl)
           cases b73 with
           | true =>
            replace h := sp_t h
            obtain ⟨v74,c_v74,h⟩ := cl_some h
            refine AC 114 (vb v74) (w14 k  c_v74) ?_
            refine SH 13 [(14,vb v74)] [] ?_
            refine EN ?_
            exact ⟨v74,keep_sub (ts:=[14]) (hs:=[]) (vs:=[]) (by kernel_rfl),h⟩
           | false =>
            replace h := sp_f h
            refine SS 13 [(14,vb false)] ?_
            refine EN ?_
            exact ⟨false,keep_sub (ts:=[14]) (hs:=[]) (vs:=[]) (by kernel_rfl),h⟩
          | false =>
           replace h := sp_f h
           refine SH 13 [(14,vb false)] [] ?_
           refine EN ?_
           exact ⟨false,keep_sub (ts:=[14]) (hs:=[]) (vs:=[]) (by kernel_rfl),h⟩
         ·rintro s' ⟨b70,hsub,h⟩
          subst e_j71
          refine T_sub hsub ?_
          refine RT ?_
          obtain rfl := sj h
          exact FT (vb b70) rfl
 | false =>
  replace h := sp_f h
  refine CT ?_
  refine KP [] [] [] ?_
  refine SQ (RG ?_)
  obtain ⟨v75,c_v75,h⟩ := cl_some h
  refine AC 27 (vb v75) (w14 k  c_v75) ?_
  refine SH 2 [(14,vb v75)] [] ?_
  refine EN (RT (thenQ_r ?_))
  obtain rfl := sj h
  exact FT (vb v75) rfl
end Go.Proofs.Ythniebmammmacaa
namespace Go.Proofs.Ythniebmammmacaa
open Go.RowKit Classical
theorem wr64 {z : Int} (h1 : -9223372036854775808 ≤ z) (h2 : z ≤ 9223372036854775807) : wr .i64 z = z := by
  simp only [wr, IntKind.wrap, IntKind.signed, IntKind.bits]
  simp
  omega
theorem wru {z : Int} (h1 : 0 ≤ z) (h2 : z ≤ 18446744073709551615) : wr .u64 z = z := by
  simp only [wr, IntKind.wrap, IntKind.signed, IntKind.bits]
  simp
  omega
theorem mx_eq (x y : Int) : mx x y = max x y := by unfold mx; omega
theorem mn_eq (x y : Int) : mn x y = min x y := by unfold mn; omega
theorem lt_v {α β : Type} (x : β) (F : β → Option α) : lt' x F = F x := rfl
theorem jn_v {α β : Type} (F : β) (G : β → Option α) : jn F G = G F := rfl
theorem cl_v {α β : Type} (v : β) (F : β → Option α) : cl (some v) F = F v := rfl
theorem cl2_v {α β γ : Type} (a : α) (b : β) (F : α → β → Option γ) : cl2 (some (a, b)) F = F a b := rfl
theorem cl3_v {α β γ δ : Type} (a : α) (b : β) (c : γ) (F : α → β → γ → Option δ) : cl3 (some (a, b, c)) F = F a b c := rfl
theorem cl5_v {α β γ δ ε ζ : Type} (a : α) (b : β) (c : γ) (d : δ) (e : ε) (F : α → β → γ → δ → ε → Option ζ) : cl5 (some (a, b, c, d, e)) F = F a b c d e := rfl
theorem sp_tt {α : Type} (x y : Option α) : sp true x y = x := rfl
theorem sp_ff {α : Type} (x y : Option α) : sp false x y = y := rfl
theorem sp_d {α : Type} {c : Prop} [h : Decidable c] (x y : Option α) : sp (decide c) x y = if c then x else y := by
  cases h <;> rfl
theorem sp_nd {α : Type} {c : Prop} [h : Decidable c] (x y : Option α) : sp (!decide c) x y = if c then y else x := by
  cases h <;> rfl
theorem gd_v {α : Type} {c : Prop} [Decidable c] (h : c) (x : Option α) : gd c x = x := by unfold gd; rw [if_pos h]
theorem beq_d (x y : Int) : (x == y) = decide (x = y) := by by_cases h : x = y <;> simp [h]
theorem bne_d (x y : Int) : (x != y) = decide (¬ x = y) := by by_cases h : x = y <;> simp [h]
theorem wf_u8 {z : Int} (h : Wfi .u8 z) : 0 ≤ z ∧ z ≤ 255 := by
  unfold Wfi Lit.wf at h
  simp [IntKind.min, IntKind.max, IntKind.signed, IntKind.bits] at h
  omega
theorem wr_succ {i n : Nat} (h : i < n) (hn : n ≤ 9223372036854775807) : wr .i64 ((i : Int) + 1) = ((i + 1 : Nat) : Int) := by
  rw [wr64 (by omega) (by omega)]; omega
theorem dT {p : Prop} {i : Decidable p} (h : p) : @decide p i = true := by cases i <;> first | rfl | contradiction
theorem dF {p : Prop} {i : Decidable p} (h : ¬ p) : @decide p i = false := by cases i <;> first | rfl | contradiction
theorem dI {p q : Prop} {i : Decidable p} {j : Decidable q} (h : p ↔ q) : @decide p i = @decide q j := by
  by_cases hp : p
  · rw [dT hp, dT (h.1 hp)]
  · rw [dF hp, dF (fun hq => hp (h.2 hq))]
theorem iT {α : Type} {p : Prop} {i : Decidable p} {x y : α} (h : p) : @ite α p i x y = x := by cases i <;> first | rfl | contradiction
theorem iF {α : Type} {p : Prop} {i : Decidable p} {x y : α} (h : ¬ p) : @ite α p i x y = y := by cases i <;> first | rfl | contradiction
theorem getD_drop {L : List Int} {i : Nat} (h : i < L.length) : L.drop i = L.getD i 0 :: L.drop (i + 1) := by
  rw [List.drop_eq_getElem_cons h]
  simp [List.getD_eq_getElem?_getD, List.getElem?_eq_getElem h]
theorem getD_mem {L : List Int} {i : Nat} (h : i < L.length) : L.getD i 0 ∈ L := by
  rw [List.getD_eq_getElem?_getD, List.getElem?_eq_getElem h]; exact List.getElem_mem h
theorem mem_getD {L : List Int} {x : Int} (h : x ∈ L) : ∃ i, i < L.length ∧ L.getD i 0 = x := by
  obtain ⟨i, hi, e⟩ := List.getElem_of_mem h
  exact ⟨i, hi, by rw [List.getD_eq_getElem?_getD, List.getElem?_eq_getElem hi]; exact e⟩
theorem srch {β : Type} {F : Nat → Int → Option β} {len : Nat} {Q : Nat → Prop} {A J : Option β} (h0 : ∀ n, F (n + 1) (len : Int) = J)
    (h1 : ∀ n (i : Nat), i < len → (Q i ∧ F (n + 1) (i : Int) = A) ∨ (¬ Q i ∧ F (n + 1) (i : Int) = F n ((i + 1 : Nat) : Int))) : ∀ d i n, i + d = len → d < n →
    ((∃ j, i ≤ j ∧ j < len ∧ Q j) ∧ F n (i : Int) = A) ∨ ((∀ j, i ≤ j → j < len → ¬ Q j) ∧ F n (i : Int) = J)
  | 0, i, n, h2, h3 => by
    obtain ⟨n, rfl⟩ : ∃ n', n = n' + 1 := ⟨n - 1, by omega⟩
    obtain rfl : i = len := by omega
    exact .inr ⟨by intros; omega, h0 n⟩
  | d + 1, i, n, h2, h3 => by
    obtain ⟨n, rfl⟩ : ∃ n', n = n' + 1 := ⟨n - 1, by omega⟩
    rcases h1 n i (by omega) with ⟨hq, e⟩ | ⟨hq, e⟩
    · exact .inl ⟨⟨i, Nat.le_refl _, by omega, hq⟩, e⟩
    · rw [e]
      rcases srch h0 h1 d (i + 1) n (by omega) (by omega) with ⟨⟨j, a, b, c⟩, e⟩ | ⟨h, e⟩
      · exact .inl ⟨⟨j, by omega, b, c⟩, e⟩
      · refine .inr ⟨fun j a b => ?_, e⟩
        rcases Nat.eq_or_lt_of_le a with e | e
        · subst e; exact hq
        · exact h j e b
theorem srch0 {β : Type} {F : Nat → Int → Option β} {len n : Nat} (Q : Nat → Prop) {A J : Option β} (hn : len < n) (h0 : ∀ n, F (n + 1) (len : Int) = J)
    (h1 : ∀ n (i : Nat), i < len → (Q i ∧ F (n + 1) (i : Int) = A) ∨ (¬ Q i ∧ F (n + 1) (i : Int) = F n ((i + 1 : Nat) : Int))) :
    ((∃ j, j < len ∧ Q j) ∧ F n 0 = A) ∨ ((∀ j, j < len → ¬ Q j) ∧ F n 0 = J) := by
  rcases srch h0 h1 len 0 n (by omega) hn with ⟨⟨j, a, b, c⟩, e⟩ | ⟨h, e⟩
  · exact .inl ⟨⟨j, b, c⟩, e⟩
  · exact .inr ⟨fun j => h j (Nat.zero_le _), e⟩
noncomputable def fst (Q : Nat → Prop) : Nat → Nat → Int
  | 0, _ => -1
  | d + 1, i => if Q i then (i : Int) else fst Q d (i + 1)
theorem fst_spec (Q : Nat → Prop) : ∀ d i, (fst Q d i = -1 ∧ ∀ j, i ≤ j → j < i + d → ¬ Q j) ∨ (∃ j : Nat, fst Q d i = (j : Int) ∧ i ≤ j ∧ j < i + d ∧ Q j ∧ ∀ j', i ≤ j' → j' < j → ¬ Q j')
  | 0, i => .inl ⟨rfl, by intros; omega⟩
  | d + 1, i => by
    unfold fst
    by_cases hq : Q i
    · rw [if_pos hq]; exact .inr ⟨i, rfl, Nat.le_refl _, by omega, hq, by intros; omega⟩
    · rw [if_neg hq]
      rcases fst_spec Q d (i + 1) with ⟨a, b⟩ | ⟨j, a, b, c, e, f⟩
      · refine .inl ⟨a, fun j h1 h2 => ?_⟩
        rcases Nat.eq_or_lt_of_le h1 with e | e
        · subst e; exact hq
        · exact b j e (by omega)
      · refine .inr ⟨j, a, by omega, by omega, e, fun j' h1 h2 => ?_⟩
        rcases Nat.eq_or_lt_of_le h1 with e | e
        · subst e; exact hq
        · exact f j' e h2
theorem srchI {F : Nat → Int → Option Int} {len : Nat} {Q : Nat → Prop} (h0 : ∀ n, F (n + 1) (len : Int) = some (-1))
    (h1 : ∀ n (i : Nat), i < len → (Q i ∧ F (n + 1) (i : Int) = some (i : Int)) ∨ (¬ Q i ∧ F (n + 1) (i : Int) = F n ((i + 1 : Nat) : Int))) : ∀ d i n, i + d = len → d < n →
    F n (i : Int) = some (fst Q d i)
  | 0, i, n, h2, h3 => by
    obtain ⟨n, rfl⟩ : ∃ n', n = n' + 1 := ⟨n - 1, by omega⟩
    obtain rfl : i = len := by omega
    rw [h0]; rfl
  | d + 1, i, n, h2, h3 => by
    obtain ⟨n, rfl⟩ : ∃ n', n = n' + 1 := ⟨n - 1, by omega⟩
    have ih := srchI h0 h1 d (i + 1) n (by omega) (by omega)
    rcases h1 n i (by omega) with ⟨hq, e⟩ | ⟨hq, e⟩
    · rw [e, fst, iT hq]
    · rw [e, ih, fst, iF hq]
theorem srchI0 {F : Nat → Int → Option Int} {len n : Nat} (Q : Nat → Prop) (hn : len < n) (h0 : ∀ n, F (n + 1) (len : Int) = some (-1))
    (h1 : ∀ n (i : Nat), i < len → (Q i ∧ F (n + 1) (i : Int) = some (i : Int)) ∨ (¬ Q i ∧ F (n + 1) (i : Int) = F n ((i + 1 : Nat) : Int))) : F n 0 = some (fst Q len 0) :=
  srchI h0 h1 len 0 n (by omega) hn
theorem fst_pos {Q : Nat → Prop} {len : Nat} : decide (fst Q len 0 ≥ 0) = decide (∃ j, j < len ∧ Q j) := by
  rcases fst_spec Q len 0 with ⟨a, b⟩ | ⟨j, a, b, c, e, f⟩
  · rw [a, dF (by omega), dF]
    rintro ⟨j, h1, h2⟩
    exact b j (Nat.zero_le _) (by omega) h2
  · rw [a, dT (by omega), dT ⟨j, by omega, e⟩]
theorem loopI {σ β : Type} {F : Nat → Int → σ → Option β} {len : Nat} {J : σ → Option β} (I : Nat → σ → Prop) (h0 : ∀ n s, I len s → F (n + 1) (len : Int) s = J s)
    (h1 : ∀ n (i : Nat) s, i < len → I i s → ∃ s', I (i + 1) s' ∧ F (n + 1) (i : Int) s = F n ((i + 1 : Nat) : Int) s') : ∀ d i n s, i + d = len → d < n → I i s → ∃ s', I len s' ∧ F n (i : Int) s = J s'
  | 0, i, n, s, h2, h3, hi => by
    obtain ⟨n, rfl⟩ : ∃ n', n = n' + 1 := ⟨n - 1, by omega⟩
    obtain rfl : i = len := by omega
    exact ⟨s, hi, h0 n s hi⟩
  | d + 1, i, n, s, h2, h3, hi => by
    obtain ⟨n, rfl⟩ : ∃ n', n = n' + 1 := ⟨n - 1, by omega⟩
    obtain ⟨s', hi', e⟩ := h1 n i s (by omega) hi
    rw [e]
    exact loopI I h0 h1 d (i + 1) n s' (by omega) (by omega) hi'
theorem loop0 {σ β : Type} {F : Nat → Int → σ → Option β} {len n : Nat} {J : σ → Option β} (I : Nat → σ → Prop) (s : σ) (hn : len < n) (hi : I 0 s) (h0 : ∀ n s, I len s → F (n + 1) (len : Int) s = J s)
    (h1 : ∀ n (i : Nat) s, i < len → I i s → ∃ s', I (i + 1) s' ∧ F (n + 1) (i : Int) s = F n ((i + 1 : Nat) : Int) s') : ∃ s', I len s' ∧ F n 0 s = J s' :=
  loopI I h0 h1 len 0 n s (by omega) hn hi
theorem whileI {σ β : Type} {F : Nat → σ → Option β} {J : σ → Option β} (m : σ → Nat) (I : σ → Prop) (Q : σ → Prop)
    (h : ∀ n s, I s → (∃ s', Q s' ∧ F (n + 1) s = J s') ∨ (∃ s', I s' ∧ m s' < m s ∧ F (n + 1) s = F n s')) : ∀ n s, I s → m s < n → ∃ s', Q s' ∧ F n s = J s'
  | 0, s, _, h2 => by omega
  | n + 1, s, hi, h2 => by
    rcases h n s hi with ⟨s', a, b⟩ | ⟨s', a, b, c⟩
    · exact ⟨s', a, b⟩
    · rw [c]; exact whileI m I Q h n s' a (by omega)
theorem p64_eq {k : Nat} {x a b : Int} : p64 k x a b = some (decide (a ≤ x ∧ x ≤ b)) := by
  unfold p64
  simp only [jn_v, lt_v, sp_d]
  by_cases h : a ≤ x <;> by_cases h2 : x ≤ b <;> simp [h, h2]
theorem p65_eq {k : Nat} {x a b : Int} : p65 k x a b = some (decide (a ≤ x ∧ x ≤ b)) := by
  unfold p65
  simp only [jn_v, lt_v, sp_d]
  by_cases h : x ≥ a <;> by_cases h2 : x ≤ b <;> simp [h, h2]
theorem p98_eq {k : Nat} {x : Int} : p98 k x = some (!decide (0 ≤ x ∧ x ≤ 1073741824)) := by unfold p98; rw [p64_eq]; rfl
theorem p94_eq {k : Nat} {P : Int} {R : List (List Int)} {W : List WT} {x : Int} : p94 k x P R W = some (decide (0 ≤ x ∧ x < P)) := by
  unfold p94
  simp only [jn_v, lt_v, sp_d]
  by_cases h : x ≥ 0 <;> by_cases h2 : x < P <;> simp [h, h2]
def Fu (k : Nat) : Prop := 1152921504606846976 ≤ k
abbrev SzOk (z : List Int) : Prop := ∀ i, i < 6 → 0 ≤ z.getD i 0 ∧ z.getD i 0 ≤ 1073741824
noncomputable def szE (z : List Int) : Int := if SzOk z then 0 else 2
theorem p40_eq {k : Nat} (hk : Fu k) {z : List Int} : p40 k z = some (szE z) := by
  unfold Fu at hk
  unfold p40 szE
  simp only [jn_v]
  have hs := srch0 (F := p40_l1 k z (some 0)) (len := 6) (n := k) (A := some 2) (J := some 0) (fun i => ¬ (0 ≤ z.getD i 0 ∧ z.getD i 0 ≤ 1073741824)) (by omega) ?_ ?_
  · rcases hs with ⟨⟨j, a, b⟩, e⟩ | ⟨h, e⟩
    · rw [e, iF (fun h => b (h j a))]
    · rw [e, iT (fun i hi => Classical.byContradiction (h i hi))]
  · intro n; rw [p40_l1]; rfl
  · intro n i hi
    rw [p40_l1]
    simp only [lt_v, sp_d]
    rw [iT (by omega), gd_v (by omega), p65_eq]
    simp only [cl_v, sp_d, Int.toNat_natCast, Nat.mul_one, Nat.zero_add]
    rw [wr_succ hi (by omega)]
    by_cases h : 0 ≤ z.getD i 0 ∧ z.getD i 0 ≤ 1073741824
    · exact .inr ⟨not_not_intro h, iT h⟩
    · exact .inl ⟨h, iF h⟩
theorem p39_eq {k : Nat} (hk : Fu k) {z : List Int} (hz : z.length = 6) : p39 k z = some (szE z) := by
  unfold Fu at hk
  unfold p39 p62a p115a
  simp only [jn_v]
  rw [srchI0 (F := p115a_l1 k z (some (-1))) (len := 6) (n := k) (fun i => ¬ (0 ≤ z.getD i 0 ∧ z.getD i 0 ≤ 1073741824)) (by omega)]
  · simp only [cl_v, lt_v]
    rw [fst_pos]
    unfold szE
    by_cases h : SzOk z
    · rw [dF (fun ⟨j, a, b⟩ => b (h j a)), iT h, sp_ff]
    · rw [dT, iF h, sp_tt]
      exact Classical.byContradiction fun h2 => h fun i hi => Classical.byContradiction fun h3 => h2 ⟨i, hi, h3⟩
  · intro n; rw [p115a_l1]; simp only [lt_v, sp_d, hz]; rfl
  · intro n i hi
    rw [p115a_l1]
    simp only [lt_v, sp_d, hz]
    rw [iT (by omega), gd_v (by omega), p98_eq]
    simp only [cl_v, sp_nd, Int.toNat_natCast]
    rw [wr_succ hi (by omega)]
    by_cases h : 0 ≤ z.getD i 0 ∧ z.getD i 0 ≤ 1073741824
    · exact .inr ⟨not_not_intro h, iT h⟩
    · exact .inl ⟨h, iF h⟩
def setB (n : Int) : Int → List Int → Prop
  | _, [] => True
  | a, x :: r => a < x ∧ x < n ∧ setB n x r
theorem p69_l1_eq {k : Nat} {L : List Int} {n : Int} (hL : L.length ≤ 9223372036854775807) : ∀ d (i m : Nat) (a : Int), i + d = L.length → d < m → p69_l1 k L n (some true) m a (i : Int) = some (decide (setB n a (L.drop i)))
  | 0, i, m, a, h1, h2 => by
    obtain ⟨m, rfl⟩ : ∃ m', m = m' + 1 := ⟨m - 1, by omega⟩
    rw [p69_l1]
    simp only [lt_v, sp_d]
    rw [iF (by omega), List.drop_eq_nil_of_le (by omega), dT (by trivial)]
  | d + 1, i, m, a, h1, h2 => by
    obtain ⟨m, rfl⟩ : ∃ m', m = m' + 1 := ⟨m - 1, by omega⟩
    rw [p69_l1]
    simp only [lt_v, sp_d, jn_v]
    rw [iT (by omega), gd_v (by omega), wr_succ (n := L.length) (by omega) hL, p69_l1_eq hL d (i + 1) m _ (by omega) (by omega), getD_drop (by omega : i < L.length)]
    simp only [Int.toNat_natCast]
    by_cases h3 : L.getD i 0 ≤ a
    · rw [iT h3, sp_tt, dF (fun h => absurd h.1 (by omega))]
    · rw [iF h3]
      by_cases h4 : L.getD i 0 ≥ n
      · rw [iT h4, dF (fun h => absurd h.2.1 (by omega))]
      · rw [iF h4]
        congr 1
        exact dI ⟨fun h => ⟨by omega, by omega, h⟩, fun h => h.2.2⟩
theorem p69_eq {k : Nat} (hk : Fu k) {L : List Int} {n : Int} (hL : L.length ≤ 1152921504606846975) : p69 k L n = some (decide (setB n (-1) L)) := by
  unfold Fu at hk
  unfold p69
  simp only [jn_v]
  have := p69_l1_eq (k := k) (L := L) (n := n) (by omega) L.length 0 k (-1) (by omega) (by omega)
  rw [List.drop_zero] at this
  exact this
theorem setB_iff {n : Int} : ∀ {L : List Int} {a : Int}, setB n a L ↔ ∀ i, i < L.length → L.getD i 0 < n ∧ (if i = 0 then a else L.getD (i - 1) 0) < L.getD i 0
  | [], a => by simp [setB]
  | x :: r, a => by
    rw [setB, setB_iff (L := r) (a := x)]
    constructor
    · rintro ⟨h1, h2, h3⟩ i hi
      cases i with
      | zero => exact ⟨h2, h1⟩
      | succ i =>
        have := h3 i (by simpa using hi)
        simp only [List.getD_cons_succ, Nat.add_sub_cancel, if_neg (Nat.succ_ne_zero i)]
        refine ⟨this.1, ?_⟩
        cases i with
        | zero => simpa using this.2
        | succ i => simpa using this.2
    · intro h
      have h0 := h 0 (by simp)
      refine ⟨by simpa using h0.2, by simpa using h0.1, fun i hi => ?_⟩
      have := h (i + 1) (by simpa using hi)
      simp only [List.getD_cons_succ, Nat.add_sub_cancel, if_neg (Nat.succ_ne_zero i)] at this
      refine ⟨this.1, ?_⟩
      cases i with
      | zero => simpa using this.2
      | succ i => simpa using this.2
theorem setB_mem {n : Int} : ∀ {L : List Int} {a : Int}, setB n a L → ∀ x ∈ L, a < x ∧ x < n
  | [], a, _, x, hx => by cases hx
  | y :: r, a, h, x, hx => by
    rcases List.mem_cons.1 hx with e | e
    · subst e; exact ⟨h.1, h.2.1⟩
    · have := setB_mem h.2.2 x e; exact ⟨Int.lt_trans h.1 this.1, this.2⟩
theorem p83_eq {k : Nat} (hk : Fu k) {L : List Int} {n : Int} (hL : L.length ≤ 1152921504606846975) : p83 k L n = some (decide (setB n (-1) L)) := by
  unfold Fu at hk
  unfold p83
  simp only [jn_v]
  have hs := srch0 (F := p83_l1 k L n (some true)) (len := L.length) (n := k) (A := some false) (J := some true) (fun i => L.getD i 0 < 0 ∨ L.getD i 0 ≥ n ∨ (0 < i ∧ L.getD i 0 ≤ L.getD (i - 1) 0)) (by omega) ?_ ?_
  · rcases hs with ⟨⟨j, hj, hq⟩, e⟩ | ⟨h, e⟩
    · rw [e, dF]
      intro h
      have h1 := setB_iff.1 h j hj
      have h2 : -1 < L.getD j 0 := (setB_mem h _ (getD_mem hj)).1
      rcases hq with hq | hq | hq
      · omega
      · omega
      · rw [iF (by omega)] at h1; omega
    · rw [e, dT]
      refine setB_iff.2 fun i hi => ?_
      have h3 := h i hi
      refine ⟨by omega, ?_⟩
      split <;> omega
  · intro n; rw [p83_l1]; simp only [lt_v, sp_d]; rw [iF (by omega)]
  · intro n i hi
    rw [p83_l1]
    simp only [lt_v, sp_d, jn_v]
    rw [iT (by omega), gd_v (by omega), gd_v (by omega), gd_v (by omega), wr_succ hi (by omega)]
    simp only [Int.toNat_natCast]
    by_cases h1 : L.getD i 0 < 0
    · exact .inl ⟨.inl h1, by rw [iT h1, sp_tt]⟩
    · rw [iF h1]
      by_cases h2 : L.getD i 0 ≥ ‹Int›
      · exact .inl ⟨.inr (.inl h2), by rw [iT h2, sp_tt]⟩
      · rw [iF h2]
        by_cases h3 : i > 0
        · have e1 : wr .i64 ((i : Int) - 1) = ((i - 1 : Nat) : Int) := by rw [wr64 (by omega) (by omega)]; omega
          rw [iT (by omega), e1, gd_v (by omega), Int.toNat_natCast]
          by_cases h4 : L.getD i 0 ≤ L.getD (i - 1) 0
          · exact .inl ⟨.inr (.inr ⟨h3, h4⟩), by rw [iT h4]⟩
          · exact .inr ⟨by omega, by rw [iF h4]⟩
        · exact .inr ⟨by omega, by rw [iF (by omega), sp_ff]⟩
end Go.Proofs.Ythniebmammmacaa
namespace Go.Proofs.Ythniebmammmacaa
open Go.RowKit Classical
def rd (R : List (List Int)) (i : Nat) : List Int := R.getD i []
def wk (W : List WT) (i : Nat) : WT := W.getD i ([], [])
def rF (r : List Int) : Int := r.getD 0 0
def rT (r : List Int) : Int := r.getD 1 0
def rC (r : List Int) : Int := r.getD 2 0
def rM (r : List Int) : Int := r.getD 3 0
def rO (r : List Int) : Int := r.getD 4 0
def rL (r : List Int) : Int := r.getD 5 0
def wM (w : WT) : Int := w.2.getD 0 0
def wL (w : WT) : Int := w.2.getD 1 0
def wC (w : WT) : Int := w.2.getD 2 0
theorem rd_mem {R : List (List Int)} {i : Nat} (h : i < R.length) : rd R i ∈ R := by
  unfold rd; rw [List.getD_eq_getElem?_getD, List.getElem?_eq_getElem h]; exact List.getElem_mem h
def RoadA (P f t c m o l : Int) : Prop := (0 ≤ f ∧ f < P) ∧ (0 ≤ t ∧ t < P) ∧ f ≠ t ∧ (1 ≤ c ∧ c ≤ 1073741824) ∧ (1 ≤ m ∧ m ≤ 1440) ∧ 0 ≤ o ∧ o < l ∧ l ≤ 1440 ∧ m ≤ l - o
structure RoadOk (P : Int) (r : List Int) : Prop where
  ar : RoadA P (rF r) (rT r) (rC r) (rM r) (rO r) (rL r)
  sz : SzOk (List.take 6 (List.drop 6 r))
structure WorkOk (n : Int) (w : WT) : Prop where
  ne : 1 ≤ w.1.length
  me : 0 ≤ wM w ∧ wM w ≤ 5
  li : 0 ≤ wL w ∧ wL w ≤ 1073741824
  co : 1 ≤ wC w ∧ wC w ≤ 1073741824
  set : setB n (-1) w.1
structure MapOk (P : Int) (R : List (List Int)) (W : List WT) : Prop where
  r256 : R.length ≤ 256
  w10 : W.length ≤ 10
  w16 : ∀ i, i < W.length → (wk W i).1.length ≤ 16
  places : 1 ≤ P ∧ P ≤ 64
  road : ∀ i, i < R.length → RoadOk P (rd R i)
  work : ∀ i, i < W.length → WorkOk (R.length : Int) (wk W i)
def Many (R : List (List Int)) (W : List WT) : Prop := 256 < R.length ∨ 10 < W.length ∨ ∃ i, i < W.length ∧ 16 < (wk W i).1.length
noncomputable def chkE (P : Int) (R : List (List Int)) (W : List WT) : Int := if Many R W then 6 else if MapOk P R W then 0 else 2
theorem chkE_zero {P R W} : chkE P R W = 0 ↔ MapOk P R W := by
  unfold chkE
  constructor
  · intro h
    split at h
    · cases h
    · split at h
      · assumption
      · cases h
  · intro h
    rw [iF, iT h]
    rintro (h1 | h1 | ⟨i, h1, h2⟩)
    · have := h.r256; omega
    · have := h.w10; omega
    · have := h.w16 i h1; omega
theorem szE_zero {z} : szE z = 0 ↔ SzOk z := by
  unfold szE
  constructor
  · intro h
    split at h
    · assumption
    · cases h
  · intro h; rw [iT h]
theorem szE_ne {z} : (szE z != 0) = decide (¬ SzOk z) := by
  rw [bne_d]; exact dI (not_congr szE_zero)
theorem szE_eq {z} : (szE z == 0) = decide (SzOk z) := by
  rw [beq_d]; exact dI szE_zero
theorem chkE_ne {P R W} : (chkE P R W != 0) = decide (¬ MapOk P R W) := by
  rw [bne_d]; exact dI (not_congr chkE_zero)
theorem chkE_eq {P R W} : (chkE P R W == 0) = decide (MapOk P R W) := by
  rw [beq_d]; exact dI chkE_zero
structure Shape (R : List (List Int)) (W : List WT) : Prop where
  rl : R.length ≤ 9223372036854775807
  r12 : ∀ r ∈ R, r.length = 12
  wl : W.length ≤ 9223372036854775807
theorem p29_l1_eq {k n : Nat} {W : List WT} {j : Option Int} (hn : W.length < n) (hW : W.length ≤ 10) :
    ((∃ i, i < W.length ∧ 16 < (wk W i).1.length) ∧ p29_l1 k W j n 0 = some 6) ∨ ((∀ i, i < W.length → ¬ 16 < (wk W i).1.length) ∧ p29_l1 k W j n 0 = j) := by
  refine srch0 (F := p29_l1 k W j) (len := W.length) (n := n) (A := some 6) (J := j) (fun i => 16 < (wk W i).1.length) hn ?_ ?_
  · intro n; rw [p29_l1]; simp only [lt_v, sp_d]; rw [iF (by omega)]
  · intro n i hi
    rw [p29_l1]
    simp only [lt_v, sp_d]
    rw [iT (by omega), gd_v (by omega), Int.toNat_natCast, wr_succ hi (by omega)]
    by_cases h : 16 < (wk W i).1.length
    · exact .inl ⟨h, by unfold wk at h; rw [iT (by omega)]⟩
    · exact .inr ⟨h, by unfold wk at h; rw [iF (by omega)]⟩
theorem p29_l2_eq {k n : Nat} (hk : Fu k) {P : Int} {R : List (List Int)} {j : Option Int} (hn : R.length < n) (hR : R.length ≤ 256) :
    ((∃ i, i < R.length ∧ ¬ RoadOk P (rd R i)) ∧ p29_l2 k P R j n 0 = some 2) ∨ ((∀ i, i < R.length → ¬ ¬ RoadOk P (rd R i)) ∧ p29_l2 k P R j n 0 = j) := by
  refine srch0 (F := p29_l2 k P R j) (len := R.length) (n := n) (A := some 2) (J := j) (fun i => ¬ RoadOk P (rd R i)) hn ?_ ?_
  · intro n; rw [p29_l2]; simp only [lt_v, sp_d]; rw [iF (by omega)]
  · intro n i hi
    rw [p29_l2]
    simp only [lt_v, sp_d, jn_v, sp_tt, sp_ff, p65_eq, cl_v, p40_eq hk, szE_ne, beq_d]
    rw [iT (by omega), gd_v (by omega), Int.toNat_natCast, wr_succ hi (by omega)]
    have hr : R.getD i [] = rd R i := rfl
    rw [hr]
    simp only [show (rd R i).getD 0 0 = rF (rd R i) from rfl, show (rd R i).getD 1 0 = rT (rd R i) from rfl, show (rd R i).getD 2 0 = rC (rd R i) from rfl, show (rd R i).getD 3 0 = rM (rd R i) from rfl, show (rd R i).getD 4 0 = rO (rd R i) from rfl, show (rd R i).getD 5 0 = rL (rd R i) from rfl]
    by_cases h : RoadOk P (rd R i)
    · refine .inr ⟨not_not_intro h, ?_⟩
      have ha := h.ar
      unfold RoadA at ha
      rw [iF (by omega), iF (by omega), iF (by omega), iF (by omega), iF (by omega), iT (by omega), iT (by omega), iF (by omega), iF (by omega), iF (by omega), wr64 (by omega) (by omega), iF (by omega), iF (not_not_intro h.sz)]
    · refine .inl ⟨h, ?_⟩
      by_cases h1 : rF (rd R i) < 0
      · rw [iT h1]
      rw [iF h1]
      by_cases h2 : rF (rd R i) ≥ P
      · rw [iT h2]
      rw [iF h2]
      by_cases h3 : rT (rd R i) < 0
      · rw [iT h3]
      rw [iF h3]
      by_cases h4 : rT (rd R i) ≥ P
      · rw [iT h4]
      rw [iF h4]
      by_cases h5 : rF (rd R i) = rT (rd R i)
      · rw [iT h5]
      rw [iF h5]
      by_cases h6 : 1 ≤ rC (rd R i) ∧ rC (rd R i) ≤ 1073741824
      rotate_left
      · rw [iF h6]
      rw [iT h6]
      by_cases h7 : 1 ≤ rM (rd R i) ∧ rM (rd R i) ≤ 1440
      rotate_left
      · rw [iF h7]
      rw [iT h7]
      by_cases h8 : rO (rd R i) < 0
      · rw [iT h8]
      rw [iF h8]
      by_cases h9 : rO (rd R i) ≥ rL (rd R i)
      · rw [iT h9]
      rw [iF h9]
      by_cases h10 : rL (rd R i) > 1440
      · rw [iT h10]
      rw [iF h10, wr64 (by omega) (by omega)]
      by_cases h11 : rL (rd R i) - rO (rd R i) < rM (rd R i)
      · rw [iT h11]
      rw [iF h11, iT]
      intro hs
      exact h ⟨by unfold RoadA; omega, hs⟩
theorem p29_l3_eq {k n : Nat} (hk : Fu k) {R : List (List Int)} {W : List WT} {j : Option Int} (hn : W.length < n) (hW : W.length ≤ 10) (h16 : ∀ i, i < W.length → (wk W i).1.length ≤ 16) :
    ((∃ i, i < W.length ∧ ¬ WorkOk R.length (wk W i)) ∧ p29_l3 k R W j n 0 = some 2) ∨ ((∀ i, i < W.length → ¬ ¬ WorkOk R.length (wk W i)) ∧ p29_l3 k R W j n 0 = j) := by
  refine srch0 (F := p29_l3 k R W j) (len := W.length) (n := n) (A := some 2) (J := j) (fun i => ¬ WorkOk R.length (wk W i)) hn ?_ ?_
  · intro n; rw [p29_l3]; simp only [lt_v, sp_d]; rw [iF (by omega)]
  · intro n i hi
    have hl := h16 i hi
    rw [p29_l3]
    simp only [lt_v, sp_d, jn_v, sp_tt, sp_ff, p65_eq, cl_v]
    rw [iT (by omega), gd_v (by omega), Int.toNat_natCast, wr_succ hi (by omega)]
    have hr : W.getD i ([], []) = wk W i := rfl
    rw [hr, p83_eq hk (by omega)]
    simp only [cl_v, sp_nd]
    simp only [show (wk W i).2.getD 0 0 = wM (wk W i) from rfl, show (wk W i).2.getD 1 0 = wL (wk W i) from rfl, show (wk W i).2.getD 2 0 = wC (wk W i) from rfl]
    by_cases h : WorkOk R.length (wk W i)
    · refine .inr ⟨not_not_intro h, ?_⟩
      have h1 := h.ne; have h2 := h.me; have h3 := h.li; have h4 := h.co
      rw [iF (by omega), iF (by omega), iF (by omega), iT h3, iT h4, iT h.set]
    · refine .inl ⟨h, ?_⟩
      by_cases h1 : ((wk W i).1.length : Int) < 1
      · rw [iT h1]
      rw [iF h1]
      by_cases h2 : wM (wk W i) < 0
      · rw [iT h2]
      rw [iF h2]
      by_cases h3 : wM (wk W i) > 5
      · rw [iT h3]
      rw [iF h3]
      by_cases h4 : 0 ≤ wL (wk W i) ∧ wL (wk W i) ≤ 1073741824
      rotate_left
      · rw [iF h4]
      rw [iT h4]
      by_cases h5 : 1 ≤ wC (wk W i) ∧ wC (wk W i) ≤ 1073741824
      rotate_left
      · rw [iF h5]
      rw [iT h5, iF]
      intro hs
      exact h ⟨by omega, by omega, h4, h5, hs⟩
theorem p29_eq {k : Nat} (hk : Fu k) {P : Int} {R : List (List Int)} {W : List WT} : p29 k P R W = some (chkE P R W) := by
  have hk' := hk
  unfold Fu at hk'
  unfold p29 chkE
  simp only [jn_v, lt_v, sp_d, sp_tt, sp_ff]
  by_cases h1 : 256 < R.length
  · rw [iT (by omega), iT (.inl h1)]
  rw [iF (by omega)]
  by_cases h2 : 10 < W.length
  · rw [iT (by omega), iT (.inr (.inl h2))]
  rw [iF (by omega)]
  rcases p29_l1_eq (k := k) (n := k) (W := W) (by omega) (by omega) with ⟨h, e⟩ | ⟨h, e⟩
  · rw [e, iT (.inr (.inr h))]
  rw [e, iF (p := Many R W) (fun x => x.elim h1 fun y => y.elim h2 fun ⟨i, a, b⟩ => h i a b)]
  have hb : ∀ {x : Option Int}, ¬ MapOk P R W → some (2 : Int) = some (if MapOk P R W then 0 else 2) := fun h => by rw [iF h]
  by_cases h3 : P < 1
  · rw [iT h3]; exact hb (x := none) (fun h => by have := h.places; omega)
  rw [iF h3]
  by_cases h4 : P > 64
  · rw [iT h4]; exact hb (x := none) (fun h => by have := h.places; omega)
  rw [iF h4]
  rcases p29_l2_eq (k := k) (n := k) hk (P := P) (R := R) (by omega) (by omega) with ⟨⟨i, a, b⟩, e⟩ | ⟨hr, e⟩
  · rw [e]; exact hb (x := none) (fun h => b (h.road i a))
  rw [e]
  rcases p29_l3_eq (k := k) (n := k) hk (R := R) (W := W) (by omega) (by omega) (fun i hi => by have := h i hi; omega) with ⟨⟨i, a, b⟩, e⟩ | ⟨hw, e⟩
  · rw [e]; exact hb (x := none) (fun h => b (h.work i a))
  rw [e, iT]
  exact ⟨by omega, by omega, fun i hi => by have := h i hi; omega, by omega, fun i hi => Classical.byContradiction (hr i hi), fun i hi => Classical.byContradiction (hw i hi)⟩
theorem p127a_eq {k : Nat} (hk : Fu k) {W : List WT} (hW : W.length ≤ 10) : p92a k W = some (decide (∃ i, i < W.length ∧ 16 < (wk W i).1.length)) := by
  unfold Fu at hk
  unfold p92a p127a
  simp only [jn_v]
  rw [srchI0 (F := p127a_l1 k W (some (-1))) (len := W.length) (n := k) (fun i => 16 < (wk W i).1.length) (by omega)]
  · simp only [cl_v, lt_v]
    rw [fst_pos]
    exact congrArg some (dI Iff.rfl)
  · intro n; rw [p127a_l1]; simp only [lt_v, sp_d]; rw [iF (by omega)]
  · intro n i hi
    rw [p127a_l1]
    unfold p93
    simp only [lt_v, sp_d, cl_v]
    rw [iT (by omega), gd_v (by omega), Int.toNat_natCast, wr_succ hi (by omega)]
    by_cases h : 16 < (wk W i).1.length
    · exact .inl ⟨h, by unfold wk at h; rw [iT (by omega)]⟩
    · exact .inr ⟨h, by unfold wk at h; rw [iF (by omega)]⟩
theorem p95_eq {k : Nat} (hk : Fu k) {P : Int} {R : List (List Int)} {W : List WT} {r : List Int} (hr : r.length = 12) : p95 k r P R W = some (decide (¬ RoadOk P r)) := by
  unfold p95
  simp only [lt_v, sp_d, jn_v, sp_tt, sp_ff, p64_eq, p94_eq, cl_v, p39_eq hk (show (List.take 6 (List.drop 6 r)).length = 6 from by simp [hr]), szE_ne, beq_d, mn_eq]
  simp only [show r.getD 0 0 = rF r from rfl, show r.getD 1 0 = rT r from rfl, show r.getD 2 0 = rC r from rfl, show r.getD 3 0 = rM r from rfl, show r.getD 4 0 = rO r from rfl, show r.getD 5 0 = rL r from rfl]
  have aux : ∀ b : Bool, (b = true ↔ (0 ≤ rO r ∧ rO r < rL r ∧ rL r ≤ 1440 ∧ 1 ≤ rM r ∧ rM r ≤ rL r - rO r)) → (if 0 ≤ rF r ∧ rF r < P then if 0 ≤ rT r ∧ rT r < P then if rF r = rT r then some true else if 1 ≤ rC r ∧ rC r ≤ 1073741824 then sp b (some (decide (¬ SzOk (List.take 6 (List.drop 6 r))))) (some true) else some true else some true else some true) = some (decide (¬ RoadOk P r)) := by
    intro b hb
    by_cases h1 : 0 ≤ rF r ∧ rF r < P
    rotate_left
    · rw [iF h1, dT]; intro h; have := h.ar; unfold RoadA at this; omega
    rw [iT h1]
    by_cases h2 : 0 ≤ rT r ∧ rT r < P
    rotate_left
    · rw [iF h2, dT]; intro h; have := h.ar; unfold RoadA at this; omega
    rw [iT h2]
    by_cases h3 : rF r = rT r
    · rw [iT h3, dT]; intro h; have := h.ar; unfold RoadA at this; omega
    rw [iF h3]
    by_cases h4 : 1 ≤ rC r ∧ rC r ≤ 1073741824
    rotate_left
    · rw [iF h4, dT]; intro h; have := h.ar; unfold RoadA at this; omega
    rw [iT h4]
    cases b with
    | false =>
      rw [sp_ff, dT]; intro h
      have := h.ar; unfold RoadA at this
      have := hb.2 (by omega)
      cases this
    | true =>
      rw [sp_tt]
      have h5 := hb.1 rfl
      congr 1
      refine dI (not_congr ⟨fun h => ⟨by unfold RoadA; omega, h⟩, fun h => h.sz⟩)
  by_cases h1 : rO r ≥ 0
  rotate_left
  · rw [iF h1]; exact aux false ⟨fun h => (by cases h), fun h => (by omega)⟩
  rw [iT h1]
  by_cases h2 : rO r < rL r
  rotate_left
  · rw [iF h2]; exact aux false ⟨fun h => (by cases h), fun h => (by omega)⟩
  rw [iT h2]
  by_cases h3 : rL r ≤ 1440
  rotate_left
  · rw [iF h3]; exact aux false ⟨fun h => (by cases h), fun h => (by omega)⟩
  rw [iT h3, wr64 (by omega) (by omega)]
  have := aux (decide (1 ≤ rM r ∧ rM r ≤ min 1440 (rL r - rO r))) (by rw [decide_eq_true_iff]; omega)
  rw [sp_d] at this
  exact this
theorem p97a_eq {k : Nat} (hk : Fu k) {P : Int} {R S : List (List Int)} {W : List WT} (hr : ∀ r ∈ R, r.length = 12) (hR : R.length ≤ 256) : p97a k R P S W = some (decide (∃ i, i < R.length ∧ ¬ RoadOk P (rd R i))) := by
  have hk' := hk
  unfold Fu at hk'
  unfold p97a p80c
  simp only [jn_v]
  rw [srchI0 (F := p80c_l1 k R P S W (some (-1))) (len := R.length) (n := k) (fun i => ¬ RoadOk P (rd R i)) (by omega)]
  · simp only [cl_v, lt_v]
    rw [fst_pos]
    exact congrArg some (dI Iff.rfl)
  · intro n; rw [p80c_l1]; simp only [lt_v, sp_d]; rw [iF (by omega)]
  · intro n i hi
    rw [p80c_l1]
    simp only [lt_v, sp_d, cl_v]
    rw [iT (by omega), gd_v (by omega), Int.toNat_natCast, wr_succ hi (by omega)]
    have hd : R.getD i [] = rd R i := rfl
    rw [hd, p95_eq hk (hr _ (rd_mem hi)), cl_v, sp_d]
    by_cases h : ¬ RoadOk P (rd R i)
    · exact .inl ⟨h, by rw [iT h]⟩
    · exact .inr ⟨h, by rw [iF h]⟩
theorem p96_eq {k : Nat} (hk : Fu k) {P : Int} {R : List (List Int)} {W : List WT} {w : WT} (hw : w.1.length ≤ 16) : p96 k w.1 (wM w) (wL w) (wC w) P R W = some (decide (¬ WorkOk R.length w)) := by
  unfold p96
  simp only [lt_v, sp_d, jn_v, sp_tt, sp_ff, p64_eq, cl_v, p69_eq hk (show w.1.length ≤ 1152921504606846975 from by omega), beq_d]
  by_cases h1 : (w.1.length : Int) = 0
  · rw [iT h1, dT]; intro h; have := h.ne; omega
  rw [iF h1]
  by_cases h2 : setB R.length (-1) w.1
  rotate_left
  · rw [iF h2, dT]; intro h; exact h2 h.set
  rw [iT h2]
  by_cases h3 : wM w < 0
  · rw [iT h3, dT]; intro h; have := h.me; omega
  rw [iF h3]
  by_cases h4 : wM w > 5
  · rw [iT h4, dT]; intro h; have := h.me; omega
  rw [iF h4]
  by_cases h5 : 0 ≤ wL w ∧ wL w ≤ 1073741824
  rotate_left
  · rw [iF h5, dT]; intro h; exact h5 h.li
  rw [iT h5]
  by_cases h6 : 1 ≤ wC w ∧ wC w ≤ 1073741824
  · rw [dT h6, dF (not_not_intro ⟨by omega, by omega, h5, h6, h2⟩)]; rfl
  · rw [dF h6, dT]
    · rfl
    · intro h; exact h6 h.co
theorem p92b_eq {k : Nat} (hk : Fu k) {P : Int} {R : List (List Int)} {W V : List WT} (hW : W.length ≤ 10) (h16 : ∀ i, i < W.length → (wk W i).1.length ≤ 16) : p92b k W P R V = some (decide (∃ i, i < W.length ∧ ¬ WorkOk R.length (wk W i))) := by
  have hk' := hk
  unfold Fu at hk'
  unfold p92b p127b
  simp only [jn_v]
  rw [srchI0 (F := p127b_l1 k W P R V (some (-1))) (len := W.length) (n := k) (fun i => ¬ WorkOk R.length (wk W i)) (by omega)]
  · simp only [cl_v, lt_v]
    rw [fst_pos]
    exact congrArg some (dI Iff.rfl)
  · intro n; rw [p127b_l1]; simp only [lt_v, sp_d]; rw [iF (by omega)]
  · intro n i hi
    rw [p127b_l1]
    simp only [lt_v, sp_d, cl_v]
    rw [iT (by omega), gd_v (by omega), Int.toNat_natCast, wr_succ hi (by omega)]
    have hd := p96_eq (k := k) hk (P := P) (R := R) (W := V) (h16 i hi)
    unfold wM wL wC wk at hd
    rw [hd, cl_v, sp_d]
    by_cases h : ¬ WorkOk R.length (wk W i)
    · exact .inl ⟨h, by unfold wk at h; rw [iT h]⟩
    · exact .inr ⟨h, by unfold wk at h; rw [iF h]⟩
theorem p38_eq {k : Nat} (hk : Fu k) {P : Int} {R : List (List Int)} {W : List WT} (hr : ∀ r ∈ R, r.length = 12) : p38 k P R W = some (chkE P R W) := by
  unfold p38 chkE
  simp only [jn_v, lt_v, sp_d, sp_tt, sp_ff]
  by_cases h1 : 256 < R.length
  · rw [iT (by omega), iT (.inl h1)]
  rw [iF (by omega)]
  by_cases h2 : 10 < W.length
  · rw [iT (by omega), iT (.inr (.inl h2))]
  rw [iF (by omega), p127a_eq hk (by omega), cl_v]
  by_cases h : ∃ i, i < W.length ∧ 16 < (wk W i).1.length
  · rw [dT h, sp_tt, iT (.inr (.inr h))]
  rw [dF h, sp_ff, iF (p := Many R W) (fun x => x.elim h1 fun y => y.elim h2 h)]
  have hb : ∀ {x : Option Int}, ¬ MapOk P R W → some (2 : Int) = some (if MapOk P R W then 0 else 2) := fun h => by rw [iF h]
  by_cases h3 : P < 1
  · rw [iT h3]; exact hb (x := none) (fun h => by have := h.places; omega)
  rw [iF h3]
  by_cases h4 : P > 64
  · rw [iT h4]; exact hb (x := none) (fun h => by have := h.places; omega)
  rw [iF h4, p97a_eq hk hr (by omega), cl_v]
  have h16 : ∀ i, i < W.length → (wk W i).1.length ≤ 16 := fun i hi => by
    rcases Nat.lt_or_ge 16 (wk W i).1.length with a | a
    · exact absurd ⟨i, hi, a⟩ h
    · exact a
  by_cases h5 : ∃ i, i < R.length ∧ ¬ RoadOk P (rd R i)
  · rw [dT h5, sp_tt]; obtain ⟨i, a, b⟩ := h5; exact hb (x := none) (fun h => b (h.road i a))
  rw [dF h5, sp_ff, p92b_eq hk (by omega) h16, cl_v]
  by_cases h6 : ∃ i, i < W.length ∧ ¬ WorkOk R.length (wk W i)
  · rw [dT h6, sp_tt]; obtain ⟨i, a, b⟩ := h6; exact hb (x := none) (fun h => b (h.work i a))
  rw [dF h6, sp_ff, iT]
  exact ⟨by omega, by omega, h16, by omega, fun i hi => Classical.byContradiction fun a => h5 ⟨i, hi, a⟩, fun i hi => Classical.byContradiction fun a => h6 ⟨i, hi, a⟩⟩
end Go.Proofs.Ythniebmammmacaa
