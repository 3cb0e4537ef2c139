/- Lemmas and walks for the law RoadLeast (part 5). No condition: every theorem names its own hypotheses. -/
import Derived.Test.YthniebmammmacaaK4
import Derived.Test.YthniebmammmacaaProg
set_option linter.unusedVariables false
set_option linter.unusedSimpArgs false
set_option maxHeartbeats 4000000
namespace Go.Proofs.Ythniebmammmacaa
open Go.RowKit
def p84 (k : Nat) (u0 : Int) (u1g0 : Int) (u1g1 : List (List Int)) (u1g2 : List WT) (u1g3 : List Int) (u2G : List Int) : Option (Int × Bool) :=
 cl (p77 k u1g0 u1g1 u1g2 u1g3 u0) fun v3 => cl (p85c k u2G u1g0 u1g1 u1g2 u1g3 u0) fun v4 => some (v3,(!v4))
theorem hf84 : Try.prog.funcs[84]? = some Try.f84 := by kernel_rfl
theorem w84 (k : Nat) {M : Mem} {Au1g1 Au1g2 Au2G : Option Addr} {cu1g1 cu1g2 bu1 cu2G bu2 : Nat} {Hu1g2 : Nat → Option Addr} {Cu1g2 : Nat → Nat} {u0 u1g0 : Int} {u1g1 : List (List Int)} {u1g2 : List WT} {u1g3 u2G : List Int} (hu1g1 : SlR M Au1g1 cu1g1 .i64 12 u1g1) (hu1g2 : SlW M 3 Au1g2 cu1g2 Hu1g2 Cu1g2 u1g2) (hu1g3 : u1g3.length = 6) (hbu1 : MB M bu1 [oI u1g0,oS Au1g1 u1g1 cu1g1,oS Au1g2 u1g2 cu1g2,.arr .i64 6 u1g3]) (hu2G : SlI M Au2G cu2G .i64 u2G) (hbu2 : MB M bu2 [oS Au2G u2G cu2G]) {r} (h : p84 k u0 u1g0 u1g1 u1g2 u1g3 u2G = some r) :
  Fn Try.prog 84 [rval (.lf (.v (.int .u64 u0))),rval (lP bu1),rval (lP bu2)] M (fun x _ => x = .tup [(some (.v (.int .i64 r.1)),[]),(some (.v (.bool r.2)),[])]) := by
 unfold p84 at h
 refine FO [.lf (.v (.int .u64 u0)),lP bu1,lP bu2] hf84 ⟨trivial,⟨trivial,⟨trivial,trivial⟩⟩⟩ fun w => ?_
 refine SQ0 (RG ?_)
 refine SG 3 (S4 [(1,lP bu1),(2,lP bu2),(3,lO 3)] [(3,[.one (.v (.int .u64 u0))])] [] M) ?_
 refine EN ?_
 refine T_turn (turn_pubH 3 (c:=[.one (.v (.int .u64 u0))]) (by kernel_rfl) (by kernel_rfl)) ?_
 rintro _ ⟨b1,M2,rfl,-,e_M2,-,hM2⟩
 have fb1 : MB M2 b1 [.one (.v (.int .u64 u0))] := by rw [e_M2]; exact addM_at _ _ _
 refine KG (S4 [(1,lP bu1),(2,lP bu2),(3,lP b1)] [] [] M2) ?_
 refine SQ ?_
 obtain ⟨v3,c_v3,h⟩ := cl_some h
 obtain ⟨v4,c_v4,h⟩ := cl_some h
 refine T_draw' (id:=1) [] [0,0,0,0,0,0,0,0,0] (by kernel_rfl) (by kernel_rfl) (by kernel_rfl) (by kernel_rfl) [(6,.agg [oI u1g0,oS Au1g1 u1g1 cu1g1,oS Au1g2 u1g2 cu1g2,.arr .i64 6 u1g3]),(7,.lf (.v (.int .u64 u0))),(8,vi v3),(9,lS Au2G u2G cu2G),(10,.lf (.v (.func (.func 86) #[] #[(.pointer (some ⟨bu1,0,none⟩)),(.pointer (some ⟨b1,0,none⟩))]))),(11,vb v4),(12,vb (!v4)),(4,vi v3),(5,vb (!v4))] (by kernel_rfl) ⟨⟨rfl,⟨rfl,⟨rfl,⟨hu1g3,trivial⟩⟩⟩⟩,⟨trivial,⟨trivial,⟨trivial,⟨trivial,⟨trivial,⟨trivial,⟨trivial,⟨trivial,trivial⟩⟩⟩⟩⟩⟩⟩⟩⟩ ?_
 refine Stage_nil (stage_all' [4,6,7,8] [0,1,2,3,5] (by kernel_rfl) (by kernel_rfl) (by kernel_rfl) ⟨QF_at (i:=0) (d:=6) (x:=.agg [oI u1g0,oS Au1g1 u1g1 cu1g1,oS Au1g2 u1g2 cu1g2,.arr .i64 6 u1g3]) (show OpAt _ _ _ 0 6 _ from by exact At_ldPR (d:=6) (b:=bu1) (off:=0) (m:=9) (c:=[oI u1g0,oS Au1g1 u1g1 cu1g1,oS Au1g2 u1g2 cu1g2,.arr .i64 6 u1g3]) (by kernel_rfl) (by kernel_rfl) (sgCells_length ⟨rfl,⟨rfl,⟨rfl,⟨hu1g3,trivial⟩⟩⟩⟩) (cells_blk (m:=9) (hM2 _ _ hbu1) ⟨rfl,⟨rfl,⟨rfl,⟨hu1g3,trivial⟩⟩⟩⟩ (by kernel_rfl) rfl)) (by kernel_rfl) (by kernel_rfl),⟨QF_at (i:=1) (d:=7) (x:=.lf (.v (.int .u64 u0))) (show OpAt _ _ _ 1 7 _ from by exact At_ldP (d:=7) (b:=b1) (off:=0) (m:=1) (v:=(.int .u64 u0)) (by kernel_rfl) (cell_blk fb1 ⟨rfl,trivial⟩ (by kernel_rfl))) (by kernel_rfl) (by kernel_rfl),⟨QF_at (i:=2) (d:=8) (x:=vi v3) (show OpAt _ _ _ 2 8 _ from by exact At_call (d:=8) (f:=77) (args:=[rval (.agg [oI u1g0,oS Au1g1 u1g1 cu1g1,oS Au1g2 u1g2 cu1g2,.arr .i64 6 u1g3]),rval (.lf (.v (.int .u64 u0)))]) (x:=vi v3) (by kernel_rfl) (w77 k (hu1g1.le hM2) (hu1g2.le hM2) hu1g3 c_v3)) (by kernel_rfl) (by kernel_rfl),⟨QF_at (i:=3) (d:=9) (x:=lS Au2G u2G cu2G) (show OpAt _ _ _ 3 9 _ from by exact At_ldP (d:=9) (b:=bu2) (off:=0) (m:=1) (v:=(.slice Au2G (u2G.length) cu2G)) (by kernel_rfl) (cell_blk (hM2 _ _ hbu2) ⟨rfl,trivial⟩ (by kernel_rfl))) (by kernel_rfl) (by kernel_rfl),⟨QF_at (i:=5) (d:=11) (x:=vb v4) (show OpAt _ _ _ 5 11 _ from by exact At_call (d:=11) (f:=85) (args:=[rval (lS Au2G u2G cu2G),rval (.lf (.v (.func (.func 86) #[] #[(.pointer (some ⟨bu1,0,none⟩)),(.pointer (some ⟨b1,0,none⟩))])))]) (x:=vb v4) (by kernel_rfl) (w85c k (hu2G.le hM2) (hu1g1.le hM2) (hu1g2.le hM2) hu1g3 (hM2 _ _ hbu1) fb1 c_v4)) (by kernel_rfl) (by kernel_rfl),trivial⟩⟩⟩⟩⟩) ?_
 refine thenQ_n ?_
 refine KG (S4 [(4,vi v3),(5,vb (!v4))] [] [] M2) ?_
 refine RT ?_
 obtain rfl := sj h
 exact FT (.tup [(some (.v (.int .i64 v3)),[]),(some (.v (.bool (!v4))),[])]) rfl
end Go.Proofs.Ythniebmammmacaa
namespace Go.Proofs.Ythniebmammmacaa
open Go.RowKit
def p72b_r1 (k : Nat) (j6 : Int → Int → Bool → Option (Int × Int × Bool)) (u1y0 : Int) (u1y1 : List (List Int)) (u1y2 : List WT) (u1y3 : List Int) (u1Z : List Int) : List (Int) → Int → Int → Bool → Option (Int × Int × Bool)
 | [],x1,x2,b3 => j6 x1 x2 b3
 | x5::rest4,x1,x2,b3 => cl2 (p84 k x5 u1y0 u1y1 u1y2 u1y3 u1Z) fun v10 v11 => jn (fun (b12 : Bool) (b13 : Bool) => sp b12 (p72b_r1 k j6 u1y0 u1y1 u1y2 u1y3 u1Z rest4 x5 v10 true) (p72b_r1 k j6 u1y0 u1y1 u1y2 u1y3 u1Z rest4 x1 x2 b13)) fun j14 => sp v11 (sp b3 (lt' (decide (v10 < x2)) fun b15 => j14 b15 true) (j14 true false)) (j14 false b3)
def p72b (k : Nat) (u0 : List (Int)) (u1y0 : Int) (u1y1 : List (List Int)) (u1y2 : List WT) (u1y3 : List Int) (u1Z : List Int) : Option (Int × Int × Bool) :=
 jn (fun (x1 : Int) (x2 : Int) (b3 : Bool) => some (x1,x2,b3)) fun j6 => p72b_r1 k j6 u1y0 u1y1 u1y2 u1y3 u1Z u0 (0 : Int) (0 : Int) false
theorem hf72b : Try.prog.funcs[72]? = some Try.f72 := by kernel_rfl
theorem w72b (k : Nat) {M : Mem} {lbu0 : List Value} {Au1y1 Au1y2 Au1Z : Option Addr} {cu1y1 cu1y2 bu1C cu1Z bu1D : Nat} {Hu1y2 : Nat → Option Addr} {Cu1y2 : Nat → Nat} {u0 : List (Int)} {u1y0 : Int} {u1y1 : List (List Int)} {u1y2 : List WT} {u1y3 u1Z : List Int} (hu0 : IterE enU Try.prog 120 lbu0 M u0) (hu1y1 : SlR M Au1y1 cu1y1 .i64 12 u1y1) (hu1y2 : SlW M 3 Au1y2 cu1y2 Hu1y2 Cu1y2 u1y2) (hu1y3 : u1y3.length = 6) (hbu1C : MB M bu1C [oI u1y0,oS Au1y1 u1y1 cu1y1,oS Au1y2 u1y2 cu1y2,.arr .i64 6 u1y3]) (hu1Z : SlI M Au1Z cu1Z .i64 u1Z) (hbu1D : MB M bu1D [oS Au1Z u1Z cu1Z]) {r} (h : p72b k u0 u1y0 u1y1 u1y2 u1y3 u1Z = some r) :
  Fn Try.prog 72 [rval (.lf (.v (.func (.func 120) #[] (List.toArray lbu0)))),rval (.lf (.v (.func (.func 84) #[] #[(.pointer (some ⟨bu1C,0,none⟩)),(.pointer (some ⟨bu1D,0,none⟩))])))] M (fun x _ => x = .tup [(some (.v (.int .u64 r.1)),[]),(some (.v (.int .i64 r.2.1)),[]),(some (.v (.bool r.2.2)),[])]) := by
 unfold p72b at h
 refine FO [.lf (.v (.func (.func 120) #[] (List.toArray lbu0))),.lf (.v (.func (.func 84) #[] #[(.pointer (some ⟨bu1C,0,none⟩)),(.pointer (some ⟨bu1D,0,none⟩))]))] hf72b ⟨trivial,⟨trivial,trivial⟩⟩ fun w => ?_
 refine SQ0 (RG ?_)
 refine SG 4 (S4 [(0,.lf (.v (.func (.func 120) #[] (List.toArray lbu0)))),(3,lO 3),(4,lO 4),(5,lO 5),(6,lO 6)] [(3,[.one (.v (.func (.func 84) #[] #[(.pointer (some ⟨bu1C,0,none⟩)),(.pointer (some ⟨bu1D,0,none⟩))]))]),(4,[.one (.v (.int .u64 (0 : Int)))]),(5,[oI (0 : Int)]),(6,[.one (.v (.bool false))])] [] M) ?_
 refine EN (SQ (SQ (RG ?_)))
 refine SS 1 [(3,lO 3),(4,lO 4),(5,lO 5),(6,lO 6),(10,.lf (.v (.func (.func 120) #[] (List.toArray lbu0))))] ?_
 refine EN (BK 0 ?_)
 refine KS [(3,lO 3),(4,lO 4),(5,lO 5),(6,lO 6),(10,.lf (.v (.func (.func 120) #[] (List.toArray lbu0))))] ?_
 obtain ⟨j6,e_j6,h⟩ := jn_some h
 refine T_rangeE enU (p:=11) (g:=10) (gf:=120) (lb:=lbu0) (ks:=u0) [3,4,5,6] (assign:=(sub [1,0,1,0,0] Bd72)) (body:=(sub [1,0,1,0,1] Bd72)) (by kernel_rfl) rfl (by kernel_rfl) (by kernel_rfl) (by kernel_rfl) hu0 (enU_ok _) (by kernel_rfl) (by kernel_rfl) (fun (pre : List (Int)) (H : List (Nat × List Sg)) (V : List (Nat × Vc)) (M' : Mem) => ∃ (x1 : Int) (x2 : Int) (b3 : Bool) (rest : List (Int)),pre ++ rest = u0 ∧ H = [(3,[.one (.v (.func (.func 84) #[] #[(.pointer (some ⟨bu1C,0,none⟩)),(.pointer (some ⟨bu1D,0,none⟩))]))]),(4,[.one (.v (.int .u64 x1))]),(5,[oI x2]),(6,[.one (.v (.bool b3))])] ∧ V = [] ∧ Mem.le M M' ∧ p72b_r1 k j6 u1y0 u1y1 u1y2 u1y3 u1Z rest x1 x2 b3 = some r) (fun (c : Code) (H : List (Nat × List Sg)) (V : List (Nat × Vc)) (M' : Mem) => False) ⟨(0 : Int),(0 : Int),false,u0,List.nil_append _,rfl,rfl,(Mem.le_refl _),h⟩ ?_ ?_ ?_ ?_
 ·rintro pre H V M' M'' ⟨x1,x2,b3,rest,hks,e1,e2,hM,h⟩ hMM
  exact ⟨x1,x2,b3,rest,hks,e1,e2,(Mem.le_trans hM hMM),h⟩
 ·rintro l O8 bs pr x5 H V M7 ⟨rest4,hrr⟩ ⟨x1,x2,b3,rest0,hks,rfl,rfl,hM7,h⟩
  have hre : rest0 = x5::rest4 := List.append_cancel_left (hks.trans (by rw [← hrr,List.append_assoc]; rfl))
  subst hre
  rw [p72b_r1] at h
  refine RG ?_
  refine SG 1 { σ := [(3,lO 3),(4,lO 4),(5,lO 5),(6,lO 6),(7,.lf (.v (.int .u64 x5))),(10,.lf (.v (.func (.func 120) #[] (List.toArray lbu0))))],H := [(3,[.one (.v (.func (.func 84) #[] #[(.pointer (some ⟨bu1C,0,none⟩)),(.pointer (some ⟨bu1D,0,none⟩))]))]),(4,[.one (.v (.int .u64 x1))]),(5,[oI x2]),(6,[.one (.v (.bool b3))])],V := [],M := M7,ds := [],os := O8,ats := tiesOf [3,4,5,6] bs } ?_
  refine E0 ?_
  refine ⟨rfl,rfl,rfl,fun O9 => ?_⟩
  refine BK 1 (SQ (RG ?_))
  refine SG 2 { σ := [(3,lO 3),(4,lO 4),(5,lO 5),(6,lO 6),(7,.lf (.v (.int .u64 x5))),(10,.lf (.v (.func (.func 120) #[] (List.toArray lbu0)))),(13,.lf (.v (.func (.func 84) #[] #[(.pointer (some ⟨bu1C,0,none⟩)),(.pointer (some ⟨bu1D,0,none⟩))]))),(14,.lf (.v (.int .u64 x5)))],H := [(3,[.one (.v (.func (.func 84) #[] #[(.pointer (some ⟨bu1C,0,none⟩)),(.pointer (some ⟨bu1D,0,none⟩))]))]),(4,[.one (.v (.int .u64 x1))]),(5,[oI x2]),(6,[.one (.v (.bool b3))])],V := [],M := M7,ds := [],os := O9,ats := tiesOf [3,4,5,6] bs } ?_
  obtain ⟨v10,v11,c_v10,h⟩ := cl2_some h
  refine AC 15 (.tup [(some (.v (.int .i64 v10)),[]),(some (.v (.bool v11)),[])]) (w84 k (hu1y1.le hM7) (hu1y2.le hM7) hu1y3 (hM7 _ _ hbu1C) (hu1Z.le hM7) (hM7 _ _ hbu1D) c_v10) ?_ (hx:=(by intro y hy; simp only [List.mem_cons,List.mem_nil_iff,or_false] at hy; rcases hy with rfl | rfl <;> exact trivial))
  refine SH 8 [(3,lO 3),(4,lO 4),(5,lO 5),(6,lO 6),(7,.lf (.v (.int .u64 x5))),(8,vi v10),(9,vb v11),(10,.lf (.v (.func (.func 120) #[] (List.toArray lbu0))))] [(3,[.one (.v (.func (.func 84) #[] #[(.pointer (some ⟨bu1C,0,none⟩)),(.pointer (some ⟨bu1D,0,none⟩))]))]),(4,[.one (.v (.int .u64 x1))]),(5,[oI x2]),(6,[.one (.v (.bool b3))])] ?_
  refine EN ?_
  obtain ⟨j14,e_j14,h⟩ := jn_some h
  refine T_cut (c1:=(sub [1,0,1,0,1,0,1,0] Bd72)) (c2:=(sub [1,0,1,0,1,0,1,1] Bd72)) (fun s' => ∃ (b12 : Bool) (b13 : Bool),Sub { σ := [(3,lO 3),(4,lO 4),(5,lO 5),(6,lO 6),(7,.lf (.v (.int .u64 x5))),(8,vi v10),(10,.lf (.v (.func (.func 120) #[] (List.toArray lbu0)))),(27,vb b12)],H := [(3,[.one (.v (.func (.func 84) #[] #[(.pointer (some ⟨bu1C,0,none⟩)),(.pointer (some ⟨bu1D,0,none⟩))]))]),(4,[.one (.v (.int .u64 x1))]),(5,[oI x2]),(6,[.one (.v (.bool b13))])],V := [],M := M7,ds := [],os := O9,ats := tiesOf [3,4,5,6] bs } s' ∧ j14 b12 b13 = some r) (by kernel_rfl) ?_ ?_
  ·refine RG ?_
   refine SG 2 { σ := [(3,lO 3),(4,lO 4),(5,lO 5),(6,lO 6),(7,.lf (.v (.int .u64 x5))),(8,vi v10),(10,.lf (.v (.func (.func 120) #[] (List.toArray lbu0)))),(19,vb v11)],H := [(3,[.one (.v (.func (.func 84) #[] #[(.pointer (some ⟨bu1C,0,none⟩)),(.pointer (some ⟨bu1D,0,none⟩))]))]),(4,[.one (.v (.int .u64 x1))]),(5,[oI x2]),(6,[.one (.v (.bool b3))])],V := [],M := M7,ds := [],os := O9,ats := tiesOf [3,4,5,6] bs } ?_
   cases v11 with
   | true =>
    replace h := sp_t h
    refine SS 5 [(3,lO 3),(4,lO 4),(5,lO 5),(6,lO 6),(7,.lf (.v (.int .u64 x5))),(8,vi v10),(10,.lf (.v (.func (.func 120) #[] (List.toArray lbu0)))),(19,vb true),(22,vb (!b3))] ?_
    cases b3 with
    | true =>
     replace h := sp_t h
     obtain ⟨b15,e_b15,h⟩ := lt_some h
     refine SH 10 [(3,lO 3),(4,lO 4),(5,lO 5),(6,lO 6),(7,.lf (.v (.int .u64 x5))),(8,vi v10),(10,.lf (.v (.func (.func 120) #[] (List.toArray lbu0)))),(27,vb b15)] [(3,[.one (.v (.func (.func 84) #[] #[(.pointer (some ⟨bu1C,0,none⟩)),(.pointer (some ⟨bu1D,0,none⟩))]))]),(4,[.one (.v (.int .u64 x1))]),(5,[oI x2]),(6,[.one (.v (.bool true))])] ?_ (by subst e_b15;kernel_rfl)
     refine EN ?_
     exact ⟨b15,true,keep_sub (ts:=[3,4,5,6,7,8,10,27]) (hs:=[3,4,5,6]) (vs:=[]) (by kernel_rfl),h⟩
    | false =>
     replace h := sp_f h
     refine SH 10 [(3,lO 3),(4,lO 4),(5,lO 5),(6,lO 6),(7,.lf (.v (.int .u64 x5))),(8,vi v10),(10,.lf (.v (.func (.func 120) #[] (List.toArray lbu0)))),(27,vb true)] [(3,[.one (.v (.func (.func 84) #[] #[(.pointer (some ⟨bu1C,0,none⟩)),(.pointer (some ⟨bu1D,0,none⟩))]))]),(4,[.one (.v (.int .u64 x1))]),(5,[oI x2]),(6,[.one (.v (.bool false))])] ?_
     refine EN ?_
     exact ⟨true,false,keep_sub (ts:=[3,4,5,6,7,8,10,27]) (hs:=[3,4,5,6]) (vs:=[]) (by kernel_rfl),h⟩
   | false =>
    replace h := sp_f h
    refine SS 10 [(3,lO 3),(4,lO 4),(5,lO 5),(6,lO 6),(7,.lf (.v (.int .u64 x5))),(8,vi v10),(10,.lf (.v (.func (.func 120) #[] (List.toArray lbu0)))),(27,vb false)] ?_
    refine EN ?_
    exact ⟨false,b3,keep_sub (ts:=[3,4,5,6,7,8,10,27]) (hs:=[3,4,5,6]) (vs:=[]) (by kernel_rfl),h⟩
  ·rintro s' ⟨b12,b13,hsub,h⟩
   subst e_j14
   refine T_sub hsub ?_
   cases b12 with
   | true =>
    replace h := sp_t h
    refine CT ?_
    refine KG { σ := [(3,lO 3),(4,lO 4),(5,lO 5),(6,lO 6),(7,.lf (.v (.int .u64 x5))),(8,vi v10),(10,.lf (.v (.func (.func 120) #[] (List.toArray lbu0))))],H := [(3,[.one (.v (.func (.func 84) #[] #[(.pointer (some ⟨bu1C,0,none⟩)),(.pointer (some ⟨bu1D,0,none⟩))]))]),(4,[.one (.v (.int .u64 x1))]),(5,[oI x2]),(6,[.one (.v (.bool b13))])],V := [],M := M7,ds := [],os := O9,ats := tiesOf [3,4,5,6] bs } ?_
    refine RG ?_
    refine SH 5 [(3,lO 3),(4,lO 4),(5,lO 5),(6,lO 6),(10,.lf (.v (.func (.func 120) #[] (List.toArray lbu0))))] [(3,[.one (.v (.func (.func 84) #[] #[(.pointer (some ⟨bu1C,0,none⟩)),(.pointer (some ⟨bu1D,0,none⟩))]))]),(4,[.one (.v (.int .u64 x5))]),(5,[oI v10]),(6,[.one (.v (.bool true))])] ?_
    refine E0 (blockQ_n ?_)
    refine ⟨_,keep_sub (s':={ σ := [],H := [(3,[.one (.v (.func (.func 84) #[] #[(.pointer (some ⟨bu1C,0,none⟩)),(.pointer (some ⟨bu1D,0,none⟩))]))]),(4,[.one (.v (.int .u64 x5))]),(5,[oI v10]),(6,[.one (.v (.bool true))])],V := [],M := M7,ds := [],os := O9,ats := tiesOf [3,4,5,6] bs }) (ts:=[]) (hs:=[3,4,5,6]) (vs:=[]) (by kernel_rfl),rfl,rfl,(Mem.le_refl _),?_⟩
    show (fun (pre : List (Int)) (H : List (Nat × List Sg)) (V : List (Nat × Vc)) (M' : Mem) => ∃ (x1 : Int) (x2 : Int) (b3 : Bool) (rest : List (Int)),pre ++ rest = u0 ∧ H = [(3,[.one (.v (.func (.func 84) #[] #[(.pointer (some ⟨bu1C,0,none⟩)),(.pointer (some ⟨bu1D,0,none⟩))]))]),(4,[.one (.v (.int .u64 x1))]),(5,[oI x2]),(6,[.one (.v (.bool b3))])] ∧ V = [] ∧ Mem.le M M' ∧ p72b_r1 k j6 u1y0 u1y1 u1y2 u1y3 u1Z rest x1 x2 b3 = some r) (pr ++ [x5]) _ _ _
    exact ⟨x5,v10,true,rest4,by rw [List.append_assoc]; exact hks,rfl,rfl,(Mem.le_trans (Mem.le_refl _) hM7),h⟩
   | false =>
    replace h := sp_f h
    refine CF ?_
    refine KG { σ := [(3,lO 3),(4,lO 4),(5,lO 5),(6,lO 6),(10,.lf (.v (.func (.func 120) #[] (List.toArray lbu0))))],H := [(3,[.one (.v (.func (.func 84) #[] #[(.pointer (some ⟨bu1C,0,none⟩)),(.pointer (some ⟨bu1D,0,none⟩))]))]),(4,[.one (.v (.int .u64 x1))]),(5,[oI x2]),(6,[.one (.v (.bool b13))])],V := [],M := M7,ds := [],os := O9,ats := tiesOf [3,4,5,6] bs } ?_
    refine S0 (blockQ_n ?_)
    refine ⟨_,keep_sub (s':={ σ := [],H := [(3,[.one (.v (.func (.func 84) #[] #[(.pointer (some ⟨bu1C,0,none⟩)),(.pointer (some ⟨bu1D,0,none⟩))]))]),(4,[.one (.v (.int .u64 x1))]),(5,[oI x2]),(6,[.one (.v (.bool b13))])],V := [],M := M7,ds := [],os := O9,ats := tiesOf [3,4,5,6] bs }) (ts:=[]) (hs:=[3,4,5,6]) (vs:=[]) (by kernel_rfl),rfl,rfl,(Mem.le_refl _),?_⟩
    show (fun (pre : List (Int)) (H : List (Nat × List Sg)) (V : List (Nat × Vc)) (M' : Mem) => ∃ (x1 : Int) (x2 : Int) (b3 : Bool) (rest : List (Int)),pre ++ rest = u0 ∧ H = [(3,[.one (.v (.func (.func 84) #[] #[(.pointer (some ⟨bu1C,0,none⟩)),(.pointer (some ⟨bu1D,0,none⟩))]))]),(4,[.one (.v (.int .u64 x1))]),(5,[oI x2]),(6,[.one (.v (.bool b3))])] ∧ V = [] ∧ Mem.le M M' ∧ p72b_r1 k j6 u1y0 u1y1 u1y2 u1y3 u1Z rest x1 x2 b3 = some r) (pr ++ [x5]) _ _ _
    exact ⟨x1,x2,b13,rest4,by rw [List.append_assoc]; exact hks,rfl,rfl,(Mem.le_trans (Mem.le_refl _) hM7),h⟩
 ·rintro D H V M7 ⟨x1,x2,b3,rest0,hks,rfl,rfl,hM7,h⟩
  have hre : rest0 = [] := by have := congrArg List.length hks;simp at this;exact this
  subst hre
  rw [p72b_r1] at h
  subst e_j6
  refine blockQ_n (thenQ_n (SQ ?_))
  refine T_draw' (id:=6) [3,4,5] [0,0,0,0,0,0] (by kernel_rfl) (by kernel_rfl) (by kernel_rfl) (by kernel_rfl) [(30,.lf (.v (.int .u64 x1))),(31,vi x2),(32,vb b3)] (by kernel_rfl) ⟨trivial,⟨trivial,⟨trivial,trivial⟩⟩⟩ ?_
  refine Stage_ex (stage_all' [0,1,2] [] (by kernel_rfl) (by kernel_rfl) (by kernel_rfl) trivial) ({ σ := [(30,.lf (.v (.int .u64 x1))),(31,vi x2),(32,vb b3),(3,lO 3),(4,lO 4),(5,lO 5),(6,lO 6),(10,.lf (.v (.func (.func 120) #[] (List.toArray lbu0))))],H := [(4,[.one (.v (.int .u64 x1))]),(3,[.one (.v (.func (.func 84) #[] #[(.pointer (some ⟨bu1C,0,none⟩)),(.pointer (some ⟨bu1D,0,none⟩))]))]),(4,[.one (.v (.int .u64 x1))]),(5,[oI x2]),(6,[.one (.v (.bool b3))])],V := [],M := M7,ds := [D] }) (by kernel_rfl) [] (by kernel_rfl) trivial ?_
  refine Stage_ex (stage_all' [1,2] [] (by kernel_rfl) (by kernel_rfl) (by kernel_rfl) trivial) ({ σ := [(30,.lf (.v (.int .u64 x1))),(31,vi x2),(32,vb b3),(3,lO 3),(4,lO 4),(5,lO 5),(6,lO 6),(10,.lf (.v (.func (.func 120) #[] (List.toArray lbu0))))],H := [(5,[oI x2]),(4,[.one (.v (.int .u64 x1))]),(3,[.one (.v (.func (.func 84) #[] #[(.pointer (some ⟨bu1C,0,none⟩)),(.pointer (some ⟨bu1D,0,none⟩))]))]),(4,[.one (.v (.int .u64 x1))]),(5,[oI x2]),(6,[.one (.v (.bool b3))])],V := [],M := M7,ds := [D] }) (by kernel_rfl) [] (by kernel_rfl) trivial ?_
  refine Stage_ex (stage_all' [2] [] (by kernel_rfl) (by kernel_rfl) (by kernel_rfl) trivial) ({ σ := [(30,.lf (.v (.int .u64 x1))),(31,vi x2),(32,vb b3),(3,lO 3),(4,lO 4),(5,lO 5),(6,lO 6),(10,.lf (.v (.func (.func 120) #[] (List.toArray lbu0))))],H := [(6,[.one (.v (.bool b3))]),(5,[oI x2]),(4,[.one (.v (.int .u64 x1))]),(3,[.one (.v (.func (.func 84) #[] #[(.pointer (some ⟨bu1C,0,none⟩)),(.pointer (some ⟨bu1D,0,none⟩))]))]),(4,[.one (.v (.int .u64 x1))]),(5,[oI x2]),(6,[.one (.v (.bool b3))])],V := [],M := M7,ds := [D] }) (by kernel_rfl) [] (by kernel_rfl) trivial ?_
  refine Stage_nil (stage_all' [] [] (by kernel_rfl) (by kernel_rfl) (by kernel_rfl) trivial) ?_
  refine thenQ_n ?_
  refine KG { σ := [(4,lO 4),(5,lO 5),(6,lO 6)],H := [(4,[.one (.v (.int .u64 x1))]),(5,[oI x2]),(6,[.one (.v (.bool b3))])],V := [],M := M7,ds := [D] } ?_
  refine RT ?_
  obtain rfl := sj h
  refine fin_retD (.tup [(some (.v (.int .u64 x1)),[]),(some (.v (.int .i64 x2)),[]),(some (.v (.bool b3)),[])]) D (by kernel_rfl) (by kernel_rfl) rfl ?_
  rfl
 ·intro D c H V M' hI
  exact hI.elim
end Go.Proofs.Ythniebmammmacaa
namespace Go.Proofs.Ythniebmammmacaa
open Go.RowKit
def p31 (k : Nat) (u0_0 : Int) (u0_1 : List (List Int)) (u0_2 : List WT) (u1 : List Int) (u2 : List Int) : Option (List Int × Int × Int) :=
 cl5 (p68 k u0_0 u0_1 u0_2 u1) fun v5 v6 v7 v8 v9 => gd ((v8).length = 6) <| lt' (v9 != (0 : Int)) fun b20 => sp b20 (some (([] : List Int),(0 : Int),v9)) (cl (p66 k u0_0 u0_1 u0_2 u2) fun v21 => lt' (v21 != (0 : Int)) fun b22 => sp b22 (some (([] : List Int),(0 : Int),v21)) (cl (p73 k (u0_2.length : Int)) fun v23 => cl3 (p72b k v23 v5 v6 v7 v8 u2) fun v26 v27 v28 => sp v28 (cl (p79 k v26) fun v29 => cl (p78 k v29) fun v32 => some (v32,v27,(0 : Int))) (some (([] : List Int),(0 : Int),(15 : Int)))))
theorem hf31 : Try.prog.funcs[31]? = some Try.f31 := by kernel_rfl
theorem w31 (k : Nat) {M : Mem} {Au0_1 Au0_2 Au2 : Option Addr} {cu0_1 cu0_2 cu2 : Nat} {Hu0_2 : Nat → Option Addr} {Cu0_2 : Nat → Nat} {u0_0 : Int} {u0_1 : List (List Int)} {u0_2 : List WT} {u1 u2 : List Int} (hu0_1 : SlR M Au0_1 cu0_1 .i64 12 u0_1) (hu0_2 : SlW M 3 Au0_2 cu0_2 Hu0_2 Cu0_2 u0_2) (hu1 : u1.length = 6) (hu2 : SlI M Au2 cu2 .i64 u2) {r} (h : p31 k u0_0 u0_1 u0_2 u1 u2 = some r) :
  Fn Try.prog 31 [rval (.agg [oI u0_0,oS Au0_1 u0_1 cu0_1,oS Au0_2 u0_2 cu0_2]),rval (.agg [.arr .i64 6 u1]),rval (lS Au2 u2 cu2)] M (fun x M' => ∃ (A1 : Option Addr) (c2 : Nat),x = .tup [(some (.v (.slice A1 (List.length r.1) c2)),[]),(some (.v (.int .i64 r.2.1)),[]),(some (.v (.int .i64 r.2.2)),[])] ∧ SlI M' A1 c2 .i64 r.1) := by
 unfold p31 at h
 refine FO [.agg [oI u0_0,oS Au0_1 u0_1 cu0_1,oS Au0_2 u0_2 cu0_2],.agg [.arr .i64 6 u1],lS Au2 u2 cu2] hf31 ⟨⟨rfl,⟨rfl,⟨rfl,trivial⟩⟩⟩,⟨⟨hu1,trivial⟩,⟨trivial,trivial⟩⟩⟩ fun w => ?_
 refine SQ0 (RG ?_)
 refine SG 6 (S4 [(3,lO 3),(4,lO 4),(5,lO 5)] [(3,[oI u0_0,oS Au0_1 u0_1 cu0_1,oS Au0_2 u0_2 cu0_2]),(4,[.arr .i64 6 u1]),(5,[oS Au2 u2 cu2])] [] M) ?_
 refine EN ?_
 refine T_turn (turn_pubH 5 (c:=[oS Au2 u2 cu2]) (by kernel_rfl) (by kernel_rfl)) ?_
 rintro _ ⟨b3,M4,rfl,-,e_M4,-,hM4⟩
 have fb3 : MB M4 b3 [oS Au2 u2 cu2] := by rw [e_M4]; exact addM_at _ _ _
 refine KG (S4 [(3,lO 3),(4,lO 4),(5,lP b3)] [(3,[oI u0_0,oS Au0_1 u0_1 cu0_1,oS Au0_2 u0_2 cu0_2]),(4,[.arr .i64 6 u1])] [] M4) ?_
 refine SQ (RG ?_)
 refine SH 2 [(3,lO 3),(5,lP b3),(16,.agg [oI u0_0,oS Au0_1 u0_1 cu0_1,oS Au0_2 u0_2 cu0_2]),(17,.agg [.arr .i64 6 u1])] [(3,[oI u0_0,oS Au0_1 u0_1 cu0_1,oS Au0_2 u0_2 cu0_2])] ?_
 obtain ⟨v5,v6,v7,v8,v9,c_v5,h⟩ := cl5_some h
 obtain ⟨g16,h⟩ := gd_some h
 refine TI_of (i:=2) (by kernel_rfl) (TE_callR (d:=18) (f:=68) (args:=[rval (.agg [oI u0_0,oS Au0_1 u0_1 cu0_1,oS Au0_2 u0_2 cu0_2]),rval (.agg [.arr .i64 6 u1])]) (by kernel_rfl) (by kernel_rfl) (w68 k (hu0_1.le hM4) (hu0_2.le hM4) hu1 c_v5) ?_)
 rintro _ M17 _ hM17 _ ⟨A10,c11,A12,c13,H14,C15,rfl,fA10,fA12⟩
 refine SG 9 (S4 [(3,lO 3),(5,lP b3),(9,lO 9),(10,vi v9)] [(3,[oI u0_0,oS Au0_1 u0_1 cu0_1,oS Au0_2 u0_2 cu0_2]),(9,[oI v5,oS A10 v6 c11,oS A12 v7 c13,.arr .i64 6 v8])] [] M17) ?_
 refine EN ?_
 refine T_turn (turn_pubH 9 (c:=[oI v5,oS A10 v6 c11,oS A12 v7 c13,.arr .i64 6 v8]) (by kernel_rfl) (by kernel_rfl)) ?_
 rintro _ ⟨b18,M19,rfl,-,e_M19,-,hM19⟩
 have fb18 : MB M19 b18 [oI v5,oS A10 v6 c11,oS A12 v7 c13,.arr .i64 6 v8] := by rw [e_M19]; exact addM_at _ _ _
 refine KG (S4 [(3,lO 3),(5,lP b3),(9,lP b18),(10,vi v9)] [(3,[oI u0_0,oS Au0_1 u0_1 cu0_1,oS Au0_2 u0_2 cu0_2])] [] M19) ?_
 refine SQ (SQ (RG ?_))
 obtain ⟨b20,e_b20,h⟩ := lt_some h
 refine SS 2 [(3,lO 3),(5,lP b3),(9,lP b18),(10,vi v9),(22,vb b20)] ?_ (by subst e_b20;kernel_rfl)
 refine EN ?_
 cases b20 with
 | true =>
  replace h := sp_t h
  refine CT ?_
  refine KP [(10,vi v9)] [] [] ?_
  refine SQ (RG ?_)
  refine SS 4 [(6,lS none ([] : List Int) 0),(7,vi (0 : Int)),(8,vi v9)] ?_
  refine EN (RT (thenQ_r ?_))
  obtain rfl := sj h
  refine FT (.tup [(some (.v (.slice none (List.length ([] : List Int)) 0)),[]),(some (.v (.int .i64 (0 : Int))),[]),(some (.v (.int .i64 v9)),[])]) ?_
  exact ⟨none,0,rfl,(nilI _ _ _)⟩
 | false =>
  replace h := sp_f h
  refine CF ?_
  refine KS [(3,lO 3),(5,lP b3),(9,lP b18)] ?_
  refine SN (SQ (SQ (RG ?_)))
  refine SS 1 [(3,lO 3),(5,lP b3),(9,lP b18),(24,.agg [oI u0_0,oS Au0_1 u0_1 cu0_1,oS Au0_2 u0_2 cu0_2])] ?_
  refine AT 25 (lS Au2 u2 cu2) (At_ldP (b:=b3) (off:=0) (m:=1) (v:=(.slice Au2 (u2.length) cu2)) (by kernel_rfl) (cell_blk (hM19 _ _ (hM17 _ _ fb3)) ⟨rfl,trivial⟩ (by kernel_rfl))) ?_
  obtain ⟨v21,c_v21,h⟩ := cl_some h
  refine AC 26 (vi v21) (w66 k (((hu0_1.le hM4).le hM17).le hM19) (((hu0_2.le hM4).le hM17).le hM19) (((hu2.le hM4).le hM17).le hM19) c_v21) ?_
  refine SH 4 [(3,lO 3),(5,lP b3),(9,lP b18),(11,vi v21)] [(3,[oI u0_0,oS Au0_1 u0_1 cu0_1,oS Au0_2 u0_2 cu0_2])] ?_
  refine EN (SQ (RG ?_))
  obtain ⟨b22,e_b22,h⟩ := lt_some h
  refine SS 2 [(3,lO 3),(5,lP b3),(9,lP b18),(11,vi v21),(28,vb b22)] ?_ (by subst e_b22;kernel_rfl)
  refine EN ?_
  cases b22 with
  | true =>
   replace h := sp_t h
   refine CT ?_
   refine KP [(11,vi v21)] [] [] ?_
   refine SQ (RG ?_)
   refine SS 4 [(6,lS none ([] : List Int) 0),(7,vi (0 : Int)),(8,vi v21)] ?_
   refine EN (RT (thenQ_r ?_))
   obtain rfl := sj h
   refine FT (.tup [(some (.v (.slice none (List.length ([] : List Int)) 0)),[]),(some (.v (.int .i64 (0 : Int))),[]),(some (.v (.int .i64 v21)),[])]) ?_
   exact ⟨none,0,rfl,(nilI _ _ _)⟩
  | false =>
   replace h := sp_f h
   refine CF ?_
   refine KS [(3,lO 3),(5,lP b3),(9,lP b18)] ?_
   refine SN (SQ (RG ?_))
   refine SH 3 [(5,lP b3),(9,lP b18),(33,vi (u0_2.length : Int))] [] ?_
   obtain ⟨v23,c_v23,h⟩ := cl_some h
   refine TI_of (i:=3) (by kernel_rfl) (TE_callR (d:=34) (f:=73) (args:=[rval (vi (u0_2.length : Int))]) (by kernel_rfl) (by kernel_rfl) (w73 k  c_v23) ?_)
   rintro _ M25 _ hM25 _ ⟨lb24,rfl,flb24⟩
   refine SG 5 (S4 [(34,.lf (.v (.func (.func 120) #[] (List.toArray lb24)))),(35,.lf (.v (.func (.func 84) #[] #[(.pointer (some ⟨b18,0,none⟩)),(.pointer (some ⟨b3,0,none⟩))])))] [] [] M25) ?_
   obtain ⟨v26,v27,v28,c_v26,h⟩ := cl3_some h
   refine AC 36 (.tup [(some (.v (.int .u64 v26)),[]),(some (.v (.int .i64 v27)),[]),(some (.v (.bool v28)),[])]) (w72b k flb24 ((fA10.le hM19).le hM25) ((fA12.le hM19).le hM25) g16 (hM25 _ _ fb18) ((((hu2.le hM4).le hM17).le hM19).le hM25) (hM25 _ _ (hM19 _ _ (hM17 _ _ fb3))) c_v26) ?_ (hx:=(by intro y hy; simp only [List.mem_cons,List.mem_nil_iff,or_false] at hy; rcases hy with rfl | rfl | rfl <;> exact trivial))
   refine SH 13 [(12,.lf (.v (.int .u64 v26))),(13,vi v27),(14,vb v28)] [] ?_
   refine EN (SQ (SQ (RG ?_)))
   refine SS 2 [(12,.lf (.v (.int .u64 v26))),(13,vi v27),(41,vb (!v28))] ?_
   refine EN ?_
   cases v28 with
   | true =>
    replace h := sp_t h
    refine CF ?_
    refine KS [(12,.lf (.v (.int .u64 v26))),(13,vi v27)] ?_
    refine SN (SQ (RG ?_))
    refine SS 1 [(13,vi v27),(42,.lf (.v (.int .u64 v26)))] ?_
    obtain ⟨v29,c_v29,h⟩ := cl_some h
    refine TI_of (i:=1) (by kernel_rfl) (TE_callR (d:=43) (f:=79) (args:=[rval (.lf (.v (.int .u64 v26)))]) (by kernel_rfl) (by kernel_rfl) (w79 k  c_v29) ?_)
    rintro _ M31 _ hM31 _ ⟨lb30,rfl,flb30⟩
    obtain ⟨v32,c_v32,h⟩ := cl_some h
    refine TI_of (i:=2) (by kernel_rfl) (TE_callR (d:=44) (f:=78) (args:=[rval (.lf (.v (.func (.func 124) #[] (List.toArray lb30))))]) (by kernel_rfl) (by kernel_rfl) (w78 k flb30 c_v32) ?_)
    rintro _ M35 _ hM35 _ ⟨A33,c34,rfl,fA33⟩
    refine SG 7 (S4 [(6,lS A33 v32 c34),(7,vi v27),(8,vi (0 : Int))] [] [] M35) ?_
    refine EN (RT ?_)
    obtain rfl := sj h
    refine FT (.tup [(some (.v (.slice A33 (v32.length) c34)),[]),(some (.v (.int .i64 v27)),[]),(some (.v (.int .i64 (0 : Int))),[])]) ?_
    exact ⟨A33,c34,rfl,fA33⟩
   | false =>
    replace h := sp_f h
    refine CT ?_
    refine KS [] ?_
    refine SQ (RG ?_)
    refine SS 3 [(6,lS none ([] : List Int) 0),(7,vi (0 : Int)),(8,vi (15 : Int))] ?_
    refine EN (RT (thenQ_r ?_))
    obtain rfl := sj h
    refine FT (.tup [(some (.v (.slice none (List.length ([] : List Int)) 0)),[]),(some (.v (.int .i64 (0 : Int))),[]),(some (.v (.int .i64 (15 : Int))),[])]) ?_
    exact ⟨none,0,rfl,(nilI _ _ _)⟩
end Go.Proofs.Ythniebmammmacaa
namespace Go.Proofs.Ythniebmammmacaa
open Go.RowKit
def p70_r1 (k : Nat) (j6 : List (List Int) → Option (List (List Int))) : List (List Int) → List (List Int) → Option (List (List Int))
 | [],R3 => j6 R3
 | x5::rest4,R3 => lt' (fixl 4 x5) fun L10 => gd ((R3.length + List.length ([L10])) * 32 ≤ 140737488355328) <| lt' (R3 ++ ([L10])) fun W12 => p70_r1 k j6 rest4 W12
def p70 (k : Nat) (u0 : List (List Int)) (u1 : List (List Int)) : Option (List (List Int)) :=
 jn (fun (R3 : List (List Int)) => some R3) fun j6 => p70_r1 k j6 u1 u0
theorem hf70 : Try.prog.funcs[70]? = some Try.f70 := by kernel_rfl
theorem w70 (k : Nat) {M : Mem} {lbu1 : List Value} {u0 u1 : List (List Int)} (ru0 : ∀ q ∈ u0,q.length = 4) (hu1 : IterE (enR 4) Try.prog 118 lbu1 M u1) {r} (h : p70 k u0 u1 = some r) :
  FnV Try.prog 70 [lV 9000,.lf (.v (.func (.func 118) #[] (List.toArray lbu1)))] 9000 ⟨73,4,List.length u0,rowsC .i64 u0⟩ 9000 M (fun v' _ => v' = ⟨73,4,List.length r,rowsC .i64 r⟩ ∧ ∀ q ∈ r,q.length = 4) := by
 unfold p70 at h
 refine FnV_of (P:=Try.prog) (fn:=Try.f70) (c:=bodyOf Try.f70) [lV 9000,.lf (.v (.func (.func 118) #[] (List.toArray lbu1)))] hf70 (by kernel_rfl) (Nat.le_of_ble_eq_true (by kernel_rfl)) ⟨trivial,⟨trivial,trivial⟩⟩ fun B w0 => ?_
 refine SQ0 (RG ?_)
 refine SG 2 (S4 [(1,.lf (.v (.func (.func 118) #[] (List.toArray lbu1)))),(2,lO 2),(4,lS none ([] : List (List Int)) 0)] [(2,[.one (.vec 9000)])] [(9000,⟨73,4,List.length u0,rowsC .i64 u0⟩)] M) ?_
 refine EN (SQ (SQ (RG ?_)))
 refine SS 1 [(2,lO 2),(4,lS none ([] : List (List Int)) 0),(6,.lf (.v (.func (.func 118) #[] (List.toArray lbu1))))] ?_
 refine EN (BK 0 ?_)
 refine KS [(2,lO 2),(4,lS none ([] : List (List Int)) 0),(6,.lf (.v (.func (.func 118) #[] (List.toArray lbu1))))] ?_
 obtain ⟨j6,e_j6,h⟩ := jn_some h
 refine T_rangeE (enR 4) (p:=7) (g:=6) (gf:=118) (lb:=lbu1) (ks:=u1) [2] (assign:=(sub [1,0,1,0,0] Bd70)) (body:=(sub [1,0,1,0,1] Bd70)) (by kernel_rfl) rfl (by kernel_rfl) (by kernel_rfl) (by kernel_rfl) hu1 (enR_ok 4 _) (by kernel_rfl) (by kernel_rfl) (fun (pre : List (List Int)) (H : List (Nat × List Sg)) (V : List (Nat × Vc)) (M' : Mem) => ∃ (R3 : List (List Int)) (rest : List (List Int)),pre ++ rest = u1 ∧ H = [(2,[.one (.vec 9000)])] ∧ V = [(9000,⟨73,4,List.length R3,rowsC .i64 R3⟩)] ∧ Mem.le M M' ∧ (∀ r ∈ R3,r.length = 4) ∧ p70_r1 k j6 rest R3 = some r) (fun (c : Code) (H : List (Nat × List Sg)) (V : List (Nat × Vc)) (M' : Mem) => False) ⟨u0,u1,List.nil_append _,rfl,rfl,(Mem.le_refl _),ru0,h⟩ ?_ ?_ ?_ ?_
 ·rintro pre H V M' M'' ⟨R3,rest,hks,e1,e2,hM,r_R3,h⟩ hMM
  exact ⟨R3,rest,hks,e1,e2,(Mem.le_trans hM hMM),r_R3,h⟩
 ·rintro l O8 bs pr x5 H V M7 ⟨rest4,hrr⟩ ⟨R3,rest0,hks,rfl,rfl,hM7,r_R3,h⟩
  have hre : rest0 = x5::rest4 := List.append_cancel_left (hks.trans (by rw [← hrr,List.append_assoc]; rfl))
  subst hre
  rw [p70_r1] at h
  obtain ⟨L10,e_L10,h⟩ := lt_some h
  have l_L10 : (L10).length = 4 := by rw [e_L10]; exact fixl_len _ _
  have e2_L10 : (enR 4) x5 = .agg [.arr .i64 4 L10] := by rw [e_L10]; rfl
  rw [e2_L10]
  refine RG ?_
  refine SG 2 { σ := [(2,lO 2),(4,lS none ([] : List (List Int)) 0),(5,lO 5),(6,.lf (.v (.func (.func 118) #[] (List.toArray lbu1))))],H := [(2,[.one (.vec 9000)]),(5,[.arr .i64 4 L10])],V := [(9000,⟨73,4,List.length R3,rowsC .i64 R3⟩)],M := M7,ds := [],os := O8,ats := tiesOf [2] bs } ?_
  refine E0 ?_
  refine ⟨rfl,rfl,rfl,fun O9 => ?_⟩
  refine BK 1 (RG ?_)
  refine SG 2 { σ := [(2,lO 2),(4,lS none ([] : List (List Int)) 0),(6,.lf (.v (.func (.func 118) #[] (List.toArray lbu1)))),(8,lV 9000),(9,.agg [.arr .i64 4 L10])],H := [(2,[.one (.vec 9000)])],V := [(9000,⟨73,4,List.length R3,rowsC .i64 R3⟩)],M := M7,ds := [],os := O9,ats := tiesOf [2] bs } ?_
  refine TI_of (i:=2) (by kernel_rfl) (TE_litC (d:=10) (e:=73) (sz:=4) (len:=1) (cs:=rowsC .i64 ([L10])) (by kernel_rfl) (by kernel_rfl) (by kernel_rfl) ?_)
  obtain ⟨g11,h⟩ := gd_some h
  obtain ⟨W12,e_W12,h⟩ := lt_some h
  have r_W12 : ∀ r ∈ W12,r.length = 4 := by rw [e_W12]; exact rows_app r_R3 (rows_cons l_L10 rows_nil)
  refine TI_of (i:=3) (by kernel_rfl) (TE_appC (d:=11) (e:=73) (sz:=4) (bytes:=32) (n:=9000) (x:=(.tmp 10)) (len:=List.length R3) (cs0:=rowsC .i64 R3) (cs2:=rowsC .i64 W12) (by subst e_W12;kernel_rfl) (by kernel_rfl) (by subst e_W12;kernel_rfl) (vecR_src (n:=10) (e:=73) (k:=.i64) (m:=4) (R:=[L10]) (by subst e_W12;kernel_rfl) (by subst e_W12;kernel_rfl) (rows_cons l_L10 rows_nil)) g11 rfl (len_app_eq e_W12) (rowsC_app_eq e_W12) ?_)
  refine SG 5 { σ := [(2,lO 2),(4,lS none ([] : List (List Int)) 0),(6,.lf (.v (.func (.func 118) #[] (List.toArray lbu1))))],H := [(2,[.one (.vec 11)])],V := [(11,⟨73,4,List.length W12,rowsC .i64 W12⟩)],M := M7,ds := [],os := O9,ats := tiesOf [2] bs } ?_
  refine E0 (blockQ_n ?_)
  refine ⟨_,Sub.trans (ren_sub 11 9000 (s':={ σ := [],H := [(2,[.one (.vec 9000)])],V := [(9000,⟨73,4,List.length W12,rowsC .i64 W12⟩)],M := M7,ds := [],os := O9,ats := tiesOf [2] bs }) (by kernel_rfl) (by kernel_rfl)) (keep_sub (s':={ σ := [],H := [(2,[.one (.vec 11)])],V := [(11,⟨73,4,List.length W12,rowsC .i64 W12⟩)],M := M7,ds := [],os := O9,ats := tiesOf [2] bs }) (ts:=[]) (hs:=[2]) (vs:=[11]) (by kernel_rfl)),rfl,rfl,(Mem.le_refl _),?_⟩
  show (fun (pre : List (List Int)) (H : List (Nat × List Sg)) (V : List (Nat × Vc)) (M' : Mem) => ∃ (R3 : List (List Int)) (rest : List (List Int)),pre ++ rest = u1 ∧ H = [(2,[.one (.vec 9000)])] ∧ V = [(9000,⟨73,4,List.length R3,rowsC .i64 R3⟩)] ∧ Mem.le M M' ∧ (∀ r ∈ R3,r.length = 4) ∧ p70_r1 k j6 rest R3 = some r) (pr ++ [x5]) _ _ _
  exact ⟨W12,rest4,by rw [List.append_assoc]; exact hks,rfl,rfl,(Mem.le_trans (Mem.le_refl _) hM7),r_W12,h⟩
 ·rintro D H V M7 ⟨R3,rest0,hks,rfl,rfl,hM7,r_R3,h⟩
  have hre : rest0 = [] := by have := congrArg List.length hks;simp at this;exact this
  subst hre
  rw [p70_r1] at h
  subst e_j6
  refine blockQ_n (thenQ_n (SQ (RG ?_)))
  refine SG 2 { σ := [(4,lV 9000)],H := [],V := [(9000,⟨73,4,List.length R3,rowsC .i64 R3⟩)],M := M7,ds := [D] } ?_
  refine EN (RT ?_)
  obtain rfl := sj h
  refine finV (⟨73,4,List.length R3,rowsC .i64 R3⟩) (by kernel_rfl) (by kernel_rfl) (by simp) ⟨rfl,r_R3⟩
 ·intro D c H V M' hI
  exact hI.elim
end Go.Proofs.Ythniebmammmacaa
namespace Go.Proofs.Ythniebmammmacaa
open Go.RowKit
def p26_l1 (k : Nat) (u2 : List Int) (u3 : List Int) (j37 : List (List Int) → Option (List (List Int) × Int)) (v7 : Int) (v8 : List (List Int)) (v9 : List WT) (v10 : List Int) : Nat → Int → List (List Int) → Option (List (List Int) × Int)
 | 0,_,_ => none
 | n41 + 1,x38,R39 => lt' (decide (x38 < (u3.length : Int))) fun b42 => sp b42 (gd ((0 : Int) ≤ x38 ∧ x38 < (u3.length : Int)) <| lt' (List.getD u3 ((x38).toNat) 0) fun x44 => cl (p53 k u2) fun v45 => cl (p71 k v7 v8 v9 v10 v45 x44) fun v46 => cl (p70 k R39 v46) fun v49 => lt' (wr .i64 (x38 + (1 : Int))) fun x51 => p26_l1 k u2 u3 j37 v7 v8 v9 v10 n41 x51 v49) (j37 R39)
def p26 (k : Nat) (u0_0 : Int) (u0_1 : List (List Int)) (u0_2 : List WT) (u1 : List Int) (u2 : List Int) (u3 : List Int) : Option (List (List Int) × Int) :=
 cl5 (p68 k u0_0 u0_1 u0_2 u1) fun v7 v8 v9 v10 v11 => gd ((v10).length = 6) <| lt' (v11 != (0 : Int)) fun b22 => sp b22 (some (([] : List (List Int)),v11)) (cl (p69 k u2 (u0_2.length : Int)) fun v27 => sp v27 (cl (p66 k u0_0 u0_1 u0_2 u3) fun v28 => lt' (v28 != (0 : Int)) fun b29 => sp b29 (some (([] : List (List Int)),v28)) (jn (fun (R35 : List (List Int)) => some (R35,(0 : Int))) fun j37 => p26_l1 k u2 u3 j37 v7 v8 v9 v10 k (0 : Int) ([] : List (List Int)))) (some (([] : List (List Int)),(3 : Int))))
theorem hf26 : Try.prog.funcs[26]? = some Try.f26 := by kernel_rfl
theorem w26 (k : Nat) {M : Mem} {Au0_1 Au0_2 Au2 Au3 : Option Addr} {cu0_1 cu0_2 cu2 cu3 : Nat} {Hu0_2 : Nat → Option Addr} {Cu0_2 : Nat → Nat} {u0_0 : Int} {u0_1 : List (List Int)} {u0_2 : List WT} {u1 u2 u3 : List Int} (hu0_1 : SlR M Au0_1 cu0_1 .i64 12 u0_1) (hu0_2 : SlW M 3 Au0_2 cu0_2 Hu0_2 Cu0_2 u0_2) (hu1 : u1.length = 6) (hu2 : SlI M Au2 cu2 .i64 u2) (hu3 : SlI M Au3 cu3 .i64 u3) {r} (h : p26 k u0_0 u0_1 u0_2 u1 u2 u3 = some r) :
  Fn Try.prog 26 [rval (.agg [oI u0_0,oS Au0_1 u0_1 cu0_1,oS Au0_2 u0_2 cu0_2]),rval (.agg [.arr .i64 6 u1]),rval (lS Au2 u2 cu2),rval (lS Au3 u3 cu3)] M (fun x M' => ∃ (A1 : Option Addr) (c2 : Nat),x = .tup [(some (.v (.slice A1 (List.length r.1) c2)),[]),(some (.v (.int .i64 r.2)),[])] ∧ SlR M' A1 c2 .i64 4 r.1) := by
 unfold p26 at h
 refine FO [.agg [oI u0_0,oS Au0_1 u0_1 cu0_1,oS Au0_2 u0_2 cu0_2],.agg [.arr .i64 6 u1],lS Au2 u2 cu2,lS Au3 u3 cu3] hf26 ⟨⟨rfl,⟨rfl,⟨rfl,trivial⟩⟩⟩,⟨⟨hu1,trivial⟩,⟨trivial,⟨trivial,trivial⟩⟩⟩⟩ fun w => ?_
 refine SQ0 (RG ?_)
 refine SG 4 (S4 [(2,lS Au2 u2 cu2),(3,lS Au3 u3 cu3),(4,lO 4),(5,lO 5)] [(4,[oI u0_0,oS Au0_1 u0_1 cu0_1,oS Au0_2 u0_2 cu0_2]),(5,[.arr .i64 6 u1])] [] M) ?_
 refine EN ?_
 refine T_turn (turn_pubH 4 (c:=[oI u0_0,oS Au0_1 u0_1 cu0_1,oS Au0_2 u0_2 cu0_2]) (by kernel_rfl) (by kernel_rfl)) ?_
 rintro _ ⟨b3,M4,rfl,-,e_M4,-,hM4⟩
 have fb3 : MB M4 b3 [oI u0_0,oS Au0_1 u0_1 cu0_1,oS Au0_2 u0_2 cu0_2] := by rw [e_M4]; exact addM_at _ _ _
 refine KG (S4 [(2,lS Au2 u2 cu2),(3,lS Au3 u3 cu3),(4,lP b3),(5,lO 5)] [(5,[.arr .i64 6 u1])] [] M4) ?_
 refine T_turn (turn_pubH 5 (c:=[.arr .i64 6 u1]) (by kernel_rfl) (by kernel_rfl)) ?_
 rintro _ ⟨b5,M6,rfl,-,e_M6,-,hM6⟩
 have fb5 : MB M6 b5 [.arr .i64 6 u1] := by rw [e_M6]; exact addM_at _ _ _
 refine KG (S4 [(2,lS Au2 u2 cu2),(3,lS Au3 u3 cu3),(4,lP b3),(5,lP b5)] [] [] M6) ?_
 refine SQ (RG ?_)
 refine AT 17 (.agg [oI u0_0,oS Au0_1 u0_1 cu0_1,oS Au0_2 u0_2 cu0_2]) (At_ldPR (b:=b3) (off:=0) (m:=3) (c:=[oI u0_0,oS Au0_1 u0_1 cu0_1,oS Au0_2 u0_2 cu0_2]) (by kernel_rfl) (by kernel_rfl) (sgCells_length ⟨rfl,⟨rfl,⟨rfl,trivial⟩⟩⟩) (cells_blk (m:=3) (hM6 _ _ fb3) ⟨rfl,⟨rfl,⟨rfl,trivial⟩⟩⟩ (by kernel_rfl) rfl)) ?_ (hx:=⟨rfl,⟨rfl,⟨rfl,trivial⟩⟩⟩)
 refine AT 18 (.agg [.arr .i64 6 u1]) (At_ldPR (b:=b5) (off:=0) (m:=6) (c:=[.arr .i64 6 u1]) (by kernel_rfl) (by kernel_rfl) (sgCells_length ⟨hu1,trivial⟩) (cells_blk (m:=6) fb5 ⟨hu1,trivial⟩ (by kernel_rfl) rfl)) ?_ (hx:=⟨hu1,trivial⟩)
 obtain ⟨v7,v8,v9,v10,v11,c_v7,h⟩ := cl5_some h
 obtain ⟨g18,h⟩ := gd_some h
 refine TI_of (i:=2) (by kernel_rfl) (TE_callR (d:=19) (f:=68) (args:=[rval (.agg [oI u0_0,oS Au0_1 u0_1 cu0_1,oS Au0_2 u0_2 cu0_2]),rval (.agg [.arr .i64 6 u1])]) (by kernel_rfl) (by kernel_rfl) (w68 k ((hu0_1.le hM4).le hM6) ((hu0_2.le hM4).le hM6) hu1 c_v7) ?_)
 rintro _ M19 _ hM19 _ ⟨A12,c13,A14,c15,H16,C17,rfl,fA12,fA14⟩
 refine SG 9 (S4 [(2,lS Au2 u2 cu2),(3,lS Au3 u3 cu3),(4,lP b3),(10,lO 10),(11,vi v11)] [(10,[oI v7,oS A12 v8 c13,oS A14 v9 c15,.arr .i64 6 v10])] [] M19) ?_
 refine EN ?_
 refine T_turn (turn_pubH 10 (c:=[oI v7,oS A12 v8 c13,oS A14 v9 c15,.arr .i64 6 v10]) (by kernel_rfl) (by kernel_rfl)) ?_
 rintro _ ⟨b20,M21,rfl,-,e_M21,-,hM21⟩
 have fb20 : MB M21 b20 [oI v7,oS A12 v8 c13,oS A14 v9 c15,.arr .i64 6 v10] := by rw [e_M21]; exact addM_at _ _ _
 refine KG (S4 [(2,lS Au2 u2 cu2),(3,lS Au3 u3 cu3),(4,lP b3),(10,lP b20),(11,vi v11)] [] [] M21) ?_
 refine SQ (SQ (RG ?_))
 obtain ⟨b22,e_b22,h⟩ := lt_some h
 refine SS 2 [(2,lS Au2 u2 cu2),(3,lS Au3 u3 cu3),(4,lP b3),(10,lP b20),(11,vi v11),(23,vb b22)] ?_ (by subst e_b22;kernel_rfl)
 refine EN ?_
 cases b22 with
 | true =>
  replace h := sp_t h
  refine CT ?_
  refine KS [(11,vi v11)] ?_
  refine SQ (RG ?_)
  refine SS 3 [(8,lS none ([] : List (List Int)) 0),(9,vi v11)] ?_
  refine EN ?_
  refine T_turn (turn_nil 5023 73 4 [(8,lV 5023),(9,vi v11)] [] (by kernel_rfl) (by kernel_rfl) (by kernel_rfl)) ?_
  rintro _ rfl
  refine KG (S4 [(8,lV 5023),(9,vi v11)] [] [(5023,⟨73,4,List.length ([] : List (List Int)),rowsC .i64 ([] : List (List Int))⟩)] M21) ?_
  refine T_turn (turn_pubV 5023 (v:=⟨73,4,List.length ([] : List (List Int)),rowsC .i64 ([] : List (List Int))⟩) (by kernel_rfl)) ?_
  rintro _ ⟨A24,c25,M26,rfl,hSA24,hcA24,-,hNA24,hM26⟩
  have fA24 : SlR M26 A24 c25 .i64 4 ([] : List (List Int)) := ⟨rows_nil,hSA24,hcA24⟩
  refine KG (S4 [(8,lS A24 ([] : List (List Int)) c25),(9,vi v11)] [] [] M26) ?_
  refine RT (thenQ_r ?_)
  obtain rfl := sj h
  refine FT (.tup [(some (.v (.slice A24 (List.length ([] : List (List Int))) c25)),[]),(some (.v (.int .i64 v11)),[])]) ?_
  exact ⟨A24,c25,rfl,fA24⟩
 | false =>
  replace h := sp_f h
  refine CF ?_
  refine KS [(2,lS Au2 u2 cu2),(3,lS Au3 u3 cu3),(4,lP b3),(10,lP b20)] ?_
  refine SN (SQ (SQ (RG ?_)))
  refine SS 2 [(2,lS Au2 u2 cu2),(3,lS Au3 u3 cu3),(4,lP b3),(10,lP b20),(25,lS Au2 u2 cu2),(26,.lf (.v (.pointer (some ⟨b3,2,none⟩))))] ?_
  refine AT 27 (lS Au0_2 u0_2 cu0_2) (At_ldP (b:=b3) (off:=2) (m:=1) (v:=(.slice Au0_2 (u0_2.length) cu0_2)) (by kernel_rfl) (cell_blk (hM21 _ _ (hM19 _ _ (hM6 _ _ fb3))) ⟨rfl,⟨rfl,⟨rfl,trivial⟩⟩⟩ (by kernel_rfl))) ?_
  refine SH 4 [(2,lS Au2 u2 cu2),(3,lS Au3 u3 cu3),(4,lP b3),(10,lP b20),(25,lS Au2 u2 cu2),(28,vi (u0_2.length : Int))] [] ?_
  obtain ⟨v27,c_v27,h⟩ := cl_some h
  refine AC 29 (vb v27) (w69 k ((((hu2.le hM4).le hM6).le hM19).le hM21) c_v27) ?_
  refine SH 6 [(2,lS Au2 u2 cu2),(3,lS Au3 u3 cu3),(4,lP b3),(10,lP b20),(30,vb (!v27))] [] ?_
  refine EN ?_
  cases v27 with
  | true =>
   replace h := sp_t h
   refine CF ?_
   refine KS [(2,lS Au2 u2 cu2),(3,lS Au3 u3 cu3),(4,lP b3),(10,lP b20)] ?_
   refine SN (SQ (SQ (RG ?_)))
   refine AT 31 (.agg [oI u0_0,oS Au0_1 u0_1 cu0_1,oS Au0_2 u0_2 cu0_2]) (At_ldPR (b:=b3) (off:=0) (m:=3) (c:=[oI u0_0,oS Au0_1 u0_1 cu0_1,oS Au0_2 u0_2 cu0_2]) (by kernel_rfl) (by kernel_rfl) (sgCells_length ⟨rfl,⟨rfl,⟨rfl,trivial⟩⟩⟩) (cells_blk (m:=3) (hM21 _ _ (hM19 _ _ (hM6 _ _ fb3))) ⟨rfl,⟨rfl,⟨rfl,trivial⟩⟩⟩ (by kernel_rfl) rfl)) ?_ (hx:=⟨rfl,⟨rfl,⟨rfl,trivial⟩⟩⟩)
   refine SH 2 [(2,lS Au2 u2 cu2),(3,lS Au3 u3 cu3),(10,lP b20),(31,.agg [oI u0_0,oS Au0_1 u0_1 cu0_1,oS Au0_2 u0_2 cu0_2]),(32,lS Au3 u3 cu3)] [] ?_
   obtain ⟨v28,c_v28,h⟩ := cl_some h
   refine AC 33 (vi v28) (w66 k ((((hu0_1.le hM4).le hM6).le hM19).le hM21) ((((hu0_2.le hM4).le hM6).le hM19).le hM21) ((((hu3.le hM4).le hM6).le hM19).le hM21) c_v28) ?_
   refine SH 4 [(2,lS Au2 u2 cu2),(3,lS Au3 u3 cu3),(10,lP b20),(12,vi v28)] [] ?_
   refine EN (SQ (RG ?_))
   obtain ⟨b29,e_b29,h⟩ := lt_some h
   refine SS 2 [(2,lS Au2 u2 cu2),(3,lS Au3 u3 cu3),(10,lP b20),(12,vi v28),(35,vb b29)] ?_ (by subst e_b29;kernel_rfl)
   refine EN ?_
   cases b29 with
   | true =>
    replace h := sp_t h
    refine CT ?_
    refine KS [(12,vi v28)] ?_
    refine SQ (RG ?_)
    refine SS 3 [(8,lS none ([] : List (List Int)) 0),(9,vi v28)] ?_
    refine EN ?_
    refine T_turn (turn_nil 5030 73 4 [(8,lV 5030),(9,vi v28)] [] (by kernel_rfl) (by kernel_rfl) (by kernel_rfl)) ?_
    rintro _ rfl
    refine KG (S4 [(8,lV 5030),(9,vi v28)] [] [(5030,⟨73,4,List.length ([] : List (List Int)),rowsC .i64 ([] : List (List Int))⟩)] M21) ?_
    refine T_turn (turn_pubV 5030 (v:=⟨73,4,List.length ([] : List (List Int)),rowsC .i64 ([] : List (List Int))⟩) (by kernel_rfl)) ?_
    rintro _ ⟨A31,c32,M33,rfl,hSA31,hcA31,-,hNA31,hM33⟩
    have fA31 : SlR M33 A31 c32 .i64 4 ([] : List (List Int)) := ⟨rows_nil,hSA31,hcA31⟩
    refine KG (S4 [(8,lS A31 ([] : List (List Int)) c32),(9,vi v28)] [] [] M33) ?_
    refine RT (thenQ_r ?_)
    obtain rfl := sj h
    refine FT (.tup [(some (.v (.slice A31 (List.length ([] : List (List Int))) c32)),[]),(some (.v (.int .i64 v28)),[])]) ?_
    exact ⟨A31,c32,rfl,fA31⟩
   | false =>
    replace h := sp_f h
    refine CF ?_
    refine KS [(2,lS Au2 u2 cu2),(3,lS Au3 u3 cu3),(10,lP b20)] ?_
    refine SN (SQ (RG ?_))
    refine SS 1 [(2,lS Au2 u2 cu2),(3,lS Au3 u3 cu3),(10,lP b20),(13,lS none ([] : List (List Int)) 0)] ?_
    refine EN ?_
    refine T_turn (turn_nil 5034 73 4 [(2,lS Au2 u2 cu2),(3,lS Au3 u3 cu3),(10,lP b20),(13,lV 5034)] [] (by kernel_rfl) (by kernel_rfl) (by kernel_rfl)) ?_
    rintro _ rfl
    refine KG (S4 [(2,lS Au2 u2 cu2),(3,lS Au3 u3 cu3),(10,lP b20),(13,lV 5034)] [] [(5034,⟨73,4,List.length ([] : List (List Int)),rowsC .i64 ([] : List (List Int))⟩)] M21) ?_
    refine SQ (SQ (RG ?_))
    refine SS 3 [(2,lS Au2 u2 cu2),(10,lP b20),(13,lV 5034),(37,lS Au3 u3 cu3),(38,vi (u3.length : Int)),(39,vi (0 : Int))] ?_
    refine EN ?_
    obtain ⟨j37,e_j37,h⟩ := jn_some h
    refine T_bcut (id:=0) (c1:=(sub [1,1,1,1,1,1,0,1,0] Bd26)) (fun s' => ∃ (R35 : List (List Int)) (M36 : Mem),Sub { σ := [(13,lV 5034)],H := [],V := [(5034,⟨73,4,List.length R35,rowsC .i64 R35⟩)],M := M36,ds := [] } s' ∧ Mem.le M21 M36 ∧ (∀ r ∈ R35,r.length = 4) ∧ j37 R35 = some r) (by kernel_rfl) ?_ ?_
    ·refine T_loop (c1:=(sub [1,1,1,1,1,1,0,1,0,0] Bd26)) (by kernel_rfl) (fun n41 s' => ∃ (x38 : Int) (R39 : List (List Int)) (M40 : Mem),Sub { σ := [(2,lS Au2 u2 cu2),(10,lP b20),(13,lV 5034),(37,lS Au3 u3 cu3),(38,vi (u3.length : Int)),(39,vi x38)],H := [],V := [(5034,⟨73,4,List.length R39,rowsC .i64 R39⟩)],M := M40,ds := [] } s' ∧ Mem.le M21 M40 ∧ (∀ r ∈ R39,r.length = 4) ∧ p26_l1 k u2 u3 j37 v7 v8 v9 v10 n41 x38 R39 = some r) (k:=k) ⟨(0 : Int),([] : List (List Int)),M21,keep_sub (ts:=[2,10,13,37,38,39]) (hs:=[]) (vs:=[5034]) (by kernel_rfl),(Mem.le_refl _),rows_nil,h⟩ ?_
     rintro n41 s' ⟨x38,R39,M40,hsub,hM40,r_R39,h⟩
     cases n41 with
     | zero => rw [p26_l1] at h;cases h
     | succ n41 =>
      rw [p26_l1] at h
      refine T_sub hsub ?_
      refine SQ (RG ?_)
      obtain ⟨b42,e_b42,h⟩ := lt_some h
      refine SG 1 (S4 [(2,lS Au2 u2 cu2),(10,lP b20),(13,lV 5034),(37,lS Au3 u3 cu3),(38,vi (u3.length : Int)),(39,vi x38),(40,vb b42)] [] [(5034,⟨73,4,List.length R39,rowsC .i64 R39⟩)] M40) ?_ (by subst e_b42;kernel_rfl)
      refine EN (SQ ?_)
      cases b42 with
      | true =>
       replace h := sp_t h
       refine CT ?_
       refine KS [(2,lS Au2 u2 cu2),(10,lP b20),(13,lV 5034),(37,lS Au3 u3 cu3),(38,vi (u3.length : Int)),(39,vi x38)] ?_
       refine SN (SQ (BK 1 (SQ (RG ?_))))
       obtain ⟨g43,h⟩ := gd_some h
       refine AT 41 (.lf (.ep (.slice Au3 (u3.length) cu3) 1 ((x38).toNat) 0)) (At_idxI (z:=x38) (by kernel_rfl) g43 (((((hu3.le hM4).le hM6).le hM19).le hM21).le hM40)) ?_
       obtain ⟨x44,e_x44,h⟩ := lt_some h
       refine AT 42 (vi x44) (by rw [e_x44]; exact At_ldI (q:=(x38).toNat) (by subst e_x44; kernel_rfl) (toNat_lt g43) (((((hu3.le hM4).le hM6).le hM19).le hM21).le hM40)) ?_
       refine SH 3 [(2,lS Au2 u2 cu2),(10,lP b20),(13,lV 5034),(15,vi x44),(37,lS Au3 u3 cu3),(38,vi (u3.length : Int)),(39,vi x38)] [] ?_
       refine EN ?_
       obtain ⟨v45,c_v45,h⟩ := cl_some h
       obtain ⟨v46,c_v46,h⟩ := cl_some h
       obtain ⟨v49,c_v49,h⟩ := cl_some h
       refine T_draw' (id:=13) [5,6,7] [0,0,0,0,0,0,0,0] (by kernel_rfl) (by kernel_rfl) (by kernel_rfl) (by kernel_rfl) [(43,lV 5034),(44,.agg [oI v7,oS A12 v8 c13,oS A14 v9 c15,.arr .i64 6 v10]),(45,lS Au2 u2 cu2),(46,.lf (.v (.int .u64 v45))),(47,vi x44)] (by kernel_rfl) ⟨trivial,⟨⟨rfl,⟨rfl,⟨rfl,⟨g18,trivial⟩⟩⟩⟩,⟨trivial,⟨trivial,⟨trivial,trivial⟩⟩⟩⟩⟩ ?_
       refine Stage_te (stage_all' [0,2,4] [1,3] (by kernel_rfl) (by kernel_rfl) (by kernel_rfl) ⟨QF_at (i:=1) (d:=44) (x:=.agg [oI v7,oS A12 v8 c13,oS A14 v9 c15,.arr .i64 6 v10]) (show OpAt _ _ _ 1 44 _ from by exact At_ldPR (d:=44) (b:=b20) (off:=0) (m:=9) (c:=[oI v7,oS A12 v8 c13,oS A14 v9 c15,.arr .i64 6 v10]) (by kernel_rfl) (by kernel_rfl) (sgCells_length ⟨rfl,⟨rfl,⟨rfl,⟨g18,trivial⟩⟩⟩⟩) (cells_blk (m:=9) (hM40 _ _ fb20) ⟨rfl,⟨rfl,⟨rfl,⟨g18,trivial⟩⟩⟩⟩ (by kernel_rfl) rfl)) (by kernel_rfl) (by kernel_rfl),⟨QF_at (i:=3) (d:=46) (x:=.lf (.v (.int .u64 v45))) (show OpAt _ _ _ 3 46 _ from by exact At_call (d:=46) (f:=53) (args:=[rval (lS Au2 u2 cu2)]) (x:=.lf (.v (.int .u64 v45))) (by kernel_rfl) (w53 k (((((hu2.le hM4).le hM6).le hM19).le hM21).le hM40) c_v45)) (by kernel_rfl) (by kernel_rfl),trivial⟩⟩) (TE_callR (d:=48) (f:=71) (args:=[rval (.agg [oI v7,oS A12 v8 c13,oS A14 v9 c15,.arr .i64 6 v10]),rval (.lf (.v (.int .u64 v45))),rval (vi x44)]) (by kernel_rfl) (by kernel_rfl) (w71 k ((fA12.le hM21).le hM40) ((fA14.le hM21).le hM40) g18 c_v46) ?_) 
       rintro _ M48 _ hM48 _ ⟨lb47,rfl,flb47⟩
       refine TL_nil (stageQ_of [] (by kernel_rfl) trivial ?_)
       refine Stage_te (stage_all' [0] [] (by kernel_rfl) (by kernel_rfl) (by kernel_rfl) trivial) (TE_callV (d:=49) (f:=70) (n:=5034) (argsN:=[lV 5034,.lf (.v (.func (.func 118) #[] (List.toArray lb47)))]) 9000 (by kernel_rfl) (fun _ _ => rfl) (by kernel_rfl) (by kernel_rfl) rfl (w70 k r_R39 flb47 c_v49) ?_) 
       rintro _ M50 hM50 ⟨rfl,r_v49⟩
       refine TL_nil (stageQ_of [] (by kernel_rfl) trivial ?_)
       refine Stage_ex (stage_all' [] [] (by kernel_rfl) (by kernel_rfl) (by kernel_rfl) trivial) ({ σ := [(13,lV 9000),(49,lV 9000),(48,.lf (.v (.func (.func 118) #[] (List.toArray lb47)))),(44,.agg [oI v7,oS A12 v8 c13,oS A14 v9 c15,.arr .i64 6 v10]),(45,lS Au2 u2 cu2),(46,.lf (.v (.int .u64 v45))),(47,vi x44),(2,lS Au2 u2 cu2),(10,lP b20),(15,vi x44),(37,lS Au3 u3 cu3),(38,vi (u3.length : Int)),(39,vi x38)],H := [],V := [(9000,⟨73,4,List.length v49,rowsC .i64 v49⟩)],M := M50,ds := [] }) (by kernel_rfl) [] (by kernel_rfl) trivial ?_
       refine Stage_nil (stage_all' [] [] (by kernel_rfl) (by kernel_rfl) (by kernel_rfl) trivial) ?_
       refine blockQ_n (thenQ_n ?_)
       refine KG (S4 [(2,lS Au2 u2 cu2),(10,lP b20),(13,lV 9000),(37,lS Au3 u3 cu3),(38,vi (u3.length : Int)),(39,vi x38)] [] [(9000,⟨73,4,List.length v49,rowsC .i64 v49⟩)] M50) ?_
       refine RG ?_
       obtain ⟨x51,e_x51,h⟩ := lt_some h
       refine SS 2 [(2,lS Au2 u2 cu2),(10,lP b20),(13,lV 9000),(37,lS Au3 u3 cu3),(38,vi (u3.length : Int)),(39,vi x51)] ?_ (by subst e_x51;kernel_rfl)
       refine EN ?_
       exact ⟨n41,Nat.lt_succ_self _,x51,v49,M50,Sub.trans (keep_sub (ts:=[2,10,13,37,38,39]) (hs:=[]) (vs:=[5034]) (by kernel_rfl)) (Sub.trans (ren_sub 9000 5034 (s':={ σ := [(2,lS Au2 u2 cu2),(10,lP b20),(13,lV 5034),(37,lS Au3 u3 cu3),(38,vi (u3.length : Int)),(39,vi x51)],H := [],V := [(5034,⟨73,4,List.length v49,rowsC .i64 v49⟩)],M := M50,ds := [] }) (by kernel_rfl) (by kernel_rfl)) (keep_sub (s':={ σ := [(2,lS Au2 u2 cu2),(10,lP b20),(13,lV 9000),(37,lS Au3 u3 cu3),(38,vi (u3.length : Int)),(39,vi x51)],H := [],V := [(9000,⟨73,4,List.length v49,rowsC .i64 v49⟩)],M := M50,ds := [] }) (ts:=[2,10,13,37,38,39]) (hs:=[]) (vs:=[9000]) (by kernel_rfl))),(Mem.le_trans (Mem.le_trans (Mem.le_trans (Mem.le_refl _) hM40) hM48) hM50),r_v49,h⟩
      | false =>
       replace h := sp_f h
       refine CF ?_
       refine KS [(13,lV 5034)] ?_
       refine XI 0 (thenQ_x (thenQ_x (blockQ_x (thenQ_n ?_))))
       exact ⟨R39,M40,keep_sub (ts:=[13]) (hs:=[]) (vs:=[5034]) (by kernel_rfl),(Mem.le_trans (Mem.le_refl _) hM40),r_R39,h⟩
    ·rintro s' ⟨R35,M36,hsub,hM36,r_R35,h⟩
     subst e_j37
     refine thenQ_n ?_
     refine T_sub hsub ?_
     refine SQ (RG ?_)
     refine SG 3 (S4 [(8,lV 5034),(9,vi (0 : Int))] [] [(5034,⟨73,4,List.length R35,rowsC .i64 R35⟩)] M36) ?_
     refine EN ?_
     refine T_turn (turn_pubV 5034 (v:=⟨73,4,List.length R35,rowsC .i64 R35⟩) (by kernel_rfl)) ?_
     rintro _ ⟨A52,c53,M54,rfl,hSA52,hcA52,-,hNA52,hM54⟩
     have fA52 : SlR M54 A52 c53 .i64 4 R35 := ⟨r_R35,hSA52,hcA52⟩
     refine KG (S4 [(8,lS A52 R35 c53),(9,vi (0 : Int))] [] [] M54) ?_
     refine RT ?_
     obtain rfl := sj h
     refine FT (.tup [(some (.v (.slice A52 (R35.length) c53)),[]),(some (.v (.int .i64 (0 : Int))),[])]) ?_
     exact ⟨A52,c53,rfl,fA52⟩
  | false =>
   replace h := sp_f h
   refine CT ?_
   refine KS [] ?_
   refine SQ (RG ?_)
   refine SS 2 [(8,lS none ([] : List (List Int)) 0),(9,vi (3 : Int))] ?_
   refine EN ?_
   refine T_turn (turn_nil 5055 73 4 [(8,lV 5055),(9,vi (3 : Int))] [] (by kernel_rfl) (by kernel_rfl) (by kernel_rfl)) ?_
   rintro _ rfl
   refine KG (S4 [(8,lV 5055),(9,vi (3 : Int))] [] [(5055,⟨73,4,List.length ([] : List (List Int)),rowsC .i64 ([] : List (List Int))⟩)] M21) ?_
   refine T_turn (turn_pubV 5055 (v:=⟨73,4,List.length ([] : List (List Int)),rowsC .i64 ([] : List (List Int))⟩) (by kernel_rfl)) ?_
   rintro _ ⟨A56,c57,M58,rfl,hSA56,hcA56,-,hNA56,hM58⟩
   have fA56 : SlR M58 A56 c57 .i64 4 ([] : List (List Int)) := ⟨rows_nil,hSA56,hcA56⟩
   refine KG (S4 [(8,lS A56 ([] : List (List Int)) c57),(9,vi (3 : Int))] [] [] M58) ?_
   refine RT (thenQ_r ?_)
   obtain rfl := sj h
   refine FT (.tup [(some (.v (.slice A56 (List.length ([] : List (List Int))) c57)),[]),(some (.v (.int .i64 (3 : Int))),[])]) ?_
   exact ⟨A56,c57,rfl,fA56⟩
end Go.Proofs.Ythniebmammmacaa
namespace Go.Proofs.Ythniebmammmacaa
open Go.RowKit
def p34_l1 (k : Nat) (u0_0 : Int) (u0_1 : List (List Int)) (u0_2 : List WT) (u1 : List Int) (u2 : List Int) (u3 : List Int) (j11 : Option Bool) : Nat → Int → Option Bool
 | 0,_ => none
 | n14 + 1,x12 => lt' (decide (x12 < (u2.length : Int))) fun b15 => sp b15 (gd ((0 : Int) ≤ (0 : Int) ∧ (0 : Int) ≤ x12 ∧ 0 ≤ (x12).toNat ∧ (x12).toNat ≤ List.length u2) <| lt' (part u2 0 ((x12).toNat)) fun P17 => gd ((List.length ([] : List Int) + List.length P17) * 8 ≤ 140737488355328) <| lt' (([] : List Int) ++ P17) fun W19 => lt' (wr .i64 (x12 + (1 : Int))) fun x20 => gd ((0 : Int) ≤ x20 ∧ (0 : Int) ≤ (0 : Int) ∧ (x20).toNat ≤ List.length u2 ∧ List.length u2 ≤ List.length u2) <| lt' (part u2 ((x20).toNat) (u2.length)) fun P22 => gd ((W19.length + List.length P22) * 8 ≤ 140737488355328) <| lt' (W19 ++ P22) fun W24 => cl2 (p26 k u0_0 u0_1 u0_2 u1 W24 u3) fun v28 v29 => jn (fun (b33 : Bool) => sp b33 (some false) (lt' (wr .i64 (x12 + (1 : Int))) fun x37 => p34_l1 k u0_0 u0_1 u0_2 u1 u2 u3 j11 n14 x37)) fun j34 => lt' (v29 != (0 : Int)) fun b35 => sp b35 (j34 true) (lt' ((v28.length : Int) == (0 : Int)) fun b36 => j34 b36)) (j11)
def p34 (k : Nat) (u0_0 : Int) (u0_1 : List (List Int)) (u0_2 : List WT) (u1 : List Int) (u2 : List Int) (u3 : List Int) : Option Bool :=
 cl2 (p26 k u0_0 u0_1 u0_2 u1 u2 u3) fun v1 v2 => jn (fun (b6 : Bool) => sp b6 (some false) (jn (some true) fun j11 => p34_l1 k u0_0 u0_1 u0_2 u1 u2 u3 j11 k (0 : Int))) fun j7 => lt' (v2 != (0 : Int)) fun b8 => sp b8 (j7 true) (lt' ((v1.length : Int) != (0 : Int)) fun b9 => j7 b9)
theorem hf34 : Try.prog.funcs[34]? = some Try.f34 := by kernel_rfl
theorem w34 (k : Nat) {M : Mem} {Au0_1 Au0_2 Au2 Au3 : Option Addr} {cu0_1 cu0_2 cu2 cu3 : Nat} {Hu0_2 : Nat → Option Addr} {Cu0_2 : Nat → Nat} {u0_0 : Int} {u0_1 : List (List Int)} {u0_2 : List WT} {u1 u2 u3 : List Int} (hu0_1 : SlR M Au0_1 cu0_1 .i64 12 u0_1) (hu0_2 : SlW M 3 Au0_2 cu0_2 Hu0_2 Cu0_2 u0_2) (hu1 : u1.length = 6) (hu2 : SlI M Au2 cu2 .i64 u2) (hu3 : SlI M Au3 cu3 .i64 u3) {r} (h : p34 k u0_0 u0_1 u0_2 u1 u2 u3 = some r) :
  Fn Try.prog 34 [rval (.agg [oI u0_0,oS Au0_1 u0_1 cu0_1,oS Au0_2 u0_2 cu0_2]),rval (.agg [.arr .i64 6 u1]),rval (lS Au2 u2 cu2),rval (lS Au3 u3 cu3)] M (fun x _ => x = vb r) := by
 unfold p34 at h
 refine FO [.agg [oI u0_0,oS Au0_1 u0_1 cu0_1,oS Au0_2 u0_2 cu0_2],.agg [.arr .i64 6 u1],lS Au2 u2 cu2,lS Au3 u3 cu3] hf34 ⟨⟨rfl,⟨rfl,⟨rfl,trivial⟩⟩⟩,⟨⟨hu1,trivial⟩,⟨trivial,⟨trivial,trivial⟩⟩⟩⟩ fun w => ?_
 refine SQ0 (RG ?_)
 refine SG 3 (S4 [(2,lS Au2 u2 cu2),(3,lS Au3 u3 cu3),(4,lO 4),(5,lO 5)] [(4,[oI u0_0,oS Au0_1 u0_1 cu0_1,oS Au0_2 u0_2 cu0_2]),(5,[.arr .i64 6 u1])] [] M) ?_
 refine EN (SQ (RG ?_))
 refine SS 4 [(2,lS Au2 u2 cu2),(3,lS Au3 u3 cu3),(4,lO 4),(5,lO 5),(15,.agg [oI u0_0,oS Au0_1 u0_1 cu0_1,oS Au0_2 u0_2 cu0_2]),(16,.agg [.arr .i64 6 u1]),(17,lS Au2 u2 cu2),(18,lS Au3 u3 cu3)] ?_
 obtain ⟨v1,v2,c_v1,h⟩ := cl2_some h
 refine TI_of (i:=4) (by kernel_rfl) (TE_callR (d:=19) (f:=26) (args:=[rval (.agg [oI u0_0,oS Au0_1 u0_1 cu0_1,oS Au0_2 u0_2 cu0_2]),rval (.agg [.arr .i64 6 u1]),rval (lS Au2 u2 cu2),rval (lS Au3 u3 cu3)]) (by kernel_rfl) (by kernel_rfl) (w26 k hu0_1 hu0_2 hu1 hu2 hu3 c_v1) ?_)
 rintro _ M5 _ hM5 _ ⟨A3,c4,rfl,fA3⟩
 refine SG 10 (S4 [(2,lS Au2 u2 cu2),(3,lS Au3 u3 cu3),(4,lO 4),(5,lO 5),(9,lS A3 v1 c4),(10,vi v2)] [(4,[oI u0_0,oS Au0_1 u0_1 cu0_1,oS Au0_2 u0_2 cu0_2]),(5,[.arr .i64 6 u1])] [] M5) ?_
 refine EN (SQ ?_)
 obtain ⟨j7,e_j7,h⟩ := jn_some h
 refine T_cut (c1:=(sub [1,1,0,0] Bd34)) (c2:=(sub [1,1,0,1] Bd34)) (fun s' => ∃ (b6 : Bool),Sub { σ := [(2,lS Au2 u2 cu2),(3,lS Au3 u3 cu3),(4,lO 4),(5,lO 5),(28,vb b6)],H := [(4,[oI u0_0,oS Au0_1 u0_1 cu0_1,oS Au0_2 u0_2 cu0_2]),(5,[.arr .i64 6 u1])],V := [],M := M5,ds := [] } s' ∧ j7 b6 = some r) (by kernel_rfl) ?_ ?_
 ·refine RG ?_
  obtain ⟨b8,e_b8,h⟩ := lt_some h
  refine SG 3 (S4 [(2,lS Au2 u2 cu2),(3,lS Au3 u3 cu3),(4,lO 4),(5,lO 5),(9,lS A3 v1 c4),(24,vb b8)] [(4,[oI u0_0,oS Au0_1 u0_1 cu0_1,oS Au0_2 u0_2 cu0_2]),(5,[.arr .i64 6 u1])] [] M5) ?_ (by subst e_b8;kernel_rfl)
  cases b8 with
  | true =>
   replace h := sp_t h
   refine SS 7 [(2,lS Au2 u2 cu2),(3,lS Au3 u3 cu3),(4,lO 4),(5,lO 5),(28,vb true)] ?_
   refine EN ?_
   exact ⟨true,keep_sub (ts:=[2,3,4,5,28]) (hs:=[4,5]) (vs:=[]) (by kernel_rfl),h⟩
  | false =>
   replace h := sp_f h
   obtain ⟨b9,e_b9,h⟩ := lt_some h
   refine SS 7 [(2,lS Au2 u2 cu2),(3,lS Au3 u3 cu3),(4,lO 4),(5,lO 5),(28,vb b9)] ?_ (by subst e_b9;kernel_rfl)
   refine EN ?_
   exact ⟨b9,keep_sub (ts:=[2,3,4,5,28]) (hs:=[4,5]) (vs:=[]) (by kernel_rfl),h⟩
 ·rintro s' ⟨b6,hsub,h⟩
  subst e_j7
  refine T_sub hsub ?_
  cases b6 with
  | true =>
   replace h := sp_t h
   refine CT ?_
   refine KG (S4 [] [] [] M5) ?_
   refine SQ (RG ?_)
   refine SS 1 [(8,vb false)] ?_
   refine EN (RT (thenQ_r ?_))
   obtain rfl := sj h
   exact FT (vb false) rfl
  | false =>
   replace h := sp_f h
   refine CF ?_
   refine KG (S4 [(2,lS Au2 u2 cu2),(3,lS Au3 u3 cu3),(4,lO 4),(5,lO 5)] [(4,[oI u0_0,oS Au0_1 u0_1 cu0_1,oS Au0_2 u0_2 cu0_2]),(5,[.arr .i64 6 u1])] [] M5) ?_
   refine SN (SQ (SQ (RG ?_)))
   refine SS 1 [(2,lS Au2 u2 cu2),(3,lS Au3 u3 cu3),(4,lO 4),(5,lO 5),(11,vi (0 : Int))] ?_
   refine EN ?_
   obtain ⟨j11,e_j11,h⟩ := jn_some h
   refine T_bcut (id:=0) (c1:=(sub [1,1,1,0,1,0] Bd34)) (fun s' => ∃ (M10 : Mem),Sub { σ := [],H := [],V := [],M := M10,ds := [] } s' ∧ Mem.le M5 M10 ∧ j11 = some r) (by kernel_rfl) ?_ ?_
   ·refine T_loop (c1:=(sub [1,1,1,0,1,0,0] Bd34)) (by kernel_rfl) (fun n14 s' => ∃ (x12 : Int) (M13 : Mem),Sub { σ := [(2,lS Au2 u2 cu2),(3,lS Au3 u3 cu3),(4,lO 4),(5,lO 5),(11,vi x12)],H := [(4,[oI u0_0,oS Au0_1 u0_1 cu0_1,oS Au0_2 u0_2 cu0_2]),(5,[.arr .i64 6 u1])],V := [],M := M13,ds := [] } s' ∧ Mem.le M5 M13 ∧ p34_l1 k u0_0 u0_1 u0_2 u1 u2 u3 j11 n14 x12 = some r) (k:=k) ⟨(0 : Int),M5,keep_sub (ts:=[2,3,4,5,11]) (hs:=[4,5]) (vs:=[]) (by kernel_rfl),(Mem.le_refl _),h⟩ ?_
    rintro n14 s' ⟨x12,M13,hsub,hM13,h⟩
    cases n14 with
    | zero => rw [p34_l1] at h;cases h
    | succ n14 =>
     rw [p34_l1] at h
     refine T_sub hsub ?_
     refine SQ (SQ (RG ?_))
     obtain ⟨b15,e_b15,h⟩ := lt_some h
     refine SG 4 (S4 [(2,lS Au2 u2 cu2),(3,lS Au3 u3 cu3),(4,lO 4),(5,lO 5),(11,vi x12),(32,vb b15)] [(4,[oI u0_0,oS Au0_1 u0_1 cu0_1,oS Au0_2 u0_2 cu0_2]),(5,[.arr .i64 6 u1])] [] M13) ?_ (by subst e_b15;kernel_rfl)
     refine EN ?_
     cases b15 with
     | true =>
      replace h := sp_t h
      refine CT ?_
      refine KS [(2,lS Au2 u2 cu2),(3,lS Au3 u3 cu3),(4,lO 4),(5,lO 5),(11,vi x12)] ?_
      refine SN (SQ (BK 1 (SQ ?_)))
      obtain ⟨g16,h⟩ := gd_some h
      obtain ⟨P17,e_P17,h⟩ := lt_some h
      have f_P17 : SlI M13 (cutA Au2 cu2 0 1) (cu2 - 0) .i64 P17 := SlI.part ((hu2.le hM5).le hM13) e_P17 g16.2.2.1 g16.2.2.2
      obtain ⟨g18,h⟩ := gd_some h
      obtain ⟨W19,e_W19,h⟩ := lt_some h
      obtain ⟨x20,e_x20,h⟩ := lt_some h
      obtain ⟨g21,h⟩ := gd_some h
      obtain ⟨P22,e_P22,h⟩ := lt_some h
      have f_P22 : SlI M13 (cutA Au2 cu2 ((x20).toNat) 1) (cu2 - (x20).toNat) .i64 P22 := SlI.part ((hu2.le hM5).le hM13) e_P22 g21.2.2.1 g21.2.2.2
      obtain ⟨g23,h⟩ := gd_some h
      obtain ⟨W24,e_W24,h⟩ := lt_some h
      obtain ⟨v28,v29,c_v28,h⟩ := cl2_some h
      refine T_draw' (id:=7) [2,6,11,13] [0,0,0,0,0,0,0,0,0,0,0,0,0,0,4,4,4,4,4] (by kernel_rfl) (by kernel_rfl) (by kernel_rfl) (by kernel_rfl) [(36,.agg [oI u0_0,oS Au0_1 u0_1 cu0_1,oS Au0_2 u0_2 cu0_2]),(37,.agg [.arr .i64 6 u1]),(39,lS Au2 u2 cu2),(40,vi x12),(41,lS (cutA Au2 cu2 0 1) P17 (cu2 - 0)),(43,lS Au2 u2 cu2),(44,vi x12),(45,vi x20),(46,lS (cutA Au2 cu2 ((x20).toNat) 1) P22 (cu2 - (x20).toNat)),(48,lS Au3 u3 cu3)] (by kernel_rfl) ⟨⟨rfl,⟨rfl,⟨rfl,trivial⟩⟩⟩,⟨⟨hu1,trivial⟩,⟨trivial,⟨trivial,⟨trivial,⟨trivial,⟨trivial,⟨trivial,⟨trivial,⟨trivial,trivial⟩⟩⟩⟩⟩⟩⟩⟩⟩⟩ ?_
      refine Stage_te (stage_all' [0,1,3,4,7,8,9,12] [5,10] (by kernel_rfl) (by subst_vars;kernel_rfl) (by kernel_rfl) ⟨QF_at (i:=5) (d:=41) (x:=lS (cutA Au2 cu2 0 1) P17 (cu2 - 0)) (show OpAt _ _ _ 5 41 _ from by exact At_slI (d:=41) (a:=none) (b:=(some x12)) (P:=P17) (by subst_vars;kernel_rfl) ((hu2.le hM5).le hM13) none_nn (some_nn g16.2.1) g16.2.2.1 g16.2.2.2 e_P17) (by kernel_rfl) (by subst_vars;kernel_rfl),⟨QF_at (i:=10) (d:=46) (x:=lS (cutA Au2 cu2 ((x20).toNat) 1) P22 (cu2 - (x20).toNat)) (show OpAt _ _ _ 10 46 _ from by exact At_slI (d:=46) (a:=(some x20)) (b:=none) (P:=P22) (by subst_vars;kernel_rfl) ((hu2.le hM5).le hM13) (some_nn g21.1) none_nn g21.2.2.1 g21.2.2.2 e_P22) (by kernel_rfl) (by subst_vars;kernel_rfl),trivial⟩⟩) (TE_litC (d:=38) (e:=3) (sz:=1) (len:=0) (cs:=ints .i64 ([] : List Int)) (by subst_vars;kernel_rfl) (by kernel_rfl) (by kernel_rfl) ?_) 
      refine TL_nil (stageQ_of [] (by kernel_rfl) trivial ?_)
      refine Stage_te (stage_all' [0,1,3,4,7,8,9,12] [5,10] (by kernel_rfl) (by subst_vars;kernel_rfl) (by kernel_rfl) ⟨QF_at (i:=5) (d:=41) (x:=lS (cutA Au2 cu2 0 1) P17 (cu2 - 0)) (show OpAt _ _ _ 5 41 _ from by exact At_slI (d:=41) (a:=none) (b:=(some x12)) (P:=P17) (by subst_vars;kernel_rfl) ((hu2.le hM5).le hM13) none_nn (some_nn g16.2.1) g16.2.2.1 g16.2.2.2 e_P17) (by kernel_rfl) (by subst_vars;kernel_rfl),⟨QF_at (i:=10) (d:=46) (x:=lS (cutA Au2 cu2 ((x20).toNat) 1) P22 (cu2 - (x20).toNat)) (show OpAt _ _ _ 10 46 _ from by exact At_slI (d:=46) (a:=(some x20)) (b:=none) (P:=P22) (by subst_vars;kernel_rfl) ((hu2.le hM5).le hM13) (some_nn g21.1) none_nn g21.2.2.1 g21.2.2.2 e_P22) (by kernel_rfl) (by subst_vars;kernel_rfl),trivial⟩⟩) (TE_appC (d:=42) (e:=3) (sz:=1) (bytes:=8) (n:=38) (x:=(.tmp 41)) (len:=List.length ([] : List Int)) (cs0:=ints .i64 ([] : List Int)) (cs2:=ints .i64 W19) (by subst_vars;kernel_rfl) (by kernel_rfl) (by subst_vars;kernel_rfl) (SlI.src (by subst_vars;kernel_rfl) f_P17) g18 rfl (len_app_eq e_W19) (ints_app_eq e_W19) ?_) 
      refine TL_nil (stageQ_of [] (by kernel_rfl) trivial ?_)
      refine Stage_te (stage_all' [0,1,7,8,9,12] [10] (by kernel_rfl) (by subst_vars;kernel_rfl) (by kernel_rfl) ⟨QF_at (i:=10) (d:=46) (x:=lS (cutA Au2 cu2 ((x20).toNat) 1) P22 (cu2 - (x20).toNat)) (show OpAt _ _ _ 10 46 _ from by exact At_slI (d:=46) (a:=(some x20)) (b:=none) (P:=P22) (by subst_vars;kernel_rfl) ((hu2.le hM5).le hM13) (some_nn g21.1) none_nn g21.2.2.1 g21.2.2.2 e_P22) (by kernel_rfl) (by subst_vars;kernel_rfl),trivial⟩) (TE_appC (d:=47) (e:=3) (sz:=1) (bytes:=8) (n:=42) (x:=(.tmp 46)) (len:=List.length W19) (cs0:=ints .i64 W19) (cs2:=ints .i64 W24) (by subst_vars;kernel_rfl) (by kernel_rfl) (by subst_vars;kernel_rfl) (SlI.src (by subst_vars;kernel_rfl) f_P22) g23 rfl (len_app_eq e_W24) (ints_app_eq e_W24) ?_) 
      refine TL_turn (turn_pubV 47 (v:=vI 3 1 W24) (by subst_vars;kernel_rfl)) ?_
      rintro _ ⟨A25,c26,M27,rfl,hSA25,hcA25,-,hNA25,hM27⟩
      have fA25 : SlI M27 A25 c26 .i64 W24 := ⟨hSA25,hcA25⟩
      refine TL_nil (stageQ_of [] (by kernel_rfl) trivial ?_)
      refine Stage_te (stage_all' [0,1,12] [] (by kernel_rfl) (by subst_vars;kernel_rfl) (by kernel_rfl) trivial) (TE_callR (d:=49) (f:=26) (args:=[rval (.agg [oI u0_0,oS Au0_1 u0_1 cu0_1,oS Au0_2 u0_2 cu0_2]),rval (.agg [.arr .i64 6 u1]),rval (lS A25 W24 c26),rval (lS Au3 u3 cu3)]) (by subst_vars;kernel_rfl) (by subst_vars;kernel_rfl) (w26 k (((hu0_1.le hM5).le hM13).le hM27) (((hu0_2.le hM5).le hM13).le hM27) hu1 fA25 (((hu3.le hM5).le hM13).le hM27) c_v28) ?_) 
      rintro _ M32 _ hM32 _ ⟨A30,c31,rfl,fA30⟩
      refine TL_nil (stageQ_of [(35,.tup [(some (.v (.slice A30 (v28.length) c31)),[]),(some (.v (.int .i64 v29)),[])]),(50,lS A30 v28 c31),(51,vi v29),(12,lS A30 v28 c31),(13,vi v29)] (by kernel_rfl) ⟨(by intro y hy; simp only [List.mem_cons,List.mem_nil_iff,or_false] at hy; rcases hy with rfl | rfl <;> exact trivial),⟨trivial,⟨trivial,⟨trivial,⟨trivial,trivial⟩⟩⟩⟩⟩ ?_)
      refine Stage_nil (stage_all' [14,15,16,17,18] [] (by kernel_rfl) (by subst_vars;kernel_rfl) (by kernel_rfl) trivial) ?_
      refine thenQ_n ?_
      refine KG (S4 [(2,lS Au2 u2 cu2),(3,lS Au3 u3 cu3),(4,lO 4),(5,lO 5),(11,vi x12),(12,lS A30 v28 c31),(13,vi v29)] [(4,[oI u0_0,oS Au0_1 u0_1 cu0_1,oS Au0_2 u0_2 cu0_2]),(5,[.arr .i64 6 u1])] [] M32) ?_ (by subst_vars;kernel_rfl)
      obtain ⟨j34,e_j34,h⟩ := jn_some h
      refine T_cut (c1:=(sub [1,1,1,0,1,0,0,1,0,0,1,0] Bd34)) (c2:=(sub [1,1,1,0,1,0,0,1,0,0,1,1] Bd34)) (fun s' => ∃ (b33 : Bool),Sub { σ := [(2,lS Au2 u2 cu2),(3,lS Au3 u3 cu3),(4,lO 4),(5,lO 5),(11,vi x12),(58,vb b33)],H := [(4,[oI u0_0,oS Au0_1 u0_1 cu0_1,oS Au0_2 u0_2 cu0_2]),(5,[.arr .i64 6 u1])],V := [],M := M32,ds := [] } s' ∧ j34 b33 = some r) (by kernel_rfl) ?_ ?_
      ·refine RG ?_
       obtain ⟨b35,e_b35,h⟩ := lt_some h
       refine SG 3 (S4 [(2,lS Au2 u2 cu2),(3,lS Au3 u3 cu3),(4,lO 4),(5,lO 5),(11,vi x12),(12,lS A30 v28 c31),(54,vb b35)] [(4,[oI u0_0,oS Au0_1 u0_1 cu0_1,oS Au0_2 u0_2 cu0_2]),(5,[.arr .i64 6 u1])] [] M32) ?_ (by subst e_b35;kernel_rfl)
       cases b35 with
       | true =>
        replace h := sp_t h
        refine SS 7 [(2,lS Au2 u2 cu2),(3,lS Au3 u3 cu3),(4,lO 4),(5,lO 5),(11,vi x12),(58,vb true)] ?_
        refine EN ?_
        exact ⟨true,keep_sub (ts:=[2,3,4,5,11,58]) (hs:=[4,5]) (vs:=[]) (by kernel_rfl),h⟩
       | false =>
        replace h := sp_f h
        obtain ⟨b36,e_b36,h⟩ := lt_some h
        refine SS 7 [(2,lS Au2 u2 cu2),(3,lS Au3 u3 cu3),(4,lO 4),(5,lO 5),(11,vi x12),(58,vb b36)] ?_ (by subst e_b36;kernel_rfl)
        refine EN ?_
        exact ⟨b36,keep_sub (ts:=[2,3,4,5,11,58]) (hs:=[4,5]) (vs:=[]) (by kernel_rfl),h⟩
      ·rintro s' ⟨b33,hsub,h⟩
       subst e_j34
       refine T_sub hsub ?_
       cases b33 with
       | true =>
        replace h := sp_t h
        refine CT ?_
        refine KG (S4 [] [] [] M32) ?_
        refine SQ (RG ?_)
        refine SS 1 [(8,vb false)] ?_
        refine EN (RT (blockQ_r (thenQ_r (thenQ_r (blockQ_r (thenQ_r (thenQ_r ?_)))))))
        obtain rfl := sj h
        exact FT (vb false) rfl
       | false =>
        replace h := sp_f h
        refine CF ?_
        refine KG (S4 [(2,lS Au2 u2 cu2),(3,lS Au3 u3 cu3),(4,lO 4),(5,lO 5),(11,vi x12)] [(4,[oI u0_0,oS Au0_1 u0_1 cu0_1,oS Au0_2 u0_2 cu0_2]),(5,[.arr .i64 6 u1])] [] M32) ?_
        refine S0 (blockQ_n (thenQ_n (RG ?_)))
        obtain ⟨x37,e_x37,h⟩ := lt_some h
        refine SS 3 [(2,lS Au2 u2 cu2),(3,lS Au3 u3 cu3),(4,lO 4),(5,lO 5),(11,vi x37)] ?_ (by subst e_x37;kernel_rfl)
        refine EN ?_
        exact ⟨n14,Nat.lt_succ_self _,x37,M32,keep_sub (ts:=[2,3,4,5,11]) (hs:=[4,5]) (vs:=[]) (by kernel_rfl),(Mem.le_trans (Mem.le_trans (Mem.le_trans (Mem.le_refl _) hM13) hM27) hM32),h⟩
     | false =>
      replace h := sp_f h
      refine CF ?_
      refine KP [] [] [] ?_
      refine XI 0 (thenQ_x (thenQ_x (blockQ_x (thenQ_n ?_))))
      exact ⟨M13,keep_sub (ts:=[]) (hs:=[]) (vs:=[]) (by kernel_rfl),(Mem.le_trans (Mem.le_refl _) hM13),h⟩
   ·rintro s' ⟨M10,hsub,hM10,h⟩
    subst e_j11
    refine thenQ_n ?_
    refine T_sub hsub ?_
    refine SQ (RG ?_)
    refine SG 1 (S4 [(8,vb true)] [] [] M10) ?_
    refine EN (RT ?_)
    obtain rfl := sj h
    exact FT (vb true) rfl
end Go.Proofs.Ythniebmammmacaa
namespace Go.Proofs.Ythniebmammmacaa
open Go.RowKit
def p25_l1 (k : Nat) (u0_1 : List (List Int)) (u3 : List Int) (j14 : Int → List (Int × Int) → Option (Bool × Int)) : Nat → Int → Int → List (Int × Int) → Option (Bool × Int)
 | 0,_,_,_ => none
 | n18 + 1,x15,x16,E17 => lt' (decide (x16 < (u3.length : Int))) fun b19 => sp b19 (gd ((0 : Int) ≤ x16 ∧ x16 < (u3.length : Int)) <| lt' (List.getD u3 ((x16).toNat) 0) fun x21 => gd ((0 : Int) ≤ x21 ∧ x21 < (u0_1.length : Int)) <| lt' (List.getD u0_1 ((x21).toNat) []) fun L23 => lt' (List.getD L23 1 0) fun x24 => lt' (mget E17 x24) fun x25 => lt' (wr .i64 (x25 + (1 : Int))) fun x26 => lt' (mput E17 x24 x26) fun E27 => jn (fun (b28 : Bool) => sp b28 (some (false,(0 : Int))) (lt' (List.getD L23 1 0) fun x35 => lt' (wr .i64 (x16 + (1 : Int))) fun x36 => p25_l1 k u0_1 u3 j14 n18 x35 x36 E27)) fun j29 => lt' (List.getD L23 0 0) fun x30 => lt' (x30 != x15) fun b31 => sp b31 (j29 true) (lt' (List.getD L23 1 0) fun x32 => lt' (mget E27 x32) fun x33 => lt' (decide (x33 > (1 : Int))) fun b34 => j29 b34)) (j14 x15 E17)
def p25 (k : Nat) (u0_0 : Int) (u0_1 : List (List Int)) (u0_2 : List WT) (u1 : Int) (u2 : Int) (u3 : List Int) : Option (Bool × Int) :=
 cl (p38 k u0_0 u0_1 u0_2) fun v1 => lt' (v1 != (0 : Int)) fun b2 => sp b2 (some (false,v1)) (cl (p67 k u0_0 u0_1 u0_2 ([u1,u2])) fun v6 => lt' (v6 != (0 : Int)) fun b7 => sp b7 (some (false,v6)) (cl (p66 k u0_0 u0_1 u0_2 u3) fun v8 => lt' (v8 != (0 : Int)) fun b9 => sp b9 (some (false,v8)) (lt' (mput ([] : List (Int × Int)) u1 (1 : Int)) fun E11 => jn (fun (x12 : Int) (E13 : List (Int × Int)) => lt' (x12 == u2) fun b37 => some (b37,(0 : Int))) fun j14 => p25_l1 k u0_1 u3 j14 k u1 (0 : Int) E11)))
theorem hf25 : Try.prog.funcs[25]? = some Try.f25 := by kernel_rfl
theorem w25 (k : Nat) {M : Mem} {Au0_1 Au0_2 Au3 : Option Addr} {cu0_1 cu0_2 cu3 : Nat} {Hu0_2 : Nat → Option Addr} {Cu0_2 : Nat → Nat} {u0_0 u1 u2 : Int} {u0_1 : List (List Int)} {u0_2 : List WT} {u3 : List Int} (hu0_1 : SlR M Au0_1 cu0_1 .i64 12 u0_1) (hu0_2 : SlW M 3 Au0_2 cu0_2 Hu0_2 Cu0_2 u0_2) (hu3 : SlI M Au3 cu3 .i64 u3) {r} (h : p25 k u0_0 u0_1 u0_2 u1 u2 u3 = some r) :
  Fn Try.prog 25 [rval (.agg [oI u0_0,oS Au0_1 u0_1 cu0_1,oS Au0_2 u0_2 cu0_2]),rval (vi u1),rval (vi u2),rval (lS Au3 u3 cu3)] M (fun x _ => x = .tup [(some (.v (.bool r.1)),[]),(some (.v (.int .i64 r.2)),[])]) := by
 unfold p25 at h
 refine FO [.agg [oI u0_0,oS Au0_1 u0_1 cu0_1,oS Au0_2 u0_2 cu0_2],vi u1,vi u2,lS Au3 u3 cu3] hf25 ⟨⟨rfl,⟨rfl,⟨rfl,trivial⟩⟩⟩,⟨trivial,⟨trivial,⟨trivial,trivial⟩⟩⟩⟩ fun w => ?_
 refine SQ0 (RG ?_)
 refine SG 3 (S4 [(1,vi u1),(2,vi u2),(3,lS Au3 u3 cu3),(4,lO 4)] [(4,[oI u0_0,oS Au0_1 u0_1 cu0_1,oS Au0_2 u0_2 cu0_2])] [] M) ?_
 refine EN (SQ (SQ (RG ?_)))
 refine SS 1 [(1,vi u1),(2,vi u2),(3,lS Au3 u3 cu3),(4,lO 4),(17,.agg [oI u0_0,oS Au0_1 u0_1 cu0_1,oS Au0_2 u0_2 cu0_2])] ?_
 obtain ⟨v1,c_v1,h⟩ := cl_some h
 refine AC 18 (vi v1) (w38 k hu0_1 hu0_2 c_v1) ?_
 refine SH 3 [(1,vi u1),(2,vi u2),(3,lS Au3 u3 cu3),(4,lO 4),(10,vi v1)] [(4,[oI u0_0,oS Au0_1 u0_1 cu0_1,oS Au0_2 u0_2 cu0_2])] ?_
 refine EN (SQ (RG ?_))
 obtain ⟨b2,e_b2,h⟩ := lt_some h
 refine SS 2 [(1,vi u1),(2,vi u2),(3,lS Au3 u3 cu3),(4,lO 4),(10,vi v1),(20,vb b2)] ?_ (by subst e_b2;kernel_rfl)
 refine EN ?_
 cases b2 with
 | true =>
  replace h := sp_t h
  refine CT ?_
  refine KP [(10,vi v1)] [] [] ?_
  refine SQ (RG ?_)
  refine SS 3 [(8,vb false),(9,vi v1)] ?_
  refine EN (RT (thenQ_r ?_))
  obtain rfl := sj h
  exact FT (.tup [(some (.v (.bool false)),[]),(some (.v (.int .i64 v1)),[])]) rfl
 | false =>
  replace h := sp_f h
  refine CF ?_
  refine KS [(1,vi u1),(2,vi u2),(3,lS Au3 u3 cu3),(4,lO 4)] ?_
  refine SN (SQ (SQ (RG ?_)))
  refine SS 3 [(1,vi u1),(2,vi u2),(3,lS Au3 u3 cu3),(4,lO 4),(22,.agg [oI u0_0,oS Au0_1 u0_1 cu0_1,oS Au0_2 u0_2 cu0_2]),(23,vi u1),(24,vi u2)] ?_
  refine TI_of (i:=3) (by kernel_rfl) (TE_litC (d:=25) (e:=3) (sz:=1) (len:=2) (cs:=ints .i64 ([u1,u2])) (by kernel_rfl) (by kernel_rfl) (by kernel_rfl) ?_)
  refine SG 4 (S4 [(1,vi u1),(2,vi u2),(3,lS Au3 u3 cu3),(4,lO 4),(22,.agg [oI u0_0,oS Au0_1 u0_1 cu0_1,oS Au0_2 u0_2 cu0_2]),(25,lV 25)] [(4,[oI u0_0,oS Au0_1 u0_1 cu0_1,oS Au0_2 u0_2 cu0_2])] [(25,vI 3 1 ([u1,u2]))] M) ?_
  refine TI_turn (turn_pubV 25 (v:=vI 3 1 ([u1,u2])) (by kernel_rfl)) ?_
  rintro _ ⟨A3,c4,M5,rfl,hSA3,hcA3,-,hNA3,hM5⟩
  have fA3 : SlI M5 A3 c4 .i64 ([u1,u2]) := ⟨hSA3,hcA3⟩
  obtain ⟨v6,c_v6,h⟩ := cl_some h
  refine AC 26 (vi v6) (w67 k (hu0_1.le hM5) (hu0_2.le hM5) fA3 c_v6) ?_
  refine SG 6 (S4 [(1,vi u1),(2,vi u2),(3,lS Au3 u3 cu3),(4,lO 4),(11,vi v6)] [(4,[oI u0_0,oS Au0_1 u0_1 cu0_1,oS Au0_2 u0_2 cu0_2])] [] M5) ?_
  refine EN (SQ (RG ?_))
  obtain ⟨b7,e_b7,h⟩ := lt_some h
  refine SS 2 [(1,vi u1),(2,vi u2),(3,lS Au3 u3 cu3),(4,lO 4),(11,vi v6),(28,vb b7)] ?_ (by subst e_b7;kernel_rfl)
  refine EN ?_
  cases b7 with
  | true =>
   replace h := sp_t h
   refine CT ?_
   refine KP [(11,vi v6)] [] [] ?_
   refine SQ (RG ?_)
   refine SS 3 [(8,vb false),(9,vi v6)] ?_
   refine EN (RT (thenQ_r ?_))
   obtain rfl := sj h
   exact FT (.tup [(some (.v (.bool false)),[]),(some (.v (.int .i64 v6)),[])]) rfl
  | false =>
   replace h := sp_f h
   refine CF ?_
   refine KS [(1,vi u1),(2,vi u2),(3,lS Au3 u3 cu3),(4,lO 4)] ?_
   refine SN (SQ (SQ (RG ?_)))
   refine SS 2 [(1,vi u1),(2,vi u2),(3,lS Au3 u3 cu3),(4,lO 4),(30,.agg [oI u0_0,oS Au0_1 u0_1 cu0_1,oS Au0_2 u0_2 cu0_2]),(31,lS Au3 u3 cu3)] ?_
   obtain ⟨v8,c_v8,h⟩ := cl_some h
   refine AC 32 (vi v8) (w66 k (hu0_1.le hM5) (hu0_2.le hM5) (hu3.le hM5) c_v8) ?_
   refine SH 4 [(1,vi u1),(2,vi u2),(3,lS Au3 u3 cu3),(4,lO 4),(12,vi v8)] [(4,[oI u0_0,oS Au0_1 u0_1 cu0_1,oS Au0_2 u0_2 cu0_2])] ?_
   refine EN (SQ (RG ?_))
   obtain ⟨b9,e_b9,h⟩ := lt_some h
   refine SS 2 [(1,vi u1),(2,vi u2),(3,lS Au3 u3 cu3),(4,lO 4),(12,vi v8),(34,vb b9)] ?_ (by subst e_b9;kernel_rfl)
   refine EN ?_
   cases b9 with
   | true =>
    replace h := sp_t h
    refine CT ?_
    refine KP [(12,vi v8)] [] [] ?_
    refine SQ (RG ?_)
    refine SS 3 [(8,vb false),(9,vi v8)] ?_
    refine EN (RT (thenQ_r ?_))
    obtain rfl := sj h
    exact FT (.tup [(some (.v (.bool false)),[]),(some (.v (.int .i64 v8)),[])]) rfl
   | false =>
    replace h := sp_f h
    refine CF ?_
    refine KS [(1,vi u1),(2,vi u2),(3,lS Au3 u3 cu3),(4,lO 4)] ?_
    refine SN (SQ (RG ?_))
    refine TI_of (i:=0) (by kernel_rfl) (TE_map (d:=36) (by kernel_rfl) (by kernel_rfl) ?_)
    intro b10
    refine SG 2 { σ := [(1,vi u1),(2,vi u2),(3,lS Au3 u3 cu3),(4,lO 4),(36,.lf (.v (.map (some b10)))),(37,vi u1)],H := [(4,[oI u0_0,oS Au0_1 u0_1 cu0_1,oS Au0_2 u0_2 cu0_2])],V := [],M := M5,ds := [],os := [(b10,mapO ([] : List (Int × Int)))] } ?_
    obtain ⟨E11,e_E11,h⟩ := lt_some h
    refine TI_of (i:=2) (by kernel_rfl) (TE_mapU (b:=b10) (z:=u1) (u:=(1 : Int)) ([] : List (Int × Int)) E11 e_E11 (by subst e_E11;kernel_rfl) (by subst e_E11;kernel_rfl) rfl rfl ?_)
    refine SG 5 { σ := [(1,vi u1),(2,vi u2),(3,lS Au3 u3 cu3),(4,lO 4),(13,.lf (.v (.map (some b10))))],H := [(4,[oI u0_0,oS Au0_1 u0_1 cu0_1,oS Au0_2 u0_2 cu0_2])],V := [],M := M5,ds := [],os := [(b10,mapO E11)] } ?_
    refine EN (SQ (SQ (RG ?_)))
    refine SS 3 [(1,vi u1),(2,vi u2),(4,lO 4),(13,.lf (.v (.map (some b10)))),(39,lS Au3 u3 cu3),(40,vi (u3.length : Int)),(41,vi (0 : Int))] ?_
    refine EN ?_
    obtain ⟨j14,e_j14,h⟩ := jn_some h
    refine T_bcut (id:=0) (c1:=(sub [1,1,1,1,1,0,1,0] Bd25)) (fun s' => ∃ (x12 : Int) (E13 : List (Int × Int)),Sub { σ := [(1,vi x12),(2,vi u2)],H := [],V := [],M := M5,ds := [],os := [(b10,mapO E13)] } s' ∧ j14 x12 E13 = some r) (by kernel_rfl) ?_ ?_
    ·refine T_loop (c1:=(sub [1,1,1,1,1,0,1,0,0] Bd25)) (by kernel_rfl) (fun n18 s' => ∃ (x15 : Int) (x16 : Int) (E17 : List (Int × Int)),Sub { σ := [(1,vi x15),(2,vi u2),(4,lO 4),(13,.lf (.v (.map (some b10)))),(39,lS Au3 u3 cu3),(40,vi (u3.length : Int)),(41,vi x16)],H := [(4,[oI u0_0,oS Au0_1 u0_1 cu0_1,oS Au0_2 u0_2 cu0_2])],V := [],M := M5,ds := [],os := [(b10,mapO E17)] } s' ∧ p25_l1 k u0_1 u3 j14 n18 x15 x16 E17 = some r) (k:=k) ⟨u1,(0 : Int),E11,keep_sub (ts:=[1,2,4,13,39,40,41]) (hs:=[4]) (vs:=[]) (by kernel_rfl),h⟩ ?_
     rintro n18 s' ⟨x15,x16,E17,hsub,h⟩
     cases n18 with
     | zero => rw [p25_l1] at h;cases h
     | succ n18 =>
      rw [p25_l1] at h
      refine T_sub hsub ?_
      refine SQ (RG ?_)
      obtain ⟨b19,e_b19,h⟩ := lt_some h
      refine SG 1 { σ := [(1,vi x15),(2,vi u2),(4,lO 4),(13,.lf (.v (.map (some b10)))),(39,lS Au3 u3 cu3),(40,vi (u3.length : Int)),(41,vi x16),(42,vb b19)],H := [(4,[oI u0_0,oS Au0_1 u0_1 cu0_1,oS Au0_2 u0_2 cu0_2])],V := [],M := M5,ds := [],os := [(b10,mapO E17)] } ?_ (by subst e_b19;kernel_rfl)
      refine EN (SQ ?_)
      cases b19 with
      | true =>
       replace h := sp_t h
       refine CT ?_
       refine KS [(1,vi x15),(2,vi u2),(4,lO 4),(13,.lf (.v (.map (some b10)))),(39,lS Au3 u3 cu3),(40,vi (u3.length : Int)),(41,vi x16)] ?_
       refine SN (SQ (BK 1 (SQ (RG ?_))))
       obtain ⟨g20,h⟩ := gd_some h
       refine AT 43 (.lf (.ep (.slice Au3 (u3.length) cu3) 1 ((x16).toNat) 0)) (At_idxI (z:=x16) (by kernel_rfl) g20 (hu3.le hM5)) ?_
       obtain ⟨x21,e_x21,h⟩ := lt_some h
       refine AT 44 (vi x21) (by rw [e_x21]; exact At_ldI (q:=(x16).toNat) (by subst e_x21; kernel_rfl) (toNat_lt g20) (hu3.le hM5)) ?_
       refine SH 3 [(1,vi x15),(2,vi u2),(4,lO 4),(13,.lf (.v (.map (some b10)))),(15,vi x21),(39,lS Au3 u3 cu3),(40,vi (u3.length : Int)),(41,vi x16)] [(4,[oI u0_0,oS Au0_1 u0_1 cu0_1,oS Au0_2 u0_2 cu0_2])] ?_
       refine EN (SQ (RG ?_))
       refine SS 3 [(1,vi x15),(2,vi u2),(4,lO 4),(13,.lf (.v (.map (some b10)))),(39,lS Au3 u3 cu3),(40,vi (u3.length : Int)),(41,vi x16),(46,lS Au0_1 u0_1 cu0_1),(47,vi x21)] ?_
       obtain ⟨g22,h⟩ := gd_some h
       refine AT 48 (.lf (.ep (.slice Au0_1 (u0_1.length) cu0_1) 12 ((x21).toNat) 0)) (At_idxR (z:=x21) (by kernel_rfl) g22 (hu0_1.le hM5)) ?_
       obtain ⟨L23,e_L23,h⟩ := lt_some h
       have l_L23 : (L23).length = 12 := by rw [e_L23]; exact SlR_row (hu0_1.le hM5) (toNat_lt g22)
       refine AT 49 (.agg [.arr .i64 12 L23]) (by rw [e_L23]; exact At_ldRow (q:=(x21).toNat) (by subst e_L23; kernel_rfl) (toNat_lt g22) (hu0_1.le hM5)) ?_ (hx:=⟨l_L23,trivial⟩)
       refine SH 7 [(1,vi x15),(2,vi u2),(4,lO 4),(13,.lf (.v (.map (some b10)))),(16,lO 16),(39,lS Au3 u3 cu3),(40,vi (u3.length : Int)),(41,vi x16)] [(4,[oI u0_0,oS Au0_1 u0_1 cu0_1,oS Au0_2 u0_2 cu0_2]),(16,[.arr .i64 12 L23])] ?_
       refine EN (SQ (SQ (RG ?_)))
       obtain ⟨x24,e_x24,h⟩ := lt_some h
       refine SS 3 [(1,vi x15),(2,vi u2),(4,lO 4),(13,.lf (.v (.map (some b10)))),(16,lO 16),(39,lS Au3 u3 cu3),(40,vi (u3.length : Int)),(41,vi x16),(50,.lf (.v (.map (some b10)))),(52,vi x24)] ?_ (by subst e_x24;kernel_rfl)
       obtain ⟨x25,e_x25,h⟩ := lt_some h
       refine AT 53 (vi x25) (by rw [e_x25]; exact At_look (b:=b10) (z:=x24) (E:=E17) (by subst e_x25; kernel_rfl) (List.mem_singleton.2 rfl)) ?_
       obtain ⟨x26,e_x26,h⟩ := lt_some h
       refine SH 5 [(1,vi x15),(2,vi u2),(4,lO 4),(13,.lf (.v (.map (some b10)))),(16,lO 16),(39,lS Au3 u3 cu3),(40,vi (u3.length : Int)),(41,vi x16),(50,.lf (.v (.map (some b10)))),(52,vi x24),(54,vi x26)] [(4,[oI u0_0,oS Au0_1 u0_1 cu0_1,oS Au0_2 u0_2 cu0_2]),(16,[.arr .i64 12 L23])] ?_ (by subst e_x26;kernel_rfl)
       obtain ⟨E27,e_E27,h⟩ := lt_some h
       refine TI_of (i:=5) (by kernel_rfl) (TE_mapU (b:=b10) (z:=x24) (u:=x26) E17 E27 e_E27 (by subst e_E27;kernel_rfl) (by subst e_E27;kernel_rfl) rfl rfl ?_)
       refine SG 6 { σ := [(1,vi x15),(2,vi u2),(4,lO 4),(13,.lf (.v (.map (some b10)))),(16,lO 16),(39,lS Au3 u3 cu3),(40,vi (u3.length : Int)),(41,vi x16)],H := [(4,[oI u0_0,oS Au0_1 u0_1 cu0_1,oS Au0_2 u0_2 cu0_2]),(16,[.arr .i64 12 L23])],V := [],M := M5,ds := [],os := [(b10,mapO E27)] } ?_
       refine EN ?_
       obtain ⟨j29,e_j29,h⟩ := jn_some h
       refine T_cut (c1:=(sub [1,1,1,1,1,0,1,0,0,1,1,0,0,1,1,0,1,0] Bd25)) (c2:=(sub [1,1,1,1,1,0,1,0,0,1,1,0,0,1,1,0,1,1] Bd25)) (fun s' => ∃ (b28 : Bool),Sub { σ := [(2,vi u2),(4,lO 4),(13,.lf (.v (.map (some b10)))),(16,lO 16),(39,lS Au3 u3 cu3),(40,vi (u3.length : Int)),(41,vi x16),(65,vb b28)],H := [(4,[oI u0_0,oS Au0_1 u0_1 cu0_1,oS Au0_2 u0_2 cu0_2]),(16,[.arr .i64 12 L23])],V := [],M := M5,ds := [],os := [(b10,mapO E27)] } s' ∧ j29 b28 = some r) (by kernel_rfl) ?_ ?_
       ·refine RG ?_
        obtain ⟨x30,e_x30,h⟩ := lt_some h
        obtain ⟨b31,e_b31,h⟩ := lt_some h
        refine SG 5 { σ := [(2,vi u2),(4,lO 4),(13,.lf (.v (.map (some b10)))),(16,lO 16),(39,lS Au3 u3 cu3),(40,vi (u3.length : Int)),(41,vi x16),(59,vb b31)],H := [(4,[oI u0_0,oS Au0_1 u0_1 cu0_1,oS Au0_2 u0_2 cu0_2]),(16,[.arr .i64 12 L23])],V := [],M := M5,ds := [],os := [(b10,mapO E27)] } ?_ (by subst e_b31 e_x30;kernel_rfl)
        cases b31 with
        | true =>
         replace h := sp_t h
         refine SS 11 [(2,vi u2),(4,lO 4),(13,.lf (.v (.map (some b10)))),(16,lO 16),(39,lS Au3 u3 cu3),(40,vi (u3.length : Int)),(41,vi x16),(65,vb true)] ?_
         refine EN ?_
         exact ⟨true,keep_sub (ts:=[2,4,13,16,39,40,41,65]) (hs:=[4,16]) (vs:=[]) (by kernel_rfl),h⟩
        | false =>
         replace h := sp_f h
         obtain ⟨x32,e_x32,h⟩ := lt_some h
         refine SS 8 [(2,vi u2),(4,lO 4),(13,.lf (.v (.map (some b10)))),(16,lO 16),(39,lS Au3 u3 cu3),(40,vi (u3.length : Int)),(41,vi x16),(59,vb false),(60,.lf (.v (.map (some b10)))),(62,vi x32)] ?_ (by subst e_x32;kernel_rfl)
         obtain ⟨x33,e_x33,h⟩ := lt_some h
         refine AT 63 (vi x33) (by rw [e_x33]; exact At_look (b:=b10) (z:=x32) (E:=E27) (by subst e_x33; kernel_rfl) (List.mem_singleton.2 rfl)) ?_
         obtain ⟨b34,e_b34,h⟩ := lt_some h
         refine SH 11 [(2,vi u2),(4,lO 4),(13,.lf (.v (.map (some b10)))),(16,lO 16),(39,lS Au3 u3 cu3),(40,vi (u3.length : Int)),(41,vi x16),(65,vb b34)] [(4,[oI u0_0,oS Au0_1 u0_1 cu0_1,oS Au0_2 u0_2 cu0_2]),(16,[.arr .i64 12 L23])] ?_ (by subst e_b34;kernel_rfl)
         refine EN ?_
         exact ⟨b34,keep_sub (ts:=[2,4,13,16,39,40,41,65]) (hs:=[4,16]) (vs:=[]) (by kernel_rfl),h⟩
       ·rintro s' ⟨b28,hsub,h⟩
        subst e_j29
        refine T_sub hsub ?_
        cases b28 with
        | true =>
         replace h := sp_t h
         refine CT ?_
         refine KG { σ := [],H := [],V := [],M := M5,ds := [],os := [(b10,mapO E27)] } ?_
         refine SQ (RG ?_)
         refine SS 2 [(8,vb false),(9,vi (0 : Int))] ?_
         refine EN (RT (thenQ_r (blockQ_r (thenQ_r (thenQ_r (blockQ_r (thenQ_r (thenQ_r ?_))))))))
         obtain rfl := sj h
         exact FT (.tup [(some (.v (.bool false)),[]),(some (.v (.int .i64 (0 : Int))),[])]) rfl
        | false =>
         replace h := sp_f h
         refine CF ?_
         refine KG { σ := [(2,vi u2),(4,lO 4),(13,.lf (.v (.map (some b10)))),(16,lO 16),(39,lS Au3 u3 cu3),(40,vi (u3.length : Int)),(41,vi x16)],H := [(4,[oI u0_0,oS Au0_1 u0_1 cu0_1,oS Au0_2 u0_2 cu0_2]),(16,[.arr .i64 12 L23])],V := [],M := M5,ds := [],os := [(b10,mapO E27)] } ?_
         refine SN (RG ?_)
         obtain ⟨x35,e_x35,h⟩ := lt_some h
         refine SH 3 [(1,vi x35),(2,vi u2),(4,lO 4),(13,.lf (.v (.map (some b10)))),(39,lS Au3 u3 cu3),(40,vi (u3.length : Int)),(41,vi x16)] [(4,[oI u0_0,oS Au0_1 u0_1 cu0_1,oS Au0_2 u0_2 cu0_2])] ?_ (by subst e_x35;kernel_rfl)
         refine E0 (blockQ_n (thenQ_n (RG ?_)))
         obtain ⟨x36,e_x36,h⟩ := lt_some h
         refine SS 2 [(1,vi x35),(2,vi u2),(4,lO 4),(13,.lf (.v (.map (some b10)))),(39,lS Au3 u3 cu3),(40,vi (u3.length : Int)),(41,vi x36)] ?_ (by subst e_x36;kernel_rfl)
         refine EN ?_
         exact ⟨n18,Nat.lt_succ_self _,x35,x36,E27,keep_sub (ts:=[1,2,4,13,39,40,41]) (hs:=[4]) (vs:=[]) (by kernel_rfl),h⟩
      | false =>
       replace h := sp_f h
       refine CF ?_
       refine KP [(1,vi x15),(2,vi u2)] [] [] ?_
       refine XI 0 (thenQ_x (thenQ_x (blockQ_x (thenQ_n ?_))))
       exact ⟨x15,E17,keep_sub (ts:=[1,2]) (hs:=[]) (vs:=[]) (by kernel_rfl),h⟩
    ·rintro s' ⟨x12,E13,hsub,h⟩
     subst e_j14
     refine thenQ_n ?_
     refine T_sub hsub ?_
     refine SQ (RG ?_)
     obtain ⟨b37,e_b37,h⟩ := lt_some h
     refine SG 5 { σ := [(8,vb b37),(9,vi (0 : Int))],H := [],V := [],M := M5,ds := [],os := [(b10,mapO E13)] } ?_ (by subst e_b37;kernel_rfl)
     refine EN (RT ?_)
     obtain rfl := sj h
     exact FT (.tup [(some (.v (.bool b37)),[]),(some (.v (.int .i64 (0 : Int))),[])]) rfl
end Go.Proofs.Ythniebmammmacaa
namespace Go.Proofs.Ythniebmammmacaa
open Go.RowKit
def p9_l1 (k : Nat) (u0_0 : Int) (u0_1 : List (List Int)) (u0_2 : List WT) (u1 : List Int) (j28 : Option Bool) (v4 : Int) (v6 : Int) (v21 : List WT) : Nat → Int → Option Bool
 | 0,_ => none
 | n31 + 1,x29 => lt' (decide (x29 < (v21.length : Int))) fun b32 => sp b32 (gd ((0 : Int) ≤ x29 ∧ x29 < (v21.length : Int)) <| lt' ((List.getD v21 ((x29).toNat) ([],[])).1) fun L34 => cl3 (p31 k u0_0 u0_1 u0_2 u1 L34) fun v35 v36 v37 => jn (fun (b41 : Bool) => sp b41 (some false) (lt' (wr .i64 (x29 + (1 : Int))) fun x53 => p9_l1 k u0_0 u0_1 u0_2 u1 j28 v4 v6 v21 n31 x53)) fun j42 => lt' (v37 == (0 : Int)) fun b43 => sp b43 (lt' (v6 != (0 : Int)) fun b44 => sp b44 (j42 true) (gd ((0 : Int) ≤ x29 ∧ x29 < (v21.length : Int)) <| cl (p33 k u0_0 u0_1 u0_2 L34 ([] : List Int)) fun v46 => lt' (wr .i64 (v46 + v36)) fun x47 => lt' (decide (x47 < v4)) fun b48 => sp b48 (j42 true) (lt' (v37 != (0 : Int)) fun b49 => sp b49 (lt' (v37 != (15 : Int)) fun b50 => j42 b50) (j42 false)))) (lt' (v37 != (0 : Int)) fun b51 => sp b51 (lt' (v37 != (15 : Int)) fun b52 => j42 b52) (j42 false))) (j28)
def p9_l2 (k : Nat) (u0_1 : List (List Int)) (j61 : Int → Option Bool) (v2 : List Int) : Nat → Int → Int → Option Bool
 | 0,_,_ => none
 | n64 + 1,x62,x63 => lt' (decide (x63 < (v2.length : Int))) fun b65 => sp b65 (gd ((0 : Int) ≤ x63 ∧ x63 < (v2.length : Int)) <| lt' (List.getD v2 ((x63).toNat) 0) fun x67 => gd ((0 : Int) ≤ x67 ∧ x67 < (u0_1.length : Int)) <| lt' (List.getD (List.getD u0_1 ((x67).toNat) []) 3 0) fun x69 => lt' (wr .i64 (x62 + x69)) fun x70 => lt' (wr .i64 (x63 + (1 : Int))) fun x71 => p9_l2 k u0_1 j61 v2 n64 x70 x71) (j61 x62)
def p9 (k : Nat) (u0_0 : Int) (u0_1 : List (List Int)) (u0_2 : List WT) (u1 : List Int) (u2 : Int) (u3 : Int) : Option Bool :=
 cl (p23 k u0_0 u0_1 u0_2 u1 u2 u3) fun v1 => sp v1 (cl5 (p28 k u0_0 u0_1 u0_2 u1 u2 u3) fun v2 v3 v4 v5 v6 => jn (fun (b12 : Bool) => sp b12 (some false) (gd ((0 : Int) ≤ u0_0 ∧ 1 * (u0_0).toNat ≤ 281474976710656) <| lt' (List.replicate (u0_0).toNat false) fun W17 => cl (p27 k u0_0 u0_1 u0_2 u3 (60 : Int) ([] : List Int) u2 W17) fun v21 => jn (lt' (v6 != (0 : Int)) fun b54 => sp b54 (cl (p14 k ) fun v55 => some v55) (jn (fun (b56 : Bool) => sp b56 (some false) (jn (fun (x60 : Int) => cl2 (p25 k u0_0 u0_1 u0_2 u2 u3 v2) fun v72 v73 => jn (fun (b74 : Bool) => some b74) fun j75 => lt' (v73 == (0 : Int)) fun b76 => sp b76 (sp v72 (cl (p33 k u0_0 u0_1 u0_2 v2 v3) fun v77 => lt' (v4 == v77) fun b78 => sp b78 (lt' (x60 == v5) fun b79 => sp b79 (cl (p34 k u0_0 u0_1 u0_2 u1 v3 v2) fun v80 => sp v80 (cl (p14 k ) fun v81 => j75 v81) (j75 false)) (j75 false)) (j75 false)) (j75 false)) (j75 false)) fun j61 => p9_l2 k u0_1 j61 v2 k (0 : Int) (0 : Int))) fun j57 => cl (p30 k v2 (u0_1.length : Int)) fun v58 => sp v58 (cl (p30 k v3 (u0_2.length : Int)) fun v59 => j57 (!v59)) (j57 true))) fun j28 => p9_l1 k u0_0 u0_1 u0_2 u1 j28 v4 v6 v21 k (0 : Int))) fun j13 => lt' (v6 != (0 : Int)) fun b14 => sp b14 (lt' (v6 != (15 : Int)) fun b15 => j13 b15) (j13 false)) (cl (p14 k ) fun v82 => some v82)
theorem hf9 : Try.prog.funcs[9]? = some Try.f9 := by kernel_rfl
theorem w9 (k : Nat) {M : Mem} {Au0_1 Au0_2 : Option Addr} {cu0_1 cu0_2 : Nat} {Hu0_2 : Nat → Option Addr} {Cu0_2 : Nat → Nat} {u0_0 u2 u3 : Int} {u0_1 : List (List Int)} {u0_2 : List WT} {u1 : List Int} (hu0_1 : SlR M Au0_1 cu0_1 .i64 12 u0_1) (hu0_2 : SlW M 3 Au0_2 cu0_2 Hu0_2 Cu0_2 u0_2) (hu1 : u1.length = 6) {r} (h : p9 k u0_0 u0_1 u0_2 u1 u2 u3 = some r) :
  Fn Try.prog 9 [rval (.agg [oI u0_0,oS Au0_1 u0_1 cu0_1,oS Au0_2 u0_2 cu0_2]),rval (.agg [.arr .i64 6 u1]),rval (vi u2),rval (vi u3)] M (fun x _ => x = vb r) := by
 unfold p9 at h
 refine FO [.agg [oI u0_0,oS Au0_1 u0_1 cu0_1,oS Au0_2 u0_2 cu0_2],.agg [.arr .i64 6 u1],vi u2,vi u3] hf9 ⟨⟨rfl,⟨rfl,⟨rfl,trivial⟩⟩⟩,⟨⟨hu1,trivial⟩,⟨trivial,⟨trivial,trivial⟩⟩⟩⟩ fun w => ?_
 refine SQ0 (RG ?_)
 refine SG 3 (S4 [(2,vi u2),(3,vi u3),(4,lO 4),(5,lO 5)] [(4,[oI u0_0,oS Au0_1 u0_1 cu0_1,oS Au0_2 u0_2 cu0_2]),(5,[.arr .i64 6 u1])] [] M) ?_
 refine EN (SQ (SQ (RG ?_)))
 refine SS 4 [(2,vi u2),(3,vi u3),(4,lO 4),(5,lO 5),(20,.agg [oI u0_0,oS Au0_1 u0_1 cu0_1,oS Au0_2 u0_2 cu0_2]),(21,.agg [.arr .i64 6 u1]),(22,vi u2),(23,vi u3)] ?_
 obtain ⟨v1,c_v1,h⟩ := cl_some h
 refine AC 24 (vb v1) (w23 k hu0_1 hu0_2 hu1 c_v1) ?_
 refine SH 6 [(2,vi u2),(3,vi u3),(4,lO 4),(5,lO 5),(25,vb (!v1))] [(4,[oI u0_0,oS Au0_1 u0_1 cu0_1,oS Au0_2 u0_2 cu0_2]),(5,[.arr .i64 6 u1])] ?_
 refine EN ?_
 cases v1 with
 | true =>
  replace h := sp_t h
  refine CF ?_
  refine KS [(2,vi u2),(3,vi u3),(4,lO 4),(5,lO 5)] ?_
  refine SN (SQ (RG ?_))
  refine SS 4 [(2,vi u2),(3,vi u3),(4,lO 4),(5,lO 5),(28,.agg [oI u0_0,oS Au0_1 u0_1 cu0_1,oS Au0_2 u0_2 cu0_2]),(29,.agg [.arr .i64 6 u1]),(30,vi u2),(31,vi u3)] ?_
  obtain ⟨v2,v3,v4,v5,v6,c_v2,h⟩ := cl5_some h
  refine TI_of (i:=4) (by kernel_rfl) (TE_callR (d:=32) (f:=28) (args:=[rval (.agg [oI u0_0,oS Au0_1 u0_1 cu0_1,oS Au0_2 u0_2 cu0_2]),rval (.agg [.arr .i64 6 u1]),rval (vi u2),rval (vi u3)]) (by kernel_rfl) (by kernel_rfl) (w28 k hu0_1 hu0_2 hu1 c_v2) ?_)
  rintro _ M11 _ hM11 _ ⟨A7,c8,A9,c10,rfl,fA7,fA9⟩
  refine SG 11 (S4 [(2,vi u2),(3,vi u3),(4,lO 4),(5,lO 5),(9,lO 9),(10,vi v6)] [(4,[oI u0_0,oS Au0_1 u0_1 cu0_1,oS Au0_2 u0_2 cu0_2]),(5,[.arr .i64 6 u1]),(9,[oS A7 v2 c8,oS A9 v3 c10,oI v4,oI v5])] [] M11) ?_
  refine EN (SQ ?_)
  obtain ⟨j13,e_j13,h⟩ := jn_some h
  refine T_cut (c1:=(sub [1,1,1,0,0] Bd9)) (c2:=(sub [1,1,1,0,1] Bd9)) (fun s' => ∃ (b12 : Bool),Sub { σ := [(2,vi u2),(3,vi u3),(4,lO 4),(5,lO 5),(9,lO 9),(10,vi v6),(40,vb b12)],H := [(4,[oI u0_0,oS Au0_1 u0_1 cu0_1,oS Au0_2 u0_2 cu0_2]),(5,[.arr .i64 6 u1]),(9,[oS A7 v2 c8,oS A9 v3 c10,oI v4,oI v5])],V := [],M := M11,ds := [] } s' ∧ j13 b12 = some r) (by kernel_rfl) ?_ ?_
  ·refine RG ?_
   obtain ⟨b14,e_b14,h⟩ := lt_some h
   refine SG 3 (S4 [(2,vi u2),(3,vi u3),(4,lO 4),(5,lO 5),(9,lO 9),(10,vi v6),(37,vb b14)] [(4,[oI u0_0,oS Au0_1 u0_1 cu0_1,oS Au0_2 u0_2 cu0_2]),(5,[.arr .i64 6 u1]),(9,[oS A7 v2 c8,oS A9 v3 c10,oI v4,oI v5])] [] M11) ?_ (by subst e_b14;kernel_rfl)
   cases b14 with
   | true =>
    replace h := sp_t h
    obtain ⟨b15,e_b15,h⟩ := lt_some h
    refine SS 6 [(2,vi u2),(3,vi u3),(4,lO 4),(5,lO 5),(9,lO 9),(10,vi v6),(40,vb b15)] ?_ (by subst e_b15;kernel_rfl)
    refine EN ?_
    exact ⟨b15,keep_sub (ts:=[2,3,4,5,9,10,40]) (hs:=[4,5,9]) (vs:=[]) (by kernel_rfl),h⟩
   | false =>
    replace h := sp_f h
    refine SS 6 [(2,vi u2),(3,vi u3),(4,lO 4),(5,lO 5),(9,lO 9),(10,vi v6),(40,vb false)] ?_
    refine EN ?_
    exact ⟨false,keep_sub (ts:=[2,3,4,5,9,10,40]) (hs:=[4,5,9]) (vs:=[]) (by kernel_rfl),h⟩
  ·rintro s' ⟨b12,hsub,h⟩
   subst e_j13
   refine T_sub hsub ?_
   cases b12 with
   | true =>
    replace h := sp_t h
    refine CT ?_
    refine KG (S4 [] [] [] M11) ?_
    refine SQ (RG ?_)
    refine SS 1 [(8,vb false)] ?_
    refine EN (RT (thenQ_r ?_))
    obtain rfl := sj h
    exact FT (vb false) rfl
   | false =>
    replace h := sp_f h
    refine CF ?_
    refine KG (S4 [(2,vi u2),(3,vi u3),(4,lO 4),(5,lO 5),(9,lO 9),(10,vi v6)] [(4,[oI u0_0,oS Au0_1 u0_1 cu0_1,oS Au0_2 u0_2 cu0_2]),(5,[.arr .i64 6 u1]),(9,[oS A7 v2 c8,oS A9 v3 c10,oI v4,oI v5])] [] M11) ?_
    refine SN (SQ ?_)
    obtain ⟨g16,h⟩ := gd_some h
    obtain ⟨W17,e_W17,h⟩ := lt_some h
    obtain ⟨v21,c_v21,h⟩ := cl_some h
    refine T_draw' (id:=6) [5,6] [0,0,0,0,0,0,0,2] (by kernel_rfl) (by kernel_rfl) (by kernel_rfl) (by kernel_rfl) [(41,.agg [oI u0_0,oS Au0_1 u0_1 cu0_1,oS Au0_2 u0_2 cu0_2]),(42,vi u3),(43,vi u2),(44,lO 4),(45,vi u0_0)] (by kernel_rfl) ⟨⟨rfl,⟨rfl,⟨rfl,trivial⟩⟩⟩,⟨trivial,⟨trivial,⟨trivial,⟨trivial,trivial⟩⟩⟩⟩⟩ ?_
    refine Stage_te (stage_all' [0,1,2,3,4] [] (by kernel_rfl) (by subst e_W17;kernel_rfl) (by kernel_rfl) trivial) (TE_makeC (len2:=List.length W17) (d:=46) (e:=4) (sz:=1) (bytes:=1) (zs:=[.bool false]) (cs:=bools W17) (z:=u0_0) (by subst e_W17;kernel_rfl) (by kernel_rfl) g16.1 g16.2 rfl (rep_bools' e_W17) (by rw [e_W17,List.length_replicate]) ?_) 
    refine TL_turn (turn_pubV 46 (v:=⟨4,1,List.length W17,bools W17⟩) (by subst e_W17;kernel_rfl)) ?_
    rintro _ ⟨A18,c19,M20,rfl,hSA18,hcA18,-,hNA18,hM20⟩
    have fA18 : SlB M20 A18 c19 W17 := ⟨hSA18,hcA18⟩
    refine TL_nil (stageQ_of [] (by kernel_rfl) trivial ?_)
    refine Stage_te (stage_all' [0,1,2] [] (by kernel_rfl) (by subst e_W17;kernel_rfl) (by kernel_rfl) trivial) (TE_callR (d:=47) (f:=27) (args:=[rval (.agg [oI u0_0,oS Au0_1 u0_1 cu0_1,oS Au0_2 u0_2 cu0_2]),rval (vi u3),rval (vi (60 : Int)),rval (lS none ([] : List Int) 0),rval (vi u2),rval (lS A18 W17 c19)]) (by subst e_W17;kernel_rfl) (by subst e_W17;kernel_rfl) (w27 k ((hu0_1.le hM11).le hM20) ((hu0_2.le hM11).le hM20) (nilI _ _ _) fA18 c_v21) ?_) 
    rintro _ M26 _ hM26 _ ⟨A22,c23,H24,C25,rfl,fA22⟩
    refine TL_nil (stageQ_of [(11,lS A22 v21 c23)] (by kernel_rfl) ⟨trivial,trivial⟩ ?_)
    refine Stage_nil (stage_all' [7] [] (by kernel_rfl) (by subst e_W17;kernel_rfl) (by kernel_rfl) trivial) ?_
    refine thenQ_n ?_
    refine KG (S4 [(2,vi u2),(3,vi u3),(4,lO 4),(5,lO 5),(9,lO 9),(10,vi v6),(11,lS A22 v21 c23)] [(4,[oI u0_0,oS Au0_1 u0_1 cu0_1,oS Au0_2 u0_2 cu0_2]),(5,[.arr .i64 6 u1]),(9,[oS A7 v2 c8,oS A9 v3 c10,oI v4,oI v5])] [] M26) ?_ (by subst e_W17;kernel_rfl)
    refine SQ (SQ (RG ?_))
    refine SS 1 [(2,vi u2),(3,vi u3),(4,lO 4),(5,lO 5),(9,lO 9),(10,vi v6),(11,lS A22 v21 c23),(12,vi (0 : Int))] ?_
    refine EN ?_
    obtain ⟨j28,e_j28,h⟩ := jn_some h
    refine T_bcut (id:=0) (c1:=(sub [1,1,1,1,1,0,1,0] Bd9)) (fun s' => ∃ (M27 : Mem),Sub { σ := [(2,vi u2),(3,vi u3),(4,lO 4),(5,lO 5),(9,lO 9),(10,vi v6)],H := [(4,[oI u0_0,oS Au0_1 u0_1 cu0_1,oS Au0_2 u0_2 cu0_2]),(5,[.arr .i64 6 u1]),(9,[oS A7 v2 c8,oS A9 v3 c10,oI v4,oI v5])],V := [],M := M27,ds := [] } s' ∧ Mem.le M26 M27 ∧ j28 = some r) (by kernel_rfl) ?_ ?_
    ·refine T_loop (c1:=(sub [1,1,1,1,1,0,1,0,0] Bd9)) (by kernel_rfl) (fun n31 s' => ∃ (x29 : Int) (M30 : Mem),Sub { σ := [(2,vi u2),(3,vi u3),(4,lO 4),(5,lO 5),(9,lO 9),(10,vi v6),(11,lS A22 v21 c23),(12,vi x29)],H := [(4,[oI u0_0,oS Au0_1 u0_1 cu0_1,oS Au0_2 u0_2 cu0_2]),(5,[.arr .i64 6 u1]),(9,[oS A7 v2 c8,oS A9 v3 c10,oI v4,oI v5])],V := [],M := M30,ds := [] } s' ∧ Mem.le M26 M30 ∧ p9_l1 k u0_0 u0_1 u0_2 u1 j28 v4 v6 v21 n31 x29 = some r) (k:=k) ⟨(0 : Int),M26,keep_sub (ts:=[2,3,4,5,9,10,11,12]) (hs:=[4,5,9]) (vs:=[]) (by kernel_rfl),(Mem.le_refl _),h⟩ ?_
     rintro n31 s' ⟨x29,M30,hsub,hM30,h⟩
     cases n31 with
     | zero => rw [p9_l1] at h;cases h
     | succ n31 =>
      rw [p9_l1] at h
      refine T_sub hsub ?_
      refine SQ (SQ (RG ?_))
      obtain ⟨b32,e_b32,h⟩ := lt_some h
      refine SG 4 (S4 [(2,vi u2),(3,vi u3),(4,lO 4),(5,lO 5),(9,lO 9),(10,vi v6),(11,lS A22 v21 c23),(12,vi x29),(51,vb b32)] [(4,[oI u0_0,oS Au0_1 u0_1 cu0_1,oS Au0_2 u0_2 cu0_2]),(5,[.arr .i64 6 u1]),(9,[oS A7 v2 c8,oS A9 v3 c10,oI v4,oI v5])] [] M30) ?_ (by subst e_b32;kernel_rfl)
      refine EN ?_
      cases b32 with
      | true =>
       replace h := sp_t h
       refine CT ?_
       refine KS [(2,vi u2),(3,vi u3),(4,lO 4),(5,lO 5),(9,lO 9),(10,vi v6),(11,lS A22 v21 c23),(12,vi x29)] ?_
       refine SN (SQ (BK 1 (SQ ?_)))
       obtain ⟨g33,h⟩ := gd_some h
       obtain ⟨L34,e_L34,h⟩ := lt_some h
       have f_L34 : SlI M30 (H24 ((x29).toNat)) (C25 ((x29).toNat)) .i64 L34 := by rw [e_L34]; exact ((fA22.le hM30)).rows _ (toNat_lt g33)
       obtain ⟨v35,v36,v37,c_v35,h⟩ := cl3_some h
       refine T_draw' (id:=10) [6] [0,0,0,0,0,0,0,1,1,1,1,1,1,1] (by kernel_rfl) (by kernel_rfl) (by kernel_rfl) (by kernel_rfl) [(55,.agg [oI u0_0,oS Au0_1 u0_1 cu0_1,oS Au0_2 u0_2 cu0_2]),(56,.agg [.arr .i64 6 u1]),(57,lS A22 v21 c23),(58,vi x29),(59,.lf (.ep (.slice A22 (v21.length) c23) 1 ((x29).toNat) 0)),(60,lS (H24 ((x29).toNat)) L34 (C25 ((x29).toNat)))] (by kernel_rfl) ⟨⟨rfl,⟨rfl,⟨rfl,trivial⟩⟩⟩,⟨⟨hu1,trivial⟩,⟨trivial,⟨trivial,⟨trivial,⟨trivial,trivial⟩⟩⟩⟩⟩⟩ ?_
       refine Stage_te (stage_all' [0,1,2,3] [4,5] (by kernel_rfl) (by subst e_L34; kernel_rfl) (by kernel_rfl) ⟨QF_at (i:=4) (d:=59) (x:=.lf (.ep (.slice A22 (v21.length) c23) 1 ((x29).toNat) 0)) (show OpAt _ _ _ 4 59 _ from by exact At_idxSW (m:=0) (d:=59) (z:=x29) (by subst e_L34; kernel_rfl) g33 (fA22.le hM30)) (by kernel_rfl) (by subst e_L34; kernel_rfl),⟨QF_at (i:=5) (d:=60) (x:=lS (H24 ((x29).toNat)) L34 (C25 ((x29).toNat))) (show OpAt _ _ _ 5 60 _ from by rw [e_L34]; exact At_ldSW0 (m:=0) (d:=60) (q:=(x29).toNat) (by subst e_L34; kernel_rfl) (toNat_lt g33) (fA22.le hM30)) (by kernel_rfl) (by subst e_L34; kernel_rfl),trivial⟩⟩) (TE_callR (d:=61) (f:=31) (args:=[rval (.agg [oI u0_0,oS Au0_1 u0_1 cu0_1,oS Au0_2 u0_2 cu0_2]),rval (.agg [.arr .i64 6 u1]),rval (lS (H24 ((x29).toNat)) L34 (C25 ((x29).toNat)))]) (by subst e_L34; kernel_rfl) (by subst e_L34; kernel_rfl) (w31 k ((((hu0_1.le hM11).le hM20).le hM26).le hM30) ((((hu0_2.le hM11).le hM20).le hM26).le hM30) hu1 f_L34 c_v35) ?_) 
       rintro _ M40 _ hM40 _ ⟨A38,c39,rfl,fA38⟩
       refine TL_nil (stageQ_of [(54,.tup [(some (.v (.slice A38 (v35.length) c39)),[]),(some (.v (.int .i64 v36)),[]),(some (.v (.int .i64 v37)),[])]),(62,lS A38 v35 c39),(63,vi v36),(64,vi v37),(13,lS A38 v35 c39),(14,vi v36),(15,vi v37)] (by kernel_rfl) ⟨(by intro y hy; simp only [List.mem_cons,List.mem_nil_iff,or_false] at hy; rcases hy with rfl | rfl | rfl <;> exact trivial),⟨trivial,⟨trivial,⟨trivial,⟨trivial,⟨trivial,⟨trivial,trivial⟩⟩⟩⟩⟩⟩⟩ ?_)
       refine Stage_nil (stage_all' [7,8,9,10,11,12,13] [] (by kernel_rfl) (by subst e_L34;kernel_rfl) (by kernel_rfl) trivial) ?_
       refine thenQ_n ?_
       refine KG (S4 [(2,vi u2),(3,vi u3),(4,lO 4),(5,lO 5),(9,lO 9),(10,vi v6),(11,lS A22 v21 c23),(12,vi x29),(14,vi v36),(15,vi v37)] [(4,[oI u0_0,oS Au0_1 u0_1 cu0_1,oS Au0_2 u0_2 cu0_2]),(5,[.arr .i64 6 u1]),(9,[oS A7 v2 c8,oS A9 v3 c10,oI v4,oI v5])] [] M40) ?_ (by subst e_L34;kernel_rfl)
       obtain ⟨j42,e_j42,h⟩ := jn_some h
       refine T_cut (c1:=(sub [1,1,1,1,1,0,1,0,0,1,0,0,1,0] Bd9)) (c2:=(sub [1,1,1,1,1,0,1,0,0,1,0,0,1,1] Bd9)) (fun s' => ∃ (b41 : Bool),Sub { σ := [(2,vi u2),(3,vi u3),(4,lO 4),(5,lO 5),(9,lO 9),(10,vi v6),(11,lS A22 v21 c23),(12,vi x29),(91,vb b41)],H := [(4,[oI u0_0,oS Au0_1 u0_1 cu0_1,oS Au0_2 u0_2 cu0_2]),(5,[.arr .i64 6 u1]),(9,[oS A7 v2 c8,oS A9 v3 c10,oI v4,oI v5])],V := [],M := M40,ds := [] } s' ∧ j42 b41 = some r) (by kernel_rfl) ?_ ?_
       ·obtain ⟨b43,e_b43,h⟩ := lt_some h
        cases b43 with
        | true =>
         replace h := sp_t h
         obtain ⟨b44,e_b44,h⟩ := lt_some h
         cases b44 with
         | true =>
          replace h := sp_t h
          refine T_draw' (id:=11) [] [0,0,0,0,0,0,0,0,0,0,0,0,0,0,0,0,0,0,0,0,0,0,0,0,0,0,0] (by kernel_rfl) (by kernel_rfl) (by kernel_rfl) (by kernel_rfl) [(65,vi v37),(66,vb true),(67,vb true),(68,vi v6),(69,vb true),(70,vb true),(71,.tup []),(72,.tup []),(73,.tup []),(74,.tup []),(75,.tup []),(76,.tup []),(77,.tup []),(78,.tup []),(79,.tup []),(80,.tup []),(81,.tup []),(82,vb true),(83,vb true),(84,vb true),(85,.tup []),(86,.tup []),(87,.tup []),(88,.tup []),(89,.tup []),(90,.tup []),(91,vb true)] (by kernel_rfl) ⟨trivial,⟨trivial,⟨trivial,⟨trivial,⟨trivial,⟨trivial,⟨(by intro y hy;cases hy),⟨(by intro y hy;cases hy),⟨(by intro y hy;cases hy),⟨(by intro y hy;cases hy),⟨(by intro y hy;cases hy),⟨(by intro y hy;cases hy),⟨(by intro y hy;cases hy),⟨(by intro y hy;cases hy),⟨(by intro y hy;cases hy),⟨(by intro y hy;cases hy),⟨(by intro y hy;cases hy),⟨trivial,⟨trivial,⟨trivial,⟨(by intro y hy;cases hy),⟨(by intro y hy;cases hy),⟨(by intro y hy;cases hy),⟨(by intro y hy;cases hy),⟨(by intro y hy;cases hy),⟨(by intro y hy;cases hy),⟨trivial,trivial⟩⟩⟩⟩⟩⟩⟩⟩⟩⟩⟩⟩⟩⟩⟩⟩⟩⟩⟩⟩⟩⟩⟩⟩⟩⟩⟩ ?_
          refine Stage_nil (stage_all' [0,2,3,5,6,7,8,9,10,11,12,13,14,15,16,17,18,19,20,21,22,23,24,25,26] [1,4] (by kernel_rfl) (by kernel_rfl) (by kernel_rfl) ⟨QF_at (i:=1) (d:=66) (x:=vb true) (show OpAt _ _ _ 1 66 _ from by exact At_bin (d:=66) (b:=.eql) (u:=.int .i64 v37) (v:=.int .i64 (0 : Int)) (w':=.bool true) (by kernel_rfl) (by rw [show exBin .eql (.int .i64 v37) (.int .i64 (0 : Int)) = some (.bool (v37 == (0 : Int))) from by kernel_rfl,← e_b43])) (by kernel_rfl) (by kernel_rfl),⟨QF_at (i:=4) (d:=69) (x:=vb true) (show OpAt _ _ _ 4 69 _ from by exact At_bin (d:=69) (b:=.neq) (u:=.int .i64 v6) (v:=.int .i64 (0 : Int)) (w':=.bool true) (by kernel_rfl) (by rw [show exBin .neq (.int .i64 v6) (.int .i64 (0 : Int)) = some (.bool (v6 != (0 : Int))) from by kernel_rfl,← e_b44])) (by kernel_rfl) (by kernel_rfl),trivial⟩⟩) ?_
          refine thenQ_n ?_
          exact ⟨true,keep_sub (ts:=[2,3,4,5,9,10,11,12,91]) (hs:=[4,5,9]) (vs:=[]) (by kernel_rfl),h⟩
         | false =>
          replace h := sp_f h
          obtain ⟨g45,h⟩ := gd_some h
          obtain ⟨v46,c_v46,h⟩ := cl_some h
          obtain ⟨x47,e_x47,h⟩ := lt_some h
          obtain ⟨b48,e_b48,h⟩ := lt_some h
          cases b48 with
          | true =>
           replace h := sp_t h
           refine T_draw' (id:=11) [] [0,0,0,0,0,0,0,0,0,0,0,0,0,0,0,0,0,0,0,0,0,0,0,0,0,0,0] (by kernel_rfl) (by kernel_rfl) (by kernel_rfl) (by kernel_rfl) [(65,vi v37),(66,vb true),(67,vb true),(68,vi v6),(69,vb false),(70,vb false),(71,.agg [oI u0_0,oS Au0_1 u0_1 cu0_1,oS Au0_2 u0_2 cu0_2]),(72,lS A22 v21 c23),(73,vi x29),(74,.lf (.ep (.slice A22 (v21.length) c23) 1 ((x29).toNat) 0)),(75,lS (H24 ((x29).toNat)) L34 (C25 ((x29).toNat))),(76,vi v46),(77,vi v36),(78,vi x47),(79,.lf (.own 9 2)),(80,vi v4),(81,vb true),(82,vb true),(83,vb true),(84,vb true),(85,.tup []),(86,.tup []),(87,.tup []),(88,.tup []),(89,.tup []),(90,.tup []),(91,vb true)] (by kernel_rfl) ⟨trivial,⟨trivial,⟨trivial,⟨trivial,⟨trivial,⟨trivial,⟨⟨rfl,⟨rfl,⟨rfl,trivial⟩⟩⟩,⟨trivial,⟨trivial,⟨trivial,⟨trivial,⟨trivial,⟨trivial,⟨trivial,⟨trivial,⟨trivial,⟨trivial,⟨trivial,⟨trivial,⟨trivial,⟨(by intro y hy;cases hy),⟨(by intro y hy;cases hy),⟨(by intro y hy;cases hy),⟨(by intro y hy;cases hy),⟨(by intro y hy;cases hy),⟨(by intro y hy;cases hy),⟨trivial,trivial⟩⟩⟩⟩⟩⟩⟩⟩⟩⟩⟩⟩⟩⟩⟩⟩⟩⟩⟩⟩⟩⟩⟩⟩⟩⟩⟩ ?_
           refine Stage_nil (stage_all' [0,2,3,5,6,7,8,12,13,14,15,17,18,19,20,21,22,23,24,25,26] [1,4,9,10,11,16] (by kernel_rfl) (by subst e_x47; kernel_rfl) (by kernel_rfl) ⟨QF_at (i:=1) (d:=66) (x:=vb true) (show OpAt _ _ _ 1 66 _ from by exact At_bin (d:=66) (b:=.eql) (u:=.int .i64 v37) (v:=.int .i64 (0 : Int)) (w':=.bool true) (by subst e_x47; kernel_rfl) (by rw [show exBin .eql (.int .i64 v37) (.int .i64 (0 : Int)) = some (.bool (v37 == (0 : Int))) from by kernel_rfl,← e_b43])) (by kernel_rfl) (by subst e_x47; kernel_rfl),⟨QF_at (i:=4) (d:=69) (x:=vb false) (show OpAt _ _ _ 4 69 _ from by exact At_bin (d:=69) (b:=.neq) (u:=.int .i64 v6) (v:=.int .i64 (0 : Int)) (w':=.bool false) (by subst e_x47; kernel_rfl) (by rw [show exBin .neq (.int .i64 v6) (.int .i64 (0 : Int)) = some (.bool (v6 != (0 : Int))) from by kernel_rfl,← e_b44])) (by kernel_rfl) (by subst e_x47; kernel_rfl),⟨QF_at (i:=9) (d:=74) (x:=.lf (.ep (.slice A22 (v21.length) c23) 1 ((x29).toNat) 0)) (show OpAt _ _ _ 9 74 _ from by exact At_idxSW (m:=0) (d:=74) (z:=x29) (by subst e_x47; kernel_rfl) g45 ((fA22.le hM30).le hM40)) (by kernel_rfl) (by subst e_x47; kernel_rfl),⟨QF_at (i:=10) (d:=75) (x:=lS (H24 ((x29).toNat)) L34 (C25 ((x29).toNat))) (show OpAt _ _ _ 10 75 _ from by rw [e_L34]; exact At_ldSW0 (m:=0) (d:=75) (q:=(x29).toNat) (by subst e_x47; kernel_rfl) (toNat_lt g45) ((fA22.le hM30).le hM40)) (by kernel_rfl) (by subst e_x47; kernel_rfl),⟨QF_at (i:=11) (d:=76) (x:=vi v46) (show OpAt _ _ _ 11 76 _ from by exact At_call (d:=76) (f:=33) (args:=[rval (.agg [oI u0_0,oS Au0_1 u0_1 cu0_1,oS Au0_2 u0_2 cu0_2]),rval (lS (H24 ((x29).toNat)) L34 (C25 ((x29).toNat))),rval (lS none ([] : List Int) 0)]) (x:=vi v46) (by subst e_x47; kernel_rfl) (w33 k (((((hu0_1.le hM11).le hM20).le hM26).le hM30).le hM40) (((((hu0_2.le hM11).le hM20).le hM26).le hM30).le hM40) (f_L34.le hM40) (nilI _ _ _) c_v46)) (by kernel_rfl) (by subst e_x47; kernel_rfl),⟨QF_at (i:=16) (d:=81) (x:=vb true) (show OpAt _ _ _ 16 81 _ from by exact At_bin (d:=81) (b:=.lss) (u:=.int .i64 x47) (v:=.int .i64 v4) (w':=.bool true) (by subst e_x47; kernel_rfl) (by rw [show exBin .lss (.int .i64 x47) (.int .i64 v4) = some (.bool (decide (x47 < v4))) from by kernel_rfl,← e_b48])) (by kernel_rfl) (by subst e_x47; kernel_rfl),trivial⟩⟩⟩⟩⟩⟩) ?_
           refine thenQ_n ?_
           exact ⟨true,keep_sub (ts:=[2,3,4,5,9,10,11,12,91]) (hs:=[4,5,9]) (vs:=[]) (by subst e_x47;kernel_rfl),h⟩
          | false =>
           replace h := sp_f h
           obtain ⟨b49,e_b49,h⟩ := lt_some h
           cases b49 with
           | true =>
            replace h := sp_t h
            obtain ⟨b50,e_b50,h⟩ := lt_some h
            refine T_draw' (id:=11) [] [0,0,0,0,0,0,0,0,0,0,0,0,0,0,0,0,0,0,0,0,0,0,0,0,0,0,0] (by kernel_rfl) (by kernel_rfl) (by kernel_rfl) (by kernel_rfl) [(65,vi v37),(66,vb true),(67,vb true),(68,vi v6),(69,vb false),(70,vb false),(71,.agg [oI u0_0,oS Au0_1 u0_1 cu0_1,oS Au0_2 u0_2 cu0_2]),(72,lS A22 v21 c23),(73,vi x29),(74,.lf (.ep (.slice A22 (v21.length) c23) 1 ((x29).toNat) 0)),(75,lS (H24 ((x29).toNat)) L34 (C25 ((x29).toNat))),(76,vi v46),(77,vi v36),(78,vi x47),(79,.lf (.own 9 2)),(80,vi v4),(81,vb false),(82,vb false),(83,vb false),(84,vb false),(85,vi v37),(86,vb true),(87,vb true),(88,vi v37),(89,vb b50),(90,vb b50),(91,vb b50)] (by kernel_rfl) ⟨trivial,⟨trivial,⟨trivial,⟨trivial,⟨trivial,⟨trivial,⟨⟨rfl,⟨rfl,⟨rfl,trivial⟩⟩⟩,⟨trivial,⟨trivial,⟨trivial,⟨trivial,⟨trivial,⟨trivial,⟨trivial,⟨trivial,⟨trivial,⟨trivial,⟨trivial,⟨trivial,⟨trivial,⟨trivial,⟨trivial,⟨trivial,⟨trivial,⟨trivial,⟨trivial,⟨trivial,trivial⟩⟩⟩⟩⟩⟩⟩⟩⟩⟩⟩⟩⟩⟩⟩⟩⟩⟩⟩⟩⟩⟩⟩⟩⟩⟩⟩ ?_
            refine Stage_nil (stage_all' [0,2,3,5,6,7,8,12,13,14,15,17,18,19,20,22,23,24,25,26] [1,4,9,10,11,16,21] (by kernel_rfl) (by subst e_b50 e_x47; kernel_rfl) (by kernel_rfl) ⟨QF_at (i:=1) (d:=66) (x:=vb true) (show OpAt _ _ _ 1 66 _ from by exact At_bin (d:=66) (b:=.eql) (u:=.int .i64 v37) (v:=.int .i64 (0 : Int)) (w':=.bool true) (by subst e_b50 e_x47; kernel_rfl) (by rw [show exBin .eql (.int .i64 v37) (.int .i64 (0 : Int)) = some (.bool (v37 == (0 : Int))) from by kernel_rfl,← e_b43])) (by kernel_rfl) (by subst e_b50 e_x47; kernel_rfl),⟨QF_at (i:=4) (d:=69) (x:=vb false) (show OpAt _ _ _ 4 69 _ from by exact At_bin (d:=69) (b:=.neq) (u:=.int .i64 v6) (v:=.int .i64 (0 : Int)) (w':=.bool false) (by subst e_b50 e_x47; kernel_rfl) (by rw [show exBin .neq (.int .i64 v6) (.int .i64 (0 : Int)) = some (.bool (v6 != (0 : Int))) from by kernel_rfl,← e_b44])) (by kernel_rfl) (by subst e_b50 e_x47; kernel_rfl),⟨QF_at (i:=9) (d:=74) (x:=.lf (.ep (.slice A22 (v21.length) c23) 1 ((x29).toNat) 0)) (show OpAt _ _ _ 9 74 _ from by exact At_idxSW (m:=0) (d:=74) (z:=x29) (by subst e_b50 e_x47; kernel_rfl) g45 ((fA22.le hM30).le hM40)) (by kernel_rfl) (by subst e_b50 e_x47; kernel_rfl),⟨QF_at (i:=10) (d:=75) (x:=lS (H24 ((x29).toNat)) L34 (C25 ((x29).toNat))) (show OpAt _ _ _ 10 75 _ from by rw [e_L34]; exact At_ldSW0 (m:=0) (d:=75) (q:=(x29).toNat) (by subst e_b50 e_x47; kernel_rfl) (toNat_lt g45) ((fA22.le hM30).le hM40)) (by kernel_rfl) (by subst e_b50 e_x47; kernel_rfl),⟨QF_at (i:=11) (d:=76) (x:=vi v46) (show OpAt _ _ _ 11 76 _ from by exact At_call (d:=76) (f:=33) (args:=[rval (.agg [oI u0_0,oS Au0_1 u0_1 cu0_1,oS Au0_2 u0_2 cu0_2]),rval (lS (H24 ((x29).toNat)) L34 (C25 ((x29).toNat))),rval (lS none ([] : List Int) 0)]) (x:=vi v46) (by subst e_b50 e_x47; kernel_rfl) (w33 k (((((hu0_1.le hM11).le hM20).le hM26).le hM30).le hM40) (((((hu0_2.le hM11).le hM20).le hM26).le hM30).le hM40) (f_L34.le hM40) (nilI _ _ _) c_v46)) (by kernel_rfl) (by subst e_b50 e_x47; kernel_rfl),⟨QF_at (i:=16) (d:=81) (x:=vb false) (show OpAt _ _ _ 16 81 _ from by exact At_bin (d:=81) (b:=.lss) (u:=.int .i64 x47) (v:=.int .i64 v4) (w':=.bool false) (by subst e_b50 e_x47; kernel_rfl) (by rw [show exBin .lss (.int .i64 x47) (.int .i64 v4) = some (.bool (decide (x47 < v4))) from by kernel_rfl,← e_b48])) (by kernel_rfl) (by subst e_b50 e_x47; kernel_rfl),⟨QF_at (i:=21) (d:=86) (x:=vb true) (show OpAt _ _ _ 21 86 _ from by exact At_bin (d:=86) (b:=.neq) (u:=.int .i64 v37) (v:=.int .i64 (0 : Int)) (w':=.bool true) (by subst e_b50 e_x47; kernel_rfl) (by rw [show exBin .neq (.int .i64 v37) (.int .i64 (0 : Int)) = some (.bool (v37 != (0 : Int))) from by kernel_rfl,← e_b49])) (by kernel_rfl) (by subst e_b50 e_x47; kernel_rfl),trivial⟩⟩⟩⟩⟩⟩⟩) ?_
            refine thenQ_n ?_
            exact ⟨b50,keep_sub (ts:=[2,3,4,5,9,10,11,12,91]) (hs:=[4,5,9]) (vs:=[]) (by subst e_b50 e_x47;kernel_rfl),h⟩
           | false =>
            replace h := sp_f h
            refine T_draw' (id:=11) [] [0,0,0,0,0,0,0,0,0,0,0,0,0,0,0,0,0,0,0,0,0,0,0,0,0,0,0] (by kernel_rfl) (by kernel_rfl) (by kernel_rfl) (by kernel_rfl) [(65,vi v37),(66,vb true),(67,vb true),(68,vi v6),(69,vb false),(70,vb false),(71,.agg [oI u0_0,oS Au0_1 u0_1 cu0_1,oS Au0_2 u0_2 cu0_2]),(72,lS A22 v21 c23),(73,vi x29),(74,.lf (.ep (.slice A22 (v21.length) c23) 1 ((x29).toNat) 0)),(75,lS (H24 ((x29).toNat)) L34 (C25 ((x29).toNat))),(76,vi v46),(77,vi v36),(78,vi x47),(79,.lf (.own 9 2)),(80,vi v4),(81,vb false),(82,vb false),(83,vb false),(84,vb false),(85,vi v37),(86,vb false),(87,vb false),(88,.tup []),(89,.tup []),(90,vb false),(91,vb false)] (by kernel_rfl) ⟨trivial,⟨trivial,⟨trivial,⟨trivial,⟨trivial,⟨trivial,⟨⟨rfl,⟨rfl,⟨rfl,trivial⟩⟩⟩,⟨trivial,⟨trivial,⟨trivial,⟨trivial,⟨trivial,⟨trivial,⟨trivial,⟨trivial,⟨trivial,⟨trivial,⟨trivial,⟨trivial,⟨trivial,⟨trivial,⟨trivial,⟨trivial,⟨(by intro y hy;cases hy),⟨(by intro y hy;cases hy),⟨trivial,⟨trivial,trivial⟩⟩⟩⟩⟩⟩⟩⟩⟩⟩⟩⟩⟩⟩⟩⟩⟩⟩⟩⟩⟩⟩⟩⟩⟩⟩⟩ ?_
            refine Stage_nil (stage_all' [0,2,3,5,6,7,8,12,13,14,15,17,18,19,20,22,23,24,25,26] [1,4,9,10,11,16,21] (by kernel_rfl) (by subst e_x47; kernel_rfl) (by kernel_rfl) ⟨QF_at (i:=1) (d:=66) (x:=vb true) (show OpAt _ _ _ 1 66 _ from by exact At_bin (d:=66) (b:=.eql) (u:=.int .i64 v37) (v:=.int .i64 (0 : Int)) (w':=.bool true) (by subst e_x47; kernel_rfl) (by rw [show exBin .eql (.int .i64 v37) (.int .i64 (0 : Int)) = some (.bool (v37 == (0 : Int))) from by kernel_rfl,← e_b43])) (by kernel_rfl) (by subst e_x47; kernel_rfl),⟨QF_at (i:=4) (d:=69) (x:=vb false) (show OpAt _ _ _ 4 69 _ from by exact At_bin (d:=69) (b:=.neq) (u:=.int .i64 v6) (v:=.int .i64 (0 : Int)) (w':=.bool false) (by subst e_x47; kernel_rfl) (by rw [show exBin .neq (.int .i64 v6) (.int .i64 (0 : Int)) = some (.bool (v6 != (0 : Int))) from by kernel_rfl,← e_b44])) (by kernel_rfl) (by subst e_x47; kernel_rfl),⟨QF_at (i:=9) (d:=74) (x:=.lf (.ep (.slice A22 (v21.length) c23) 1 ((x29).toNat) 0)) (show OpAt _ _ _ 9 74 _ from by exact At_idxSW (m:=0) (d:=74) (z:=x29) (by subst e_x47; kernel_rfl) g45 ((fA22.le hM30).le hM40)) (by kernel_rfl) (by subst e_x47; kernel_rfl),⟨QF_at (i:=10) (d:=75) (x:=lS (H24 ((x29).toNat)) L34 (C25 ((x29).toNat))) (show OpAt _ _ _ 10 75 _ from by rw [e_L34]; exact At_ldSW0 (m:=0) (d:=75) (q:=(x29).toNat) (by subst e_x47; kernel_rfl) (toNat_lt g45) ((fA22.le hM30).le hM40)) (by kernel_rfl) (by subst e_x47; kernel_rfl),⟨QF_at (i:=11) (d:=76) (x:=vi v46) (show OpAt _ _ _ 11 76 _ from by exact At_call (d:=76) (f:=33) (args:=[rval (.agg [oI u0_0,oS Au0_1 u0_1 cu0_1,oS Au0_2 u0_2 cu0_2]),rval (lS (H24 ((x29).toNat)) L34 (C25 ((x29).toNat))),rval (lS none ([] : List Int) 0)]) (x:=vi v46) (by subst e_x47; kernel_rfl) (w33 k (((((hu0_1.le hM11).le hM20).le hM26).le hM30).le hM40) (((((hu0_2.le hM11).le hM20).le hM26).le hM30).le hM40) (f_L34.le hM40) (nilI _ _ _) c_v46)) (by kernel_rfl) (by subst e_x47; kernel_rfl),⟨QF_at (i:=16) (d:=81) (x:=vb false) (show OpAt _ _ _ 16 81 _ from by exact At_bin (d:=81) (b:=.lss) (u:=.int .i64 x47) (v:=.int .i64 v4) (w':=.bool false) (by subst e_x47; kernel_rfl) (by rw [show exBin .lss (.int .i64 x47) (.int .i64 v4) = some (.bool (decide (x47 < v4))) from by kernel_rfl,← e_b48])) (by kernel_rfl) (by subst e_x47; kernel_rfl),⟨QF_at (i:=21) (d:=86) (x:=vb false) (show OpAt _ _ _ 21 86 _ from by exact At_bin (d:=86) (b:=.neq) (u:=.int .i64 v37) (v:=.int .i64 (0 : Int)) (w':=.bool false) (by subst e_x47; kernel_rfl) (by rw [show exBin .neq (.int .i64 v37) (.int .i64 (0 : Int)) = some (.bool (v37 != (0 : Int))) from by kernel_rfl,← e_b49])) (by kernel_rfl) (by subst e_x47; kernel_rfl),trivial⟩⟩⟩⟩⟩⟩⟩) ?_
            refine thenQ_n ?_
            exact ⟨false,keep_sub (ts:=[2,3,4,5,9,10,11,12,91]) (hs:=[4,5,9]) (vs:=[]) (by subst e_x47;kernel_rfl),h⟩
        | false =>
         replace h := sp_f h
         obtain ⟨b51,e_b51,h⟩ := lt_some h
         cases b51 with
         | true =>
          replace h := sp_t h
          obtain ⟨b52,e_b52,h⟩ := lt_some h
          refine T_draw' (id:=11) [] [0,0,0,0,0,0,0,0,0,0,0,0,0,0,0,0,0,0,0,0,0,0,0,0,0,0,0] (by kernel_rfl) (by kernel_rfl) (by kernel_rfl) (by kernel_rfl) [(65,vi v37),(66,vb false),(67,vb false),(68,.tup []),(69,.tup []),(70,.tup []),(71,.tup []),(72,.tup []),(73,.tup []),(74,.tup []),(75,.tup []),(76,.tup []),(77,.tup []),(78,.tup []),(79,.tup []),(80,.tup []),(81,.tup []),(82,.tup []),(83,vb false),(84,vb false),(85,vi v37),(86,vb true),(87,vb true),(88,vi v37),(89,vb b52),(90,vb b52),(91,vb b52)] (by kernel_rfl) ⟨trivial,⟨trivial,⟨trivial,⟨(by intro y hy;cases hy),⟨(by intro y hy;cases hy),⟨(by intro y hy;cases hy),⟨(by intro y hy;cases hy),⟨(by intro y hy;cases hy),⟨(by intro y hy;cases hy),⟨(by intro y hy;cases hy),⟨(by intro y hy;cases hy),⟨(by intro y hy;cases hy),⟨(by intro y hy;cases hy),⟨(by intro y hy;cases hy),⟨(by intro y hy;cases hy),⟨(by intro y hy;cases hy),⟨(by intro y hy;cases hy),⟨(by intro y hy;cases hy),⟨trivial,⟨trivial,⟨trivial,⟨trivial,⟨trivial,⟨trivial,⟨trivial,⟨trivial,⟨trivial,trivial⟩⟩⟩⟩⟩⟩⟩⟩⟩⟩⟩⟩⟩⟩⟩⟩⟩⟩⟩⟩⟩⟩⟩⟩⟩⟩⟩ ?_
          refine Stage_nil (stage_all' [0,2,3,4,5,6,7,8,9,10,11,12,13,14,15,16,17,18,19,20,22,23,24,25,26] [1,21] (by kernel_rfl) (by subst e_b52;kernel_rfl) (by kernel_rfl) ⟨QF_at (i:=1) (d:=66) (x:=vb false) (show OpAt _ _ _ 1 66 _ from by exact At_bin (d:=66) (b:=.eql) (u:=.int .i64 v37) (v:=.int .i64 (0 : Int)) (w':=.bool false) (by subst e_b52;kernel_rfl) (by rw [show exBin .eql (.int .i64 v37) (.int .i64 (0 : Int)) = some (.bool (v37 == (0 : Int))) from by kernel_rfl,← e_b43])) (by kernel_rfl) (by subst e_b52;kernel_rfl),⟨QF_at (i:=21) (d:=86) (x:=vb true) (show OpAt _ _ _ 21 86 _ from by exact At_bin (d:=86) (b:=.neq) (u:=.int .i64 v37) (v:=.int .i64 (0 : Int)) (w':=.bool true) (by subst e_b52;kernel_rfl) (by rw [show exBin .neq (.int .i64 v37) (.int .i64 (0 : Int)) = some (.bool (v37 != (0 : Int))) from by kernel_rfl,← e_b51])) (by kernel_rfl) (by subst e_b52;kernel_rfl),trivial⟩⟩) ?_
          refine thenQ_n ?_
          exact ⟨b52,keep_sub (ts:=[2,3,4,5,9,10,11,12,91]) (hs:=[4,5,9]) (vs:=[]) (by subst e_b52;kernel_rfl),h⟩
         | false =>
          replace h := sp_f h
          refine T_draw' (id:=11) [] [0,0,0,0,0,0,0,0,0,0,0,0,0,0,0,0,0,0,0,0,0,0,0,0,0,0,0] (by kernel_rfl) (by kernel_rfl) (by kernel_rfl) (by kernel_rfl) [(65,vi v37),(66,vb false),(67,vb false),(68,.tup []),(69,.tup []),(70,.tup []),(71,.tup []),(72,.tup []),(73,.tup []),(74,.tup []),(75,.tup []),(76,.tup []),(77,.tup []),(78,.tup []),(79,.tup []),(80,.tup []),(81,.tup []),(82,.tup []),(83,vb false),(84,vb false),(85,vi v37),(86,vb false),(87,vb false),(88,.tup []),(89,.tup []),(90,vb false),(91,vb false)] (by kernel_rfl) ⟨trivial,⟨trivial,⟨trivial,⟨(by intro y hy;cases hy),⟨(by intro y hy;cases hy),⟨(by intro y hy;cases hy),⟨(by intro y hy;cases hy),⟨(by intro y hy;cases hy),⟨(by intro y hy;cases hy),⟨(by intro y hy;cases hy),⟨(by intro y hy;cases hy),⟨(by intro y hy;cases hy),⟨(by intro y hy;cases hy),⟨(by intro y hy;cases hy),⟨(by intro y hy;cases hy),⟨(by intro y hy;cases hy),⟨(by intro y hy;cases hy),⟨(by intro y hy;cases hy),⟨trivial,⟨trivial,⟨trivial,⟨trivial,⟨trivial,⟨(by intro y hy;cases hy),⟨(by intro y hy;cases hy),⟨trivial,⟨trivial,trivial⟩⟩⟩⟩⟩⟩⟩⟩⟩⟩⟩⟩⟩⟩⟩⟩⟩⟩⟩⟩⟩⟩⟩⟩⟩⟩⟩ ?_
          refine Stage_nil (stage_all' [0,2,3,4,5,6,7,8,9,10,11,12,13,14,15,16,17,18,19,20,22,23,24,25,26] [1,21] (by kernel_rfl) (by kernel_rfl) (by kernel_rfl) ⟨QF_at (i:=1) (d:=66) (x:=vb false) (show OpAt _ _ _ 1 66 _ from by exact At_bin (d:=66) (b:=.eql) (u:=.int .i64 v37) (v:=.int .i64 (0 : Int)) (w':=.bool false) (by kernel_rfl) (by rw [show exBin .eql (.int .i64 v37) (.int .i64 (0 : Int)) = some (.bool (v37 == (0 : Int))) from by kernel_rfl,← e_b43])) (by kernel_rfl) (by kernel_rfl),⟨QF_at (i:=21) (d:=86) (x:=vb false) (show OpAt _ _ _ 21 86 _ from by exact At_bin (d:=86) (b:=.neq) (u:=.int .i64 v37) (v:=.int .i64 (0 : Int)) (w':=.bool false) (by kernel_rfl) (by rw [show exBin .neq (.int .i64 v37) (.int .i64 (0 : Int)) = some (.bool (v37 != (0 : Int))) from by kernel_rfl,← e_b51])) (by kernel_rfl) (by kernel_rfl),trivial⟩⟩) ?_
          refine thenQ_n ?_
          exact ⟨false,keep_sub (ts:=[2,3,4,5,9,10,11,12,91]) (hs:=[4,5,9]) (vs:=[]) (by kernel_rfl),h⟩
       ·rintro s' ⟨b41,hsub,h⟩
        subst e_j42
        refine T_sub hsub ?_
        cases b41 with
        | true =>
         replace h := sp_t h
         refine CT ?_
         refine KG (S4 [] [] [] M40) ?_
         refine SQ (RG ?_)
         refine SS 1 [(8,vb false)] ?_
         refine EN (RT (blockQ_r (thenQ_r (thenQ_r (blockQ_r (thenQ_r (thenQ_r ?_)))))))
         obtain rfl := sj h
         exact FT (vb false) rfl
        | false =>
         replace h := sp_f h
         refine CF ?_
         refine KG (S4 [(2,vi u2),(3,vi u3),(4,lO 4),(5,lO 5),(9,lO 9),(10,vi v6),(11,lS A22 v21 c23),(12,vi x29)] [(4,[oI u0_0,oS Au0_1 u0_1 cu0_1,oS Au0_2 u0_2 cu0_2]),(5,[.arr .i64 6 u1]),(9,[oS A7 v2 c8,oS A9 v3 c10,oI v4,oI v5])] [] M40) ?_
         refine S0 (blockQ_n (thenQ_n (RG ?_)))
         obtain ⟨x53,e_x53,h⟩ := lt_some h
         refine SS 3 [(2,vi u2),(3,vi u3),(4,lO 4),(5,lO 5),(9,lO 9),(10,vi v6),(11,lS A22 v21 c23),(12,vi x53)] ?_ (by subst e_x53;kernel_rfl)
         refine EN ?_
         exact ⟨n31,Nat.lt_succ_self _,x53,M40,keep_sub (ts:=[2,3,4,5,9,10,11,12]) (hs:=[4,5,9]) (vs:=[]) (by kernel_rfl),(Mem.le_trans (Mem.le_trans (Mem.le_refl _) hM30) hM40),h⟩
      | false =>
       replace h := sp_f h
       refine CF ?_
       refine KS [(2,vi u2),(3,vi u3),(4,lO 4),(5,lO 5),(9,lO 9),(10,vi v6)] ?_
       refine XI 0 (thenQ_x (thenQ_x (blockQ_x (thenQ_n ?_))))
       exact ⟨M30,keep_sub (ts:=[2,3,4,5,9,10]) (hs:=[4,5,9]) (vs:=[]) (by kernel_rfl),(Mem.le_trans (Mem.le_refl _) hM30),h⟩
    ·rintro s' ⟨M27,hsub,hM27,h⟩
     subst e_j28
     refine thenQ_n ?_
     refine T_sub hsub ?_
     refine SQ (SQ (RG ?_))
     obtain ⟨b54,e_b54,h⟩ := lt_some h
     refine SG 2 (S4 [(2,vi u2),(3,vi u3),(4,lO 4),(5,lO 5),(9,lO 9),(93,vb b54)] [(4,[oI u0_0,oS Au0_1 u0_1 cu0_1,oS Au0_2 u0_2 cu0_2]),(5,[.arr .i64 6 u1]),(9,[oS A7 v2 c8,oS A9 v3 c10,oI v4,oI v5])] [] M27) ?_ (by subst e_b54;kernel_rfl)
     refine EN ?_
     cases b54 with
     | true =>
      replace h := sp_t h
      refine CT ?_
      refine KP [] [] [] ?_
      refine SQ (RG ?_)
      obtain ⟨v55,c_v55,h⟩ := cl_some h
      refine AC 94 (vb v55) (w14 k  c_v55) ?_
      refine SH 2 [(8,vb v55)] [] ?_
      refine EN (RT (thenQ_r ?_))
      obtain rfl := sj h
      exact FT (vb v55) rfl
     | false =>
      replace h := sp_f h
      refine CF ?_
      refine KS [(2,vi u2),(3,vi u3),(4,lO 4),(5,lO 5),(9,lO 9)] ?_
      refine SN (SQ ?_)
      obtain ⟨j57,e_j57,h⟩ := jn_some h
      refine T_cut (c1:=(sub [1,1,1,1,1,1,1,0,0] Bd9)) (c2:=(sub [1,1,1,1,1,1,1,0,1] Bd9)) (fun s' => ∃ (b56 : Bool),Sub { σ := [(2,vi u2),(3,vi u3),(4,lO 4),(5,lO 5),(9,lO 9),(110,vb b56)],H := [(4,[oI u0_0,oS Au0_1 u0_1 cu0_1,oS Au0_2 u0_2 cu0_2]),(5,[.arr .i64 6 u1]),(9,[oS A7 v2 c8,oS A9 v3 c10,oI v4,oI v5])],V := [],M := M27,ds := [] } s' ∧ j57 b56 = some r) (by kernel_rfl) ?_ ?_
      ·refine RG ?_
       refine SG 5 (S4 [(2,vi u2),(3,vi u3),(4,lO 4),(5,lO 5),(9,lO 9),(96,lS A7 v2 c8),(99,vi (u0_1.length : Int))] [(4,[oI u0_0,oS Au0_1 u0_1 cu0_1,oS Au0_2 u0_2 cu0_2]),(5,[.arr .i64 6 u1]),(9,[oS A7 v2 c8,oS A9 v3 c10,oI v4,oI v5])] [] M27) ?_
       obtain ⟨v58,c_v58,h⟩ := cl_some h
       refine AC 100 (vb v58) (w30 k (((fA7.le hM20).le hM26).le hM27) c_v58) ?_
       refine SH 8 [(2,vi u2),(3,vi u3),(4,lO 4),(5,lO 5),(9,lO 9),(102,vb (!v58))] [(4,[oI u0_0,oS Au0_1 u0_1 cu0_1,oS Au0_2 u0_2 cu0_2]),(5,[.arr .i64 6 u1]),(9,[oS A7 v2 c8,oS A9 v3 c10,oI v4,oI v5])] ?_
       cases v58 with
       | true =>
        replace h := sp_t h
        refine SS 13 [(2,vi u2),(3,vi u3),(4,lO 4),(5,lO 5),(9,lO 9),(102,vb false),(104,lS A9 v3 c10),(107,vi (u0_2.length : Int))] ?_
        obtain ⟨v59,c_v59,h⟩ := cl_some h
        refine AC 108 (vb v59) (w30 k (((fA9.le hM20).le hM26).le hM27) c_v59) ?_
        refine SH 16 [(2,vi u2),(3,vi u3),(4,lO 4),(5,lO 5),(9,lO 9),(110,vb (!v59))] [(4,[oI u0_0,oS Au0_1 u0_1 cu0_1,oS Au0_2 u0_2 cu0_2]),(5,[.arr .i64 6 u1]),(9,[oS A7 v2 c8,oS A9 v3 c10,oI v4,oI v5])] ?_
        refine EN ?_
        exact ⟨(!v59),keep_sub (ts:=[2,3,4,5,9,110]) (hs:=[4,5,9]) (vs:=[]) (by kernel_rfl),h⟩
       | false =>
        replace h := sp_f h
        refine SS 16 [(2,vi u2),(3,vi u3),(4,lO 4),(5,lO 5),(9,lO 9),(110,vb true)] ?_
        refine EN ?_
        exact ⟨true,keep_sub (ts:=[2,3,4,5,9,110]) (hs:=[4,5,9]) (vs:=[]) (by kernel_rfl),h⟩
      ·rintro s' ⟨b56,hsub,h⟩
       subst e_j57
       refine T_sub hsub ?_
       cases b56 with
       | true =>
        replace h := sp_t h
        refine CT ?_
        refine KG (S4 [] [] [] M27) ?_
        refine SQ (RG ?_)
        refine SS 1 [(8,vb false)] ?_
        refine EN (RT (thenQ_r ?_))
        obtain rfl := sj h
        exact FT (vb false) rfl
       | false =>
        replace h := sp_f h
        refine CF ?_
        refine KG (S4 [(2,vi u2),(3,vi u3),(4,lO 4),(5,lO 5),(9,lO 9)] [(4,[oI u0_0,oS Au0_1 u0_1 cu0_1,oS Au0_2 u0_2 cu0_2]),(5,[.arr .i64 6 u1]),(9,[oS A7 v2 c8,oS A9 v3 c10,oI v4,oI v5])] [] M27) ?_
        refine SN (SQ (RG ?_))
        refine SS 1 [(2,vi u2),(3,vi u3),(4,lO 4),(5,lO 5),(9,lO 9),(16,vi (0 : Int))] ?_
        refine EN (SQ (SQ (RG ?_)))
        refine SS 1 [(2,vi u2),(3,vi u3),(4,lO 4),(5,lO 5),(9,lO 9),(16,vi (0 : Int)),(17,vi (0 : Int))] ?_
        refine EN ?_
        obtain ⟨j61,e_j61,h⟩ := jn_some h
        refine T_bcut (id:=2) (c1:=(sub [1,1,1,1,1,1,1,1,1,0,1,0] Bd9)) (fun s' => ∃ (x60 : Int),Sub { σ := [(2,vi u2),(3,vi u3),(4,lO 4),(5,lO 5),(9,lO 9),(16,vi x60)],H := [(4,[oI u0_0,oS Au0_1 u0_1 cu0_1,oS Au0_2 u0_2 cu0_2]),(5,[.arr .i64 6 u1]),(9,[oS A7 v2 c8,oS A9 v3 c10,oI v4,oI v5])],V := [],M := M27,ds := [] } s' ∧ j61 x60 = some r) (by kernel_rfl) ?_ ?_
        ·refine T_loop (c1:=(sub [1,1,1,1,1,1,1,1,1,0,1,0,0] Bd9)) (by kernel_rfl) (fun n64 s' => ∃ (x62 : Int) (x63 : Int),Sub { σ := [(2,vi u2),(3,vi u3),(4,lO 4),(5,lO 5),(9,lO 9),(16,vi x62),(17,vi x63)],H := [(4,[oI u0_0,oS Au0_1 u0_1 cu0_1,oS Au0_2 u0_2 cu0_2]),(5,[.arr .i64 6 u1]),(9,[oS A7 v2 c8,oS A9 v3 c10,oI v4,oI v5])],V := [],M := M27,ds := [] } s' ∧ p9_l2 k u0_1 j61 v2 n64 x62 x63 = some r) (k:=k) ⟨(0 : Int),(0 : Int),keep_sub (ts:=[2,3,4,5,9,16,17]) (hs:=[4,5,9]) (vs:=[]) (by kernel_rfl),h⟩ ?_
         rintro n64 s' ⟨x62,x63,hsub,h⟩
         cases n64 with
         | zero => rw [p9_l2] at h;cases h
         | succ n64 =>
          rw [p9_l2] at h
          refine T_sub hsub ?_
          refine SQ (SQ (RG ?_))
          obtain ⟨b65,e_b65,h⟩ := lt_some h
          refine SG 5 (S4 [(2,vi u2),(3,vi u3),(4,lO 4),(5,lO 5),(9,lO 9),(16,vi x62),(17,vi x63),(115,vb b65)] [(4,[oI u0_0,oS Au0_1 u0_1 cu0_1,oS Au0_2 u0_2 cu0_2]),(5,[.arr .i64 6 u1]),(9,[oS A7 v2 c8,oS A9 v3 c10,oI v4,oI v5])] [] M27) ?_ (by subst e_b65;kernel_rfl)
          refine EN ?_
          cases b65 with
          | true =>
           replace h := sp_t h
           refine CT ?_
           refine KS [(2,vi u2),(3,vi u3),(4,lO 4),(5,lO 5),(9,lO 9),(16,vi x62),(17,vi x63)] ?_
           refine SN (SQ (BK 3 ?_))
           obtain ⟨g66,h⟩ := gd_some h
           obtain ⟨x67,e_x67,h⟩ := lt_some h
           obtain ⟨g68,h⟩ := gd_some h
           obtain ⟨x69,e_x69,h⟩ := lt_some h
           obtain ⟨x70,e_x70,h⟩ := lt_some h
           refine T_draw' (id:=21) [12] [0,0,0,0,0,0,0,0,0,0,0,0,0] (by kernel_rfl) (by kernel_rfl) (by kernel_rfl) (by kernel_rfl) [(118,vi x62),(119,.lf (.own 4 1)),(120,lS Au0_1 u0_1 cu0_1),(121,lO 9),(122,lS A7 v2 c8),(123,vi x63),(124,.lf (.ep (.slice A7 (v2.length) c8) 1 ((x63).toNat) 0)),(125,vi x67),(126,.lf (.ep (.slice Au0_1 (u0_1.length) cu0_1) 12 ((x67).toNat) 0)),(127,.lf (.ep (.slice Au0_1 (u0_1.length) cu0_1) 12 ((x67).toNat) 3)),(128,vi x69),(129,vi x70)] (by kernel_rfl) (wfs_lf _ (by kernel_rfl)) ?_
           refine Stage_ex (stage_all' [0,1,2,3,4,5,9,11] [6,7,8,10] (by kernel_rfl) (by subst_vars; kernel_rfl) (by kernel_rfl) ⟨QF_at (i:=6) (d:=124) (x:=.lf (.ep (.slice A7 (v2.length) c8) 1 ((x63).toNat) 0)) (show OpAt _ _ _ 6 124 _ from by exact At_idxI (d:=124) (z:=x63) (by subst_vars; kernel_rfl) g66 (((fA7.le hM20).le hM26).le hM27)) (by kernel_rfl) (by subst_vars; kernel_rfl),⟨QF_at (i:=7) (d:=125) (x:=vi x67) (show OpAt _ _ _ 7 125 _ from by rw [e_x67]; exact At_ldI (d:=125) (q:=(x63).toNat) (by subst_vars; kernel_rfl) (toNat_lt g66) (((fA7.le hM20).le hM26).le hM27)) (by kernel_rfl) (by subst_vars; kernel_rfl),⟨QF_at (i:=8) (d:=126) (x:=.lf (.ep (.slice Au0_1 (u0_1.length) cu0_1) 12 ((x67).toNat) 0)) (show OpAt _ _ _ 8 126 _ from by exact At_idxR (d:=126) (z:=x67) (by subst_vars; kernel_rfl) g68 ((((hu0_1.le hM11).le hM20).le hM26).le hM27)) (by kernel_rfl) (by subst_vars; kernel_rfl),⟨QF_at (i:=10) (d:=128) (x:=vi x69) (show OpAt _ _ _ 10 128 _ from by rw [e_x69]; exact At_ldR1 (d:=128) (q:=(x67).toNat) (j:=3) (by subst_vars; kernel_rfl) rfl (toNat_lt g68) ((((hu0_1.le hM11).le hM20).le hM26).le hM27)) (by kernel_rfl) (by subst_vars; kernel_rfl),trivial⟩⟩⟩⟩) ({ σ := [(16,vi x70),(118,vi x62),(119,.lf (.own 4 1)),(120,lS Au0_1 u0_1 cu0_1),(121,lO 9),(122,lS A7 v2 c8),(123,vi x63),(124,.lf (.ep (.slice A7 (v2.length) c8) 1 ((x63).toNat) 0)),(125,vi x67),(126,.lf (.ep (.slice Au0_1 (u0_1.length) cu0_1) 12 ((x67).toNat) 0)),(127,.lf (.ep (.slice Au0_1 (u0_1.length) cu0_1) 12 ((x67).toNat) 3)),(128,vi x69),(129,vi x70),(2,vi u2),(3,vi u3),(4,lO 4),(5,lO 5),(9,lO 9),(16,vi x62),(17,vi x63)],H := [(4,[oI u0_0,oS Au0_1 u0_1 cu0_1,oS Au0_2 u0_2 cu0_2]),(5,[.arr .i64 6 u1]),(9,[oS A7 v2 c8,oS A9 v3 c10,oI v4,oI v5])],V := [],M := M27,ds := [] }) (by subst_vars; kernel_rfl) [] (by kernel_rfl) trivial ?_
           refine Stage_nil (stage_all' [] [] (by kernel_rfl) (by subst_vars;kernel_rfl) (by kernel_rfl) trivial) ?_
           refine blockQ_n (thenQ_n ?_)
           refine KG (S4 [(2,vi u2),(3,vi u3),(4,lO 4),(5,lO 5),(9,lO 9),(16,vi x70),(17,vi x63)] [(4,[oI u0_0,oS Au0_1 u0_1 cu0_1,oS Au0_2 u0_2 cu0_2]),(5,[.arr .i64 6 u1]),(9,[oS A7 v2 c8,oS A9 v3 c10,oI v4,oI v5])] [] M27) ?_ (by subst_vars;kernel_rfl)
           refine RG ?_
           obtain ⟨x71,e_x71,h⟩ := lt_some h
           refine SS 3 [(2,vi u2),(3,vi u3),(4,lO 4),(5,lO 5),(9,lO 9),(16,vi x70),(17,vi x71)] ?_ (by subst e_x71;kernel_rfl)
           refine EN ?_
           exact ⟨n64,Nat.lt_succ_self _,x70,x71,keep_sub (ts:=[2,3,4,5,9,16,17]) (hs:=[4,5,9]) (vs:=[]) (by kernel_rfl),h⟩
          | false =>
           replace h := sp_f h
           refine CF ?_
           refine KS [(2,vi u2),(3,vi u3),(4,lO 4),(5,lO 5),(9,lO 9),(16,vi x62)] ?_
           refine XI 2 (thenQ_x (thenQ_x (blockQ_x (thenQ_n ?_))))
           exact ⟨x62,keep_sub (ts:=[2,3,4,5,9,16]) (hs:=[4,5,9]) (vs:=[]) (by kernel_rfl),h⟩
        ·rintro s' ⟨x60,hsub,h⟩
         subst e_j61
         refine thenQ_n ?_
         refine T_sub hsub ?_
         refine SQ (RG ?_)
         refine SG 5 (S4 [(4,lO 4),(5,lO 5),(9,lO 9),(16,vi x60),(131,.agg [oI u0_0,oS Au0_1 u0_1 cu0_1,oS Au0_2 u0_2 cu0_2]),(132,vi u2),(133,vi u3),(135,lS A7 v2 c8)] [(4,[oI u0_0,oS Au0_1 u0_1 cu0_1,oS Au0_2 u0_2 cu0_2]),(5,[.arr .i64 6 u1]),(9,[oS A7 v2 c8,oS A9 v3 c10,oI v4,oI v5])] [] M27) ?_
         obtain ⟨v72,v73,c_v72,h⟩ := cl2_some h
         refine AC 136 (.tup [(some (.v (.bool v72)),[]),(some (.v (.int .i64 v73)),[])]) (w25 k ((((hu0_1.le hM11).le hM20).le hM26).le hM27) ((((hu0_2.le hM11).le hM20).le hM26).le hM27) (((fA7.le hM20).le hM26).le hM27) c_v72) ?_ (hx:=(by intro y hy; simp only [List.mem_cons,List.mem_nil_iff,or_false] at hy; rcases hy with rfl | rfl <;> exact trivial))
         refine SH 11 [(4,lO 4),(5,lO 5),(9,lO 9),(16,vi x60),(18,vb v72),(19,vi v73)] [(4,[oI u0_0,oS Au0_1 u0_1 cu0_1,oS Au0_2 u0_2 cu0_2]),(5,[.arr .i64 6 u1]),(9,[oS A7 v2 c8,oS A9 v3 c10,oI v4,oI v5])] ?_
         refine EN ?_
         obtain ⟨j75,e_j75,h⟩ := jn_some h
         refine T_cut (c1:=(sub [1,1,1,1,1,1,1,1,1,1,1,0] Bd9)) (c2:=(sub [1,1,1,1,1,1,1,1,1,1,1,1] Bd9)) (fun s' => ∃ (b74 : Bool),Sub { σ := [(8,vb b74)],H := [],V := [],M := M27,ds := [] } s' ∧ j75 b74 = some r) (by kernel_rfl) ?_ ?_
         ·obtain ⟨b76,e_b76,h⟩ := lt_some h
          cases b76 with
          | true =>
           replace h := sp_t h
           cases v72 with
           | true =>
            replace h := sp_t h
            obtain ⟨v77,c_v77,h⟩ := cl_some h
            obtain ⟨b78,e_b78,h⟩ := lt_some h
            cases b78 with
            | true =>
             replace h := sp_t h
             obtain ⟨b79,e_b79,h⟩ := lt_some h
             cases b79 with
             | true =>
              replace h := sp_t h
              obtain ⟨v80,c_v80,h⟩ := cl_some h
              cases v80 with
              | true =>
               replace h := sp_t h
               obtain ⟨v81,c_v81,h⟩ := cl_some h
               refine T_draw' (id:=23) [] [0,0,0,0,0,0,0,0,0,0,0,0,0,0,0,0,0,0,0,0,0,0,0,0,0,0,0,0,0,0,0,0,0,0,0] (by kernel_rfl) (by kernel_rfl) (by kernel_rfl) (by kernel_rfl) ((139,vi v73)::(140,vb true)::(141,vb true)::(142,vb true)::(143,vb true)::(144,vb true)::(145,.lf (.own 9 2))::(146,vi v4)::(147,.agg [oI u0_0,oS Au0_1 u0_1 cu0_1,oS Au0_2 u0_2 cu0_2])::(148,lO 9)::(149,lS A7 v2 c8)::(150,.lf (.own 9 1))::(151,lS A9 v3 c10)::(152,vi v77)::(153,vb true)::(154,vb true)::(155,vb true)::(156,vi x60)::(157,.lf (.own 9 3))::(158,vi v5)::(159,vb true)::(160,vb true)::(161,vb true)::(162,.agg [oI u0_0,oS Au0_1 u0_1 cu0_1,oS Au0_2 u0_2 cu0_2])::(163,.agg [.arr .i64 6 u1])::(164,.lf (.own 9 1))::(165,lS A9 v3 c10)::(166,lO 9)::(167,lS A7 v2 c8)::(168,vb true)::(169,vb true)::(170,vb true)::(171,vb v81)::(172,vb v81)::(8,vb v81)::[]) (by kernel_rfl) ⟨trivial,⟨trivial,⟨trivial,⟨trivial,⟨trivial,⟨trivial,⟨trivial,⟨trivial,⟨⟨rfl,⟨rfl,⟨rfl,trivial⟩⟩⟩,⟨trivial,⟨trivial,⟨trivial,⟨trivial,⟨trivial,⟨trivial,⟨trivial,⟨trivial,⟨trivial,⟨trivial,⟨trivial,⟨trivial,⟨trivial,⟨trivial,⟨⟨rfl,⟨rfl,⟨rfl,trivial⟩⟩⟩,⟨⟨hu1,trivial⟩,⟨trivial,⟨trivial,⟨trivial,⟨trivial,⟨trivial,⟨trivial,⟨trivial,⟨trivial,⟨trivial,⟨trivial,trivial⟩⟩⟩⟩⟩⟩⟩⟩⟩⟩⟩⟩⟩⟩⟩⟩⟩⟩⟩⟩⟩⟩⟩⟩⟩⟩⟩⟩⟩⟩⟩⟩⟩⟩⟩ ?_
               refine Stage_nil (stage_all' [0,2,3,4,5,6,7,8,9,10,11,12,15,16,17,18,19,21,22,23,24,25,26,27,28,30,31,33,34] [1,13,14,20,29,32] (by kernel_rfl) (by kernel_rfl) (by kernel_rfl) ⟨QF_at (i:=1) (d:=140) (x:=vb true) (show OpAt _ _ _ 1 140 _ from by exact At_bin (d:=140) (b:=.eql) (u:=.int .i64 v73) (v:=.int .i64 (0 : Int)) (w':=.bool true) (by kernel_rfl) (by rw [show exBin .eql (.int .i64 v73) (.int .i64 (0 : Int)) = some (.bool (v73 == (0 : Int))) from by kernel_rfl,← e_b76])) (by kernel_rfl) (by kernel_rfl),⟨QF_at (i:=13) (d:=152) (x:=vi v77) (show OpAt _ _ _ 13 152 _ from by exact At_call (d:=152) (f:=33) (args:=[rval (.agg [oI u0_0,oS Au0_1 u0_1 cu0_1,oS Au0_2 u0_2 cu0_2]),rval (lS A7 v2 c8),rval (lS A9 v3 c10)]) (x:=vi v77) (by kernel_rfl) (w33 k ((((hu0_1.le hM11).le hM20).le hM26).le hM27) ((((hu0_2.le hM11).le hM20).le hM26).le hM27) (((fA7.le hM20).le hM26).le hM27) (((fA9.le hM20).le hM26).le hM27) c_v77)) (by kernel_rfl) (by kernel_rfl),⟨QF_at (i:=14) (d:=153) (x:=vb true) (show OpAt _ _ _ 14 153 _ from by exact At_bin (d:=153) (b:=.eql) (u:=.int .i64 v4) (v:=.int .i64 v77) (w':=.bool true) (by kernel_rfl) (by rw [show exBin .eql (.int .i64 v4) (.int .i64 v77) = some (.bool (v4 == v77)) from by kernel_rfl,← e_b78])) (by kernel_rfl) (by kernel_rfl),⟨QF_at (i:=20) (d:=159) (x:=vb true) (show OpAt _ _ _ 20 159 _ from by exact At_bin (d:=159) (b:=.eql) (u:=.int .i64 x60) (v:=.int .i64 v5) (w':=.bool true) (by kernel_rfl) (by rw [show exBin .eql (.int .i64 x60) (.int .i64 v5) = some (.bool (x60 == v5)) from by kernel_rfl,← e_b79])) (by kernel_rfl) (by kernel_rfl),⟨QF_at (i:=29) (d:=168) (x:=vb true) (show OpAt _ _ _ 29 168 _ from by exact At_call (d:=168) (f:=34) (args:=[rval (.agg [oI u0_0,oS Au0_1 u0_1 cu0_1,oS Au0_2 u0_2 cu0_2]),rval (.agg [.arr .i64 6 u1]),rval (lS A9 v3 c10),rval (lS A7 v2 c8)]) (x:=vb true) (by kernel_rfl) (w34 k ((((hu0_1.le hM11).le hM20).le hM26).le hM27) ((((hu0_2.le hM11).le hM20).le hM26).le hM27) hu1 (((fA9.le hM20).le hM26).le hM27) (((fA7.le hM20).le hM26).le hM27) c_v80)) (by kernel_rfl) (by kernel_rfl),⟨QF_at (i:=32) (d:=171) (x:=vb v81) (show OpAt _ _ _ 32 171 _ from by exact At_call (d:=171) (f:=14) (args:=[]) (x:=vb v81) (by kernel_rfl) (w14 k  c_v81)) (by kernel_rfl) (by kernel_rfl),trivial⟩⟩⟩⟩⟩⟩) ?_
               refine thenQ_n ?_
               exact ⟨v81,keep_sub (ts:=[8]) (hs:=[]) (vs:=[]) (by kernel_rfl),h⟩
              | false =>
               replace h := sp_f h
               refine T_draw' (id:=23) [] [0,0,0,0,0,0,0,0,0,0,0,0,0,0,0,0,0,0,0,0,0,0,0,0,0,0,0,0,0,0,0,0,0,0,0] (by kernel_rfl) (by kernel_rfl) (by kernel_rfl) (by kernel_rfl) ((139,vi v73)::(140,vb true)::(141,vb true)::(142,vb true)::(143,vb true)::(144,vb true)::(145,.lf (.own 9 2))::(146,vi v4)::(147,.agg [oI u0_0,oS Au0_1 u0_1 cu0_1,oS Au0_2 u0_2 cu0_2])::(148,lO 9)::(149,lS A7 v2 c8)::(150,.lf (.own 9 1))::(151,lS A9 v3 c10)::(152,vi v77)::(153,vb true)::(154,vb true)::(155,vb true)::(156,vi x60)::(157,.lf (.own 9 3))::(158,vi v5)::(159,vb true)::(160,vb true)::(161,vb true)::(162,.agg [oI u0_0,oS Au0_1 u0_1 cu0_1,oS Au0_2 u0_2 cu0_2])::(163,.agg [.arr .i64 6 u1])::(164,.lf (.own 9 1))::(165,lS A9 v3 c10)::(166,lO 9)::(167,lS A7 v2 c8)::(168,vb false)::(169,vb false)::(170,vb false)::(171,.tup [])::(172,vb false)::(8,vb false)::[]) (by kernel_rfl) ⟨trivial,⟨trivial,⟨trivial,⟨trivial,⟨trivial,⟨trivial,⟨trivial,⟨trivial,⟨⟨rfl,⟨rfl,⟨rfl,trivial⟩⟩⟩,⟨trivial,⟨trivial,⟨trivial,⟨trivial,⟨trivial,⟨trivial,⟨trivial,⟨trivial,⟨trivial,⟨trivial,⟨trivial,⟨trivial,⟨trivial,⟨trivial,⟨⟨rfl,⟨rfl,⟨rfl,trivial⟩⟩⟩,⟨⟨hu1,trivial⟩,⟨trivial,⟨trivial,⟨trivial,⟨trivial,⟨trivial,⟨trivial,⟨trivial,⟨(by intro y hy;cases hy),⟨trivial,⟨trivial,trivial⟩⟩⟩⟩⟩⟩⟩⟩⟩⟩⟩⟩⟩⟩⟩⟩⟩⟩⟩⟩⟩⟩⟩⟩⟩⟩⟩⟩⟩⟩⟩⟩⟩⟩⟩ ?_
               refine Stage_nil (stage_all' [0,2,3,4,5,6,7,8,9,10,11,12,15,16,17,18,19,21,22,23,24,25,26,27,28,30,31,32,33,34] [1,13,14,20,29] (by kernel_rfl) (by kernel_rfl) (by kernel_rfl) ⟨QF_at (i:=1) (d:=140) (x:=vb true) (show OpAt _ _ _ 1 140 _ from by exact At_bin (d:=140) (b:=.eql) (u:=.int .i64 v73) (v:=.int .i64 (0 : Int)) (w':=.bool true) (by kernel_rfl) (by rw [show exBin .eql (.int .i64 v73) (.int .i64 (0 : Int)) = some (.bool (v73 == (0 : Int))) from by kernel_rfl,← e_b76])) (by kernel_rfl) (by kernel_rfl),⟨QF_at (i:=13) (d:=152) (x:=vi v77) (show OpAt _ _ _ 13 152 _ from by exact At_call (d:=152) (f:=33) (args:=[rval (.agg [oI u0_0,oS Au0_1 u0_1 cu0_1,oS Au0_2 u0_2 cu0_2]),rval (lS A7 v2 c8),rval (lS A9 v3 c10)]) (x:=vi v77) (by kernel_rfl) (w33 k ((((hu0_1.le hM11).le hM20).le hM26).le hM27) ((((hu0_2.le hM11).le hM20).le hM26).le hM27) (((fA7.le hM20).le hM26).le hM27) (((fA9.le hM20).le hM26).le hM27) c_v77)) (by kernel_rfl) (by kernel_rfl),⟨QF_at (i:=14) (d:=153) (x:=vb true) (show OpAt _ _ _ 14 153 _ from by exact At_bin (d:=153) (b:=.eql) (u:=.int .i64 v4) (v:=.int .i64 v77) (w':=.bool true) (by kernel_rfl) (by rw [show exBin .eql (.int .i64 v4) (.int .i64 v77) = some (.bool (v4 == v77)) from by kernel_rfl,← e_b78])) (by kernel_rfl) (by kernel_rfl),⟨QF_at (i:=20) (d:=159) (x:=vb true) (show OpAt _ _ _ 20 159 _ from by exact At_bin (d:=159) (b:=.eql) (u:=.int .i64 x60) (v:=.int .i64 v5) (w':=.bool true) (by kernel_rfl) (by rw [show exBin .eql (.int .i64 x60) (.int .i64 v5) = some (.bool (x60 == v5)) from by kernel_rfl,← e_b79])) (by kernel_rfl) (by kernel_rfl),⟨QF_at (i:=29) (d:=168) (x:=vb false) (show OpAt _ _ _ 29 168 _ from by exact At_call (d:=168) (f:=34) (args:=[rval (.agg [oI u0_0,oS Au0_1 u0_1 cu0_1,oS Au0_2 u0_2 cu0_2]),rval (.agg [.arr .i64 6 u1]),rval (lS A9 v3 c10),rval (lS A7 v2 c8)]) (x:=vb false) (by kernel_rfl) (w34 k ((((hu0_1.le hM11).le hM20).le hM26).le hM27) ((((hu0_2.le hM11).le hM20).le hM26).le hM27) hu1 (((fA9.le hM20).le hM26).le hM27) (((fA7.le hM20).le hM26).le hM27) c_v80)) (by kernel_rfl) (by kernel_rfl),trivial⟩⟩⟩⟩⟩) ?_
               refine thenQ_n ?_
               exact ⟨false,keep_sub (ts:=[8]) (hs:=[]) (vs:=[]) (by kernel_rfl),h⟩
             | false =>
              replace h := sp_f h
              refine T_draw' (id:=23) [] [0,0,0,0,0,0,0,0,0,0,0,0,0,0,0,0,0,0,0,0,0,0,0,0,0,0,0,0,0,0,0,0,0,0,0] (by kernel_rfl) (by kernel_rfl) (by kernel_rfl) (by kernel_rfl) ((139,vi v73)::(140,vb true)::(141,vb true)::(142,vb true)::(143,vb true)::(144,vb true)::(145,.lf (.own 9 2))::(146,vi v4)::(147,.agg [oI u0_0,oS Au0_1 u0_1 cu0_1,oS Au0_2 u0_2 cu0_2])::(148,lO 9)::(149,lS A7 v2 c8)::(150,.lf (.own 9 1))::(151,lS A9 v3 c10)::(152,vi v77)::(153,vb true)::(154,vb true)::(155,vb true)::(156,vi x60)::(157,.lf (.own 9 3))::(158,vi v5)::(159,vb false)::(160,vb false)::(161,vb false)::(162,.tup [])::(163,.tup [])::(164,.tup [])::(165,.tup [])::(166,.tup [])::(167,.tup [])::(168,.tup [])::(169,vb false)::(170,vb false)::(171,.tup [])::(172,vb false)::(8,vb false)::[]) (by kernel_rfl) ⟨trivial,⟨trivial,⟨trivial,⟨trivial,⟨trivial,⟨trivial,⟨trivial,⟨trivial,⟨⟨rfl,⟨rfl,⟨rfl,trivial⟩⟩⟩,⟨trivial,⟨trivial,⟨trivial,⟨trivial,⟨trivial,⟨trivial,⟨trivial,⟨trivial,⟨trivial,⟨trivial,⟨trivial,⟨trivial,⟨trivial,⟨trivial,⟨(by intro y hy;cases hy),⟨(by intro y hy;cases hy),⟨(by intro y hy;cases hy),⟨(by intro y hy;cases hy),⟨(by intro y hy;cases hy),⟨(by intro y hy;cases hy),⟨(by intro y hy;cases hy),⟨trivial,⟨trivial,⟨(by intro y hy;cases hy),⟨trivial,⟨trivial,trivial⟩⟩⟩⟩⟩⟩⟩⟩⟩⟩⟩⟩⟩⟩⟩⟩⟩⟩⟩⟩⟩⟩⟩⟩⟩⟩⟩⟩⟩⟩⟩⟩⟩⟩⟩ ?_
              refine Stage_nil (stage_all' [0,2,3,4,5,6,7,8,9,10,11,12,15,16,17,18,19,21,22,23,24,25,26,27,28,29,30,31,32,33,34] [1,13,14,20] (by kernel_rfl) (by kernel_rfl) (by kernel_rfl) ⟨QF_at (i:=1) (d:=140) (x:=vb true) (show OpAt _ _ _ 1 140 _ from by exact At_bin (d:=140) (b:=.eql) (u:=.int .i64 v73) (v:=.int .i64 (0 : Int)) (w':=.bool true) (by kernel_rfl) (by rw [show exBin .eql (.int .i64 v73) (.int .i64 (0 : Int)) = some (.bool (v73 == (0 : Int))) from by kernel_rfl,← e_b76])) (by kernel_rfl) (by kernel_rfl),⟨QF_at (i:=13) (d:=152) (x:=vi v77) (show OpAt _ _ _ 13 152 _ from by exact At_call (d:=152) (f:=33) (args:=[rval (.agg [oI u0_0,oS Au0_1 u0_1 cu0_1,oS Au0_2 u0_2 cu0_2]),rval (lS A7 v2 c8),rval (lS A9 v3 c10)]) (x:=vi v77) (by kernel_rfl) (w33 k ((((hu0_1.le hM11).le hM20).le hM26).le hM27) ((((hu0_2.le hM11).le hM20).le hM26).le hM27) (((fA7.le hM20).le hM26).le hM27) (((fA9.le hM20).le hM26).le hM27) c_v77)) (by kernel_rfl) (by kernel_rfl),⟨QF_at (i:=14) (d:=153) (x:=vb true) (show OpAt _ _ _ 14 153 _ from by exact At_bin (d:=153) (b:=.eql) (u:=.int .i64 v4) (v:=.int .i64 v77) (w':=.bool true) (by kernel_rfl) (by rw [show exBin .eql (.int .i64 v4) (.int .i64 v77) = some (.bool (v4 == v77)) from by kernel_rfl,← e_b78])) (by kernel_rfl) (by kernel_rfl),⟨QF_at (i:=20) (d:=159) (x:=vb false) (show OpAt _ _ _ 20 159 _ from by exact At_bin (d:=159) (b:=.eql) (u:=.int .i64 x60) (v:=.int .i64 v5) (w':=.bool false) (by kernel_rfl) (by rw [show exBin .eql (.int .i64 x60) (.int .i64 v5) = some (.bool (x60 == v5)) from by kernel_rfl,← e_b79])) (by kernel_rfl) (by kernel_rfl),trivial⟩⟩⟩⟩) ?_
              refine thenQ_n ?_
              exact ⟨false,keep_sub (ts:=[8]) (hs:=[]) (vs:=[]) (by kernel_rfl),h⟩
            | false =>
             replace h := sp_f h
             refine T_draw' (id:=23) [] [0,0,0,0,0,0,0,0,0,0,0,0,0,0,0,0,0,0,0,0,0,0,0,0,0,0,0,0,0,0,0,0,0,0,0] (by kernel_rfl) (by kernel_rfl) (by kernel_rfl) (by kernel_rfl) ((139,vi v73)::(140,vb true)::(141,vb true)::(142,vb true)::(143,vb true)::(144,vb true)::(145,.lf (.own 9 2))::(146,vi v4)::(147,.agg [oI u0_0,oS Au0_1 u0_1 cu0_1,oS Au0_2 u0_2 cu0_2])::(148,lO 9)::(149,lS A7 v2 c8)::(150,.lf (.own 9 1))::(151,lS A9 v3 c10)::(152,vi v77)::(153,vb false)::(154,vb false)::(155,vb false)::(156,.tup [])::(157,.tup [])::(158,.tup [])::(159,.tup [])::(160,vb false)::(161,vb false)::(162,.tup [])::(163,.tup [])::(164,.tup [])::(165,.tup [])::(166,.tup [])::(167,.tup [])::(168,.tup [])::(169,vb false)::(170,vb false)::(171,.tup [])::(172,vb false)::(8,vb false)::[]) (by kernel_rfl) ⟨trivial,⟨trivial,⟨trivial,⟨trivial,⟨trivial,⟨trivial,⟨trivial,⟨trivial,⟨⟨rfl,⟨rfl,⟨rfl,trivial⟩⟩⟩,⟨trivial,⟨trivial,⟨trivial,⟨trivial,⟨trivial,⟨trivial,⟨trivial,⟨trivial,⟨(by intro y hy;cases hy),⟨(by intro y hy;cases hy),⟨(by intro y hy;cases hy),⟨(by intro y hy;cases hy),⟨trivial,⟨trivial,⟨(by intro y hy;cases hy),⟨(by intro y hy;cases hy),⟨(by intro y hy;cases hy),⟨(by intro y hy;cases hy),⟨(by intro y hy;cases hy),⟨(by intro y hy;cases hy),⟨(by intro y hy;cases hy),⟨trivial,⟨trivial,⟨(by intro y hy;cases hy),⟨trivial,⟨trivial,trivial⟩⟩⟩⟩⟩⟩⟩⟩⟩⟩⟩⟩⟩⟩⟩⟩⟩⟩⟩⟩⟩⟩⟩⟩⟩⟩⟩⟩⟩⟩⟩⟩⟩⟩⟩ ?_
             refine Stage_nil (stage_all' [0,2,3,4,5,6,7,8,9,10,11,12,15,16,17,18,19,20,21,22,23,24,25,26,27,28,29,30,31,32,33,34] [1,13,14] (by kernel_rfl) (by kernel_rfl) (by kernel_rfl) ⟨QF_at (i:=1) (d:=140) (x:=vb true) (show OpAt _ _ _ 1 140 _ from by exact At_bin (d:=140) (b:=.eql) (u:=.int .i64 v73) (v:=.int .i64 (0 : Int)) (w':=.bool true) (by kernel_rfl) (by rw [show exBin .eql (.int .i64 v73) (.int .i64 (0 : Int)) = some (.bool (v73 == (0 : Int))) from by kernel_rfl,← e_b76])) (by kernel_rfl) (by kernel_rfl),⟨QF_at (i:=13) (d:=152) (x:=vi v77) (show OpAt _ _ _ 13 152 _ from by exact At_call (d:=152) (f:=33) (args:=[rval (.agg [oI u0_0,oS Au0_1 u0_1 cu0_1,oS Au0_2 u0_2 cu0_2]),rval (lS A7 v2 c8),rval (lS A9 v3 c10)]) (x:=vi v77) (by kernel_rfl) (w33 k ((((hu0_1.le hM11).le hM20).le hM26).le hM27) ((((hu0_2.le hM11).le hM20).le hM26).le hM27) (((fA7.le hM20).le hM26).le hM27) (((fA9.le hM20).le hM26).le hM27) c_v77)) (by kernel_rfl) (by kernel_rfl),⟨QF_at (i:=14) (d:=153) (x:=vb false) (show OpAt _ _ _ 14 153 _ from by exact At_bin (d:=153) (b:=.eql) (u:=.int .i64 v4) (v:=.int .i64 v77) (w':=.bool false) (by kernel_rfl) (by rw [show exBin .eql (.int .i64 v4) (.int .i64 v77) = some (.bool (v4 == v77)) from by kernel_rfl,← e_b78])) (by kernel_rfl) (by kernel_rfl),trivial⟩⟩⟩) ?_
             refine thenQ_n ?_
             exact ⟨false,keep_sub (ts:=[8]) (hs:=[]) (vs:=[]) (by kernel_rfl),h⟩
           | false =>
            replace h := sp_f h
            refine T_draw' (id:=23) [] [0,0,0,0,0,0,0,0,0,0,0,0,0,0,0,0,0,0,0,0,0,0,0,0,0,0,0,0,0,0,0,0,0,0,0] (by kernel_rfl) (by kernel_rfl) (by kernel_rfl) (by kernel_rfl) ((139,vi v73)::(140,vb true)::(141,vb true)::(142,vb false)::(143,vb false)::(144,vb false)::(145,.tup [])::(146,.tup [])::(147,.tup [])::(148,.tup [])::(149,.tup [])::(150,.tup [])::(151,.tup [])::(152,.tup [])::(153,.tup [])::(154,vb false)::(155,vb false)::(156,.tup [])::(157,.tup [])::(158,.tup [])::(159,.tup [])::(160,vb false)::(161,vb false)::(162,.tup [])::(163,.tup [])::(164,.tup [])::(165,.tup [])::(166,.tup [])::(167,.tup [])::(168,.tup [])::(169,vb false)::(170,vb false)::(171,.tup [])::(172,vb false)::(8,vb false)::[]) (by kernel_rfl) ⟨trivial,⟨trivial,⟨trivial,⟨trivial,⟨trivial,⟨trivial,⟨(by intro y hy;cases hy),⟨(by intro y hy;cases hy),⟨(by intro y hy;cases hy),⟨(by intro y hy;cases hy),⟨(by intro y hy;cases hy),⟨(by intro y hy;cases hy),⟨(by intro y hy;cases hy),⟨(by intro y hy;cases hy),⟨(by intro y hy;cases hy),⟨trivial,⟨trivial,⟨(by intro y hy;cases hy),⟨(by intro y hy;cases hy),⟨(by intro y hy;cases hy),⟨(by intro y hy;cases hy),⟨trivial,⟨trivial,⟨(by intro y hy;cases hy),⟨(by intro y hy;cases hy),⟨(by intro y hy;cases hy),⟨(by intro y hy;cases hy),⟨(by intro y hy;cases hy),⟨(by intro y hy;cases hy),⟨(by intro y hy;cases hy),⟨trivial,⟨trivial,⟨(by intro y hy;cases hy),⟨trivial,⟨trivial,trivial⟩⟩⟩⟩⟩⟩⟩⟩⟩⟩⟩⟩⟩⟩⟩⟩⟩⟩⟩⟩⟩⟩⟩⟩⟩⟩⟩⟩⟩⟩⟩⟩⟩⟩⟩ ?_
            refine Stage_nil (stage_all' [0,2,3,4,5,6,7,8,9,10,11,12,13,14,15,16,17,18,19,20,21,22,23,24,25,26,27,28,29,30,31,32,33,34] [1] (by kernel_rfl) (by kernel_rfl) (by kernel_rfl) ⟨QF_at (i:=1) (d:=140) (x:=vb true) (show OpAt _ _ _ 1 140 _ from by exact At_bin (d:=140) (b:=.eql) (u:=.int .i64 v73) (v:=.int .i64 (0 : Int)) (w':=.bool true) (by kernel_rfl) (by rw [show exBin .eql (.int .i64 v73) (.int .i64 (0 : Int)) = some (.bool (v73 == (0 : Int))) from by kernel_rfl,← e_b76])) (by kernel_rfl) (by kernel_rfl),trivial⟩) ?_
            refine thenQ_n ?_
            exact ⟨false,keep_sub (ts:=[8]) (hs:=[]) (vs:=[]) (by kernel_rfl),h⟩
          | false =>
           replace h := sp_f h
           refine T_draw' (id:=23) [] [0,0,0,0,0,0,0,0,0,0,0,0,0,0,0,0,0,0,0,0,0,0,0,0,0,0,0,0,0,0,0,0,0,0,0] (by kernel_rfl) (by kernel_rfl) (by kernel_rfl) (by kernel_rfl) ((139,vi v73)::(140,vb false)::(141,vb false)::(142,.tup [])::(143,vb false)::(144,vb false)::(145,.tup [])::(146,.tup [])::(147,.tup [])::(148,.tup [])::(149,.tup [])::(150,.tup [])::(151,.tup [])::(152,.tup [])::(153,.tup [])::(154,vb false)::(155,vb false)::(156,.tup [])::(157,.tup [])::(158,.tup [])::(159,.tup [])::(160,vb false)::(161,vb false)::(162,.tup [])::(163,.tup [])::(164,.tup [])::(165,.tup [])::(166,.tup [])::(167,.tup [])::(168,.tup [])::(169,vb false)::(170,vb false)::(171,.tup [])::(172,vb false)::(8,vb false)::[]) (by kernel_rfl) ⟨trivial,⟨trivial,⟨trivial,⟨(by intro y hy;cases hy),⟨trivial,⟨trivial,⟨(by intro y hy;cases hy),⟨(by intro y hy;cases hy),⟨(by intro y hy;cases hy),⟨(by intro y hy;cases hy),⟨(by intro y hy;cases hy),⟨(by intro y hy;cases hy),⟨(by intro y hy;cases hy),⟨(by intro y hy;cases hy),⟨(by intro y hy;cases hy),⟨trivial,⟨trivial,⟨(by intro y hy;cases hy),⟨(by intro y hy;cases hy),⟨(by intro y hy;cases hy),⟨(by intro y hy;cases hy),⟨trivial,⟨trivial,⟨(by intro y hy;cases hy),⟨(by intro y hy;cases hy),⟨(by intro y hy;cases hy),⟨(by intro y hy;cases hy),⟨(by intro y hy;cases hy),⟨(by intro y hy;cases hy),⟨(by intro y hy;cases hy),⟨trivial,⟨trivial,⟨(by intro y hy;cases hy),⟨trivial,⟨trivial,trivial⟩⟩⟩⟩⟩⟩⟩⟩⟩⟩⟩⟩⟩⟩⟩⟩⟩⟩⟩⟩⟩⟩⟩⟩⟩⟩⟩⟩⟩⟩⟩⟩⟩⟩⟩ ?_
           refine Stage_nil (stage_all' [0,2,3,4,5,6,7,8,9,10,11,12,13,14,15,16,17,18,19,20,21,22,23,24,25,26,27,28,29,30,31,32,33,34] [1] (by kernel_rfl) (by kernel_rfl) (by kernel_rfl) ⟨QF_at (i:=1) (d:=140) (x:=vb false) (show OpAt _ _ _ 1 140 _ from by exact At_bin (d:=140) (b:=.eql) (u:=.int .i64 v73) (v:=.int .i64 (0 : Int)) (w':=.bool false) (by kernel_rfl) (by rw [show exBin .eql (.int .i64 v73) (.int .i64 (0 : Int)) = some (.bool (v73 == (0 : Int))) from by kernel_rfl,← e_b76])) (by kernel_rfl) (by kernel_rfl),trivial⟩) ?_
           refine thenQ_n ?_
           exact ⟨false,keep_sub (ts:=[8]) (hs:=[]) (vs:=[]) (by kernel_rfl),h⟩
         ·rintro s' ⟨b74,hsub,h⟩
          subst e_j75
          refine T_sub hsub ?_
          refine RT ?_
          obtain rfl := sj h
          exact FT (vb b74) rfl
 | false =>
  replace h := sp_f h
  refine CT ?_
  refine KP [] [] [] ?_
  refine SQ (RG ?_)
  obtain ⟨v82,c_v82,h⟩ := cl_some h
  refine AC 26 (vb v82) (w14 k  c_v82) ?_
  refine SH 2 [(8,vb v82)] [] ?_
  refine EN (RT (thenQ_r ?_))
  obtain rfl := sj h
  exact FT (vb v82) rfl
end Go.Proofs.Ythniebmammmacaa
namespace Go.Proofs.Ythniebmammmacaa
open Go.RowKit Classical
theorem wr64 {z : Int} (h1 : -9223372036854775808 ≤ z) (h2 : z ≤ 9223372036854775807) : wr .i64 z = z := by
  simp only [wr, IntKind.wrap, IntKind.signed, IntKind.bits]
  simp
  omega
theorem wru {z : Int} (h1 : 0 ≤ z) (h2 : z ≤ 18446744073709551615) : wr .u64 z = z := by
  simp only [wr, IntKind.wrap, IntKind.signed, IntKind.bits]
  simp
  omega
theorem mx_eq (x y : Int) : mx x y = max x y := by unfold mx; omega
theorem mn_eq (x y : Int) : mn x y = min x y := by unfold mn; omega
theorem lt_v {α β : Type} (x : β) (F : β → Option α) : lt' x F = F x := rfl
theorem jn_v {α β : Type} (F : β) (G : β → Option α) : jn F G = G F := rfl
theorem cl_v {α β : Type} (v : β) (F : β → Option α) : cl (some v) F = F v := rfl
theorem cl2_v {α β γ : Type} (a : α) (b : β) (F : α → β → Option γ) : cl2 (some (a, b)) F = F a b := rfl
theorem cl3_v {α β γ δ : Type} (a : α) (b : β) (c : γ) (F : α → β → γ → Option δ) : cl3 (some (a, b, c)) F = F a b c := rfl
theorem cl5_v {α β γ δ ε ζ : Type} (a : α) (b : β) (c : γ) (d : δ) (e : ε) (F : α → β → γ → δ → ε → Option ζ) : cl5 (some (a, b, c, d, e)) F = F a b c d e := rfl
theorem sp_tt {α : Type} (x y : Option α) : sp true x y = x := rfl
theorem sp_ff {α : Type} (x y : Option α) : sp false x y = y := rfl
theorem sp_d {α : Type} {c : Prop} [h : Decidable c] (x y : Option α) : sp (decide c) x y = if c then x else y := by
  cases h <;> rfl
theorem sp_nd {α : Type} {c : Prop} [h : Decidable c] (x y : Option α) : sp (!decide c) x y = if c then y else x := by
  cases h <;> rfl
theorem gd_v {α : Type} {c : Prop} [Decidable c] (h : c) (x : Option α) : gd c x = x := by unfold gd; rw [if_pos h]
theorem beq_d (x y : Int) : (x == y) = decide (x = y) := by by_cases h : x = y <;> simp [h]
theorem bne_d (x y : Int) : (x != y) = decide (¬ x = y) := by by_cases h : x = y <;> simp [h]
theorem wr_succ {i n : Nat} (h : i < n) (hn : n ≤ 9223372036854775807) : wr .i64 ((i : Int) + 1) = ((i + 1 : Nat) : Int) := by
  rw [wr64 (by omega) (by omega)]; omega
theorem dT {p : Prop} {i : Decidable p} (h : p) : @decide p i = true := by cases i <;> first | rfl | contradiction
theorem dF {p : Prop} {i : Decidable p} (h : ¬ p) : @decide p i = false := by cases i <;> first | rfl | contradiction
theorem dI {p q : Prop} {i : Decidable p} {j : Decidable q} (h : p ↔ q) : @decide p i = @decide q j := by
  by_cases hp : p
  · rw [dT hp, dT (h.1 hp)]
  · rw [dF hp, dF (fun hq => hp (h.2 hq))]
theorem iT {α : Type} {p : Prop} {i : Decidable p} {x y : α} (h : p) : @ite α p i x y = x := by cases i <;> first | rfl | contradiction
theorem iF {α : Type} {p : Prop} {i : Decidable p} {x y : α} (h : ¬ p) : @ite α p i x y = y := by cases i <;> first | rfl | contradiction
theorem getD_drop {L : List Int} {i : Nat} (h : i < L.length) : L.drop i = L.getD i 0 :: L.drop (i + 1) := by
  rw [List.drop_eq_getElem_cons h]
  simp [List.getD_eq_getElem?_getD, List.getElem?_eq_getElem h]
theorem getD_mem {L : List Int} {i : Nat} (h : i < L.length) : L.getD i 0 ∈ L := by
  rw [List.getD_eq_getElem?_getD, List.getElem?_eq_getElem h]; exact List.getElem_mem h
theorem mem_getD {L : List Int} {x : Int} (h : x ∈ L) : ∃ i, i < L.length ∧ L.getD i 0 = x := by
  obtain ⟨i, hi, e⟩ := List.getElem_of_mem h
  exact ⟨i, hi, by rw [List.getD_eq_getElem?_getD, List.getElem?_eq_getElem hi]; exact e⟩
theorem srch {β : Type} {F : Nat → Int → Option β} {len : Nat} {Q : Nat → Prop} {A J : Option β} (h0 : ∀ n, F (n + 1) (len : Int) = J)
    (h1 : ∀ n (i : Nat), i < len → (Q i ∧ F (n + 1) (i : Int) = A) ∨ (¬ Q i ∧ F (n + 1) (i : Int) = F n ((i + 1 : Nat) : Int))) : ∀ d i n, i + d = len → d < n →
    ((∃ j, i ≤ j ∧ j < len ∧ Q j) ∧ F n (i : Int) = A) ∨ ((∀ j, i ≤ j → j < len → ¬ Q j) ∧ F n (i : Int) = J)
  | 0, i, n, h2, h3 => by
    obtain ⟨n, rfl⟩ : ∃ n', n = n' + 1 := ⟨n - 1, by omega⟩
    obtain rfl : i = len := by omega
    exact .inr ⟨by intros; omega, h0 n⟩
  | d + 1, i, n, h2, h3 => by
    obtain ⟨n, rfl⟩ : ∃ n', n = n' + 1 := ⟨n - 1, by omega⟩
    rcases h1 n i (by omega) with ⟨hq, e⟩ | ⟨hq, e⟩
    · exact .inl ⟨⟨i, Nat.le_refl _, by omega, hq⟩, e⟩
    · rw [e]
      rcases srch h0 h1 d (i + 1) n (by omega) (by omega) with ⟨⟨j, a, b, c⟩, e⟩ | ⟨h, e⟩
      · exact .inl ⟨⟨j, by omega, b, c⟩, e⟩
      · refine .inr ⟨fun j a b => ?_, e⟩
        rcases Nat.eq_or_lt_of_le a with e | e
        · subst e; exact hq
        · exact h j e b
theorem srch0 {β : Type} {F : Nat → Int → Option β} {len n : Nat} (Q : Nat → Prop) {A J : Option β} (hn : len < n) (h0 : ∀ n, F (n + 1) (len : Int) = J)
    (h1 : ∀ n (i : Nat), i < len → (Q i ∧ F (n + 1) (i : Int) = A) ∨ (¬ Q i ∧ F (n + 1) (i : Int) = F n ((i + 1 : Nat) : Int))) :
    ((∃ j, j < len ∧ Q j) ∧ F n 0 = A) ∨ ((∀ j, j < len → ¬ Q j) ∧ F n 0 = J) := by
  rcases srch h0 h1 len 0 n (by omega) hn with ⟨⟨j, a, b, c⟩, e⟩ | ⟨h, e⟩
  · exact .inl ⟨⟨j, b, c⟩, e⟩
  · exact .inr ⟨fun j => h j (Nat.zero_le _), e⟩
noncomputable def fst (Q : Nat → Prop) : Nat → Nat → Int
  | 0, _ => -1
  | d + 1, i => if Q i then (i : Int) else fst Q d (i + 1)
theorem fst_spec (Q : Nat → Prop) : ∀ d i, (fst Q d i = -1 ∧ ∀ j, i ≤ j → j < i + d → ¬ Q j) ∨ (∃ j : Nat, fst Q d i = (j : Int) ∧ i ≤ j ∧ j < i + d ∧ Q j ∧ ∀ j', i ≤ j' → j' < j → ¬ Q j')
  | 0, i => .inl ⟨rfl, by intros; omega⟩
  | d + 1, i => by
    unfold fst
    by_cases hq : Q i
    · rw [if_pos hq]; exact .inr ⟨i, rfl, Nat.le_refl _, by omega, hq, by intros; omega⟩
    · rw [if_neg hq]
      rcases fst_spec Q d (i + 1) with ⟨a, b⟩ | ⟨j, a, b, c, e, f⟩
      · refine .inl ⟨a, fun j h1 h2 => ?_⟩
        rcases Nat.eq_or_lt_of_le h1 with e | e
        · subst e; exact hq
        · exact b j e (by omega)
      · refine .inr ⟨j, a, by omega, by omega, e, fun j' h1 h2 => ?_⟩
        rcases Nat.eq_or_lt_of_le h1 with e | e
        · subst e; exact hq
        · exact f j' e h2
theorem srchI {F : Nat → Int → Option Int} {len : Nat} {Q : Nat → Prop} (h0 : ∀ n, F (n + 1) (len : Int) = some (-1))
    (h1 : ∀ n (i : Nat), i < len → (Q i ∧ F (n + 1) (i : Int) = some (i : Int)) ∨ (¬ Q i ∧ F (n + 1) (i : Int) = F n ((i + 1 : Nat) : Int))) : ∀ d i n, i + d = len → d < n →
    F n (i : Int) = some (fst Q d i)
  | 0, i, n, h2, h3 => by
    obtain ⟨n, rfl⟩ : ∃ n', n = n' + 1 := ⟨n - 1, by omega⟩
    obtain rfl : i = len := by omega
    rw [h0]; rfl
  | d + 1, i, n, h2, h3 => by
    obtain ⟨n, rfl⟩ : ∃ n', n = n' + 1 := ⟨n - 1, by omega⟩
    have ih := srchI h0 h1 d (i + 1) n (by omega) (by omega)
    rcases h1 n i (by omega) with ⟨hq, e⟩ | ⟨hq, e⟩
    · rw [e, fst, iT hq]
    · rw [e, ih, fst, iF hq]
theorem srchI0 {F : Nat → Int → Option Int} {len n : Nat} (Q : Nat → Prop) (hn : len < n) (h0 : ∀ n, F (n + 1) (len : Int) = some (-1))
    (h1 : ∀ n (i : Nat), i < len → (Q i ∧ F (n + 1) (i : Int) = some (i : Int)) ∨ (¬ Q i ∧ F (n + 1) (i : Int) = F n ((i + 1 : Nat) : Int))) : F n 0 = some (fst Q len 0) :=
  srchI h0 h1 len 0 n (by omega) hn
theorem fst_pos {Q : Nat → Prop} {len : Nat} : decide (fst Q len 0 ≥ 0) = decide (∃ j, j < len ∧ Q j) := by
  rcases fst_spec Q len 0 with ⟨a, b⟩ | ⟨j, a, b, c, e, f⟩
  · rw [a, dF (by omega), dF]
    rintro ⟨j, h1, h2⟩
    exact b j (Nat.zero_le _) (by omega) h2
  · rw [a, dT (by omega), dT ⟨j, by omega, e⟩]
theorem loopI {σ β : Type} {F : Nat → Int → σ → Option β} {len : Nat} {J : σ → Option β} (I : Nat → σ → Prop) (h0 : ∀ n s, I len s → F (n + 1) (len : Int) s = J s)
    (h1 : ∀ n (i : Nat) s, i < len → I i s → ∃ s', I (i + 1) s' ∧ F (n + 1) (i : Int) s = F n ((i + 1 : Nat) : Int) s') : ∀ d i n s, i + d = len → d < n → I i s → ∃ s', I len s' ∧ F n (i : Int) s = J s'
  | 0, i, n, s, h2, h3, hi => by
    obtain ⟨n, rfl⟩ : ∃ n', n = n' + 1 := ⟨n - 1, by omega⟩
    obtain rfl : i = len := by omega
    exact ⟨s, hi, h0 n s hi⟩
  | d + 1, i, n, s, h2, h3, hi => by
    obtain ⟨n, rfl⟩ : ∃ n', n = n' + 1 := ⟨n - 1, by omega⟩
    obtain ⟨s', hi', e⟩ := h1 n i s (by omega) hi
    rw [e]
    exact loopI I h0 h1 d (i + 1) n s' (by omega) (by omega) hi'
theorem loop0 {σ β : Type} {F : Nat → Int → σ → Option β} {len n : Nat} {J : σ → Option β} (I : Nat → σ → Prop) (s : σ) (hn : len < n) (hi : I 0 s) (h0 : ∀ n s, I len s → F (n + 1) (len : Int) s = J s)
    (h1 : ∀ n (i : Nat) s, i < len → I i s → ∃ s', I (i + 1) s' ∧ F (n + 1) (i : Int) s = F n ((i + 1 : Nat) : Int) s') : ∃ s', I len s' ∧ F n 0 s = J s' :=
  loopI I h0 h1 len 0 n s (by omega) hn hi
theorem whileI {σ β : Type} {F : Nat → σ → Option β} {J : σ → Option β} (m : σ → Nat) (I : σ → Prop) (Q : σ → Prop)
    (h : ∀ n s, I s → (∃ s', Q s' ∧ F (n + 1) s = J s') ∨ (∃ s', I s' ∧ m s' < m s ∧ F (n + 1) s = F n s')) : ∀ n s, I s → m s < n → ∃ s', Q s' ∧ F n s = J s'
  | 0, s, _, h2 => by omega
  | n + 1, s, hi, h2 => by
    rcases h n s hi with ⟨s', a, b⟩ | ⟨s', a, b, c⟩
    · exact ⟨s', a, b⟩
    · rw [c]; exact whileI m I Q h n s' a (by omega)
theorem p64_eq {k : Nat} {x a b : Int} : p64 k x a b = some (decide (a ≤ x ∧ x ≤ b)) := by
  unfold p64
  simp only [jn_v, lt_v, sp_d]
  by_cases h : a ≤ x <;> by_cases h2 : x ≤ b <;> simp [h, h2]
theorem p65_eq {k : Nat} {x a b : Int} : p65 k x a b = some (decide (a ≤ x ∧ x ≤ b)) := by
  unfold p65
  simp only [jn_v, lt_v, sp_d]
  by_cases h : x ≥ a <;> by_cases h2 : x ≤ b <;> simp [h, h2]
theorem p98_eq {k : Nat} {x : Int} : p98 k x = some (!decide (0 ≤ x ∧ x ≤ 1073741824)) := by unfold p98; rw [p64_eq]; rfl
theorem p94_eq {k : Nat} {P : Int} {R : List (List Int)} {W : List WT} {x : Int} : p94 k x P R W = some (decide (0 ≤ x ∧ x < P)) := by
  unfold p94
  simp only [jn_v, lt_v, sp_d]
  by_cases h : x ≥ 0 <;> by_cases h2 : x < P <;> simp [h, h2]
def Fu (k : Nat) : Prop := 1152921504606846976 ≤ k
abbrev SzOk (z : List Int) : Prop := ∀ i, i < 6 → 0 ≤ z.getD i 0 ∧ z.getD i 0 ≤ 1073741824
noncomputable def szE (z : List Int) : Int := if SzOk z then 0 else 2
theorem p40_eq {k : Nat} (hk : Fu k) {z : List Int} : p40 k z = some (szE z) := by
  unfold Fu at hk
  unfold p40 szE
  simp only [jn_v]
  have hs := srch0 (F := p40_l1 k z (some 0)) (len := 6) (n := k) (A := some 2) (J := some 0) (fun i => ¬ (0 ≤ z.getD i 0 ∧ z.getD i 0 ≤ 1073741824)) (by omega) ?_ ?_
  · rcases hs with ⟨⟨j, a, b⟩, e⟩ | ⟨h, e⟩
    · rw [e, iF (fun h => b (h j a))]
    · rw [e, iT (fun i hi => Classical.byContradiction (h i hi))]
  · intro n; rw [p40_l1]; rfl
  · intro n i hi
    rw [p40_l1]
    simp only [lt_v, sp_d]
    rw [iT (by omega), gd_v (by omega), p65_eq]
    simp only [cl_v, sp_d, Int.toNat_natCast, Nat.mul_one, Nat.zero_add]
    rw [wr_succ hi (by omega)]
    by_cases h : 0 ≤ z.getD i 0 ∧ z.getD i 0 ≤ 1073741824
    · exact .inr ⟨not_not_intro h, iT h⟩
    · exact .inl ⟨h, iF h⟩
theorem p39_eq {k : Nat} (hk : Fu k) {z : List Int} (hz : z.length = 6) : p39 k z = some (szE z) := by
  unfold Fu at hk
  unfold p39 p62a p115a
  simp only [jn_v]
  rw [srchI0 (F := p115a_l1 k z (some (-1))) (len := 6) (n := k) (fun i => ¬ (0 ≤ z.getD i 0 ∧ z.getD i 0 ≤ 1073741824)) (by omega)]
  · simp only [cl_v, lt_v]
    rw [fst_pos]
    unfold szE
    by_cases h : SzOk z
    · rw [dF (fun ⟨j, a, b⟩ => b (h j a)), iT h, sp_ff]
    · rw [dT, iF h, sp_tt]
      exact Classical.byContradiction fun h2 => h fun i hi => Classical.byContradiction fun h3 => h2 ⟨i, hi, h3⟩
  · intro n; rw [p115a_l1]; simp only [lt_v, sp_d, hz]; rfl
  · intro n i hi
    rw [p115a_l1]
    simp only [lt_v, sp_d, hz]
    rw [iT (by omega), gd_v (by omega), p98_eq]
    simp only [cl_v, sp_nd, Int.toNat_natCast]
    rw [wr_succ hi (by omega)]
    by_cases h : 0 ≤ z.getD i 0 ∧ z.getD i 0 ≤ 1073741824
    · exact .inr ⟨not_not_intro h, iT h⟩
    · exact .inl ⟨h, iF h⟩
def setB (n : Int) : Int → List Int → Prop
  | _, [] => True
  | a, x :: r => a < x ∧ x < n ∧ setB n x r
theorem p69_l1_eq {k : Nat} {L : List Int} {n : Int} (hL : L.length ≤ 9223372036854775807) : ∀ d (i m : Nat) (a : Int), i + d = L.length → d < m → p69_l1 k L n (some true) m a (i : Int) = some (decide (setB n a (L.drop i)))
  | 0, i, m, a, h1, h2 => by
    obtain ⟨m, rfl⟩ : ∃ m', m = m' + 1 := ⟨m - 1, by omega⟩
    rw [p69_l1]
    simp only [lt_v, sp_d]
    rw [iF (by omega), List.drop_eq_nil_of_le (by omega), dT (by trivial)]
  | d + 1, i, m, a, h1, h2 => by
    obtain ⟨m, rfl⟩ : ∃ m', m = m' + 1 := ⟨m - 1, by omega⟩
    rw [p69_l1]
    simp only [lt_v, sp_d, jn_v]
    rw [iT (by omega), gd_v (by omega), wr_succ (n := L.length) (by omega) hL, p69_l1_eq hL d (i + 1) m _ (by omega) (by omega), getD_drop (by omega : i < L.length)]
    simp only [Int.toNat_natCast]
    by_cases h3 : L.getD i 0 ≤ a
    · rw [iT h3, sp_tt, dF (fun h => absurd h.1 (by omega))]
    · rw [iF h3]
      by_cases h4 : L.getD i 0 ≥ n
      · rw [iT h4, dF (fun h => absurd h.2.1 (by omega))]
      · rw [iF h4]
        congr 1
        exact dI ⟨fun h => ⟨by omega, by omega, h⟩, fun h => h.2.2⟩
theorem p69_eq {k : Nat} (hk : Fu k) {L : List Int} {n : Int} (hL : L.length ≤ 1152921504606846975) : p69 k L n = some (decide (setB n (-1) L)) := by
  unfold Fu at hk
  unfold p69
  simp only [jn_v]
  have := p69_l1_eq (k := k) (L := L) (n := n) (by omega) L.length 0 k (-1) (by omega) (by omega)
  rw [List.drop_zero] at this
  exact this
theorem setB_iff {n : Int} : ∀ {L : List Int} {a : Int}, setB n a L ↔ ∀ i, i < L.length → L.getD i 0 < n ∧ (if i = 0 then a else L.getD (i - 1) 0) < L.getD i 0
  | [], a => by simp [setB]
  | x :: r, a => by
    rw [setB, setB_iff (L := r) (a := x)]
    constructor
    · rintro ⟨h1, h2, h3⟩ i hi
      cases i with
      | zero => exact ⟨h2, h1⟩
      | succ i =>
        have := h3 i (by simpa using hi)
        simp only [List.getD_cons_succ, Nat.add_sub_cancel, if_neg (Nat.succ_ne_zero i)]
        refine ⟨this.1, ?_⟩
        cases i with
        | zero => simpa using this.2
        | succ i => simpa using this.2
    · intro h
      have h0 := h 0 (by simp)
      refine ⟨by simpa using h0.2, by simpa using h0.1, fun i hi => ?_⟩
      have := h (i + 1) (by simpa using hi)
      simp only [List.getD_cons_succ, Nat.add_sub_cancel, if_neg (Nat.succ_ne_zero i)] at this
      refine ⟨this.1, ?_⟩
      cases i with
      | zero => simpa using this.2
      | succ i => simpa using this.2
theorem setB_mem {n : Int} : ∀ {L : List Int} {a : Int}, setB n a L → ∀ x ∈ L, a < x ∧ x < n
  | [], a, _, x, hx => by cases hx
  | y :: r, a, h, x, hx => by
    rcases List.mem_cons.1 hx with e | e
    · subst e; exact ⟨h.1, h.2.1⟩
    · have := setB_mem h.2.2 x e; exact ⟨Int.lt_trans h.1 this.1, this.2⟩
theorem p83_eq {k : Nat} (hk : Fu k) {L : List Int} {n : Int} (hL : L.length ≤ 1152921504606846975) : p83 k L n = some (decide (setB n (-1) L)) := by
  unfold Fu at hk
  unfold p83
  simp only [jn_v]
  have hs := srch0 (F := p83_l1 k L n (some true)) (len := L.length) (n := k) (A := some false) (J := some true) (fun i => L.getD i 0 < 0 ∨ L.getD i 0 ≥ n ∨ (0 < i ∧ L.getD i 0 ≤ L.getD (i - 1) 0)) (by omega) ?_ ?_
  · rcases hs with ⟨⟨j, hj, hq⟩, e⟩ | ⟨h, e⟩
    · rw [e, dF]
      intro h
      have h1 := setB_iff.1 h j hj
      have h2 : -1 < L.getD j 0 := (setB_mem h _ (getD_mem hj)).1
      rcases hq with hq | hq | hq
      · omega
      · omega
      · rw [iF (by omega)] at h1; omega
    · rw [e, dT]
      refine setB_iff.2 fun i hi => ?_
      have h3 := h i hi
      refine ⟨by omega, ?_⟩
      split <;> omega
  · intro n; rw [p83_l1]; simp only [lt_v, sp_d]; rw [iF (by omega)]
  · intro n i hi
    rw [p83_l1]
    simp only [lt_v, sp_d, jn_v]
    rw [iT (by omega), gd_v (by omega), gd_v (by omega), gd_v (by omega), wr_succ hi (by omega)]
    simp only [Int.toNat_natCast]
    by_cases h1 : L.getD i 0 < 0
    · exact .inl ⟨.inl h1, by rw [iT h1, sp_tt]⟩
    · rw [iF h1]
      by_cases h2 : L.getD i 0 ≥ ‹Int›
      · exact .inl ⟨.inr (.inl h2), by rw [iT h2, sp_tt]⟩
      · rw [iF h2]
        by_cases h3 : i > 0
        · have e1 : wr .i64 ((i : Int) - 1) = ((i - 1 : Nat) : Int) := by rw [wr64 (by omega) (by omega)]; omega
          rw [iT (by omega), e1, gd_v (by omega), Int.toNat_natCast]
          by_cases h4 : L.getD i 0 ≤ L.getD (i - 1) 0
          · exact .inl ⟨.inr (.inr ⟨h3, h4⟩), by rw [iT h4]⟩
          · exact .inr ⟨by omega, by rw [iF h4]⟩
        · exact .inr ⟨by omega, by rw [iF (by omega), sp_ff]⟩
end Go.Proofs.Ythniebmammmacaa
namespace Go.Proofs.Ythniebmammmacaa
open Go.RowKit Classical
def rd (R : List (List Int)) (i : Nat) : List Int := R.getD i []
def wk (W : List WT) (i : Nat) : WT := W.getD i ([], [])
def rF (r : List Int) : Int := r.getD 0 0
def rT (r : List Int) : Int := r.getD 1 0
def rC (r : List Int) : Int := r.getD 2 0
def rM (r : List Int) : Int := r.getD 3 0
def rO (r : List Int) : Int := r.getD 4 0
def rL (r : List Int) : Int := r.getD 5 0
def wM (w : WT) : Int := w.2.getD 0 0
def wL (w : WT) : Int := w.2.getD 1 0
def wC (w : WT) : Int := w.2.getD 2 0
theorem rd_mem {R : List (List Int)} {i : Nat} (h : i < R.length) : rd R i ∈ R := by
  unfold rd; rw [List.getD_eq_getElem?_getD, List.getElem?_eq_getElem h]; exact List.getElem_mem h
def RoadA (P f t c m o l : Int) : Prop := (0 ≤ f ∧ f < P) ∧ (0 ≤ t ∧ t < P) ∧ f ≠ t ∧ (1 ≤ c ∧ c ≤ 1073741824) ∧ (1 ≤ m ∧ m ≤ 1440) ∧ 0 ≤ o ∧ o < l ∧ l ≤ 1440 ∧ m ≤ l - o
structure RoadOk (P : Int) (r : List Int) : Prop where
  ar : RoadA P (rF r) (rT r) (rC r) (rM r) (rO r) (rL r)
  sz : SzOk (List.take 6 (List.drop 6 r))
structure WorkOk (n : Int) (w : WT) : Prop where
  ne : 1 ≤ w.1.length
  me : 0 ≤ wM w ∧ wM w ≤ 5
  li : 0 ≤ wL w ∧ wL w ≤ 1073741824
  co : 1 ≤ wC w ∧ wC w ≤ 1073741824
  set : setB n (-1) w.1
structure MapOk (P : Int) (R : List (List Int)) (W : List WT) : Prop where
  r256 : R.length ≤ 256
  w10 : W.length ≤ 10
  w16 : ∀ i, i < W.length → (wk W i).1.length ≤ 16
  places : 1 ≤ P ∧ P ≤ 64
  road : ∀ i, i < R.length → RoadOk P (rd R i)
  work : ∀ i, i < W.length → WorkOk (R.length : Int) (wk W i)
def Many (R : List (List Int)) (W : List WT) : Prop := 256 < R.length ∨ 10 < W.length ∨ ∃ i, i < W.length ∧ 16 < (wk W i).1.length
noncomputable def chkE (P : Int) (R : List (List Int)) (W : List WT) : Int := if Many R W then 6 else if MapOk P R W then 0 else 2
theorem chkE_zero {P R W} : chkE P R W = 0 ↔ MapOk P R W := by
  unfold chkE
  constructor
  · intro h
    split at h
    · cases h
    · split at h
      · assumption
      · cases h
  · intro h
    rw [iF, iT h]
    rintro (h1 | h1 | ⟨i, h1, h2⟩)
    · have := h.r256; omega
    · have := h.w10; omega
    · have := h.w16 i h1; omega
theorem szE_zero {z} : szE z = 0 ↔ SzOk z := by
  unfold szE
  constructor
  · intro h
    split at h
    · assumption
    · cases h
  · intro h; rw [iT h]
theorem szE_ne {z} : (szE z != 0) = decide (¬ SzOk z) := by
  rw [bne_d]; exact dI (not_congr szE_zero)
theorem szE_eq {z} : (szE z == 0) = decide (SzOk z) := by
  rw [beq_d]; exact dI szE_zero
theorem chkE_ne {P R W} : (chkE P R W != 0) = decide (¬ MapOk P R W) := by
  rw [bne_d]; exact dI (not_congr chkE_zero)
theorem chkE_eq {P R W} : (chkE P R W == 0) = decide (MapOk P R W) := by
  rw [beq_d]; exact dI chkE_zero
structure Shape (R : List (List Int)) (W : List WT) : Prop where
  rl : R.length ≤ 9223372036854775807
  r12 : ∀ r ∈ R, r.length = 12
  wl : W.length ≤ 9223372036854775807
theorem p29_l1_eq {k n : Nat} {W : List WT} {j : Option Int} (hn : W.length < n) (hW : W.length ≤ 10) :
    ((∃ i, i < W.length ∧ 16 < (wk W i).1.length) ∧ p29_l1 k W j n 0 = some 6) ∨ ((∀ i, i < W.length → ¬ 16 < (wk W i).1.length) ∧ p29_l1 k W j n 0 = j) := by
  refine srch0 (F := p29_l1 k W j) (len := W.length) (n := n) (A := some 6) (J := j) (fun i => 16 < (wk W i).1.length) hn ?_ ?_
  · intro n; rw [p29_l1]; simp only [lt_v, sp_d]; rw [iF (by omega)]
  · intro n i hi
    rw [p29_l1]
    simp only [lt_v, sp_d]
    rw [iT (by omega), gd_v (by omega), Int.toNat_natCast, wr_succ hi (by omega)]
    by_cases h : 16 < (wk W i).1.length
    · exact .inl ⟨h, by unfold wk at h; rw [iT (by omega)]⟩
    · exact .inr ⟨h, by unfold wk at h; rw [iF (by omega)]⟩
theorem p29_l2_eq {k n : Nat} (hk : Fu k) {P : Int} {R : List (List Int)} {j : Option Int} (hn : R.length < n) (hR : R.length ≤ 256) :
    ((∃ i, i < R.length ∧ ¬ RoadOk P (rd R i)) ∧ p29_l2 k P R j n 0 = some 2) ∨ ((∀ i, i < R.length → ¬ ¬ RoadOk P (rd R i)) ∧ p29_l2 k P R j n 0 = j) := by
  refine srch0 (F := p29_l2 k P R j) (len := R.length) (n := n) (A := some 2) (J := j) (fun i => ¬ RoadOk P (rd R i)) hn ?_ ?_
  · intro n; rw [p29_l2]; simp only [lt_v, sp_d]; rw [iF (by omega)]
  · intro n i hi
    rw [p29_l2]
    simp only [lt_v, sp_d, jn_v, sp_tt, sp_ff, p65_eq, cl_v, p40_eq hk, szE_ne, beq_d]
    rw [iT (by omega), gd_v (by omega), Int.toNat_natCast, wr_succ hi (by omega)]
    have hr : R.getD i [] = rd R i := rfl
    rw [hr]
    simp only [show (rd R i).getD 0 0 = rF (rd R i) from rfl, show (rd R i).getD 1 0 = rT (rd R i) from rfl, show (rd R i).getD 2 0 = rC (rd R i) from rfl, show (rd R i).getD 3 0 = rM (rd R i) from rfl, show (rd R i).getD 4 0 = rO (rd R i) from rfl, show (rd R i).getD 5 0 = rL (rd R i) from rfl]
    by_cases h : RoadOk P (rd R i)
    · refine .inr ⟨not_not_intro h, ?_⟩
      have ha := h.ar
      unfold RoadA at ha
      rw [iF (by omega), iF (by omega), iF (by omega), iF (by omega), iF (by omega), iT (by omega), iT (by omega), iF (by omega), iF (by omega), iF (by omega), wr64 (by omega) (by omega), iF (by omega), iF (not_not_intro h.sz)]
    · refine .inl ⟨h, ?_⟩
      by_cases h1 : rF (rd R i) < 0
      · rw [iT h1]
      rw [iF h1]
      by_cases h2 : rF (rd R i) ≥ P
      · rw [iT h2]
      rw [iF h2]
      by_cases h3 : rT (rd R i) < 0
      · rw [iT h3]
      rw [iF h3]
      by_cases h4 : rT (rd R i) ≥ P
      · rw [iT h4]
      rw [iF h4]
      by_cases h5 : rF (rd R i) = rT (rd R i)
      · rw [iT h5]
      rw [iF h5]
      by_cases h6 : 1 ≤ rC (rd R i) ∧ rC (rd R i) ≤ 1073741824
      rotate_left
      · rw [iF h6]
      rw [iT h6]
      by_cases h7 : 1 ≤ rM (rd R i) ∧ rM (rd R i) ≤ 1440
      rotate_left
      · rw [iF h7]
      rw [iT h7]
      by_cases h8 : rO (rd R i) < 0
      · rw [iT h8]
      rw [iF h8]
      by_cases h9 : rO (rd R i) ≥ rL (rd R i)
      · rw [iT h9]
      rw [iF h9]
      by_cases h10 : rL (rd R i) > 1440
      · rw [iT h10]
      rw [iF h10, wr64 (by omega) (by omega)]
      by_cases h11 : rL (rd R i) - rO (rd R i) < rM (rd R i)
      · rw [iT h11]
      rw [iF h11, iT]
      intro hs
      exact h ⟨by unfold RoadA; omega, hs⟩
theorem p29_l3_eq {k n : Nat} (hk : Fu k) {R : List (List Int)} {W : List WT} {j : Option Int} (hn : W.length < n) (hW : W.length ≤ 10) (h16 : ∀ i, i < W.length → (wk W i).1.length ≤ 16) :
    ((∃ i, i < W.length ∧ ¬ WorkOk R.length (wk W i)) ∧ p29_l3 k R W j n 0 = some 2) ∨ ((∀ i, i < W.length → ¬ ¬ WorkOk R.length (wk W i)) ∧ p29_l3 k R W j n 0 = j) := by
  refine srch0 (F := p29_l3 k R W j) (len := W.length) (n := n) (A := some 2) (J := j) (fun i => ¬ WorkOk R.length (wk W i)) hn ?_ ?_
  · intro n; rw [p29_l3]; simp only [lt_v, sp_d]; rw [iF (by omega)]
  · intro n i hi
    have hl := h16 i hi
    rw [p29_l3]
    simp only [lt_v, sp_d, jn_v, sp_tt, sp_ff, p65_eq, cl_v]
    rw [iT (by omega), gd_v (by omega), Int.toNat_natCast, wr_succ hi (by omega)]
    have hr : W.getD i ([], []) = wk W i := rfl
    rw [hr, p83_eq hk (by omega)]
    simp only [cl_v, sp_nd]
    simp only [show (wk W i).2.getD 0 0 = wM (wk W i) from rfl, show (wk W i).2.getD 1 0 = wL (wk W i) from rfl, show (wk W i).2.getD 2 0 = wC (wk W i) from rfl]
    by_cases h : WorkOk R.length (wk W i)
    · refine .inr ⟨not_not_intro h, ?_⟩
      have h1 := h.ne; have h2 := h.me; have h3 := h.li; have h4 := h.co
      rw [iF (by omega), iF (by omega), iF (by omega), iT h3, iT h4, iT h.set]
    · refine .inl ⟨h, ?_⟩
      by_cases h1 : ((wk W i).1.length : Int) < 1
      · rw [iT h1]
      rw [iF h1]
      by_cases h2 : wM (wk W i) < 0
      · rw [iT h2]
      rw [iF h2]
      by_cases h3 : wM (wk W i) > 5
      · rw [iT h3]
      rw [iF h3]
      by_cases h4 : 0 ≤ wL (wk W i) ∧ wL (wk W i) ≤ 1073741824
      rotate_left
      · rw [iF h4]
      rw [iT h4]
      by_cases h5 : 1 ≤ wC (wk W i) ∧ wC (wk W i) ≤ 1073741824
      rotate_left
      · rw [iF h5]
      rw [iT h5, iF]
      intro hs
      exact h ⟨by omega, by omega, h4, h5, hs⟩
theorem p29_eq {k : Nat} (hk : Fu k) {P : Int} {R : List (List Int)} {W : List WT} : p29 k P R W = some (chkE P R W) := by
  have hk' := hk
  unfold Fu at hk'
  unfold p29 chkE
  simp only [jn_v, lt_v, sp_d, sp_tt, sp_ff]
  by_cases h1 : 256 < R.length
  · rw [iT (by omega), iT (.inl h1)]
  rw [iF (by omega)]
  by_cases h2 : 10 < W.length
  · rw [iT (by omega), iT (.inr (.inl h2))]
  rw [iF (by omega)]
  rcases p29_l1_eq (k := k) (n := k) (W := W) (by omega) (by omega) with ⟨h, e⟩ | ⟨h, e⟩
  · rw [e, iT (.inr (.inr h))]
  rw [e, iF (p := Many R W) (fun x => x.elim h1 fun y => y.elim h2 fun ⟨i, a, b⟩ => h i a b)]
  have hb : ∀ {x : Option Int}, ¬ MapOk P R W → some (2 : Int) = some (if MapOk P R W then 0 else 2) := fun h => by rw [iF h]
  by_cases h3 : P < 1
  · rw [iT h3]; exact hb (x := none) (fun h => by have := h.places; omega)
  rw [iF h3]
  by_cases h4 : P > 64
  · rw [iT h4]; exact hb (x := none) (fun h => by have := h.places; omega)
  rw [iF h4]
  rcases p29_l2_eq (k := k) (n := k) hk (P := P) (R := R) (by omega) (by omega) with ⟨⟨i, a, b⟩, e⟩ | ⟨hr, e⟩
  · rw [e]; exact hb (x := none) (fun h => b (h.road i a))
  rw [e]
  rcases p29_l3_eq (k := k) (n := k) hk (R := R) (W := W) (by omega) (by omega) (fun i hi => by have := h i hi; omega) with ⟨⟨i, a, b⟩, e⟩ | ⟨hw, e⟩
  · rw [e]; exact hb (x := none) (fun h => b (h.work i a))
  rw [e, iT]
  exact ⟨by omega, by omega, fun i hi => by have := h i hi; omega, by omega, fun i hi => Classical.byContradiction (hr i hi), fun i hi => Classical.byContradiction (hw i hi)⟩
theorem p127a_eq {k : Nat} (hk : Fu k) {W : List WT} (hW : W.length ≤ 10) : p92a k W = some (decide (∃ i, i < W.length ∧ 16 < (wk W i).1.length)) := by
  unfold Fu at hk
  unfold p92a p127a
  simp only [jn_v]
  rw [srchI0 (F := p127a_l1 k W (some (-1))) (len := W.length) (n := k) (fun i => 16 < (wk W i).1.length) (by omega)]
  · simp only [cl_v, lt_v]
    rw [fst_pos]
    exact congrArg some (dI Iff.rfl)
  · intro n; rw [p127a_l1]; simp only [lt_v, sp_d]; rw [iF (by omega)]
  · intro n i hi
    rw [p127a_l1]
    unfold p93
    simp only [lt_v, sp_d, cl_v]
    rw [iT (by omega), gd_v (by omega), Int.toNat_natCast, wr_succ hi (by omega)]
    by_cases h : 16 < (wk W i).1.length
    · exact .inl ⟨h, by unfold wk at h; rw [iT (by omega)]⟩
    · exact .inr ⟨h, by unfold wk at h; rw [iF (by omega)]⟩
theorem p95_eq {k : Nat} (hk : Fu k) {P : Int} {R : List (List Int)} {W : List WT} {r : List Int} (hr : r.length = 12) : p95 k r P R W = some (decide (¬ RoadOk P r)) := by
  unfold p95
  simp only [lt_v, sp_d, jn_v, sp_tt, sp_ff, p64_eq, p94_eq, cl_v, p39_eq hk (show (List.take 6 (List.drop 6 r)).length = 6 from by simp [hr]), szE_ne, beq_d, mn_eq]
  simp only [show r.getD 0 0 = rF r from rfl, show r.getD 1 0 = rT r from rfl, show r.getD 2 0 = rC r from rfl, show r.getD 3 0 = rM r from rfl, show r.getD 4 0 = rO r from rfl, show r.getD 5 0 = rL r from rfl]
  have aux : ∀ b : Bool, (b = true ↔ (0 ≤ rO r ∧ rO r < rL r ∧ rL r ≤ 1440 ∧ 1 ≤ rM r ∧ rM r ≤ rL r - rO r)) → (if 0 ≤ rF r ∧ rF r < P then if 0 ≤ rT r ∧ rT r < P then if rF r = rT r then some true else if 1 ≤ rC r ∧ rC r ≤ 1073741824 then sp b (some (decide (¬ SzOk (List.take 6 (List.drop 6 r))))) (some true) else some true else some true else some true) = some (decide (¬ RoadOk P r)) := by
    intro b hb
    by_cases h1 : 0 ≤ rF r ∧ rF r < P
    rotate_left
    · rw [iF h1, dT]; intro h; have := h.ar; unfold RoadA at this; omega
    rw [iT h1]
    by_cases h2 : 0 ≤ rT r ∧ rT r < P
    rotate_left
    · rw [iF h2, dT]; intro h; have := h.ar; unfold RoadA at this; omega
    rw [iT h2]
    by_cases h3 : rF r = rT r
    · rw [iT h3, dT]; intro h; have := h.ar; unfold RoadA at this; omega
    rw [iF h3]
    by_cases h4 : 1 ≤ rC r ∧ rC r ≤ 1073741824
    rotate_left
    · rw [iF h4, dT]; intro h; have := h.ar; unfold RoadA at this; omega
    rw [iT h4]
    cases b with
    | false =>
      rw [sp_ff, dT]; intro h
      have := h.ar; unfold RoadA at this
      have := hb.2 (by omega)
      cases this
    | true =>
      rw [sp_tt]
      have h5 := hb.1 rfl
      congr 1
      refine dI (not_congr ⟨fun h => ⟨by unfold RoadA; omega, h⟩, fun h => h.sz⟩)
  by_cases h1 : rO r ≥ 0
  rotate_left
  · rw [iF h1]; exact aux false ⟨fun h => (by cases h), fun h => (by omega)⟩
  rw [iT h1]
  by_cases h2 : rO r < rL r
  rotate_left
  · rw [iF h2]; exact aux false ⟨fun h => (by cases h), fun h => (by omega)⟩
  rw [iT h2]
  by_cases h3 : rL r ≤ 1440
  rotate_left
  · rw [iF h3]; exact aux false ⟨fun h => (by cases h), fun h => (by omega)⟩
  rw [iT h3, wr64 (by omega) (by omega)]
  have := aux (decide (1 ≤ rM r ∧ rM r ≤ min 1440 (rL r - rO r))) (by rw [decide_eq_true_iff]; omega)
  rw [sp_d] at this
  exact this
theorem p97a_eq {k : Nat} (hk : Fu k) {P : Int} {R S : List (List Int)} {W : List WT} (hr : ∀ r ∈ R, r.length = 12) (hR : R.length ≤ 256) : p97a k R P S W = some (decide (∃ i, i < R.length ∧ ¬ RoadOk P (rd R i))) := by
  have hk' := hk
  unfold Fu at hk'
  unfold p97a p80c
  simp only [jn_v]
  rw [srchI0 (F := p80c_l1 k R P S W (some (-1))) (len := R.length) (n := k) (fun i => ¬ RoadOk P (rd R i)) (by omega)]
  · simp only [cl_v, lt_v]
    rw [fst_pos]
    exact congrArg some (dI Iff.rfl)
  · intro n; rw [p80c_l1]; simp only [lt_v, sp_d]; rw [iF (by omega)]
  · intro n i hi
    rw [p80c_l1]
    simp only [lt_v, sp_d, cl_v]
    rw [iT (by omega), gd_v (by omega), Int.toNat_natCast, wr_succ hi (by omega)]
    have hd : R.getD i [] = rd R i := rfl
    rw [hd, p95_eq hk (hr _ (rd_mem hi)), cl_v, sp_d]
    by_cases h : ¬ RoadOk P (rd R i)
    · exact .inl ⟨h, by rw [iT h]⟩
    · exact .inr ⟨h, by rw [iF h]⟩
theorem p96_eq {k : Nat} (hk : Fu k) {P : Int} {R : List (List Int)} {W : List WT} {w : WT} (hw : w.1.length ≤ 16) : p96 k w.1 (wM w) (wL w) (wC w) P R W = some (decide (¬ WorkOk R.length w)) := by
  unfold p96
  simp only [lt_v, sp_d, jn_v, sp_tt, sp_ff, p64_eq, cl_v, p69_eq hk (show w.1.length ≤ 1152921504606846975 from by omega), beq_d]
  by_cases h1 : (w.1.length : Int) = 0
  · rw [iT h1, dT]; intro h; have := h.ne; omega
  rw [iF h1]
  by_cases h2 : setB R.length (-1) w.1
  rotate_left
  · rw [iF h2, dT]; intro h; exact h2 h.set
  rw [iT h2]
  by_cases h3 : wM w < 0
  · rw [iT h3, dT]; intro h; have := h.me; omega
  rw [iF h3]
  by_cases h4 : wM w > 5
  · rw [iT h4, dT]; intro h; have := h.me; omega
  rw [iF h4]
  by_cases h5 : 0 ≤ wL w ∧ wL w ≤ 1073741824
  rotate_left
  · rw [iF h5, dT]; intro h; exact h5 h.li
  rw [iT h5]
  by_cases h6 : 1 ≤ wC w ∧ wC w ≤ 1073741824
  · rw [dT h6, dF (not_not_intro ⟨by omega, by omega, h5, h6, h2⟩)]; rfl
  · rw [dF h6, dT]
    · rfl
    · intro h; exact h6 h.co
theorem p92b_eq {k : Nat} (hk : Fu k) {P : Int} {R : List (List Int)} {W V : List WT} (hW : W.length ≤ 10) (h16 : ∀ i, i < W.length → (wk W i).1.length ≤ 16) : p92b k W P R V = some (decide (∃ i, i < W.length ∧ ¬ WorkOk R.length (wk W i))) := by
  have hk' := hk
  unfold Fu at hk'
  unfold p92b p127b
  simp only [jn_v]
  rw [srchI0 (F := p127b_l1 k W P R V (some (-1))) (len := W.length) (n := k) (fun i => ¬ WorkOk R.length (wk W i)) (by omega)]
  · simp only [cl_v, lt_v]
    rw [fst_pos]
    exact congrArg some (dI Iff.rfl)
  · intro n; rw [p127b_l1]; simp only [lt_v, sp_d]; rw [iF (by omega)]
  · intro n i hi
    rw [p127b_l1]
    simp only [lt_v, sp_d, cl_v]
    rw [iT (by omega), gd_v (by omega), Int.toNat_natCast, wr_succ hi (by omega)]
    have hd := p96_eq (k := k) hk (P := P) (R := R) (W := V) (h16 i hi)
    unfold wM wL wC wk at hd
    rw [hd, cl_v, sp_d]
    by_cases h : ¬ WorkOk R.length (wk W i)
    · exact .inl ⟨h, by unfold wk at h; rw [iT h]⟩
    · exact .inr ⟨h, by unfold wk at h; rw [iF h]⟩
theorem p38_eq {k : Nat} (hk : Fu k) {P : Int} {R : List (List Int)} {W : List WT} (hr : ∀ r ∈ R, r.length = 12) : p38 k P R W = some (chkE P R W) := by
  unfold p38 chkE
  simp only [jn_v, lt_v, sp_d, sp_tt, sp_ff]
  by_cases h1 : 256 < R.length
  · rw [iT (by omega), iT (.inl h1)]
  rw [iF (by omega)]
  by_cases h2 : 10 < W.length
  · rw [iT (by omega), iT (.inr (.inl h2))]
  rw [iF (by omega), p127a_eq hk (by omega), cl_v]
  by_cases h : ∃ i, i < W.length ∧ 16 < (wk W i).1.length
  · rw [dT h, sp_tt, iT (.inr (.inr h))]
  rw [dF h, sp_ff, iF (p := Many R W) (fun x => x.elim h1 fun y => y.elim h2 h)]
  have hb : ∀ {x : Option Int}, ¬ MapOk P R W → some (2 : Int) = some (if MapOk P R W then 0 else 2) := fun h => by rw [iF h]
  by_cases h3 : P < 1
  · rw [iT h3]; exact hb (x := none) (fun h => by have := h.places; omega)
  rw [iF h3]
  by_cases h4 : P > 64
  · rw [iT h4]; exact hb (x := none) (fun h => by have := h.places; omega)
  rw [iF h4, p97a_eq hk hr (by omega), cl_v]
  have h16 : ∀ i, i < W.length → (wk W i).1.length ≤ 16 := fun i hi => by
    rcases Nat.lt_or_ge 16 (wk W i).1.length with a | a
    · exact absurd ⟨i, hi, a⟩ h
    · exact a
  by_cases h5 : ∃ i, i < R.length ∧ ¬ RoadOk P (rd R i)
  · rw [dT h5, sp_tt]; obtain ⟨i, a, b⟩ := h5; exact hb (x := none) (fun h => b (h.road i a))
  rw [dF h5, sp_ff, p92b_eq hk (by omega) h16, cl_v]
  by_cases h6 : ∃ i, i < W.length ∧ ¬ WorkOk R.length (wk W i)
  · rw [dT h6, sp_tt]; obtain ⟨i, a, b⟩ := h6; exact hb (x := none) (fun h => b (h.work i a))
  rw [dF h6, sp_ff, iT]
  exact ⟨by omega, by omega, h16, by omega, fun i hi => Classical.byContradiction fun a => h5 ⟨i, hi, a⟩, fun i hi => Classical.byContradiction fun a => h6 ⟨i, hi, a⟩⟩
end Go.Proofs.Ythniebmammmacaa
namespace Go.Proofs.Ythniebmammmacaa
open Go.RowKit Classical
def rdsOk (n : Nat) (L : List Int) : Prop := ∀ x ∈ L, 0 ≤ x ∧ x < (n : Int)
noncomputable def rdsE (n : Nat) (L : List Int) : Int := if 256 < L.length then 6 else if rdsOk n L then 0 else 3
theorem rdsOk_iff {n : Nat} {L : List Int} : rdsOk n L ↔ ∀ i, i < L.length → 0 ≤ L.getD i 0 ∧ L.getD i 0 < (n : Int) := by
  constructor
  · intro h i hi; exact h _ (getD_mem hi)
  · intro h x hx
    obtain ⟨i, hi, rfl⟩ := mem_getD hx
    exact h i hi
theorem p85b_eq {k : Nat} (hk : Fu k) {P : Int} {R : List (List Int)} {W : List WT} {L : List Int} (hL : L.length ≤ 256) : p85b k L P R W = some (decide (¬ rdsOk R.length L)) := by
  unfold Fu at hk
  unfold p85b p125b
  simp only [jn_v]
  rw [srchI0 (F := p125b_l1 k L P R W (some (-1))) (len := L.length) (n := k) (fun i => ¬ (0 ≤ L.getD i 0 ∧ L.getD i 0 < (R.length : Int))) (by omega)]
  · simp only [cl_v, lt_v]
    rw [fst_pos]
    refine congrArg some (dI ⟨fun ⟨j, a, b⟩ h => b (rdsOk_iff.1 h j a), fun h => Classical.byContradiction fun h2 => h (rdsOk_iff.2 fun i hi => Classical.byContradiction fun h3 => h2 ⟨i, hi, h3⟩)⟩)
  · intro n; rw [p125b_l1]; simp only [lt_v, sp_d]; rw [iF (by omega)]
  · intro n i hi
    rw [p125b_l1]
    unfold p116
    simp only [lt_v, sp_d, cl_v, jn_v]
    rw [iT (by omega), gd_v (by omega), Int.toNat_natCast, wr_succ hi (by omega)]
    by_cases h : L.getD i 0 < 0
    · exact .inl ⟨by omega, by rw [iT h, cl_v, sp_tt]⟩
    rw [iF h, cl_v, sp_d]
    by_cases h2 : L.getD i 0 ≥ (R.length : Int)
    · exact .inl ⟨by omega, by rw [iT h2]⟩
    · exact .inr ⟨by omega, by rw [iF h2]⟩
theorem p66_eq {k : Nat} (hk : Fu k) {P : Int} {R : List (List Int)} {W : List WT} {L : List Int} : p66 k P R W L = some (rdsE R.length L) := by
  unfold p66 rdsE
  simp only [jn_v, lt_v, sp_d]
  by_cases h1 : 256 < L.length
  · rw [iT (by omega), iT h1]
  rw [iF (by omega), iF h1, p85b_eq hk (by omega), cl_v, sp_d]
  by_cases h : rdsOk R.length L
  · rw [iF (not_not_intro h), iT h]
  · rw [iT h, iF h]
theorem p67_eq {k : Nat} (hk : Fu k) {P : Int} {R : List (List Int)} {W : List WT} {L : List Int} (hL : L.length ≤ 256) : p67 k P R W L = some (if ∀ x ∈ L, 0 ≤ x ∧ x < P then 0 else 3) := by
  unfold Fu at hk
  unfold p67 p85a p125a
  simp only [jn_v]
  rw [srchI0 (F := p125a_l1 k L P R W (some (-1))) (len := L.length) (n := k) (fun i => ¬ (0 ≤ L.getD i 0 ∧ L.getD i 0 < P)) (by omega)]
  · simp only [cl_v, lt_v]
    rw [fst_pos]
    by_cases h : ∀ x ∈ L, 0 ≤ x ∧ x < P
    · rw [dF, sp_ff, iT h]
      rintro ⟨j, a, b⟩; exact b (h _ (getD_mem a))
    · rw [dT, sp_tt, iF h]
      refine Classical.byContradiction fun h2 => h fun x hx => ?_
      obtain ⟨i, hi, rfl⟩ := mem_getD hx
      exact Classical.byContradiction fun h3 => h2 ⟨i, hi, h3⟩
  · intro n; rw [p125a_l1]; simp only [lt_v, sp_d]; rw [iF (by omega)]
  · intro n i hi
    rw [p125a_l1]
    unfold p117
    simp only [lt_v, sp_d, cl_v, jn_v]
    rw [iT (by omega), gd_v (by omega), Int.toNat_natCast, wr_succ hi (by omega)]
    by_cases h : L.getD i 0 < 0
    · exact .inl ⟨by omega, by rw [iT h, cl_v, sp_tt]⟩
    rw [iF h, cl_v, sp_d]
    by_cases h2 : L.getD i 0 ≥ P
    · exact .inl ⟨by omega, by rw [iT h2]⟩
    · exact .inr ⟨by omega, by rw [iF h2]⟩
def bitsF (m : Nat) : Nat → Nat → List Int
  | 0, _ => []
  | d + 1, i => if m.testBit i then (i : Int) :: bitsF m d (i + 1) else bitsF m d (i + 1)
def bitsL (m n : Nat) : List Int := bitsF m n 0
theorem mem_bitsF {m : Nat} : ∀ {d i : Nat} {x : Int}, x ∈ bitsF m d i ↔ ∃ j : Nat, i ≤ j ∧ j < i + d ∧ m.testBit j = true ∧ x = (j : Int)
  | 0, i, x => ⟨fun h => (by cases h), fun ⟨j, a, b, _⟩ => (by omega)⟩
  | d + 1, i, x => by
    rw [bitsF]
    have ih := mem_bitsF (m := m) (d := d) (i := i + 1) (x := x)
    constructor
    · intro h
      split at h
      · rename_i hb
        rcases List.mem_cons.1 h with e | e
        · exact ⟨i, Nat.le_refl _, by omega, hb, e⟩
        · obtain ⟨j, a, b, c⟩ := ih.1 e; exact ⟨j, by omega, by omega, c⟩
      · obtain ⟨j, a, b, c⟩ := ih.1 h; exact ⟨j, by omega, by omega, c⟩
    · rintro ⟨j, a, b, c, e⟩
      rcases Nat.eq_or_lt_of_le a with g | g
      · subst g; rw [if_pos c]; exact List.mem_cons.2 (.inl e)
      · have h3 := ih.2 ⟨j, g, by omega, c, e⟩
        split
        · exact List.mem_cons.2 (.inr h3)
        · exact h3
theorem mem_bitsL {m n : Nat} {x : Int} : x ∈ bitsL m n ↔ ∃ j : Nat, j < n ∧ m.testBit j = true ∧ x = (j : Int) := by
  unfold bitsL
  rw [mem_bitsF]
  constructor
  · rintro ⟨j, _, b, c⟩; exact ⟨j, by omega, c⟩
  · rintro ⟨j, b, c⟩; exact ⟨j, Nat.zero_le _, by omega, c⟩
theorem bitsF_len {m : Nat} : ∀ {d i : Nat}, (bitsF m d i).length ≤ d
  | 0, i => Nat.le_refl _
  | d + 1, i => by
    rw [bitsF]
    have := bitsF_len (m := m) (d := d) (i := i + 1)
    split
    · simp only [List.length_cons]; omega
    · omega
theorem bitsL_len {m n : Nat} : (bitsL m n).length ≤ n := bitsF_len
theorem bitsF_set {m n : Nat} : ∀ {d i : Nat} {a : Int}, i + d ≤ n → a < (i : Int) → setB n a (bitsF m d i)
  | 0, i, a, h, h2 => trivial
  | d + 1, i, a, h, h2 => by
    rw [bitsF]
    split
    · exact ⟨h2, by omega, bitsF_set (by omega) (by omega)⟩
    · exact bitsF_set (by omega) (by omega)
theorem bitsL_set {m n : Nat} : setB n (-1) (bitsL m n) := bitsF_set (by omega) (by omega)
theorem bitsF_nil {m : Nat} : ∀ {d i : Nat}, m < 2 ^ i → bitsF m d i = []
  | 0, i, h => rfl
  | d + 1, i, h => by
    rw [bitsF]
    rw [Nat.testBit_lt_two_pow h, if_neg (by decide)]
    exact bitsF_nil (Nat.lt_of_lt_of_le h (Nat.pow_le_pow_right (by omega) (by omega)))
theorem wruN {a : Nat} (h : a < 2 ^ 64) : wr .u64 (a : Int) = (a : Int) := wru (by omega) (by omega)
theorem shr_eq {m i : Nat} (hi : i ≤ 64) : Int.fdiv (m : Int) (2 ^ (min ((i : Int)).toNat (IntKind.bits .u64))) = ((m >>> i : Nat) : Int) := by
  rw [Int.toNat_natCast, show min i (IntKind.bits .u64) = i from Nat.min_eq_left hi, Nat.shiftRight_eq_div_pow]
  rw [Int.fdiv_eq_ediv_of_nonneg _ (by exact Int.le_of_lt (Int.pow_pos (by omega)))]
  simp
theorem ofInt_nat {a : Nat} (h : a < 2 ^ 64) : (BitVec.ofInt (IntKind.bits .u64) (a : Int)).toNat = a := by
  show (BitVec.ofInt 64 (a : Int)).toNat = a
  simp [BitVec.toNat_ofInt]
  omega
theorem bor_nat {a b : Nat} (ha : a < 2 ^ 64) (hb : b < 2 ^ 64) : bor .u64 (a : Int) (b : Int) = ((a ||| b : Nat) : Int) := by
  unfold bor
  rw [BitVec.toNat_or, ofInt_nat ha, ofInt_nat hb]
theorem band_one {a : Nat} (ha : a < 2 ^ 64) : band .u64 (a : Int) 1 = ((a % 2 : Nat) : Int) := by
  unfold band
  have h := ofInt_nat (a := 1) (by decide)
  rw [show ((1 : Nat) : Int) = 1 from rfl] at h
  rw [BitVec.toNat_and, ofInt_nat ha, h, Nat.and_one_is_mod]
theorem p124_l1_eq {k m n : Nat} (hn : n ≤ 63) (hm : m < 2 ^ n) : ∀ (d i f : Nat), i + d = n → d < f → p124_l1 k (m : Int) f (i : Int) = some (bitsF m d i)
  | d, i, f + 1, h1, h2 => by
    have h64 : m < 2 ^ 64 := Nat.lt_of_lt_of_le hm (Nat.pow_le_pow_right (by omega) (by omega))
    rw [p124_l1]
    simp only [lt_v]
    rw [gd_v (by omega), shr_eq (by omega), gd_v (by omega)]
    have hle : m >>> i ≤ m := by rw [Nat.shiftRight_eq_div_pow]; exact Nat.div_le_self _ _
    rw [band_one (Nat.lt_of_le_of_lt hle h64), wru (by omega) (by omega), wr64 (by omega) (by omega)]
    rw [bne_d, beq_d, sp_d, sp_d]
    by_cases h0 : m >>> i = 0
    · rw [iF (by omega)]
      have : m < 2 ^ i := by
        rw [Nat.shiftRight_eq_div_pow] at h0
        rcases Nat.lt_or_ge m (2 ^ i) with a | a
        · exact a
        · have := Nat.div_pos a (Nat.two_pow_pos i); omega
      rw [bitsF_nil this]
    · rw [iT (by omega)]
      have hd : d ≠ 0 := by
        rintro rfl
        apply h0
        rw [Nat.shiftRight_eq_div_pow, show i = n from by omega]
        exact Nat.div_eq_of_lt hm
      obtain ⟨d', rfl⟩ : ∃ d', d = d' + 1 := ⟨d - 1, by omega⟩
      have ih := p124_l1_eq (k := k) hn hm d' (i + 1) f (by omega) (by omega)
      have hi1 : (i : Int) + 1 = ((i + 1 : Nat) : Int) := by omega
      rw [hi1, ih, cl_v]
      have ht : m.testBit i = decide (m >>> i % 2 = 1) := by
        rw [Nat.testBit_eq_decide_div_mod_eq, Nat.shiftRight_eq_div_pow]
      rw [bitsF]
      rw [ht]
      by_cases h3 : m >>> i % 2 = 1
      · rw [iT (by omega), dT h3, if_pos rfl]
      · rw [iF (by omega), dF h3, if_neg (by decide)]
theorem p79_eq {k m n : Nat} (hk : Fu k) (hn : n ≤ 63) (hm : m < 2 ^ n) : p79 k (m : Int) = some (bitsL m n) := by
  unfold Fu at hk
  unfold p79 p124
  have := p124_l1_eq (k := k) hn hm n 0 k (by omega) (by omega)
  rw [show ((0 : Nat) : Int) = 0 from rfl] at this
  rw [this]; rfl
theorem p131_eq {k : Nat} (hk : Fu k) {L : List Int} {x : Int} (hL : L.length ≤ 1152921504606846975) : p131 k L x = some (decide (x ∈ L)) := by
  unfold Fu at hk
  unfold p131 p142
  simp only [jn_v]
  rw [srchI0 (F := p142_l1 k L x (some (-1))) (len := L.length) (n := k) (fun i => L.getD i 0 = x) (by omega)]
  · simp only [cl_v, lt_v]
    rw [fst_pos]
    refine congrArg some (dI ⟨fun ⟨j, a, b⟩ => by rw [← b]; exact getD_mem a, fun h => mem_getD h⟩)
  · intro n; rw [p142_l1]; simp only [lt_v, sp_d]; rw [iF (by omega)]
  · intro n i hi
    rw [p142_l1]
    simp only [lt_v, sp_d, beq_d]
    rw [iT (by omega), gd_v (by omega), Int.toNat_natCast, wr_succ hi (by omega)]
    by_cases h : L.getD i 0 = x
    · exact .inl ⟨h, by rw [iT h.symm]⟩
    · exact .inr ⟨h, by rw [iF (fun h2 => h h2.symm)]⟩
noncomputable def limL (W : List WT) (i k : Int) : List Int → Int → Int
  | [], a => a
  | x :: S, a => limL W i k S (if wM (wk W x.toNat) = k ∧ i ∈ (wk W x.toNat).1 then max a (wL (wk W x.toNat)) else a)
noncomputable def lim (R : List (List Int)) (W : List WT) (S : List Int) (i k : Nat) : Int := limL W (i : Int) (k : Int) S ((rd R i).getD (6 + k) 0)
def sOk (W : List WT) (S : List Int) : Prop := ∀ x ∈ S, 0 ≤ x ∧ x < (W.length : Int)
def wOk (W : List WT) : Prop := ∀ i, i < W.length → (wk W i).1.length ≤ 1152921504606846975
theorem limL_le {W : List WT} {i k z : Int} : ∀ {S : List Int} {a : Int}, z ≤ limL W i k S a ↔ z ≤ a ∨ ∃ x ∈ S, wM (wk W x.toNat) = k ∧ i ∈ (wk W x.toNat).1 ∧ z ≤ wL (wk W x.toNat)
  | [], a => by simp [limL]
  | x :: S, a => by
    rw [limL]
    rw [limL_le]
    split
    · rename_i h
      constructor
      · rintro (h1 | ⟨y, hy, h2⟩)
        · by_cases g : z ≤ a
          · exact .inl g
          · exact .inr ⟨x, List.mem_cons_self, h.1, h.2, by omega⟩
        · exact .inr ⟨y, List.mem_cons_of_mem _ hy, h2⟩
      · rintro (h1 | ⟨y, hy, h2⟩)
        · exact .inl (by omega)
        · rcases List.mem_cons.1 hy with e | e
          · subst e; have h5 := h2.2.2; exact .inl (by omega)
          · exact .inr ⟨y, e, h2⟩
    · rename_i h
      constructor
      · rintro (h1 | ⟨y, hy, h2⟩)
        · exact .inl h1
        · exact .inr ⟨y, List.mem_cons_of_mem _ hy, h2⟩
      · rintro (h1 | ⟨y, hy, h2⟩)
        · exact .inl h1
        · rcases List.mem_cons.1 hy with e | e
          · subst e; exact absurd ⟨h2.1, h2.2.1⟩ h
          · exact .inr ⟨y, e, h2⟩
theorem lim_congr {R W i k} {S S' : List Int} (h : ∀ x, x ∈ S ↔ x ∈ S') : lim R W S i k = lim R W S' i k := by
  unfold lim
  have key : ∀ z, z ≤ limL W (i : Int) (k : Int) S ((rd R i).getD (6 + k) 0) ↔ z ≤ limL W (i : Int) (k : Int) S' ((rd R i).getD (6 + k) 0) := by
    intro z
    rw [limL_le, limL_le]
    constructor
    · rintro (a | ⟨x, hx, a⟩)
      · exact .inl a
      · exact .inr ⟨x, (h x).1 hx, a⟩
    · rintro (a | ⟨x, hx, a⟩)
      · exact .inl a
      · exact .inr ⟨x, (h x).2 hx, a⟩
  exact Int.le_antisymm ((key _).1 (Int.le_refl _)) ((key _).2 (Int.le_refl _))
theorem p119_r1_eq {k : Nat} (hk : Fu k) {W : List WT} {i kk : Int} {j : Int → Option Int} (hw : wOk W) : ∀ {S : List Int} {a : Int}, sOk W S → p119_r1 k j W i kk S a = j (limL W i kk S a)
  | [], a, _ => rfl
  | x :: S, a, hs => by
    have hx := hs x List.mem_cons_self
    have ih := fun a => p119_r1_eq hk (W := W) (i := i) (kk := kk) (j := j) hw (S := S) (a := a) (fun y hy => hs y (List.mem_cons_of_mem _ hy))
    rw [p119_r1]
    simp only [lt_v, jn_v, beq_d, mx_eq]
    have hd : W.getD x.toNat ([], []) = wk W x.toNat := rfl
    rw [gd_v (by omega), hd, p131_eq hk (hw x.toNat (by omega))]
    simp only [sp_d, cl_v, ih, sp_ff]
    rw [limL]
    by_cases h1 : wM (wk W x.toNat) = kk
    · rw [show (wk W x.toNat).2.getD 0 0 = wM (wk W x.toNat) from rfl, iT h1]
      by_cases h2 : i ∈ (wk W x.toNat).1
      · rw [iT h2, iT ⟨h1, h2⟩]; rfl
      · rw [iF h2, iF (fun h => h2 h.2)]
    · rw [show (wk W x.toNat).2.getD 0 0 = wM (wk W x.toNat) from rfl, iF h1, iF (fun h => h1 h.1)]
theorem p119_eq {k m n : Nat} (hk : Fu k) {P : Int} {R : List (List Int)} {W : List WT} {z : List Int} {i kk : Nat} (hw : wOk W) (hn : n ≤ 63) (hm : m < 2 ^ n) (hnW : n ≤ W.length) (hi : i < R.length) (hkk : kk < 6) :
    p119 k P R W z (m : Int) (i : Int) (kk : Int) = some (lim R W (bitsL m n) i kk) := by
  unfold p119
  simp only [lt_v, jn_v]
  rw [gd_v (by omega), gd_v (by omega), p79_eq hk hn hm, cl_v, p119_r1_eq hk hw]
  · simp only [Int.toNat_natCast, Nat.mul_one]; rfl
  · intro x hx
    obtain ⟨j, a, _, rfl⟩ := mem_bitsL.1 hx
    omega
noncomputable def cau (R : List (List Int)) (W : List WT) (z S : List Int) (i : Nat) : Nat → Nat → List (List Int)
  | 0, _ => []
  | d + 1, k => if z.getD k 0 > lim R W S i k then [(i : Int), (k : Int), lim R W S i k, z.getD k 0] :: cau R W z S i d (k + 1) else cau R W z S i d (k + 1)
def us (R : List (List Int)) (W : List WT) (z S : List Int) (i : Nat) : Prop := ∀ k, k < 6 → z.getD k 0 ≤ lim R W S i k
theorem cau_nil {R W z S i} : ∀ {d k : Nat}, cau R W z S i d k = [] ↔ ∀ j, k ≤ j → j < k + d → z.getD j 0 ≤ lim R W S i j
  | 0, k => ⟨fun _ => by intros; omega, fun _ => rfl⟩
  | d + 1, k => by
    rw [cau]
    have ih := cau_nil (R := R) (W := W) (z := z) (S := S) (i := i) (d := d) (k := k + 1)
    split
    · rename_i h
      constructor
      · intro h; cases h
      · intro h2; have := h2 k (Nat.le_refl _) (by omega); omega
    · rename_i h
      rw [ih]
      constructor
      · intro h2 j a b
        rcases Nat.eq_or_lt_of_le a with e | e
        · subst e; omega
        · exact h2 j e (by omega)
      · intro h2 j a b; exact h2 j (by omega) (by omega)
theorem us_cau {R W z S i} : cau R W z S i 6 0 = [] ↔ us R W z S i := by
  rw [cau_nil]
  exact ⟨fun h k hk => h k (Nat.zero_le _) (by omega), fun h j _ b => h j (by omega)⟩
theorem p118_l1_eq {k m n : Nat} (hk : Fu k) {P : Int} {R : List (List Int)} {W : List WT} {z : List Int} {i : Nat} (hw : wOk W) (hn : n ≤ 63) (hm : m < 2 ^ n) (hnW : n ≤ W.length) (hi : i < R.length) : ∀ (d q f : Nat), q + d = 6 → d < f →
    p118_l1 k P R W z (m : Int) (i : Int) f (q : Int) = some (cau R W z (bitsL m n) i d q)
  | 0, q, f, h1, h2 => by
    obtain ⟨f, rfl⟩ : ∃ n', f = n' + 1 := ⟨f - 1, by omega⟩
    rw [p118_l1]
    simp only [lt_v, sp_d]
    rw [iF (by omega)]
    rfl
  | d + 1, q, f, h1, h2 => by
    obtain ⟨f, rfl⟩ : ∃ n', f = n' + 1 := ⟨f - 1, by omega⟩
    have ih := p118_l1_eq hk (P := P) (R := R) (W := W) (z := z) (i := i) hw hn hm hnW hi d (q + 1) f (by omega) (by omega)
    rw [p118_l1]
    simp only [lt_v, sp_d]
    rw [iT (by omega), gd_v (by omega), p119_eq hk hw hn hm hnW hi (by omega), cl_v, wr_succ (n := 6) (by omega) (by omega), ih, cl_v, Int.toNat_natCast]
    conv => rhs; rw [cau]
    by_cases h : z.getD q 0 > lim R W (bitsL m n) i q
    · rw [iT h, iT h]
    · rw [iF h, iF h]
theorem p71_eq {k m n : Nat} (hk : Fu k) {P : Int} {R : List (List Int)} {W : List WT} {z : List Int} {i : Nat} (hw : wOk W) (hn : n ≤ 63) (hm : m < 2 ^ n) (hnW : n ≤ W.length) (hi : i < R.length) :
    p71 k P R W z (m : Int) (i : Int) = some (cau R W z (bitsL m n) i 6 0) := by
  unfold p71 p118
  have := p118_l1_eq (k := k) hk (P := P) (R := R) (W := W) (z := z) (i := i) hw hn hm hnW hi 6 0 k (by omega) (by unfold Fu at hk; omega)
  rw [show ((0 : Nat) : Int) = 0 from rfl] at this
  rw [this]; rfl
theorem p55_eq {k m n : Nat} (hk : Fu k) {P : Int} {R : List (List Int)} {W : List WT} {z : List Int} {i : Nat} (hw : wOk W) (hn : n ≤ 63) (hm : m < 2 ^ n) (hnW : n ≤ W.length) (hi : i < R.length) :
    p55 k P R W z (m : Int) (i : Int) = some (decide (us R W z (bitsL m n) i)) := by
  unfold p55
  rw [p71_eq hk hw hn hm hnW hi]
  simp only [cl_v, jn_v]
  by_cases h : us R W z (bitsL m n) i
  · rw [us_cau.2 h, dT h]; rfl
  · rw [dF h]
    cases hc : cau R W z (bitsL m n) i 6 0 with
    | nil => exact absurd (us_cau.1 hc) h
    | cons a b => rfl
theorem cau_len {R W z S i} : ∀ {d k : Nat}, (cau R W z S i d k).length ≤ d
  | 0, k => Nat.le_refl _
  | d + 1, k => by
    rw [cau]
    have := cau_len (R := R) (W := W) (z := z) (S := S) (i := i) (d := d) (k := k + 1)
    split
    · simp only [List.length_cons]; omega
    · omega
noncomputable def cauL (R : List (List Int)) (W : List WT) (z S L : List Int) : List (List Int) := L.flatMap fun x => cau R W z S x.toNat 6 0
def costL (W : List WT) : List Int → Int
  | [] => 0
  | x :: S => wC (wk W x.toNat) + costL W S
def wcOk (W : List WT) : Prop := ∀ i, i < W.length → 1 ≤ wC (wk W i) ∧ wC (wk W i) ≤ 1073741824
theorem costL_le {W : List WT} (hc : wcOk W) : ∀ {S : List Int}, sOk W S → 0 ≤ costL W S ∧ costL W S ≤ 1073741824 * (S.length : Int)
  | [], _ => by simp [costL]
  | x :: S, hs => by
    have hx := hs x List.mem_cons_self
    have h1 := hc x.toNat (by omega)
    have := costL_le hc (S := S) (fun y hy => hs y (List.mem_cons_of_mem _ hy))
    simp only [costL, List.length_cons]
    omega
theorem p77_r1_eq {k : Nat} {W : List WT} {j : Int → Option Int} (hc : wcOk W) : ∀ {S : List Int} {a : Int}, sOk W S → 0 ≤ a → a + 1073741824 * (S.length : Int) ≤ 9223372036854775807 → p77_r1 k j W S a = j (a + costL W S)
  | [], a, _, _, _ => by simp [p77_r1, costL]
  | x :: S, a, hs, h0, h1 => by
    have hx := hs x List.mem_cons_self
    have h2 := hc x.toNat (by omega)
    have h3 : W.getD x.toNat ([], []) = wk W x.toNat := rfl
    have h4 : (wk W x.toNat).2.getD 2 0 = wC (wk W x.toNat) := rfl
    rw [List.length_cons] at h1
    rw [p77_r1]
    simp only [lt_v]
    rw [gd_v (by omega), h3, h4, wr64 (by omega) (by omega), p77_r1_eq hc (fun y hy => hs y (List.mem_cons_of_mem _ hy)) (by omega) (by omega)]
    simp only [costL]
    rw [Int.add_assoc]
theorem p77_eq {k m n : Nat} (hk : Fu k) {P : Int} {R : List (List Int)} {W : List WT} {z : List Int} (hc : wcOk W) (hn : n ≤ 63) (hm : m < 2 ^ n) (hnW : n ≤ W.length) : p77 k P R W z (m : Int) = some (costL W (bitsL m n)) := by
  unfold p77
  rw [p79_eq hk hn hm, cl_v, jn_v, p77_r1_eq hc, Int.zero_add]
  · intro x hx
    obtain ⟨j, a, _, rfl⟩ := mem_bitsL.1 hx
    omega
  · omega
  · have := bitsL_len (m := m) (n := n); omega
theorem p53_l1_eq {k n : Nat} (hn : n ≤ 63) {S : List Int} (hs : ∀ x ∈ S, 0 ≤ x ∧ x < (n : Int)) (hS : S.length ≤ 1152921504606846975) {j : Int → Option Int} : ∀ (d q f m : Nat), q + d = S.length → d < f → m < 2 ^ n →
    ∃ m' : Nat, m' < 2 ^ n ∧ (∀ b, m'.testBit b = true ↔ m.testBit b = true ∨ ((b : Int) ∈ S.drop q)) ∧ p53_l1 k S j f (m : Int) (q : Int) = j (m' : Int)
  | 0, q, f, m, h1, h2, h3 => by
    obtain ⟨f, rfl⟩ : ∃ n', f = n' + 1 := ⟨f - 1, by omega⟩
    refine ⟨m, h3, fun b => ?_, ?_⟩
    · rw [List.drop_eq_nil_of_le (by omega)]; simp
    · rw [p53_l1]
      simp only [lt_v, sp_d]
      rw [iF (by omega)]
  | d + 1, q, f, m, h1, h2, h3 => by
    obtain ⟨f, rfl⟩ : ∃ n', f = n' + 1 := ⟨f - 1, by omega⟩
    have hx := hs _ (getD_mem (by omega : q < S.length))
    obtain ⟨i, hi⟩ : ∃ i : Nat, S.getD q 0 = (i : Int) := ⟨(S.getD q 0).toNat, by omega⟩
    have h2i : (2 : Nat) ^ i < 2 ^ n := Nat.pow_lt_pow_right (by omega) (by omega)
    have hn64 : (2 : Nat) ^ n < 2 ^ 64 := Nat.pow_lt_pow_right (by omega) (by omega)
    have hor : m ||| 2 ^ i < 2 ^ n := Nat.or_lt_two_pow h3 h2i
    obtain ⟨m', a, b, c⟩ := p53_l1_eq (k := k) hn hs hS (j := j) d (q + 1) f (m ||| 2 ^ i) (by omega) (by omega) hor
    refine ⟨m', a, fun t => ?_, ?_⟩
    · rw [b, getD_drop (by omega : q < S.length), List.mem_cons, Nat.testBit_or, Bool.or_eq_true, Nat.testBit_two_pow, hi]
      constructor
      · rintro ((g | g) | g)
        · exact .inl g
        · exact .inr (.inl (by have := of_decide_eq_true g; omega))
        · exact .inr (.inr g)
      · rintro (g | g | g)
        · exact .inl (.inl g)
        · exact .inl (.inr (dT (by omega)))
        · exact .inr g
    · rw [p53_l1]
      simp only [lt_v, sp_d, Int.toNat_natCast]
      rw [iT (by omega), gd_v (by omega), hi, gd_v (by omega)]
      have e1 : (1 : Int) * 2 ^ min ((i : Int)).toNat (IntKind.bits .u64) = ((2 ^ i : Nat) : Int) := by
        rw [Int.toNat_natCast, show min i (IntKind.bits .u64) = i from Nat.min_eq_left (by show i ≤ 64; omega)]
        simp
      rw [e1, wruN (Nat.lt_trans h2i hn64), bor_nat (Nat.lt_trans h3 hn64) (Nat.lt_trans h2i hn64), wruN (Nat.lt_trans hor hn64), wr_succ (n := S.length) (by omega) (by omega)]
      exact c
theorem p53_eq {k n : Nat} (hk : Fu k) (hn : n ≤ 63) {S : List Int} (hs : ∀ x ∈ S, 0 ≤ x ∧ x < (n : Int)) (hS : S.length ≤ 1152921504606846975) :
    ∃ m : Nat, m < 2 ^ n ∧ (∀ x, x ∈ bitsL m n ↔ x ∈ S) ∧ p53 k S = some (m : Int) := by
  unfold Fu at hk
  unfold p53
  simp only [jn_v]
  obtain ⟨m, a, b, c⟩ := p53_l1_eq (k := k) hn hs hS (j := fun x => some x) S.length 0 k 0 (by omega) (by omega) (Nat.two_pow_pos n)
  rw [List.drop_zero] at b
  refine ⟨m, a, fun x => ?_, c⟩
  rw [mem_bitsL]
  constructor
  · rintro ⟨j, h1, h2, rfl⟩
    rcases (b j).1 h2 with g | g
    · simp at g
    · exact g
  · intro hx
    have h1 := hs x hx
    refine ⟨x.toNat, by omega, (b _).2 (.inr ?_), by omega⟩
    rw [show ((x.toNat : Nat) : Int) = x from by omega]
    exact hx
end Go.Proofs.Ythniebmammmacaa
namespace Go.Proofs.Ythniebmammmacaa
open Go.RowKit Classical
def far : Int := 1125899906842624
def sumN : List Int → Nat
  | [] => 0
  | x :: L => x.toNat + sumN L
theorem sumN_set : ∀ {L : List Int} {y : Nat} {v : Int}, y < L.length → sumN (L.set y v) + (L.getD y 0).toNat = sumN L + v.toNat
  | x :: L, 0, v, _ => by simp only [List.set_cons_zero, sumN, List.getD_cons_zero]; omega
  | x :: L, y + 1, v, h => by
    have := sumN_set (L := L) (y := y) (v := v) (by simpa using h)
    simp only [List.set_cons_succ, sumN, List.getD_cons_succ]; omega
theorem sumN_le {B : Nat} : ∀ {L : List Int}, (∀ i, i < L.length → L.getD i 0 ≤ (B : Int)) → sumN L ≤ L.length * B
  | [], _ => by simp [sumN]
  | x :: L, h => by
    have h0 := h 0 (by simp)
    have := sumN_le (L := L) (fun i hi => by have := h (i + 1) (by simpa using hi); simpa using this)
    simp only [List.getD_cons_zero] at h0
    simp only [sumN, List.length_cons, Nat.add_mul, Nat.one_mul]
    omega
theorem getD_setI {L : List Int} {i j : Nat} {v : Int} (hi : i < L.length) : (L.set i v).getD j 0 = if i = j then v else L.getD j 0 := by
  rw [List.getD_eq_getElem?_getD, List.getElem?_set, List.getD_eq_getElem?_getD]
  by_cases h : i = j
  · subst h; simp [hi]
  · simp [h]
noncomputable def cnt (p : Nat → Prop) : Nat → Nat
  | 0 => 0
  | n + 1 => cnt p n + if p n then 1 else 0
theorem cnt_le {p : Nat → Prop} : ∀ {n}, cnt p n ≤ n
  | 0 => Nat.le_refl _
  | n + 1 => by have := cnt_le (p := p) (n := n); unfold cnt; split <;> omega
theorem cnt_mono {p q : Nat → Prop} (h : ∀ i, p i → q i) : ∀ {n}, cnt p n ≤ cnt q n
  | 0 => Nat.le_refl _
  | n + 1 => by
    have := cnt_mono h (n := n)
    unfold cnt
    by_cases hp : p n
    · rw [if_pos hp, if_pos (h n hp)]; omega
    · rw [if_neg hp]; omega
theorem cnt_lt {p q : Nat → Prop} (h : ∀ i, p i → q i) {j : Nat} (hq : q j) (hp : ¬ p j) : ∀ {n}, j < n → cnt p n < cnt q n
  | n + 1, hj => by
    unfold cnt
    rcases Nat.eq_or_lt_of_le (Nat.le_of_lt_succ hj) with e | e
    · subst e
      have := cnt_mono h (n := j)
      rw [if_neg hp, if_pos hq]; omega
    · have := cnt_lt h hq hp e
      by_cases hp : p n
      · rw [if_pos hp, if_pos (h n hp)]; omega
      · rw [if_neg hp]; omega
structure Edges where
  n : Nat
  P : Nat
  st : Nat
  X : Nat → Nat
  Y : Nat → Nat
  C : Nat → Int
structure EOk (E : Edges) : Prop where
  pm : E.P ≤ 64
  st : E.st < E.P
  x : ∀ i, i < E.n → E.X i < E.P
  y : ∀ i, i < E.n → E.Y i < E.P
  ne : ∀ i, i < E.n → E.X i ≠ E.Y i
  c : ∀ i, i < E.n → 0 ≤ E.C i → 1 ≤ E.C i ∧ E.C i ≤ 17179869184
def Cond (E : Edges) (L : List Int) (i : Nat) : Prop := 0 ≤ E.C i ∧ L.getD (E.X i) 0 < far ∧ L.getD (E.X i) 0 + E.C i < L.getD (E.Y i) 0
structure DInv (E : Edges) (L : List Int) : Prop where
  len : L.length = E.P
  rng : ∀ v, v < E.P → 0 ≤ L.getD v 0 ∧ L.getD v 0 ≤ far
  zero : L.getD E.st 0 = 0
  pre : ∀ v, v < E.P → v ≠ E.st → L.getD v 0 < far → ∃ i, i < E.n ∧ 0 ≤ E.C i ∧ E.Y i = v ∧ L.getD (E.X i) 0 < far ∧ L.getD (E.X i) 0 + E.C i ≤ L.getD v 0
theorem DInv.step {E : Edges} (he : EOk E) {L : List Int} (h : DInv E L) {i : Nat} (hi : i < E.n) (hc : Cond E L i) :
    DInv E (L.set (E.Y i) (L.getD (E.X i) 0 + E.C i)) ∧ sumN (L.set (E.Y i) (L.getD (E.X i) 0 + E.C i)) < sumN L := by
  obtain ⟨c0, c1, c2⟩ := hc
  have hx := he.x i hi
  have hy := he.y i hi
  have hne := he.ne i hi
  have hC := he.c i hi c0
  have rx := h.rng _ hx
  have ry := h.rng _ hy
  have hyl : E.Y i < L.length := by rw [h.len]; exact hy
  have hst : E.Y i ≠ E.st := by intro e; rw [e, h.zero] at c2; omega
  have hs := sumN_set (L := L) (v := L.getD (E.X i) 0 + E.C i) hyl
  refine ⟨⟨by rw [List.length_set]; exact h.len, fun v hv => ?_, ?_, fun v hv hvs hvf => ?_⟩, by omega⟩
  · rw [getD_setI hyl]
    split
    · omega
    · exact h.rng v hv
  · rw [getD_setI hyl, if_neg hst]; exact h.zero
  · rw [getD_setI hyl] at hvf ⊢
    by_cases e : E.Y i = v
    · subst e
      rw [if_pos rfl]
      refine ⟨i, hi, c0, rfl, ?_, ?_⟩
      · rw [getD_setI hyl, if_neg (Ne.symm hne)]; exact c1
      · rw [getD_setI hyl, if_neg (Ne.symm hne)]; exact Int.le_refl _
    · rw [if_neg e] at hvf ⊢
      obtain ⟨j, a, b, c, d, f⟩ := h.pre v hv hvs hvf
      refine ⟨j, a, b, c, ?_, ?_⟩
      · rw [getD_setI hyl]; split
        · omega
        · exact d
      · rw [getD_setI hyl]; split
        · rename_i e2; rw [← e2] at f; omega
        · exact f
structure Dist (E : Edges) (L : List Int) : Prop extends DInv E L where
  fix : ∀ i, i < E.n → ¬ Cond E L i
inductive Wk (E : Edges) : Nat → Int → Prop
  | nil : Wk E E.st 0
  | cons {i : Nat} {a : Int} : i < E.n → 0 ≤ E.C i → Wk E (E.X i) a → Wk E (E.Y i) (a + E.C i)
theorem Wk.nn {E : Edges} (he : EOk E) {v : Nat} {a : Int} (h : Wk E v a) : 0 ≤ a := by
  induction h with
  | nil => exact Int.le_refl _
  | cons hi hc _ ih => have := he.c _ hi hc; omega
theorem Wk.lt {E : Edges} (he : EOk E) {v : Nat} {a : Int} (h : Wk E v a) : v < E.P := by
  cases h with
  | nil => exact he.st
  | cons hi hc _ => exact he.y _ hi
theorem Dist.edge {E : Edges} (he : EOk E) {L : List Int} (h : Dist E L) {i : Nat} (hi : i < E.n) (hc : 0 ≤ E.C i) (hf : L.getD (E.X i) 0 < far) : L.getD (E.Y i) 0 ≤ L.getD (E.X i) 0 + E.C i := by
  rcases Int.lt_or_le (L.getD (E.X i) 0 + E.C i) (L.getD (E.Y i) 0) with a | a
  · exact absurd ⟨hc, hf, a⟩ (h.fix i hi)
  · exact a
theorem Dist.low {E : Edges} (he : EOk E) {L : List Int} (h : Dist E L) {v : Nat} {a : Int} (hw : Wk E v a) : L.getD v 0 ≤ a := by
  induction hw with
  | nil => rw [h.zero]; exact Int.le_refl _
  | cons hi hc hw ih =>
    have r := h.rng _ (he.x _ hi)
    have r2 := h.rng _ (he.y _ hi)
    rcases Int.lt_or_le (L.getD (E.X _) 0) far with g | g
    · have := h.edge he hi hc g; omega
    · have := he.c _ hi hc; omega
theorem Dist.prev {E : Edges} (he : EOk E) {L : List Int} (h : Dist E L) {v : Nat} (hv : v < E.P) (hs : v ≠ E.st) (hf : L.getD v 0 < far) :
    ∃ i, i < E.n ∧ 0 ≤ E.C i ∧ E.Y i = v ∧ L.getD v 0 = E.C i + L.getD (E.X i) 0 := by
  obtain ⟨i, a, b, c, d, f⟩ := h.pre v hv hs hf
  have := h.edge he a b d
  rw [c] at this
  exact ⟨i, a, b, c, by omega⟩
theorem Dist.way {E : Edges} (he : EOk E) {L : List Int} (h : Dist E L) : ∀ (n : Nat) {v : Nat}, v < E.P → (L.getD v 0).toNat < n → L.getD v 0 < far → Wk E v (L.getD v 0)
  | n + 1, v, hv, hn, hf => by
    by_cases hs : v = E.st
    · subst hs; rw [h.zero]; exact .nil
    · obtain ⟨i, a, b, c, d⟩ := h.prev he hv hs hf
      have hC := he.c i a b
      have rx := h.rng _ (he.x i a)
      have := h.way he n (he.x i a) (by omega) (by omega)
      have := Wk.cons a b this
      rw [c] at this
      rw [d, Int.add_comm]
      exact this
theorem Dist.bound {E : Edges} (he : EOk E) {L : List Int} (h : Dist E L) : ∀ (n : Nat) {v : Nat}, v < E.P → (L.getD v 0).toNat < n → L.getD v 0 < far → L.getD v 0 ≤ 17179869184 * (cnt (fun u => L.getD u 0 < L.getD v 0) E.P : Int)
  | n + 1, v, hv, hn, hf => by
    by_cases hs : v = E.st
    · subst hs; rw [h.zero]; omega
    · obtain ⟨i, a, b, c, d⟩ := h.prev he hv hs hf
      have hC := he.c i a b
      have rx := h.rng _ (he.x i a)
      have h1 := h.bound he n (he.x i a) (by omega) (by omega)
      have h2 := cnt_lt (p := fun u => L.getD u 0 < L.getD (E.X i) 0) (q := fun u => L.getD u 0 < L.getD v 0) (fun u (hu : L.getD u 0 < L.getD (E.X i) 0) => by show L.getD u 0 < L.getD v 0; omega) (j := E.X i) (by show L.getD (E.X i) 0 < L.getD v 0; omega) (by show ¬ L.getD (E.X i) 0 < L.getD (E.X i) 0; omega) (he.x i a)
      omega
theorem Dist.fin {E : Edges} (he : EOk E) {L : List Int} (h : Dist E L) {v : Nat} (hv : v < E.P) (hf : L.getD v 0 < far) : L.getD v 0 ≤ 1099511627776 := by
  have h1 := h.bound he _ hv (Nat.lt_succ_self _) hf
  have h2 := cnt_le (p := fun u => L.getD u 0 < L.getD v 0) (n := E.P)
  have := he.pm
  omega
theorem Dist.reach {E : Edges} (he : EOk E) {L : List Int} (h : Dist E L) {v : Nat} {a : Int} (hw : Wk E v a) : L.getD v 0 < far := by
  induction hw with
  | nil => rw [h.zero]; decide
  | cons hi hc hw ih =>
    have h1 := h.fin he (he.x _ hi) ih
    have h2 := h.edge he hi hc ih
    have h3 := he.c _ hi hc
    unfold far; omega
theorem Dist.unique {E : Edges} (he : EOk E) {L L' : List Int} (h : Dist E L) (h' : Dist E L') : L = L' := by
  apply List.ext_getElem
  · rw [h.len, h'.len]
  · intro v h1 h2
    have hv : v < E.P := by rw [← h.len]; exact h1
    have e1 : L.getD v 0 = L[v] := by simp [List.getD_eq_getElem?_getD, h1]
    have e2 : L'.getD v 0 = L'[v] := by simp [List.getD_eq_getElem?_getD, h2]
    rw [← e1, ← e2]
    have r := h.rng v hv
    have r' := h'.rng v hv
    rcases Int.lt_or_le (L.getD v 0) far with g | g
    · have w := h.way he _ hv (Nat.lt_succ_self _) g
      have g' := h'.reach he w
      have w' := h'.way he _ hv (Nat.lt_succ_self _) g'
      have := h.low he w'
      have := h'.low he w
      omega
    · rcases Int.lt_or_le (L'.getD v 0) far with g' | g'
      · have w' := h'.way he _ hv (Nat.lt_succ_self _) g'
        have := h.reach he w'
        omega
      · omega
theorem DInv.start {E : Edges} (he : EOk E) {L : List Int} (hl : L.length = E.P) (hz : L.getD E.st 0 = 0) (hf : ∀ v, v < E.P → v ≠ E.st → L.getD v 0 = far) : DInv E L := by
  refine ⟨hl, fun v hv => ?_, hz, fun v hv hs hlt => ?_⟩
  · by_cases e : v = E.st
    · subst e; rw [hz]; decide
    · rw [hf v hv e]; decide
  · rw [hf v hv hs] at hlt; exact absurd hlt (by omega)
structure Pass (E : Edges) (L0 : List Int) (i : Nat) (b : Bool) (L : List Int) : Prop where
  inv : DInv E L
  t : b = true → sumN L < sumN L0
  f : b = false → L = L0 ∧ ∀ j, j < i → ¬ Cond E L0 j
theorem Pass.hit {E : Edges} (he : EOk E) {L0 L : List Int} {i : Nat} {b : Bool} (h : Pass E L0 i b L) (hi : i < E.n) (hc : Cond E L i) : Pass E L0 (i + 1) true (L.set (E.Y i) (L.getD (E.X i) 0 + E.C i)) := by
  obtain ⟨h1, h2⟩ := h.inv.step he hi hc
  refine ⟨h1, fun _ => ?_, fun e => (by cases e)⟩
  cases b with
  | true => have := h.t rfl; omega
  | false => have := (h.f rfl).1; subst this; exact h2
theorem Pass.miss {E : Edges} {L0 L : List Int} {i : Nat} {b : Bool} (h : Pass E L0 i b L) (hc : ¬ Cond E L i) : Pass E L0 (i + 1) b L := by
  refine ⟨h.inv, h.t, fun e => ?_⟩
  obtain ⟨h1, h2⟩ := h.f e
  refine ⟨h1, fun j hj => ?_⟩
  rcases Nat.eq_or_lt_of_le (Nat.le_of_lt_succ hj) with e | e
  · subst e; subst h1; exact hc
  · exact h2 j e
end Go.Proofs.Ythniebmammmacaa
namespace Go.Proofs.Ythniebmammmacaa
open Go.RowKit Classical
theorem MapOk.wOk {P R W} (h : MapOk P R W) : wOk W := fun i hi => by have := h.w16 i hi; omega
theorem MapOk.wcOk {P R W} (h : MapOk P R W) : wcOk W := fun i hi => (h.work i hi).co
inductive Pth (R : List (List Int)) (U : Nat → Prop) : Nat → Nat → Int → Prop
  | nil (v : Nat) : Pth R U v v 0
  | cons {i v : Nat} {a : Int} : i < R.length → U i → Pth R U (rT (rd R i)).toNat v a → Pth R U (rF (rd R i)).toNat v (a + rC (rd R i))
theorem Pth.mono {R U U'} (h : ∀ i, i < R.length → U i → U' i) {u v a} (hp : Pth R U u v a) : Pth R U' u v a := by
  induction hp with
  | nil v => exact .nil v
  | cons hi hu _ ih => exact .cons hi (h _ hi hu) ih
def EG (P : Int) (R : List (List Int)) (c : Nat → Int) (st : Nat) (bw : Bool) : Edges :=
  { n := R.length, P := P.toNat, st := st, X := fun i => if bw then (rT (rd R i)).toNat else (rF (rd R i)).toNat, Y := fun i => if bw then (rF (rd R i)).toNat else (rT (rd R i)).toNat, C := c }
structure COk (R : List (List Int)) (c : Nat → Int) : Prop where
  b : ∀ i, i < R.length → 0 ≤ c i → 1 ≤ c i ∧ c i ≤ 17179869184
  l : ∀ i, i < R.length → -1 ≤ c i
theorem EG_ok {P R W} (h : MapOk P R W) {c : Nat → Int} (hc : COk R c) {st : Nat} (hs : st < P.toNat) {bw : Bool} : EOk (EG P R c st bw) := by
  have hp := h.places
  have key : ∀ i, i < R.length → (rF (rd R i)).toNat < P.toNat ∧ (rT (rd R i)).toNat < P.toNat ∧ (rF (rd R i)).toNat ≠ (rT (rd R i)).toNat := by
    intro i hi
    have := (h.road i hi).ar
    unfold RoadA at this
    omega
  refine ⟨by show P.toNat ≤ 64; omega, hs, fun i hi => ?_, fun i hi => ?_, fun i hi => ?_, fun i hi h0 => hc.b i hi h0⟩
  · have := key i hi
    cases bw
    · exact this.1
    · exact this.2.1
  · have := key i hi
    cases bw
    · exact this.2.1
    · exact this.1
  · have := key i hi
    cases bw
    · exact this.2.2
    · exact Ne.symm this.2.2
noncomputable def cst (R : List (List Int)) (U : Nat → Prop) (i : Nat) : Int := if U i then rC (rd R i) else -1
theorem cst_ok {P R W} (h : MapOk P R W) {U : Nat → Prop} : COk R (cst R U) := by
  constructor
  · intro i hi h0
    unfold cst at h0 ⊢
    have := (h.road i hi).ar
    unfold RoadA at this
    by_cases hu : U i
    · rw [if_pos hu]; omega
    · rw [if_neg hu] at h0; omega
  · intro i hi
    unfold cst
    have := (h.road i hi).ar
    unfold RoadA at this
    split <;> omega
theorem cst_nn {R : List (List Int)} {U : Nat → Prop} {i : Nat} (h : 0 ≤ cst R U i) : U i ∧ cst R U i = rC (rd R i) := by
  unfold cst at h ⊢
  by_cases hu : U i
  · exact ⟨hu, if_pos hu⟩
  · rw [if_neg hu] at h; exact absurd h (by decide)
theorem cst_us {P R W} (h : MapOk P R W) {U : Nat → Prop} {i : Nat} (hi : i < R.length) (hu : U i) : 0 ≤ cst R U i ∧ cst R U i = rC (rd R i) := by
  have := (h.road i hi).ar
  unfold RoadA at this
  unfold cst
  rw [if_pos hu]
  exact ⟨by omega, rfl⟩
theorem Wk_bw {P R W} (h : MapOk P R W) {U : Nat → Prop} {st v : Nat} {a : Int} : Wk (EG P R (cst R U) st true) v a ↔ Pth R U v st a := by
  constructor
  · intro hw
    induction hw with
    | nil => exact .nil _
    | @cons i a hi hc _ ih =>
      obtain ⟨hu, e⟩ := cst_nn hc
      show Pth R U (rF (rd R i)).toNat st (a + cst R U i)
      rw [e]
      exact .cons hi hu ih
  · intro hp
    induction hp with
    | nil v => exact .nil
    | @cons i v a hi hu _ ih =>
      obtain ⟨h0, e⟩ := cst_us h hi hu
      have := Wk.cons (E := EG P R (cst R U) v true) (i := i) hi h0 ih
      rw [← e]
      exact this
theorem p122_eq {k m n : Nat} (hk : Fu k) {P : Int} {R : List (List Int)} {W : List WT} {z : List Int} {i : Nat} (hw : wOk W) (hn : n ≤ 63) (hm : m < 2 ^ n) (hnW : n ≤ W.length) (hi : i < R.length) :
    p122 k (i : Int) P R W z (m : Int) = some (cst R (us R W z (bitsL m n)) i) := by
  unfold p122 cst
  rw [p55_eq hk hw hn hm hnW hi, cl_v, sp_d, gd_v (by omega)]
  simp only [lt_v, Int.toNat_natCast]
  by_cases h : us R W z (bitsL m n) i
  · rw [iT h, iT h]; rfl
  · rw [iF h, iF h]
theorem p75a_l1_eq {k n : Nat} {W4 L : List Int} {j : List Int → Option (List Int)} (hn : W4.length < n) (hl : W4.length ≤ 1000000) (hL : L.length = W4.length) : p75a_l1 k j W4 n 0 L = j (List.replicate W4.length far) := by
  have hx := loop0 (F := fun n x s => p75a_l1 k j W4 n x s) (len := W4.length) (n := n) (J := j) (fun i L => L.length = W4.length ∧ ∀ v, v < i → L.getD v 0 = far) L hn ⟨hL, by intros; omega⟩ ?_ ?_
  · obtain ⟨s', h1, h2⟩ := hx
    rw [h2]
    congr 1
    apply List.ext_getElem
    · rw [h1.1, List.length_replicate]
    · intro v a b
      have := h1.2 v (by omega)
      rw [List.getD_eq_getElem?_getD, List.getElem?_eq_getElem a] at this
      rw [List.getElem_replicate]; exact this
  · intro n s _
    show p75a_l1 k j W4 (n + 1) (W4.length : Int) s = j s
    rw [p75a_l1]; simp only [lt_v, sp_d]; rw [iF (by omega)]
  · intro n i s hi hs
    refine ⟨s.set i far, ⟨by rw [List.length_set]; exact hs.1, fun v hv => ?_⟩, ?_⟩
    · rw [getD_setI (by omega)]
      split
      · rfl
      · exact hs.2 v (by omega)
    · show p75a_l1 k j W4 (n + 1) (i : Int) s = p75a_l1 k j W4 n ((i + 1 : Nat) : Int) (s.set i far)
      rw [p75a_l1]; simp only [lt_v, sp_d]; rw [iT (by omega), gd_v (by omega), wr_succ hi (by omega), Int.toNat_natCast]; rfl
theorem p75a_l2_eq {k n : Nat} {P : Int} {R : List (List Int)} {W : List WT} {z : List Int} {m : Int} {W17 : List Int} {c : Nat → Int} {j : List Int → Option (List Int)} (hn : W17.length < n) (hl : W17.length ≤ 1000000) (hc : ∀ i : Nat, i < W17.length → p122 k (i : Int) P R W z m = some (c i)) :
    ∃ C : List Int, (C.length = W17.length ∧ ∀ i, i < W17.length → C.getD i 0 = c i) ∧ p75a_l2 k P R W z m j W17 n 0 W17 = j C := by
  refine loop0 (F := fun n x s => p75a_l2 k P R W z m j W17 n x s) (len := W17.length) (n := n) (J := j) (fun i L => L.length = W17.length ∧ ∀ v, v < i → L.getD v 0 = c v) W17 hn ⟨rfl, by intros; omega⟩ ?_ ?_
  · intro n s _
    show p75a_l2 k P R W z m j W17 (n + 1) (W17.length : Int) s = j s
    rw [p75a_l2]; simp only [lt_v, sp_d]; rw [iF (by omega)]
  · intro n i s hi hs
    refine ⟨s.set i (c i), ⟨by rw [List.length_set]; exact hs.1, fun v hv => ?_⟩, ?_⟩
    · rw [getD_setI (by omega)]
      split
      · rename_i e; rw [e]
      · exact hs.2 v (by omega)
    · show p75a_l2 k P R W z m j W17 (n + 1) (i : Int) s = p75a_l2 k P R W z m j W17 n ((i + 1 : Nat) : Int) (s.set i (c i))
      rw [p75a_l2]; simp only [lt_v, sp_d]; rw [iT (by omega), hc i hi, cl_v, gd_v (by omega), wr_succ hi (by omega), Int.toNat_natCast]
theorem p75a_l4_eq {k n : Nat} {P : Int} {R : List (List Int)} {W : List WT} (h : MapOk P R W) {c : Nat → Int} (hc : COk R c) {C L0 : List Int} (hC : C.length = R.length) (hCc : ∀ i, i < R.length → C.getD i 0 = c i)
    {st : Nat} (hs : st < P.toNat) {bw : Bool} {j : Bool → Bool → List Int → Option (List Int)} (hn : R.length < n) (hI : DInv (EG P R c st bw) L0) :
    ∃ s : Bool × List Int, Pass (EG P R c st bw) L0 R.length s.1 s.2 ∧ p75a_l4 k R C j n bw false 0 L0 = j bw s.1 s.2 := by
  have he := EG_ok h hc hs (bw := bw)
  have h256 := h.r256
  refine loop0 (F := fun n x (s : Bool × List Int) => p75a_l4 k R C j n bw s.1 x s.2) (len := R.length) (n := n) (J := fun s => j bw s.1 s.2) (fun i s => Pass (EG P R c st bw) L0 i s.1 s.2) (false, L0) hn ⟨hI, fun e => (by cases e), fun _ => ⟨rfl, by intros; omega⟩⟩ ?_ ?_
  · intro n s _
    show p75a_l4 k R C j (n + 1) bw s.1 (R.length : Int) s.2 = j bw s.1 s.2
    rw [p75a_l4]; simp only [lt_v, sp_d]; rw [iF (by omega)]
  · rintro n i ⟨b, L⟩ hi hp
    show ∃ s' : Bool × List Int, _ ∧ p75a_l4 k R C j (n + 1) bw b (i : Int) L = p75a_l4 k R C j n bw s'.1 ((i + 1 : Nat) : Int) s'.2
    have hp' : Pass (EG P R c st bw) L0 i b L := hp
    have hlen : L.length = P.toNat := hp'.inv.len
    have hx : (EG P R c st bw).X i < L.length := by rw [hlen]; exact he.x i hi
    have hy : (EG P R c st bw).Y i < L.length := by rw [hlen]; exact he.y i hi
    have rx := hp'.inv.rng _ (he.x i hi)
    have hr := (h.road i hi).ar
    unfold RoadA at hr
    have hcb := hc.b i hi
    have hcl := hc.l i hi
    have hfar : far = 1125899906842624 := rfl
    -- the step, told by the edge's ends
    have key : ∀ (x y : Int), x.toNat = (EG P R c st bw).X i → y.toNat = (EG P R c st bw).Y i → 0 ≤ x → 0 ≤ y → 0 ≤ c i →
        (gd ((0 : Int) ≤ x ∧ x < (List.length L : Int)) <| lt' (List.getD L ((x).toNat) 0) fun x64 => gd ((0 : Int) ≤ (i : Int) ∧ (i : Int) < (List.length C : Int)) <| lt' (List.getD C (((i : Int)).toNat) 0) fun x66 => lt' (wr .i64 (x64 + x66)) fun x67 => jn (fun (b68 : Bool) => sp b68 (gd ((0 : Int) ≤ y ∧ y < (List.length L : Int)) <| lt' (List.set L ((y).toNat) x67) fun L77 => (lt' (wr .i64 ((i : Int) + (1 : Int))) fun x78 => p75a_l4 k R C j n bw true x78 L77)) (lt' (wr .i64 ((i : Int) + (1 : Int))) fun x78 => p75a_l4 k R C j n bw b x78 L)) fun j69 => gd ((0 : Int) ≤ x ∧ x < (List.length L : Int)) <| lt' (List.getD L ((x).toNat) 0) fun x71 => lt' (decide (x71 < (1125899906842624 : Int))) fun b72 => sp b72 (gd ((0 : Int) ≤ y ∧ y < (List.length L : Int)) <| lt' (List.getD L ((y).toNat) 0) fun x74 => lt' (decide (x67 < x74)) fun b75 => j69 b75) (j69 false))
        = if Cond (EG P R c st bw) L i then p75a_l4 k R C j n bw true ((i + 1 : Nat) : Int) (L.set ((EG P R c st bw).Y i) (L.getD ((EG P R c st bw).X i) 0 + c i)) else p75a_l4 k R C j n bw b ((i + 1 : Nat) : Int) L := by
      intro x y ex ey x0 y0 c0
      have hcb := hcb c0
      have ex' : L.getD x.toNat 0 = L.getD ((EG P R c st bw).X i) 0 := by rw [ex]
      have ey' : L.getD y.toNat 0 = L.getD ((EG P R c st bw).Y i) 0 := by rw [ey]
      have e1 : gd ((0 : Int) ≤ x ∧ x < (List.length L : Int)) = fun (z : Option (List Int)) => z := by funext z; exact gd_v (by omega) z
      have e2 : gd ((0 : Int) ≤ y ∧ y < (List.length L : Int)) = fun (z : Option (List Int)) => z := by funext z; exact gd_v (by omega) z
      have e3 : gd ((0 : Int) ≤ (i : Int) ∧ (i : Int) < (List.length C : Int)) = fun (z : Option (List Int)) => z := by funext z; exact gd_v (by omega) z
      simp only [lt_v, jn_v, e1, e2, e3, Int.toNat_natCast, sp_d, sp_ff, ex', ey', hCc i hi]
      rw [wr_succ hi (by omega), wr64 (by omega) (by omega), ey]
      by_cases g : L.getD ((EG P R c st bw).X i) 0 < 1125899906842624
      · rw [iT g]
        by_cases g2 : L.getD ((EG P R c st bw).X i) 0 + c i < L.getD ((EG P R c st bw).Y i) 0
        · rw [iT g2, iT (p := Cond (EG P R c st bw) L i) ⟨c0, g, g2⟩]
        · rw [iF g2, iF (p := Cond (EG P R c st bw) L i) (fun h => g2 h.2.2)]
      · rw [iF g, iF (p := Cond (EG P R c st bw) L i) (fun h => g h.2.1)]
    by_cases hcon : Cond (EG P R c st bw) L i
    · refine ⟨(true, L.set ((EG P R c st bw).Y i) (L.getD ((EG P R c st bw).X i) 0 + c i)), hp'.hit he hi hcon, ?_⟩
      have c0 : 0 ≤ c i := hcon.1
      rw [p75a_l4]
      cases bw with
      | true =>
        have k1 := key (rT (rd R i)) (rF (rd R i)) rfl rfl (by omega) (by omega) c0
        rw [iT hcon] at k1
        rw [← k1]
        simp only [lt_v, sp_d, jn_v, sp_tt, Int.toNat_natCast, hCc i hi]
        rw [iT (by omega), gd_v (by omega), gd_v (by omega), iF (by omega)]
        rfl
      | false =>
        have k1 := key (rF (rd R i)) (rT (rd R i)) rfl rfl (by omega) (by omega) c0
        rw [iT hcon] at k1
        rw [← k1]
        simp only [lt_v, sp_d, jn_v, sp_ff, Int.toNat_natCast, hCc i hi]
        rw [iT (by omega), gd_v (by omega), gd_v (by omega), iF (by omega)]
        rfl
    · refine ⟨(b, L), hp'.miss hcon, ?_⟩
      by_cases c0 : c i < 0
      · rw [p75a_l4]
        simp only [lt_v, sp_d, jn_v, Int.toNat_natCast, hCc i hi]
        rw [iT (by omega), gd_v (by omega), gd_v (by omega), iT c0, wr_succ hi (by omega)]
      · have c0' : 0 ≤ c i := by omega
        rw [p75a_l4]
        cases bw with
        | true =>
          have k1 := key (rT (rd R i)) (rF (rd R i)) rfl rfl (by omega) (by omega) c0'
          rw [iF hcon] at k1
          rw [← k1]
          simp only [lt_v, sp_d, jn_v, sp_tt, Int.toNat_natCast, hCc i hi]
          rw [iT (by omega), gd_v (by omega), gd_v (by omega), iF (by omega)]
          rfl
        | false =>
          have k1 := key (rF (rd R i)) (rT (rd R i)) rfl rfl (by omega) (by omega) c0'
          rw [iF hcon] at k1
          rw [← k1]
          simp only [lt_v, sp_d, jn_v, sp_ff, Int.toNat_natCast, hCc i hi]
          rw [iT (by omega), gd_v (by omega), gd_v (by omega), iF (by omega)]
          rfl
theorem p75a_l3_eq {k : Nat} (hk : Fu k) {P : Int} {R : List (List Int)} {W : List WT} (h : MapOk P R W) {c : Nat → Int} (hc : COk R c) {C L0 : List Int} (hC : C.length = R.length) (hCc : ∀ i, i < R.length → C.getD i 0 = c i)
    {st : Nat} (hs : st < P.toNat) {bw : Bool} {j : List Int → Option (List Int)} (hI : DInv (EG P R c st bw) L0) :
    ∃ L : List Int, Dist (EG P R c st bw) L ∧ p75a_l3 k R C j k bw true L0 = j L := by
  have hk' := hk
  unfold Fu at hk'
  have h256 := h.r256
  have hP := h.places
  have hb : ∀ L, DInv (EG P R c st bw) L → sumN L ≤ 64 * 1125899906842624 := by
    intro L hL
    have := sumN_le (L := L) (B := 1125899906842624) (fun i hi => (hL.rng i (by rw [← hL.len]; exact hi)).2)
    have hl : L.length = P.toNat := hL.len
    have : L.length * 1125899906842624 ≤ 64 * 1125899906842624 := Nat.mul_le_mul_right _ (by omega)
    exact Nat.le_trans ‹_› this
  have hx := whileI (F := fun n (s : Bool × List Int) => p75a_l3 k R C j n bw s.1 s.2) (J := fun s => j s.2) (fun s => 2 * sumN s.2 + if s.1 = true then 1 else 0) (fun s => DInv (EG P R c st bw) s.2 ∧ (s.1 = false → Dist (EG P R c st bw) s.2)) (fun s => Dist (EG P R c st bw) s.2) ?_ k (true, L0) ⟨hI, fun e => (by cases e)⟩ (by
    have := hb L0 hI
    show 2 * sumN L0 + (if true = true then 1 else 0) < k
    rw [if_pos rfl]; omega)
  · obtain ⟨s', h1, h2⟩ := hx
    exact ⟨s'.2, h1, h2⟩
  · rintro n ⟨b, L⟩ ⟨g1, g2⟩
    cases b with
    | false =>
      refine .inl ⟨(false, L), g2 rfl, ?_⟩
      show p75a_l3 k R C j (n + 1) bw false L = j L
      rw [p75a_l3, sp_ff]
    | true =>
      obtain ⟨⟨b', L'⟩, q1, q2⟩ := p75a_l4_eq (k := k) (n := k) h hc hC hCc hs (bw := bw) (L0 := L) (j := fun b34 b35 L36 => p75a_l3 k R C j n b34 b35 L36) (by omega) g1
      have q1' : Pass (EG P R c st bw) L R.length b' L' := q1
      refine .inr ⟨(b', L'), ⟨q1'.inv, fun e => ?_⟩, ?_, ?_⟩
      · obtain ⟨e1, e2⟩ := q1'.f e
        have e1 : L' = L := e1
        subst e1
        exact { toDInv := g1, fix := e2 }
      · show 2 * sumN L' + (if b' = true then 1 else 0) < 2 * sumN L + (if true = true then 1 else 0)
        rw [if_pos rfl]
        cases b' with
        | true => have := q1'.t rfl; rw [if_pos rfl]; omega
        | false => have := (q1'.f rfl).1; rw [this, if_neg (by decide)]; omega
      · show p75a_l3 k R C j (n + 1) bw true L = p75a_l3 k R C j n bw b' L'
        rw [p75a_l3, sp_tt]
        simp only [jn_v]
        exact q2
theorem p75a_eq {k m n : Nat} (hk : Fu k) {P : Int} {R : List (List Int)} {W : List WT} {z z' : List Int} (h : MapOk P R W) (hn : n ≤ 63) (hm : m < 2 ^ n) (hnW : n ≤ W.length) {st : Nat} (hs : st < P.toNat) {bw : Bool} :
    ∃ L, Dist (EG P R (cst R (us R W z (bitsL m n))) st bw) L ∧ p75a k P R W z' (st : Int) bw P R W z (m : Int) = some L := by
  have hk' := hk
  unfold Fu at hk'
  have h256 := h.r256
  have hP := h.places
  have hc := cst_ok h (U := us R W z (bitsL m n))
  unfold p75a
  simp only [lt_v, jn_v]
  rw [gd_v (by omega), p75a_l1_eq (by rw [List.length_replicate]; omega) (by rw [List.length_replicate]; omega) rfl]
  simp only [List.length_replicate, Int.toNat_natCast]
  rw [gd_v (by omega), gd_v (by omega)]
  obtain ⟨C, ⟨c1, c2⟩, c3⟩ := p75a_l2_eq (k := k) (n := k) (P := P) (R := R) (W := W) (z := z) (m := (m : Int)) (W17 := List.replicate R.length 0) (c := cst R (us R W z (bitsL m n)))
    (j := fun L18 => p75a_l3 k R L18 (fun L28 => some L28) k bw true (List.set (List.replicate P.toNat far) st 0)) (by rw [List.length_replicate]; omega) (by rw [List.length_replicate]; omega)
    (fun i hi => p122_eq hk h.wOk hn hm hnW (by rw [List.length_replicate] at hi; exact hi))
  rw [List.length_replicate] at c1 c2
  rw [c3]
  refine p75a_l3_eq hk h hc c1 c2 hs (DInv.start (EG_ok h hc hs) ?_ ?_ ?_)
  · rw [List.length_set, List.length_replicate]; rfl
  · show (List.set (List.replicate P.toNat far) st 0).getD st 0 = 0
    rw [getD_setI (by rw [List.length_replicate]; exact hs), if_pos rfl]
  · intro v hv hne
    have hv' : v < P.toNat := hv
    have hne' : v ≠ st := hne
    rw [getD_setI (by rw [List.length_replicate]; exact hs), if_neg (Ne.symm hne')]
    simp [List.getD_eq_getElem?_getD, hv']
end Go.Proofs.Ythniebmammmacaa
namespace Go.Proofs.Ythniebmammmacaa
open Go.RowKit Classical
def setT : Nat → Nat → Nat → List Nat
  | 0, _, _ => []
  | d + 1, i, s => (s ||| 2 ^ i) :: setT d (i + 1) (s ||| 2 ^ i) ++ setT d (i + 1) s
def setsL (n : Nat) : List Nat := 0 :: setT n 0 0
def natL (L : List Nat) : List Int := L.map Int.ofNat
theorem p121_eq {k n : Nat} (hk : Fu k) (hn : n ≤ 63) : ∀ (d : Nat),
    (∀ (f i s : Nat), i + d = n → d < f → s < 2 ^ n → p121 k (n : Int) f (s : Int) (i : Int) = some (natL (s :: setT d i s))) ∧
    (∀ (f g i s : Nat), i + d = n → d ≤ f → d < g → s < 2 ^ n → p121L (p121 k (n : Int) f) (n : Int) (s : Int) g (i : Int) = some (natL (setT d i s)))
  | 0 => by
    have hB : ∀ (f g i s : Nat), i + 0 = n → 0 ≤ f → 0 < g → s < 2 ^ n → p121L (p121 k (n : Int) f) (n : Int) (s : Int) g (i : Int) = some (natL (setT 0 i s)) := by
      intro f g i s h1 h2 h3 h4
      obtain ⟨g, rfl⟩ : ∃ g', g = g' + 1 := ⟨g - 1, by omega⟩
      rw [p121L]
      simp only [lt_v, sp_d]
      rw [iF (by omega)]
      rfl
    refine ⟨?_, hB⟩
    intro f i s h1 h2 h3
    obtain ⟨f, rfl⟩ : ∃ g', f = g' + 1 := ⟨f - 1, by omega⟩
    rw [p121, hB f k i s h1 (by omega) (by unfold Fu at hk; omega) h3]
    rfl
  | d + 1 => by
    obtain ⟨ihA, ihB⟩ := p121_eq hk hn d
    have hB : ∀ (f g i s : Nat), i + (d + 1) = n → d + 1 ≤ f → d + 1 < g → s < 2 ^ n → p121L (p121 k (n : Int) f) (n : Int) (s : Int) g (i : Int) = some (natL (setT (d + 1) i s)) := by
      intro f g i s h1 h2 h3 h4
      obtain ⟨g, rfl⟩ : ∃ g', g = g' + 1 := ⟨g - 1, by omega⟩
      have h2i : (2 : Nat) ^ i < 2 ^ n := Nat.pow_lt_pow_right (by omega) (by omega)
      have hn64 : (2 : Nat) ^ n < 2 ^ 64 := Nat.pow_lt_pow_right (by omega) (by omega)
      have hor : s ||| 2 ^ i < 2 ^ n := Nat.or_lt_two_pow h4 h2i
      have e1 : (1 : Int) * 2 ^ min ((i : Int)).toNat (IntKind.bits .u64) = ((2 ^ i : Nat) : Int) := by
        rw [Int.toNat_natCast, show min i (IntKind.bits .u64) = i from Nat.min_eq_left (by show i ≤ 64; omega)]
        simp
      rw [p121L]
      simp only [lt_v, sp_d]
      rw [iT (by omega), gd_v (by omega), e1, wruN (Nat.lt_trans h2i hn64), bor_nat (Nat.lt_trans h4 hn64) (Nat.lt_trans h2i hn64), wruN (Nat.lt_trans hor hn64), wr_succ (n := n) (by omega) (by omega),
        ihA f (i + 1) _ (by omega) (by omega) hor, cl_v, ihB f g (i + 1) s (by omega) (by omega) (by omega) h4, cl_v]
      rw [setT]
      simp [natL]
    refine ⟨?_, hB⟩
    intro f i s h1 h2 h3
    obtain ⟨f, rfl⟩ : ∃ g', f = g' + 1 := ⟨f - 1, by omega⟩
    rw [p121, hB f k i s h1 (by omega) (by unfold Fu at hk; omega) h3]
    rfl
theorem p73_eq {k n : Nat} (hk : Fu k) (hn : n ≤ 63) : p73 k (n : Int) = some (natL (setsL n)) := by
  unfold p73 p120
  have := (p121_eq hk hn n).1 k 0 0 (by omega) (by unfold Fu at hk; omega) (Nat.two_pow_pos n)
  rw [show ((0 : Nat) : Int) = 0 from rfl] at this
  rw [this]; rfl
theorem mem_setT {x : Nat} : ∀ {d i s : Nat}, s < 2 ^ i → (x ∈ s :: setT d i s ↔ (∀ j, j < i → x.testBit j = s.testBit j) ∧ x < 2 ^ (i + d))
  | 0, i, s, hs => by
    rw [setT, List.mem_singleton, Nat.add_zero]
    constructor
    · rintro rfl; exact ⟨fun _ _ => rfl, hs⟩
    · rintro ⟨h1, h2⟩
      refine Nat.eq_of_testBit_eq fun j => ?_
      rcases Nat.lt_or_ge j i with g | g
      · exact h1 j g
      · rw [Nat.testBit_lt_two_pow (Nat.lt_of_lt_of_le h2 (Nat.pow_le_pow_right (by omega) g)), Nat.testBit_lt_two_pow (Nat.lt_of_lt_of_le hs (Nat.pow_le_pow_right (by omega) g))]
  | d + 1, i, s, hs => by
    have h2i : (2 : Nat) ^ i < 2 ^ (i + 1) := Nat.pow_lt_pow_right (by omega) (by omega)
    have hs1 : s < 2 ^ (i + 1) := Nat.lt_trans hs h2i
    have hs' : s ||| 2 ^ i < 2 ^ (i + 1) := Nat.or_lt_two_pow hs1 h2i
    have A := mem_setT (x := x) (d := d) (i := i + 1) hs'
    have B := mem_setT (x := x) (d := d) (i := i + 1) hs1
    have hb0 : s.testBit i = false := Nat.testBit_lt_two_pow hs
    have e : i + 1 + d = i + (d + 1) := by omega
    rw [e] at A B
    have hm : x ∈ s :: setT (d + 1) i s ↔ x ∈ (s ||| 2 ^ i) :: setT d (i + 1) (s ||| 2 ^ i) ∨ x ∈ s :: setT d (i + 1) s := by
      rw [setT]
      simp only [List.mem_cons, List.mem_append]
      constructor
      · rintro (a | a | a)
        · exact .inr (.inl a)
        · exact .inl a
        · exact .inr (.inr a)
      · rintro (a | a | a)
        · exact .inr (.inl a)
        · exact .inl a
        · exact .inr (.inr a)
    rw [hm, A, B]
    constructor
    · rintro (⟨h1, h2⟩ | ⟨h1, h2⟩)
      · refine ⟨fun j hj => ?_, h2⟩
        rw [h1 j (by omega), Nat.testBit_or, Nat.testBit_two_pow, dF (by omega), Bool.or_false]
      · exact ⟨fun j hj => h1 j (by omega), h2⟩
    · rintro ⟨h1, h2⟩
      by_cases hb : x.testBit i = true
      · refine .inl ⟨fun j hj => ?_, h2⟩
        rw [Nat.testBit_or, Nat.testBit_two_pow]
        rcases Nat.eq_or_lt_of_le (Nat.le_of_lt_succ hj) with g | g
        · subst g; rw [hb, dT rfl, Bool.or_true]
        · rw [h1 j g, dF (by omega), Bool.or_false]
      · refine .inr ⟨fun j hj => ?_, h2⟩
        rcases Nat.eq_or_lt_of_le (Nat.le_of_lt_succ hj) with g | g
        · subst g; rw [hb0]; cases hx : x.testBit j
          · rfl
          · exact absurd hx hb
        · exact h1 j g
theorem mem_setsL {n x : Nat} : x ∈ setsL n ↔ x < 2 ^ n := by
  unfold setsL
  rw [mem_setT (Nat.two_pow_pos 0), Nat.zero_add]
  exact ⟨fun h => h.2, fun h => ⟨fun j hj => absurd hj (Nat.not_lt_zero j), h⟩⟩
noncomputable def least (ok : Nat → Prop) (f : Nat → Int) : List Nat → Int × Int × Bool → Int × Int × Bool
  | [], a => a
  | s :: L, a => if ok s ∧ (a.2.2 = false ∨ f s < a.2.1) then least ok f L ((s : Int), f s, true) else least ok f L a
theorem least_spec {ok : Nat → Prop} {f : Nat → Int} : ∀ {L : List Nat} {a : Int × Int × Bool},
    ((∀ s ∈ L, ¬ ok s) ∧ least ok f L a = a) ∨ ((least ok f L a = a ∧ a.2.2 = true ∨ ∃ s ∈ L, ok s ∧ least ok f L a = ((s : Int), f s, true)) ∧ (∀ s ∈ L, ok s → (least ok f L a).2.1 ≤ f s) ∧ (a.2.2 = true → (least ok f L a).2.1 ≤ a.2.1))
  | [], a => .inl ⟨by simp, rfl⟩
  | s :: L, a => by
    rw [least]
    by_cases h : ok s ∧ (a.2.2 = false ∨ f s < a.2.1)
    · rw [iT h]
      rcases least_spec (ok := ok) (f := f) (L := L) (a := ((s : Int), f s, true)) with ⟨h1, h2⟩ | ⟨h1, h2, h3⟩
      · refine .inr ⟨.inr ⟨s, List.mem_cons_self, h.1, h2⟩, fun t ht hok => ?_, fun ha => ?_⟩
        · rcases List.mem_cons.1 ht with e | e
          · subst e; rw [h2]; exact Int.le_refl _
          · exact absurd hok (h1 t e)
        · rw [h2]
          rcases h.2 with g | g
          · rw [ha] at g; cases g
          · exact Int.le_of_lt g
      · refine .inr ⟨?_, fun t ht hok => ?_, fun ha => ?_⟩
        · rcases h1 with ⟨g, _⟩ | ⟨t, g1, g2, g3⟩
          · exact .inr ⟨s, List.mem_cons_self, h.1, g⟩
          · exact .inr ⟨t, List.mem_cons_of_mem _ g1, g2, g3⟩
        · rcases List.mem_cons.1 ht with e | e
          · subst e; exact h3 rfl
          · exact h2 t e hok
        · have h4 := h3 rfl
          rcases h.2 with g | g
          · rw [ha] at g; cases g
          · exact Int.le_trans h4 (Int.le_of_lt g)
    · rw [iF h]
      rcases least_spec (ok := ok) (f := f) (L := L) (a := a) with ⟨h1, h2⟩ | ⟨h1, h2, h3⟩
      · by_cases hok : ok s
        · have ha : a.2.2 = true := by
            cases hb : a.2.2 with
            | true => rfl
            | false => exact absurd ⟨hok, .inl hb⟩ h
          refine .inr ⟨.inl ⟨h2, ha⟩, fun t ht hk => ?_, fun _ => by rw [h2]; exact Int.le_refl _⟩
          rcases List.mem_cons.1 ht with e | e
          · subst e; rw [h2]
            rcases Int.lt_or_le (f t) a.2.1 with g | g
            · exact absurd ⟨hok, .inr g⟩ h
            · exact g
          · exact absurd hk (h1 t e)
        · refine .inl ⟨fun t ht => ?_, h2⟩
          rcases List.mem_cons.1 ht with e | e
          · subst e; exact hok
          · exact h1 t e
      · refine .inr ⟨?_, fun t ht hok => ?_, h3⟩
        · rcases h1 with g | ⟨t, g1, g2⟩
          · exact .inl g
          · exact .inr ⟨t, List.mem_cons_of_mem _ g1, g2⟩
        · rcases List.mem_cons.1 ht with e | e
          · subst e
            cases hb : a.2.2 with
            | false => exact absurd ⟨hok, .inl hb⟩ h
            | true =>
              have := h3 hb
              rcases Int.lt_or_le (f t) a.2.1 with g | g
              · exact absurd ⟨hok, .inr g⟩ h
              · exact Int.le_trans this g
          · exact h2 t e hok
theorem least_from {ok : Nat → Prop} {f : Nat → Int} {L : List Nat} {x y : Int} :
    ((∀ s ∈ L, ¬ ok s) ∧ least ok f L (x, y, false) = (x, y, false)) ∨ (∃ s ∈ L, ok s ∧ least ok f L (x, y, false) = ((s : Int), f s, true) ∧ ∀ t ∈ L, ok t → f s ≤ f t) := by
  rcases least_spec (ok := ok) (f := f) (L := L) (a := (x, y, false)) with h | ⟨h1, h2, _⟩
  · exact .inl h
  · rcases h1 with ⟨_, h⟩ | ⟨s, a, b, c⟩
    · cases h
    · refine .inr ⟨s, a, b, c, fun t ht hok => ?_⟩
      have := h2 t ht hok
      rw [c] at this
      exact this
theorem p72a_r1_eq {k : Nat} {P : Int} {R : List (List Int)} {W : List WT} {z : List Int} {to fr : Int} {ok : Nat → Prop} {f : Nat → Int} {j : Int → Int → Bool → Option (Int × Int × Bool)} : ∀ {L : List Nat} {x y : Int} {b : Bool},
    (∀ s ∈ L, ∃ b : Bool, (b = true ↔ ok s) ∧ p74 k (s : Int) P R W z to fr = some (f s, b)) → p72a_r1 k j P R W z to fr (natL L) x y b = j (least ok f L (x, y, b)).1 (least ok f L (x, y, b)).2.1 (least ok f L (x, y, b)).2.2
  | [], x, y, b, _ => rfl
  | s :: L, x, y, b, h => by
    obtain ⟨b0, hb0, h0⟩ := h s List.mem_cons_self
    have ih := fun x y b => p72a_r1_eq (k := k) (P := P) (R := R) (W := W) (z := z) (to := to) (fr := fr) (ok := ok) (f := f) (j := j) (L := L) (x := x) (y := y) (b := b) (fun t ht => h t (List.mem_cons_of_mem _ ht))
    show p72a_r1 k j P R W z to fr ((s : Int) :: natL L) x y b = _
    rw [p72a_r1, h0, cl2_v]
    simp only [jn_v, lt_v, ih]
    rw [least]
    by_cases hok : ok s
    · rw [hb0.2 hok, sp_tt]
      cases b with
      | false => rw [sp_ff, sp_tt, iT ⟨hok, .inl rfl⟩]
      | true =>
        rw [sp_tt, sp_d]
        by_cases g : f s < y
        · rw [iT g, iT ⟨hok, .inr g⟩]
        · rw [iF g, iF]
          rintro ⟨_, e | e⟩
          · cases e
          · exact g e
    · have : b0 = false := by cases b0 with
        | false => rfl
        | true => exact absurd (hb0.1 rfl) hok
      rw [this, sp_ff, sp_ff, iF (fun h => hok h.1)]
theorem p68_eq {k : Nat} (hk : Fu k) {P : Int} {R : List (List Int)} {W : List WT} {z : List Int} (hr : ∀ r ∈ R, r.length = 12) (hz : z.length = 6) :
    p68 k P R W z = if MapOk P R W then some (P, R, W, z, szE z) else some (0, [], [], [0, 0, 0, 0, 0, 0], chkE P R W) := by
  unfold p68
  rw [p38_eq hk hr, cl_v, lt_v, chkE_ne, p39_eq hk hz, cl_v, sp_d]
  by_cases h : MapOk P R W
  · rw [iF (not_not_intro h), iT h]
  · rw [iT h, iF h]
def On (R : List (List Int)) (L : List Int) (at' : Nat) (i : Nat) : Prop := rF (rd R i) = (at' : Int) ∧ L.getD at' 0 = rC (rd R i) + L.getD (rT (rd R i)).toNat 0
theorem p81_eq {k : Nat} {r L : List Int} {a : Nat} (ha : a < L.length) (ht : 0 ≤ rT r ∧ rT r < (L.length : Int)) (hc : 0 ≤ rC r ∧ rC r ≤ 1073741824) (hL : ∀ i, i < L.length → 0 ≤ L.getD i 0 ∧ L.getD i 0 ≤ far) :
    p81 k r (a : Int) L = some (decide (rF r = (a : Int) ∧ L.getD a 0 = rC r + L.getD (rT r).toNat 0)) := by
  unfold p81
  have h1 := hL (rT r).toNat (by omega)
  have hf : far = 1125899906842624 := rfl
  simp only [jn_v, lt_v, beq_d, sp_d, show r.getD 0 0 = rF r from rfl, show r.getD 1 0 = rT r from rfl, show r.getD 2 0 = rC r from rfl]
  rw [gd_v (by omega), gd_v (by omega), wr64 (by omega) (by omega), Int.toNat_natCast]
  by_cases h : rF r = (a : Int)
  · rw [iT h]; congr 1; exact dI ⟨fun g => ⟨h, g⟩, fun g => g.2⟩
  · rw [iF h, dF (fun g => h g.1)]
theorem p82_eq {k : Nat} {r L : List Int} {a : Nat} (ha : a < L.length) (ht : 0 ≤ rT r ∧ rT r < (L.length : Int)) (hc : 0 ≤ rC r ∧ rC r ≤ 1073741824) (hL : ∀ i, i < L.length → 0 ≤ L.getD i 0 ∧ L.getD i 0 ≤ far) :
    p82 k r (a : Int) L = some (decide (rF r = (a : Int) ∧ L.getD a 0 = rC r + L.getD (rT r).toNat 0)) := p81_eq (k := k) ha ht hc hL
structure LOk (P : Int) (R : List (List Int)) (L : List Int) : Prop where
  len : L.length = P.toNat
  rng : ∀ i, i < L.length → 0 ≤ L.getD i 0 ∧ L.getD i 0 ≤ far
  t : ∀ i, i < R.length → 0 ≤ rT (rd R i) ∧ rT (rd R i) < (L.length : Int)
  c : ∀ i, i < R.length → 0 ≤ rC (rd R i) ∧ rC (rd R i) ≤ 1073741824
  r256 : R.length ≤ 256
theorem LOk.of {P R W L} (h : MapOk P R W) {c st bw} (hd : DInv (EG P R c st bw) L) : LOk P R L := by
  have hl : L.length = P.toNat := hd.len
  have hp := h.places
  refine ⟨hl, fun i hi => hd.rng i (by show i < P.toNat; omega), fun i hi => ?_, fun i hi => ?_, h.r256⟩
  · have := (h.road i hi).ar; unfold RoadA at this; omega
  · have := (h.road i hi).ar; unfold RoadA at this; omega
theorem p80a_eq {k : Nat} (hk : Fu k) {P : Int} {R : List (List Int)} {L : List Int} (h : LOk P R L) {a : Nat} (ha : a < L.length) : p80a k R (a : Int) L = some (fst (On R L a) R.length 0) := by
  have := h.r256
  unfold Fu at hk
  unfold p80a
  simp only [jn_v]
  refine srchI0 (F := p80a_l1 k R (a : Int) L (some (-1))) (len := R.length) (n := k) (On R L a) (by omega) ?_ ?_
  · intro n; rw [p80a_l1]; simp only [lt_v, sp_d]; rw [iF (by omega)]
  · intro n i hi
    rw [p80a_l1]
    simp only [lt_v, sp_d]
    have hd : R.getD i [] = rd R i := rfl
    rw [iT (by omega), gd_v (by omega), Int.toNat_natCast, hd, p81_eq ha (h.t i hi) (h.c i hi) h.rng, cl_v, wr_succ hi (by omega), sp_d]
    by_cases g : On R L a i
    · exact .inl ⟨g, iT g⟩
    · exact .inr ⟨g, iF g⟩
theorem p80b_eq {k : Nat} (hk : Fu k) {P : Int} {R : List (List Int)} {L : List Int} (h : LOk P R L) {a q : Nat} (ha : a < L.length) (hq : q ≤ R.length) :
    p80b k (part R q R.length) (a : Int) L = some (fst (fun i => On R L a (q + i)) (R.length - q) 0) := by
  have := h.r256
  unfold Fu at hk
  have hl : (part R q R.length).length = R.length - q := by unfold part; simp
  have hg : ∀ i, i < R.length - q → (part R q R.length).getD i [] = rd R (q + i) := by
    intro i hi
    unfold part rd
    rw [List.getD_eq_getElem?_getD, List.getElem?_take, if_pos hi, List.getElem?_drop, List.getD_eq_getElem?_getD]
  unfold p80b
  simp only [jn_v]
  refine srchI0 (F := p80b_l1 k (part R q R.length) (a : Int) L (some (-1))) (len := R.length - q) (n := k) (fun i => On R L a (q + i)) (by omega) ?_ ?_
  · intro n; rw [p80b_l1]; simp only [lt_v, sp_d, hl]; rw [iF (by omega)]
  · intro n i hi
    rw [p80b_l1]
    simp only [lt_v, sp_d, hl]
    rw [iT (by omega), gd_v (by omega), Int.toNat_natCast, hg i hi, p82_eq ha (h.t _ (by omega)) (h.c _ (by omega)) h.rng, cl_v, wr_succ hi (by omega), sp_d]
    by_cases g : On R L a (q + i)
    · exact .inl ⟨g, iT g⟩
    · exact .inr ⟨g, iF g⟩
inductive Rt (R : List (List Int)) (U : Nat → Prop) (L : List Int) (to : Nat) : Nat → List Int → Int → Prop
  | nil : Rt R U L to to [] 0
  | cons {a i : Nat} {rs : List Int} {m : Int} : a ≠ to → i < R.length → On R L a i → U i → (∀ j, j < i → On R L a j → ¬ U j) → Rt R U L to (rT (rd R i)).toNat rs m → Rt R U L to a ((i : Int) :: rs) (rM (rd R i) + m)
theorem Rt.unique {R U L to} : ∀ {rs a m rs' m'}, Rt R U L to a rs m → Rt R U L to a rs' m' → rs = rs' ∧ m = m' := by
  intro rs a m rs' m' h
  induction h generalizing rs' m' with
  | nil =>
    intro h'
    cases h' with
    | nil => exact ⟨rfl, rfl⟩
    | cons h1 => exact absurd rfl h1
  | @cons a i rs m h1 h2 h3 h4 h5 h6 ih =>
    intro h'
    cases h' with
    | nil => exact absurd rfl h1
    | @cons _ i' rs2 m2 g1 g2 g3 g4 g5 g6 =>
      have : i = i' := by
        rcases Nat.lt_trichotomy i i' with g | g | g
        · exact absurd h4 (g5 i g h3)
        · exact g
        · exact absurd g4 (h5 i' g g3)
      subst this
      obtain ⟨e1, e2⟩ := ih g6
      exact ⟨by rw [e1], by rw [e2]⟩
theorem p28_l2_eq {k m n : Nat} (hk : Fu k) {P : Int} {R : List (List Int)} {W : List WT} {z L : List Int} (h : MapOk P R W) (hL : LOk P R L) (hn : n ≤ 63) (hm : m < 2 ^ n) (hnW : n ≤ W.length) {a : Nat} (ha : a < L.length)
    {j : Int → Option (List Int × List Int × Int × Int × Int)} {t : Nat} (ht : t < R.length) (ht1 : On R L a t) (ht2 : us R W z (bitsL m n) t) (ht3 : ∀ i, i < t → On R L a i → ¬ us R W z (bitsL m n) i) :
    ∀ (d q f : Nat), q + d = t → d < f → On R L a q → p28_l2 k R (a : Int) j P R W z (m : Int) L f (q : Int) = j (t : Int)
  | d, q, f + 1, h1, h2, h3 => by
    have h256 := hL.r256
    rw [p28_l2, p55_eq hk h.wOk hn hm hnW (by omega), cl_v, sp_d]
    rcases Nat.eq_zero_or_pos d with e | e
    · subst e
      obtain rfl : q = t := by omega
      rw [iT ht2]
    · rw [iF (ht3 q (by omega) h3)]
      simp only [lt_v]
      rw [wr_succ (n := R.length) (by omega) (by omega), gd_v (by omega), Int.toNat_natCast, p80b_eq hk hL ha (by omega), cl_v]
      rcases fst_spec (fun i => On R L a (q + 1 + i)) (R.length - (q + 1)) 0 with ⟨_, g⟩ | ⟨q', g1, _, g2, g3, g4⟩
      · exact absurd (show On R L a (q + 1 + (t - (q + 1))) by rw [show q + 1 + (t - (q + 1)) = t from by omega]; exact ht1) (g (t - (q + 1)) (Nat.zero_le _) (by omega))
      · have hqt : q + 1 + q' ≤ t := by
          rcases Nat.lt_or_ge t (q + 1 + q') with g | g
          · exact absurd (show On R L a (q + 1 + (t - (q + 1))) by rw [show q + 1 + (t - (q + 1)) = t from by omega]; exact ht1) (g4 (t - (q + 1)) (Nat.zero_le _) (by omega))
          · exact g
        rw [g1, wr64 (z := 1 + (q' : Int)) (by omega) (by omega), wr64 (by omega) (by omega), show (q : Int) + (1 + (q' : Int)) = ((q + 1 + q' : Nat) : Int) from by omega]
        exact p28_l2_eq hk h hL hn hm hnW ha ht ht1 ht2 ht3 (t - (q + 1 + q')) (q + 1 + q') f (by omega) (by omega) g3
theorem min_ex {p : Nat → Prop} : ∀ {n : Nat}, p n → ∃ m, m ≤ n ∧ p m ∧ ∀ j, j < m → ¬ p j
  | 0, h => ⟨0, Nat.le_refl _, h, by intros; omega⟩
  | n + 1, h => by
    by_cases hx : ∃ m, m ≤ n ∧ p m
    · obtain ⟨m, a, b⟩ := hx
      obtain ⟨m', c, d, e⟩ := min_lt (n := n) ⟨m, a, b⟩
      exact ⟨m', by omega, d, e⟩
    · exact ⟨n + 1, Nat.le_refl _, h, fun j hj hp => hx ⟨j, by omega, hp⟩⟩
where
  min_lt {p : Nat → Prop} : ∀ {n : Nat}, (∃ m, m ≤ n ∧ p m) → ∃ m, m ≤ n ∧ p m ∧ ∀ j, j < m → ¬ p j
    | 0, ⟨m, a, b⟩ => ⟨m, a, b, by intros; omega⟩
    | n + 1, ⟨m, a, b⟩ => by
      by_cases hx : ∃ m, m ≤ n ∧ p m
      · obtain ⟨m', c, d, e⟩ := min_lt hx
        exact ⟨m', by omega, d, e⟩
      · exact ⟨m, a, b, fun j hj hp => hx ⟨j, by omega, hp⟩⟩
theorem p28_l1_eq {k m n : Nat} (hk : Fu k) {P : Int} {R : List (List Int)} {W : List WT} {z L : List Int} (h : MapOk P R W) (hn : n ≤ 63) (hm : m < 2 ^ n) (hnW : n ≤ W.length) {to : Nat} (hto : to < P.toNat)
    (hD : Dist (EG P R (cst R (us R W z (bitsL m n))) to true) L) {j : Int → List Int → Option (List Int × List Int × Int × Int × Int)} : ∀ (d f : Nat) (a : Nat) (mi : Int) (A : List Int), a < P.toNat → L.getD a 0 < far → (L.getD a 0).toNat ≤ d → d < f →
    A.length + d ≤ 8796093022208 → 0 ≤ mi → mi ≤ 1440 * (A.length : Int) →
    ∃ rs m', Rt R (us R W z (bitsL m n)) L to a rs m' ∧ p28_l1 k R (to : Int) j P R W z (m : Int) L f (a : Int) mi A = j (mi + m') (A ++ rs)
  | d, f + 1, a, mi, A, ha, hf, hd, hdf, hA, hm0, hm1 => by
    have he := EG_ok h (cst_ok h (U := us R W z (bitsL m n))) hto (bw := true)
    have hl : LOk P R L := LOk.of h hD.toDInv
    have hp := h.places
    have h256 := h.r256
    have hfar : far = 1125899906842624 := rfl
    rw [p28_l1]
    simp only [lt_v, bne_d, sp_d]
    by_cases e : a = to
    · subst e
      refine ⟨[], 0, .nil, ?_⟩
      rw [iF (by omega), Int.add_zero, List.append_nil]
    · rw [iT (by omega)]
      obtain ⟨i0, o1, o2, o3, o4⟩ := hD.prev he (v := a) ha e hf
      obtain ⟨hu, ec⟩ := cst_nn o2
      have o3' : (rF (rd R i0)).toNat = a := o3
      have o4' : L.getD a 0 = cst R (us R W z (bitsL m n)) i0 + L.getD (rT (rd R i0)).toNat 0 := o4
      have hr0 := (h.road i0 o1).ar
      unfold RoadA at hr0
      have hon : On R L a i0 := ⟨by omega, by rw [o4', ec]⟩
      obtain ⟨t, t1, ⟨t2, t3⟩, t4⟩ := min_ex (p := fun i => On R L a i ∧ us R W z (bitsL m n) i) (n := i0) ⟨hon, hu⟩
      have o1' : i0 < R.length := o1
      have hr := (h.road t (by omega)).ar
      unfold RoadA at hr
      have hal : a < L.length := by rw [hl.len]; exact ha
      rw [p80a_eq hk hl hal, cl_v]
      simp only [jn_v]
      rcases fst_spec (On R L a) R.length 0 with ⟨_, g⟩ | ⟨q, g1, _, g2, g3, g4⟩
      · exact absurd t2 (g t (Nat.zero_le _) (by omega))
      · have hqt : q ≤ t := by
          rcases Nat.lt_or_ge t q with g | g
          · exact absurd t2 (g4 t (Nat.zero_le _) g)
          · exact g
        have ht2 := t2.2
        have hrt := hl.rng (rT (rd R t)).toNat (by have := hl.len; omega)
        rw [g1, p28_l2_eq hk h hl hn hm hnW hal (t := t) (by omega) t2 t3 (fun i hi a b => t4 i hi ⟨a, b⟩) (t - q) q k (by omega) (by unfold Fu at hk; omega) g3]
        have hd2 : R.getD t [] = rd R t := rfl
        simp only [Int.toNat_natCast, hd2, show (rd R t).getD 3 0 = rM (rd R t) from rfl, show (rd R t).getD 1 0 = rT (rd R t) from rfl]
        rw [gd_v (by simp only [List.length_cons, List.length_nil]; omega), gd_v (by omega), gd_v (by omega), wr64 (by omega) (by omega)]
        obtain ⟨rs, m', q1, q2⟩ := p28_l1_eq hk h hn hm hnW hto hD (j := j) (d - 1) f (rT (rd R t)).toNat (mi + rM (rd R t)) (A ++ [(t : Int)]) (by omega) (by omega) (by omega) (by omega) (by simp only [List.length_append, List.length_cons, List.length_nil]; omega) (by omega)
          (by simp only [List.length_append, List.length_cons, List.length_nil]; omega)
        refine ⟨(t : Int) :: rs, rM (rd R t) + m', .cons e (by omega) t2 t3 (fun i hi a b => t4 i hi ⟨a, b⟩) q1, ?_⟩
        rw [show ((rT (rd R t)).toNat : Int) = rT (rd R t) from by omega] at q2
        rw [q2]
        rw [List.append_assoc, Int.add_assoc]
        rfl
theorem p78_eq {k : Nat} {L : List Int} (hL : L.length ≤ 1000000) : p78 k L = some L := by
  have key : ∀ (L A : List Int), A.length + L.length ≤ 1000000 → p123_r1 k (fun L4 => some L4) L A = some (A ++ L) := by
    intro L
    induction L with
    | nil => intro A _; rw [p123_r1, List.append_nil]
    | cons x L ih =>
      intro A hA
      rw [p123_r1]
      simp only [List.length_cons] at hA
      rw [gd_v (by simp only [List.length_cons, List.length_nil]; omega)]
      simp only [lt_v]
      rw [ih _ (by simp only [List.length_append, List.length_cons, List.length_nil]; omega), List.append_assoc]
      rfl
  unfold p78 p123
  simp only [jn_v]
  rw [key L [] (by simpa using hL), cl_v]
  rfl
noncomputable def dst (P : Int) (R : List (List Int)) (U : Nat → Prop) (fr to : Nat) : Int := if h : ∃ L, Dist (EG P R (cst R U) to true) L then (Classical.choose h).getD fr 0 else 0
theorem dst_eq {P R W} (h : MapOk P R W) {U : Nat → Prop} {fr to : Nat} (hto : to < P.toNat) {L : List Int} (hD : Dist (EG P R (cst R U) to true) L) : dst P R U fr to = L.getD fr 0 := by
  have hx : ∃ L, Dist (EG P R (cst R U) to true) L := ⟨L, hD⟩
  unfold dst
  rw [dif_pos hx, (Classical.choose_spec hx).unique (EG_ok h (cst_ok h) hto) hD]
structure Cheap (P : Int) (R : List (List Int)) (W : List WT) (z : List Int) (fr to s : Nat) (rs ws : List Int) (c mi : Int) : Prop where
  ms : s < 2 ^ W.length
  fin : dst P R (us R W z (bitsL s W.length)) fr to < far
  wse : ws = bitsL s W.length
  co : c = dst P R (us R W z (bitsL s W.length)) fr to + costL W ws
  best : (s : Int) = (least (fun s => dst P R (us R W z (bitsL s W.length)) fr to < far) (fun s => dst P R (us R W z (bitsL s W.length)) fr to + costL W (bitsL s W.length)) (setsL W.length) (0, 0, false)).1
  le : ∀ t, t < 2 ^ W.length → dst P R (us R W z (bitsL t W.length)) fr to < far → c ≤ dst P R (us R W z (bitsL t W.length)) fr to + costL W (bitsL t W.length)
  rt : ∃ L, Dist (EG P R (cst R (us R W z ws)) to true) L ∧ Rt R (us R W z ws) L to fr rs mi
theorem p74_eq {k s : Nat} (hk : Fu k) {P : Int} {R : List (List Int)} {W : List WT} {z : List Int} (h : MapOk P R W) {fr to : Nat} (hfr : fr < P.toNat) (hto : to < P.toNat) (hs : s < 2 ^ W.length) :
    p74 k (s : Int) P R W z (to : Int) (fr : Int) = some (dst P R (us R W z (bitsL s W.length)) fr to + costL W (bitsL s W.length), decide (dst P R (us R W z (bitsL s W.length)) fr to < far)) := by
  have hw10 := h.w10
  have hp := h.places
  obtain ⟨L, hD, e⟩ := p75a_eq hk (z := z) (z' := z) h (n := W.length) (by omega) hs (Nat.le_refl _) hto (bw := true)
  unfold p74
  rw [show p76 k P R W z (s : Int) = some () from rfl, cl_v, e, cl_v]
  have hl : L.length = P.toNat := hD.len
  have hr := hD.rng fr hfr
  have hcl := costL_le h.wcOk (S := bitsL s W.length) (by intro x hx; obtain ⟨j, a, _, rfl⟩ := mem_bitsL.1 hx; omega)
  have hbl := bitsL_len (m := s) (n := W.length)
  have hfar : far = 1125899906842624 := rfl
  rw [gd_v (by omega), p77_eq hk h.wcOk (by omega) hs (Nat.le_refl _)]
  simp only [lt_v, cl_v, Int.toNat_natCast]
  rw [dst_eq h hto hD, wr64 (by omega) (by omega)]
  rfl
theorem p28_eq {k : Nat} (hk : Fu k) {P : Int} {R : List (List Int)} {W : List WT} {z : List Int} (h : MapOk P R W) (hz : SzOk z) (hz6 : z.length = 6) (hr : ∀ r ∈ R, r.length = 12) {fr to : Nat} (hfr : fr < P.toNat) (hto : to < P.toNat) :
    ((∀ s, s < 2 ^ W.length → ¬ dst P R (us R W z (bitsL s W.length)) fr to < far) ∧ p28 k P R W z (fr : Int) (to : Int) = some ([], [], 0, 0, 15)) ∨
    (∃ s rs ws c mi, Cheap P R W z fr to s rs ws c mi ∧ p28 k P R W z (fr : Int) (to : Int) = some (rs, ws, c, mi, 0)) := by
  have hw10 := h.w10
  have hp := h.places
  unfold p28
  rw [p68_eq hk hr hz6, if_pos h, cl5_v, gd_v hz6, szE_zero.2 hz]
  simp only [lt_v, bne_d, sp_d]
  rw [iF (by simp), p67_eq hk (by simp), iT (by
    intro x hx
    simp only [List.mem_cons, List.mem_nil_iff, or_false] at hx
    rcases hx with e | e <;> omega), cl_v, iF (by simp), p73_eq hk (by omega), cl_v]
  have h72 : p72a k (natL (setsL W.length)) P R W z (to : Int) (fr : Int) = some (least (fun s => dst P R (us R W z (bitsL s W.length)) fr to < far) (fun s => dst P R (us R W z (bitsL s W.length)) fr to + costL W (bitsL s W.length)) (setsL W.length) (0, 0, false)) := by
    unfold p72a
    simp only [jn_v]
    rw [p72a_r1_eq (ok := fun s => dst P R (us R W z (bitsL s W.length)) fr to < far) (fun s hs => ⟨_, decide_eq_true_iff, p74_eq hk h hfr hto (mem_setsL.1 hs)⟩)]
  rw [h72]
  have hl := least_from (ok := fun s => dst P R (us R W z (bitsL s W.length)) fr to < far) (f := fun s => dst P R (us R W z (bitsL s W.length)) fr to + costL W (bitsL s W.length)) (L := setsL W.length) (x := 0) (y := 0)
  rcases hl with ⟨h1, h2⟩ | ⟨s, h1, h2, h3, h4⟩
  · refine .inl ⟨fun s hs => h1 s (mem_setsL.2 hs), ?_⟩
    rw [h2, cl3_v, sp_ff]
  · refine .inr ?_
    have hs := mem_setsL.1 h1
    obtain ⟨L, hD, e⟩ := p75a_eq hk (z := z) (z' := z) h (n := W.length) (by omega) hs (Nat.le_refl _) hto (bw := true)
    have hdf : L.getD fr 0 < far := by rw [← dst_eq h hto hD]; exact h2
    have hbl := bitsL_len (m := s) (n := W.length)
    have hrg := hD.rng fr hfr
    have hfar : far = 1125899906842624 := rfl
    have hfin := hD.fin (EG_ok h (cst_ok h) hto) (v := fr) hfr hdf
    obtain ⟨rs, m', q1, q2⟩ := p28_l1_eq hk h (n := W.length) (by omega) hs (Nat.le_refl _) hto hD (j := fun x73 L74 => some (L74, bitsL s W.length, dst P R (us R W z (bitsL s W.length)) fr to + costL W (bitsL s W.length), x73, 0)) (L.getD fr 0).toNat k fr 0 [] hfr hdf (Nat.le_refl _)
      (by unfold Fu at hk; omega) (by simp only [List.length_nil]; omega) (by omega) (by simp)
    refine ⟨s, rs, bitsL s W.length, _, m', ⟨hs, h2, rfl, rfl, by rw [h3], fun t ht hok => h4 t (mem_setsL.2 ht) hok, L, hD, q1⟩, ?_⟩
    rw [h3, cl3_v, sp_tt, p79_eq hk (by omega) hs, cl_v, p78_eq (by omega), cl_v, show p76 k P R W z (s : Int) = some () from rfl, cl_v, e, cl_v]
    simp only [jn_v]
    rw [q2]
    simp
end Go.Proofs.Ythniebmammmacaa
namespace Go.Proofs.Ythniebmammmacaa
open Go.RowKit Classical
def K0 : Nat := 1152921504606846976
theorem fuK0 : Fu K0 := Nat.le_refl _
theorem p14_eq : p14 K0 = some true := by kernel_rfl
structure Valid (P : Int) (R : List (List Int)) (W : List WT) (z : List Int) (fr to : Int) : Prop where
  map : MapOk P R W
  pl12 : P ≤ 12
  r30 : R.length ≤ 30
  w5 : W.length ≤ 5
  sz : SzOk z
  fr0 : 0 ≤ fr ∧ fr < P
  to0 : 0 ≤ to ∧ to < P
theorem p13_some {k : Nat} (hk : Fu k) {P : Int} {R : List (List Int)} {W : List WT} : ∃ b, p13 k P R W = some b ∧ (b = false → R.length ≤ 300 ∧ W.length ≤ 20 ∧ (∀ i, i < W.length → (wk W i).1.length ≤ 40) ∧ (MapOk P R W → P ≤ 12 ∧ R.length ≤ 30 ∧ W.length ≤ 5)) := by
  have hk' := hk
  unfold Fu at hk'
  unfold p13
  simp only [jn_v, lt_v, sp_d, sp_tt, sp_ff, p29_eq hk, cl_v, chkE_eq]
  by_cases h1 : (R.length : Int) > 300
  · exact ⟨true, by rw [iT h1], fun h => (by cases h)⟩
  rw [iF h1]
  by_cases h2 : (W.length : Int) > 20
  · exact ⟨true, by rw [iT h2], fun h => (by cases h)⟩
  rw [iF h2]
  have hs : ∀ j, ((∃ i, i < W.length ∧ 40 < (wk W i).1.length) ∧ p13_l1 k W j k 0 = some true) ∨ ((∀ i, i < W.length → ¬ 40 < (wk W i).1.length) ∧ p13_l1 k W j k 0 = j) := by
    intro j
    refine srch0 (F := p13_l1 k W j) (len := W.length) (n := k) (A := some true) (J := j) (fun i => 40 < (wk W i).1.length) (by omega) ?_ ?_
    · intro n; rw [p13_l1]; simp only [lt_v, sp_d]; rw [iF (by omega)]
    · intro n i hi
      rw [p13_l1]
      simp only [lt_v, sp_d]
      rw [iT (by omega), gd_v (by omega), Int.toNat_natCast, wr_succ hi (by omega)]
      by_cases h : 40 < (wk W i).1.length
      · exact .inl ⟨h, by unfold wk at h; rw [iT (by omega)]⟩
      · exact .inr ⟨h, by unfold wk at h; rw [iF (by omega)]⟩
  rcases hs _ with ⟨_, e⟩ | ⟨h, e⟩
  · exact ⟨true, by rw [e], fun h => (by cases h)⟩
  rw [e]
  by_cases hm : MapOk P R W
  · rw [iT hm]
    by_cases h3 : P > 12
    · exact ⟨true, by rw [iT h3], fun h => (by cases h)⟩
    rw [iF h3]
    by_cases h4 : (R.length : Int) > 30
    · exact ⟨true, by rw [iT h4], fun h => (by cases h)⟩
    rw [iF h4]
    by_cases h5 : (W.length : Int) > 5
    · exact ⟨true, by rw [dT h5], fun h => (by cases h)⟩
    · exact ⟨false, by rw [dF h5], fun _ => ⟨by omega, by omega, fun i hi => by have := h i hi; omega, fun _ => by omega⟩⟩
  · rw [iF hm]
    exact ⟨false, rfl, fun _ => ⟨by omega, by omega, fun i hi => by have := h i hi; omega, fun h => absurd h hm⟩⟩
theorem p23_some {k : Nat} (hk : Fu k) {P : Int} {R : List (List Int)} {W : List WT} {z : List Int} {fr to : Int} : ∃ b, p23 k P R W z fr to = some b ∧ (b = true → Valid P R W z fr to) := by
  unfold p23
  obtain ⟨g, e, hg⟩ := p13_some hk (P := P) (R := R) (W := W)
  simp only [jn_v, lt_v, sp_d, e, cl_v, p29_eq hk, chkE_eq, p40_eq hk, szE_eq]
  cases g with
  | true => exact ⟨false, rfl, fun h => (by cases h)⟩
  | false =>
    rw [sp_ff]
    by_cases hm : MapOk P R W
    · rw [iT hm]
      obtain ⟨g1, g2, g3⟩ := (hg rfl).2.2.2 hm
      by_cases hs : SzOk z
      · rw [iT hs]
        by_cases h1 : fr ≥ 0
        · rw [iT h1]
          by_cases h2 : fr < P
          · rw [iT h2]
            by_cases h3 : to ≥ 0
            · rw [iT h3]
              exact ⟨_, rfl, fun h => ⟨hm, g1, g2, g3, hs, ⟨h1, h2⟩, ⟨h3, of_decide_eq_true h⟩⟩⟩
            · rw [iF h3]; exact ⟨false, rfl, fun h => (by cases h)⟩
          · rw [iF h2]; exact ⟨false, rfl, fun h => (by cases h)⟩
        · rw [iF h1]; exact ⟨false, rfl, fun h => (by cases h)⟩
      · rw [iF hs]; exact ⟨false, rfl, fun h => (by cases h)⟩
    · rw [iF hm]; exact ⟨false, rfl, fun h => (by cases h)⟩
theorem getDB {L : List Bool} {i j : Nat} {v : Bool} (hi : i < L.length) : (L.set i v).getD j false = if i = j then v else L.getD j false := by
  rw [List.getD_eq_getElem?_getD, List.getElem?_set, List.getD_eq_getElem?_getD]
  by_cases h : i = j
  · subst h; simp [hi]
  · simp [h]
end Go.Proofs.Ythniebmammmacaa
namespace Go.Proofs.Ythniebmammmacaa
open Go.RowKit Classical
theorem dist_ex {P : Int} {R : List (List Int)} {W : List WT} {z : List Int} (h : MapOk P R W) {s : Nat} (hs : s < 2 ^ W.length) {to : Nat} (hto : to < P.toNat) {bw : Bool} : ∃ L, Dist (EG P R (cst R (us R W z (bitsL s W.length))) to bw) L := by
  have := h.w10
  obtain ⟨L, hD, _⟩ := p75a_eq fuK0 (z := z) (z' := z) h (n := W.length) (by omega) hs (Nat.le_refl _) hto (bw := bw)
  exact ⟨L, hD⟩
section
variable {P : Int} {R : List (List Int)} {W : List WT} {z : List Int} {s fr to : Nat} {a : Int}
theorem dst_le (h : MapOk P R W) (hs : s < 2 ^ W.length) (hto : to < P.toNat) (hp : Pth R (us R W z (bitsL s W.length)) fr to a) : dst P R (us R W z (bitsL s W.length)) fr to ≤ a ∧ dst P R (us R W z (bitsL s W.length)) fr to < far := by
  obtain ⟨L, hD⟩ := dist_ex (z := z) h hs hto (bw := true)
  rw [dst_eq h hto hD]
  have he := EG_ok h (cst_ok h (U := us R W z (bitsL s W.length))) hto (bw := true)
  have hw := (Wk_bw h).2 hp
  exact ⟨hD.low he hw, hD.reach he hw⟩
end
theorem Pth.keep {R : List (List Int)} {U : Nat → Prop} {S : Int → Prop} (hc : ∀ i, i < R.length → U i → S (rF (rd R i)) → S (rT (rd R i))) (hn : ∀ i, i < R.length → 0 ≤ rF (rd R i) ∧ 0 ≤ rT (rd R i)) {u v : Nat} {a : Int} (hp : Pth R U u v a) (hu : S (u : Int)) : S (v : Int) := by
  induction hp with
  | nil v => exact hu
  | @cons i v a hi hui _ ih =>
    have h := hn i hi
    apply ih
    rw [show (((rT (rd R i)).toNat : Nat) : Int) = rT (rd R i) from by omega]
    apply hc i hi hui
    rw [show (((rF (rd R i)).toNat : Nat) : Int) = rF (rd R i) from by omega] at hu
    exact hu
end Go.Proofs.Ythniebmammmacaa
