/- Lemmas and walks for the law ClaimSpans (part 4). No condition: every theorem names its own hypotheses. -/
import Derived.Test.YthjkejbgknemgaaK3
import Derived.Test.YthjkejbgknemgaaProg
set_option linter.unusedVariables false
set_option linter.unusedSimpArgs false
set_option maxHeartbeats 4000000
namespace Go.Proofs.Ythjkejbgknemgaa
open Go.RowKit
def p72a_l1 (k : Nat) (u0R : List (List Int)) (u0D : List Int) (u0st : Int) (u0P : List (List Int)) (u0V : List (List (List Int))) (u1 : Int) (j6 : List (List Int) → Option (List (List Int) × Bool)) : Nat → Int → List (List Int) → Option (List (List Int) × Bool)
 | 0,_,_ => none
 | n9 + 1,x7,R8 => lt' (decide (x7 < u1)) fun b10 => sp b10 (lt' (wr .i64 (u0st + x7)) fun x11 => cl (p73 k u0R u0D u0st u0P u0V x11) fun v12 => gd ((v12).length = 2) <| gd ((0 : Int) ≤ x7 ∧ x7 < (R8.length : Int)) <| lt' (List.set R8 ((x7).toNat) v12) fun R15 => gd ((0 : Int) ≤ x7 ∧ x7 < (R15.length : Int)) <| lt' (List.getD (List.getD R15 ((x7).toNat) []) 0 0) fun x17 => gd ((0 : Int) ≤ x7 ∧ x7 < (R15.length : Int)) <| lt' (List.getD (List.getD R15 ((x7).toNat) []) 1 0) fun x19 => lt' (decide (x17 > x19)) fun b20 => sp b20 (some (([] : List (List Int)),false)) (lt' (wr .i64 (x7 + (1 : Int))) fun x21 => p72a_l1 k u0R u0D u0st u0P u0V u1 j6 n9 x21 R15)) (j6 R8)
def p72a (k : Nat) (u0R : List (List Int)) (u0D : List Int) (u0st : Int) (u0P : List (List Int)) (u0V : List (List (List Int))) (u1 : Int) : Option (List (List Int) × Bool) :=
 gd ((0 : Int) ≤ u1 ∧ 16 * (u1).toNat ≤ 281474976710656) <| lt' (List.replicate (u1).toNat [(0 : Int),(0 : Int)]) fun W4 => jn (fun (R5 : List (List Int)) => some (R5,true)) fun j6 => p72a_l1 k u0R u0D u0st u0P u0V u1 j6 k (0 : Int) W4
theorem hf72a : Try.prog.funcs[72]? = some Try.f72 := by kernel_rfl
theorem w72a (k : Nat) {M : Mem} {u0b : Nat} {u0A : Option Addr} {u0c : Nat} {u0AP : Option Addr} {u0cP : Nat} {u0AV : Nat → Option Addr} {u0cV : Nat → Nat} {u0R : List (List Int)} {u0D : List Int} {u0st : Int} {u0P : List (List Int)} {u0V : List (List (List Int))} {u1 : Int} (hu0 : Crs M u0b u0A u0c u0AP u0cP u0AV u0cV u0R u0D u0st u0P u0V) {r} (h : p72a k u0R u0D u0st u0P u0V u1 = some r) :
  Fn Try.prog 72 [rval (.lf (.v (.pointer (some ⟨u0b,0,none⟩)))),rval (vi u1),rval (.lf (.v (.func (.func 73) #[(.pointer (some ⟨u0b,0,none⟩))] #[])))] M (fun x M' => ∃ (A1 : Option Addr) (c2 : Nat),x = .tup [(some (.v (.slice A1 (List.length r.1) c2)),[]),(some (.v (.bool r.2)),[])] ∧ SlR M' A1 c2 .i64 2 r.1 ∧ (∀ g o p,A1 = some ⟨g,o,p⟩ → M g = none)) := by
 unfold p72a at h
 refine Fn_of (P:=Try.prog) (fn:=Try.f72) (c:=bodyOf Try.f72) [.lf (.v (.pointer (some ⟨u0b,0,none⟩))),vi u1,.lf (.v (.func (.func 73) #[(.pointer (some ⟨u0b,0,none⟩))] #[]))] hf72a (by kernel_rfl) (Nat.le_of_ble_eq_true (by kernel_rfl)) (args_ok (by kernel_rfl) ⟨trivial,⟨trivial,⟨trivial,trivial⟩⟩⟩) fun w => ?_
 change T _ _ _ (endQ _ _ _)
 refine T_seq (c1:=(sub [0] Bd72)) (c2:=(sub [1] Bd72)) (by kernel_rfl) ?_
 refine T_region (id:=0) (by kernel_rfl) ?_
 refine TI_segK (i:=0) (j:=2) (s':={ σ := [(0,.lf (.v (.pointer (some ⟨u0b,0,none⟩)))),(1,vi u1),(2,.lf (.v (.func (.func 73) #[(.pointer (some ⟨u0b,0,none⟩))] #[])))],H := [],V := [],M := M,ds := [] }) [0,1,2] [] [] (by kernel_rfl) (by kernel_rfl) ?_
 refine TI_end (by kernel_rfl) ?_
 refine thenQ_n ?_
 refine T_seq (c1:=(sub [1,0] Bd72)) (c2:=(sub [1,1] Bd72)) (by kernel_rfl) ?_
 refine T_region (id:=1) (by kernel_rfl) ?_
 refine TI_segS (i:=0) (j:=1) [(0,.lf (.v (.pointer (some ⟨u0b,0,none⟩)))),(1,vi u1),(2,.lf (.v (.func (.func 73) #[(.pointer (some ⟨u0b,0,none⟩))] #[]))),(10,vi u1)] (by kernel_rfl) (by kernel_rfl) ?_
 obtain ⟨g3,h⟩ := gd_some h
 obtain ⟨W4,e_W4,h⟩ := lt_some h
 have r_W4 : ∀ r ∈ W4,r.length = 2 := by rw [e_W4]; exact rows_rep rfl
 refine TI_of (i:=1) (by kernel_rfl) (TE_makeC (len2:=List.length W4) (d:=11) (e:=40) (sz:=2) (bytes:=16) (zs:=[.int .i64 0,.int .i64 0]) (cs:=rowsC .i64 W4) (z:=u1) (by subst e_W4;kernel_rfl) (by kernel_rfl) g3.1 g3.2 rfl (rep_rows' rfl e_W4) (by rw [e_W4,List.length_replicate]) ?_)
 refine TI_segK (i:=2) (j:=3) (s':={ σ := [(0,.lf (.v (.pointer (some ⟨u0b,0,none⟩)))),(1,vi u1),(2,.lf (.v (.func (.func 73) #[(.pointer (some ⟨u0b,0,none⟩))] #[]))),(8,.lf (.vec 11))],H := [],V := [(11,⟨40,2,List.length W4,rowsC .i64 W4⟩)],M := M,ds := [] }) [0,1,2,8] [] [11] (by kernel_rfl) (by kernel_rfl) ?_
 refine TI_end (by kernel_rfl) ?_
 refine thenQ_n ?_
 refine T_seq (c1:=(sub [1,1,0] Bd72)) (c2:=(sub [1,1,1] Bd72)) (by kernel_rfl) ?_
 refine T_seq (c1:=(sub [1,1,0,0] Bd72)) (c2:=(sub [1,1,0,1] Bd72)) (by kernel_rfl) ?_
 refine T_region (id:=2) (by kernel_rfl) ?_
 refine TI_segS (i:=0) (j:=2) [(0,.lf (.v (.pointer (some ⟨u0b,0,none⟩)))),(2,.lf (.v (.func (.func 73) #[(.pointer (some ⟨u0b,0,none⟩))] #[]))),(8,.lf (.vec 11)),(12,vi u1),(13,vi (0 : Int))] (by kernel_rfl) (by kernel_rfl) ?_
 refine TI_end (by kernel_rfl) ?_
 refine thenQ_n ?_
 obtain ⟨j6,e_j6,h⟩ := jn_some h
 refine T_bcut (id:=0) (c1:=(sub [1,1,0,1,0] Bd72)) (fun s' => ∃ (R5 : List (List Int)),Sub { σ := [(8,.lf (.vec 11))],H := [],V := [(11,⟨40,2,List.length R5,rowsC .i64 R5⟩)],M := M,ds := [] } s' ∧ (∀ r ∈ R5,r.length = 2) ∧ j6 R5 = some r) (by kernel_rfl) ?_ ?_
 ·refine T_loop (c1:=(sub [1,1,0,1,0,0] Bd72)) (by kernel_rfl) (fun n9 s' => ∃ (x7 : Int) (R8 : List (List Int)),Sub { σ := [(0,.lf (.v (.pointer (some ⟨u0b,0,none⟩)))),(2,.lf (.v (.func (.func 73) #[(.pointer (some ⟨u0b,0,none⟩))] #[]))),(8,.lf (.vec 11)),(12,vi u1),(13,vi x7)],H := [],V := [(11,⟨40,2,List.length R8,rowsC .i64 R8⟩)],M := M,ds := [] } s' ∧ (∀ r ∈ R8,r.length = 2) ∧ p72a_l1 k u0R u0D u0st u0P u0V u1 j6 n9 x7 R8 = some r) (k:=k) ⟨(0 : Int),W4,keep_sub (ts:=[0,2,8,12,13]) (hs:=[]) (vs:=[11]) (by kernel_rfl),r_W4,h⟩ ?_
  rintro n9 s' ⟨x7,R8,hsub,r_R8,h⟩
  cases n9 with
  | zero => rw [p72a_l1] at h;cases h
  | succ n9 =>
   rw [p72a_l1] at h
   refine T_sub hsub ?_
   refine T_seq (c1:=(sub [1,1,0,1,0,0,0] Bd72)) (c2:=(sub [1,1,0,1,0,0,1] Bd72)) (by kernel_rfl) ?_
   refine T_region (id:=3) (by kernel_rfl) ?_
   obtain ⟨b10,e_b10,h⟩ := lt_some h
   refine TI_segK (i:=0) (j:=1) (s':={ σ := [(0,.lf (.v (.pointer (some ⟨u0b,0,none⟩)))),(2,.lf (.v (.func (.func 73) #[(.pointer (some ⟨u0b,0,none⟩))] #[]))),(8,.lf (.vec 11)),(12,vi u1),(13,vi x7),(14,vb b10)],H := [],V := [(11,⟨40,2,List.length R8,rowsC .i64 R8⟩)],M := M,ds := [] }) [0,2,8,12,13,14] [] [11] (by subst e_b10;kernel_rfl) (by kernel_rfl) ?_
   refine TI_end (by kernel_rfl) ?_
   refine thenQ_n ?_
   refine T_seq (c1:=(sub [1,1,0,1,0,0,1,0] Bd72)) (c2:=(sub [1,1,0,1,0,0,1,1] Bd72)) (by kernel_rfl) ?_
   cases b10 with
   | true =>
    replace h := sp_t h
    refine T_condT (x:=(.tmp 14)) (c1:=(sub [1,1,0,1,0,0,1,0,0] Bd72)) (c2:=(sub [1,1,0,1,0,0,1,0,1] Bd72)) (by kernel_rfl) (by kernel_rfl) ?_
    refine T_keepS [(0,.lf (.v (.pointer (some ⟨u0b,0,none⟩)))),(2,.lf (.v (.func (.func 73) #[(.pointer (some ⟨u0b,0,none⟩))] #[]))),(8,.lf (.vec 11)),(12,vi u1),(13,vi x7)] (by kernel_rfl) ?_
    refine T_skip (by kernel_rfl) ?_
    refine thenQ_n ?_
    refine T_seq (c1:=(sub [1,1,0,1,0,0,1,1,0] Bd72)) (c2:=(sub [1,1,0,1,0,0,1,1,1] Bd72)) (by kernel_rfl) ?_
    refine T_block (id:=1) (c1:=(sub [1,1,0,1,0,0,1,1,0,0] Bd72)) (by kernel_rfl) ?_
    refine T_seq (c1:=(sub [1,1,0,1,0,0,1,1,0,0,0] Bd72)) (c2:=(sub [1,1,0,1,0,0,1,1,0,0,1] Bd72)) (by kernel_rfl) ?_
    refine T_region (id:=4) (by kernel_rfl) ?_
    refine TI_segS (i:=0) (j:=2) [(0,.lf (.v (.pointer (some ⟨u0b,0,none⟩)))),(2,.lf (.v (.func (.func 73) #[(.pointer (some ⟨u0b,0,none⟩))] #[]))),(8,.lf (.vec 11)),(9,vi x7),(12,vi u1),(13,vi x7)] (by kernel_rfl) (by kernel_rfl) ?_
    refine TI_end (by kernel_rfl) ?_
    refine thenQ_n ?_
    refine T_seq (c1:=(sub [1,1,0,1,0,0,1,1,0,0,1,0] Bd72)) (c2:=(sub [1,1,0,1,0,0,1,1,0,0,1,1] Bd72)) (by kernel_rfl) ?_
    refine T_region (id:=5) (by kernel_rfl) ?_
    refine TI_segS (i:=0) (j:=6) [(0,.lf (.v (.pointer (some ⟨u0b,0,none⟩)))),(2,.lf (.v (.func (.func 73) #[(.pointer (some ⟨u0b,0,none⟩))] #[]))),(8,.lf (.vec 11)),(9,vi x7),(12,vi u1),(13,vi x7),(16,.lf (.vec 11)),(17,vi x7),(18,.lf (.v (.func (.func 73) #[(.pointer (some ⟨u0b,0,none⟩))] #[]))),(21,.lf (.v (.pointer (some ⟨u0b,5,none⟩))))] (by kernel_rfl) (by kernel_rfl) ?_
    refine TI_at (i:=6) (d:=22) (x:=vi u0st) (by exact At_ldP (d:=22) (b:=u0b) (off:=5) (m:=1) (v:=(.int .i64 u0st)) (by kernel_rfl) (hu0).start) (by kernel_rfl) trivial ?_
    obtain ⟨x11,e_x11,h⟩ := lt_some h
    refine TI_segK (i:=7) (j:=9) (s':={ σ := [(0,.lf (.v (.pointer (some ⟨u0b,0,none⟩)))),(2,.lf (.v (.func (.func 73) #[(.pointer (some ⟨u0b,0,none⟩))] #[]))),(8,.lf (.vec 11)),(9,vi x7),(12,vi u1),(13,vi x7),(16,.lf (.vec 11)),(17,vi x7),(18,.lf (.v (.func (.func 73) #[(.pointer (some ⟨u0b,0,none⟩))] #[]))),(24,vi x11)],H := [],V := [(11,⟨40,2,List.length R8,rowsC .i64 R8⟩)],M := M,ds := [] }) [0,2,8,9,12,13,16,17,18,24] [] [11] (by subst e_x11;kernel_rfl) (by kernel_rfl) ?_
    obtain ⟨v12,c_v12,h⟩ := cl_some h
    obtain ⟨g13,h⟩ := gd_some h
    refine TI_at (i:=9) (d:=25) (x:=.agg [.arr .i64 2 v12]) (At_call (d:=25) (f:=73) (args:=[rval (.lf (.v (.pointer (some ⟨u0b,0,none⟩)))),rval (vi x11)]) (x:=.agg [.arr .i64 2 v12]) (by kernel_rfl) (w73 k hu0 c_v12)) (by kernel_rfl) ⟨g13,trivial⟩ ?_
    obtain ⟨g14,h⟩ := gd_some h
    refine TI_at (i:=10) (d:=26) (x:=.lf (.vel 11 2 ((x7).toNat) 0)) (by exact At_idxV (d:=26) (z:=x7) (n:=11) (sz:=2) (v:=⟨40,2,List.length R8,rowsC .i64 R8⟩) (by kernel_rfl) (by kernel_rfl) g14) (by kernel_rfl) trivial ?_
    obtain ⟨R15,e_R15,h⟩ := lt_some h
    have r_R15 : ∀ r ∈ R15,r.length = 2 := by rw [e_R15]; exact rows_set r_R8 g13
    refine TI_of (i:=11) (by kernel_rfl) (TE_stC (len2:=List.length R15) (m:=2) (n:=11) (sz:=2) (j:=(x7).toNat) (q:=0) (e:=40) (len:=List.length R8) (c:=[.arr .i64 2 v12]) (cs0:=rowsC .i64 R8) (cs2:=rowsC .i64 R15) (by subst e_R15; kernel_rfl) (by kernel_rfl) (by subst e_R15; kernel_rfl) (vle2 (toNat_lt g14) (Nat.le_of_ble_eq_true rfl)) (by kernel_rfl) (by rw [e_R15]; exact set1_rows r_R8 (toNat_lt g14)) (by rw [e_R15,List.length_set]) ?_)
    refine TI_segK (i:=12) (j:=12) (s':={ σ := [(0,.lf (.v (.pointer (some ⟨u0b,0,none⟩)))),(2,.lf (.v (.func (.func 73) #[(.pointer (some ⟨u0b,0,none⟩))] #[]))),(8,.lf (.vec 11)),(9,vi x7),(12,vi u1),(13,vi x7)],H := [],V := [(11,⟨40,2,List.length R15,rowsC .i64 R15⟩)],M := M,ds := [] }) [0,2,8,9,12,13] [] [11] (by kernel_rfl) (by kernel_rfl) ?_
    refine TI_end (by kernel_rfl) ?_
    refine thenQ_n ?_
    refine T_seq (c1:=(sub [1,1,0,1,0,0,1,1,0,0,1,1,0] Bd72)) (c2:=(sub [1,1,0,1,0,0,1,1,0,0,1,1,1] Bd72)) (by kernel_rfl) ?_
    obtain ⟨g16,h⟩ := gd_some h
    obtain ⟨x17,e_x17,h⟩ := lt_some h
    obtain ⟨g18,h⟩ := gd_some h
    obtain ⟨x19,e_x19,h⟩ := lt_some h
    obtain ⟨b20,e_b20,h⟩ := lt_some h
    refine T_draw' (id:=6) [] [0,0,0,0,0,0,0,0,0,0,0] (by kernel_rfl) (by kernel_rfl) (by kernel_rfl) (by kernel_rfl) [(27,.lf (.vec 11)),(28,vi x7),(29,.lf (.vel 11 2 ((x7).toNat) 0)),(30,.lf (.vel 11 2 ((x7).toNat) 0)),(31,vi x17),(32,.lf (.vec 11)),(33,vi x7),(34,.lf (.vel 11 2 ((x7).toNat) 0)),(35,.lf (.vel 11 2 ((x7).toNat) 1)),(36,vi x19),(37,vb b20)] (by kernel_rfl) (wfs_lf _ (by kernel_rfl)) ?_
    refine Stage_nil (stage_all' [0,1,3,5,6,8,10] [2,4,7,9] (by kernel_rfl) (by subst_vars; kernel_rfl) (by kernel_rfl) ⟨QF_at (i:=2) (d:=29) (x:=.lf (.vel 11 2 ((x7).toNat) 0)) (show OpAt _ _ _ 2 29 _ from by exact At_idxV (d:=29) (z:=x7) (n:=11) (sz:=2) (v:=⟨40,2,List.length R15,rowsC .i64 R15⟩) (by subst_vars; kernel_rfl) (by subst_vars; kernel_rfl) g16) (by kernel_rfl) (by subst_vars; kernel_rfl),⟨QF_at (i:=4) (d:=31) (x:=vi x17) (show OpAt _ _ _ 4 31 _ from by rw [e_x17]; exact At_ldVR1 (d:=31) (n:=11) (m:=2) (q:=(x7).toNat) (j:=0) (k:=.i64) (R:=R15) (by subst_vars; kernel_rfl) (v:=⟨40,2,List.length R15,rowsC .i64 R15⟩) (by subst_vars; kernel_rfl) rfl r_R15 (Nat.le_of_ble_eq_true rfl) (toNat_lt g16)) (by kernel_rfl) (by subst_vars; kernel_rfl),⟨QF_at (i:=7) (d:=34) (x:=.lf (.vel 11 2 ((x7).toNat) 0)) (show OpAt _ _ _ 7 34 _ from by exact At_idxV (d:=34) (z:=x7) (n:=11) (sz:=2) (v:=⟨40,2,List.length R15,rowsC .i64 R15⟩) (by subst_vars; kernel_rfl) (by subst_vars; kernel_rfl) g18) (by kernel_rfl) (by subst_vars; kernel_rfl),⟨QF_at (i:=9) (d:=36) (x:=vi x19) (show OpAt _ _ _ 9 36 _ from by rw [e_x19]; exact At_ldVR1 (d:=36) (n:=11) (m:=2) (q:=(x7).toNat) (j:=1) (k:=.i64) (R:=R15) (by subst_vars; kernel_rfl) (v:=⟨40,2,List.length R15,rowsC .i64 R15⟩) (by subst_vars; kernel_rfl) rfl r_R15 (Nat.le_of_ble_eq_true rfl) (toNat_lt g18)) (by kernel_rfl) (by subst_vars; kernel_rfl),trivial⟩⟩⟩⟩) ?_
    refine thenQ_n ?_
    refine T_keep (s':={ σ := [(0,.lf (.v (.pointer (some ⟨u0b,0,none⟩)))),(2,.lf (.v (.func (.func 73) #[(.pointer (some ⟨u0b,0,none⟩))] #[]))),(8,.lf (.vec 11)),(12,vi u1),(13,vi x7),(37,vb b20)],H := [],V := [(11,⟨40,2,List.length R15,rowsC .i64 R15⟩)],M := M,ds := [] }) [0,2,8,12,13,37] [] [11] (by subst_vars;kernel_rfl) ?_
    cases b20 with
    | true =>
     replace h := sp_t h
     refine T_condT (x:=(.tmp 37)) (c1:=(sub [1,1,0,1,0,0,1,1,0,0,1,1,1,0] Bd72)) (c2:=(sub [1,1,0,1,0,0,1,1,0,0,1,1,1,1] Bd72)) (by kernel_rfl) (by kernel_rfl) ?_
     refine T_keep (s':={ σ := [],H := [],V := [],M := M,ds := [] }) [] [] [] (by kernel_rfl) ?_
     refine T_seq (c1:=(sub [1,1,0,1,0,0,1,1,0,0,1,1,1,0,0] Bd72)) (c2:=(sub [1,1,0,1,0,0,1,1,0,0,1,1,1,0,1] Bd72)) (by kernel_rfl) ?_
     refine T_region (id:=7) (by kernel_rfl) ?_
     refine TI_segS (i:=0) (j:=2) [(6,.lf (.v (.slice none (List.length ([] : List (List Int))) 0))),(7,vb false)] (by kernel_rfl) (by kernel_rfl) ?_
     refine TI_end (by kernel_rfl) ?_
     refine thenQ_n ?_
     refine T_ret (by kernel_rfl) ?_
     refine blockQ_r ?_
     refine thenQ_r ?_
     refine thenQ_r ?_
     refine blockQ_r ?_
     refine thenQ_r ?_
     refine thenQ_r ?_
     have h := Option.some.inj h
     subst h
     refine fin_ret (.tup [(some (.v (.slice none (List.length ([] : List (List Int))) 0)),[]),(some (.v (.bool false)),[])]) (by kernel_rfl) (by kernel_rfl) rfl ?_
     exact ⟨none,0,rfl,(nilR _ _ _ _),new_nil⟩
    | false =>
     replace h := sp_f h
     refine T_condF (x:=(.tmp 37)) (c1:=(sub [1,1,0,1,0,0,1,1,0,0,1,1,1,0] Bd72)) (c2:=(sub [1,1,0,1,0,0,1,1,0,0,1,1,1,1] Bd72)) (by kernel_rfl) (by kernel_rfl) ?_
     refine T_keepS [(0,.lf (.v (.pointer (some ⟨u0b,0,none⟩)))),(2,.lf (.v (.func (.func 73) #[(.pointer (some ⟨u0b,0,none⟩))] #[]))),(8,.lf (.vec 11)),(12,vi u1),(13,vi x7)] (by kernel_rfl) ?_
     refine T_skip (by kernel_rfl) ?_
     refine blockQ_n ?_
     refine thenQ_n ?_
     refine T_region (id:=8) (by kernel_rfl) ?_
     obtain ⟨x21,e_x21,h⟩ := lt_some h
     refine TI_segS (i:=0) (j:=2) [(0,.lf (.v (.pointer (some ⟨u0b,0,none⟩)))),(2,.lf (.v (.func (.func 73) #[(.pointer (some ⟨u0b,0,none⟩))] #[]))),(8,.lf (.vec 11)),(12,vi u1),(13,vi x21)] (by subst e_x21;kernel_rfl) (by kernel_rfl) ?_
     refine TI_end (by kernel_rfl) ?_
     refine thenQ_n ?_
     exact ⟨n9,Nat.lt_succ_self _,x21,R15,keep_sub (ts:=[0,2,8,12,13]) (hs:=[]) (vs:=[11]) (by kernel_rfl),r_R15,h⟩
   | false =>
    replace h := sp_f h
    refine T_condF (x:=(.tmp 14)) (c1:=(sub [1,1,0,1,0,0,1,0,0] Bd72)) (c2:=(sub [1,1,0,1,0,0,1,0,1] Bd72)) (by kernel_rfl) (by kernel_rfl) ?_
    refine T_keepS [(8,.lf (.vec 11))] (by kernel_rfl) ?_
    refine T_exit (id:=0) (by kernel_rfl) ?_
    refine thenQ_x ?_
    refine thenQ_x ?_
    refine blockQ_x ?_
    refine thenQ_n ?_
    exact ⟨R8,keep_sub (ts:=[8]) (hs:=[]) (vs:=[11]) (by kernel_rfl),r_R8,h⟩
 ·rintro s' ⟨R5,hsub,r_R5,h⟩
  subst e_j6
  refine thenQ_n ?_
  refine T_sub hsub ?_
  refine T_seq (c1:=(sub [1,1,1,0] Bd72)) (c2:=(sub [1,1,1,1] Bd72)) (by kernel_rfl) ?_
  refine T_region (id:=9) (by kernel_rfl) ?_
  refine TI_segK (i:=0) (j:=3) (s':={ σ := [(6,.lf (.vec 11)),(7,vb true)],H := [],V := [(11,⟨40,2,List.length R5,rowsC .i64 R5⟩)],M := M,ds := [] }) [6,7] [] [11] (by kernel_rfl) (by kernel_rfl) ?_
  refine TI_end (by kernel_rfl) ?_
  refine thenQ_n ?_
  refine T_turn (turn_pubV 11 (v:=⟨40,2,List.length R5,rowsC .i64 R5⟩) (by kernel_rfl)) ?_
  rintro _ ⟨A22,c23,M24,rfl,hSA22,hcA22,-,hNA22,hM24⟩
  have fA22 : SlR M24 A22 c23 .i64 2 R5 := ⟨r_R5,hSA22,hcA22⟩
  refine T_keep (s':={ σ := [(6,.lf (.v (.slice A22 (R5.length) c23))),(7,vb true)],H := [],V := [],M := M24,ds := [] }) [6,7] [] [] (by kernel_rfl) ?_
  refine T_ret (by kernel_rfl) ?_
  have h := Option.some.inj h
  subst h
  refine fin_ret (.tup [(some (.v (.slice A22 (R5.length) c23)),[]),(some (.v (.bool true)),[])]) (by kernel_rfl) (by kernel_rfl) rfl ?_
  exact ⟨A22,c23,rfl,fA22,(new_le (Mem.le_refl _) hNA22.2)⟩
def p72b_l1 (k : Nat) (u0R : List (List Int)) (u0D : List Int) (u0st : Int) (u0P : List (List Int)) (u0V : List (List (List Int))) (u1 : Int) (u2_c1 : Int) (j6 : List (List Int) → Option (List (List Int) × Bool)) : Nat → Int → List (List Int) → Option (List (List Int) × Bool)
 | 0,_,_ => none
 | n9 + 1,x7,R8 => lt' (decide (x7 < u1)) fun b10 => sp b10 (lt' (wr .i64 (u0st + x7)) fun x11 => cl (p84 k x11 u0R u0D u0st u0P u0V u2_c1) fun v12 => gd ((v12).length = 2) <| gd ((0 : Int) ≤ x7 ∧ x7 < (R8.length : Int)) <| lt' (List.set R8 ((x7).toNat) v12) fun R15 => gd ((0 : Int) ≤ x7 ∧ x7 < (R15.length : Int)) <| lt' (List.getD (List.getD R15 ((x7).toNat) []) 0 0) fun x17 => gd ((0 : Int) ≤ x7 ∧ x7 < (R15.length : Int)) <| lt' (List.getD (List.getD R15 ((x7).toNat) []) 1 0) fun x19 => lt' (decide (x17 > x19)) fun b20 => sp b20 (some (([] : List (List Int)),false)) (lt' (wr .i64 (x7 + (1 : Int))) fun x21 => p72b_l1 k u0R u0D u0st u0P u0V u1 u2_c1 j6 n9 x21 R15)) (j6 R8)
def p72b (k : Nat) (u0R : List (List Int)) (u0D : List Int) (u0st : Int) (u0P : List (List Int)) (u0V : List (List (List Int))) (u1 : Int) (u2_c1 : Int) : Option (List (List Int) × Bool) :=
 gd ((0 : Int) ≤ u1 ∧ 16 * (u1).toNat ≤ 281474976710656) <| lt' (List.replicate (u1).toNat [(0 : Int),(0 : Int)]) fun W4 => jn (fun (R5 : List (List Int)) => some (R5,true)) fun j6 => p72b_l1 k u0R u0D u0st u0P u0V u1 u2_c1 j6 k (0 : Int) W4
theorem hf72b : Try.prog.funcs[72]? = some Try.f72 := by kernel_rfl
theorem w72b (k : Nat) {M : Mem} {u0b : Nat} {u0A : Option Addr} {u0c : Nat} {u0AP : Option Addr} {u0cP : Nat} {u0AV : Nat → Option Addr} {u0cV : Nat → Nat} {u2_c0p : Nat} {u2_c1p : Nat} {u0R : List (List Int)} {u0D : List Int} {u0st : Int} {u0P : List (List Int)} {u0V : List (List (List Int))} {u1 : Int} {u2_c1 : Int} (hu0 : Crs M u0b u0A u0c u0AP u0cP u0AV u0cV u0R u0D u0st u0P u0V) (hu2_c0p : memCell M u2_c0p 0 = some ((.pointer (some ⟨u0b,0,none⟩)))) (hu2_c1p : memCell M u2_c1p 0 = some ((.int .i64 u2_c1))) {r} (h : p72b k u0R u0D u0st u0P u0V u1 u2_c1 = some r) :
  Fn Try.prog 72 [rval (.lf (.v (.pointer (some ⟨u0b,0,none⟩)))),rval (vi u1),rval (.lf (.v (.func (.func 84) #[] #[(.pointer (some ⟨u2_c0p,0,none⟩)),(.pointer (some ⟨u2_c1p,0,none⟩))])))] M (fun x M' => ∃ (A1 : Option Addr) (c2 : Nat),x = .tup [(some (.v (.slice A1 (List.length r.1) c2)),[]),(some (.v (.bool r.2)),[])] ∧ SlR M' A1 c2 .i64 2 r.1 ∧ (∀ g o p,A1 = some ⟨g,o,p⟩ → M g = none)) := by
 unfold p72b at h
 refine Fn_of (P:=Try.prog) (fn:=Try.f72) (c:=bodyOf Try.f72) [.lf (.v (.pointer (some ⟨u0b,0,none⟩))),vi u1,.lf (.v (.func (.func 84) #[] #[(.pointer (some ⟨u2_c0p,0,none⟩)),(.pointer (some ⟨u2_c1p,0,none⟩))]))] hf72b (by kernel_rfl) (Nat.le_of_ble_eq_true (by kernel_rfl)) (args_ok (by kernel_rfl) ⟨trivial,⟨trivial,⟨trivial,trivial⟩⟩⟩) fun w => ?_
 change T _ _ _ (endQ _ _ _)
 refine T_seq (c1:=(sub [0] Bd72)) (c2:=(sub [1] Bd72)) (by kernel_rfl) ?_
 refine T_region (id:=0) (by kernel_rfl) ?_
 refine TI_segK (i:=0) (j:=2) (s':={ σ := [(0,.lf (.v (.pointer (some ⟨u0b,0,none⟩)))),(1,vi u1),(2,.lf (.v (.func (.func 84) #[] #[(.pointer (some ⟨u2_c0p,0,none⟩)),(.pointer (some ⟨u2_c1p,0,none⟩))])))],H := [],V := [],M := M,ds := [] }) [0,1,2] [] [] (by kernel_rfl) (by kernel_rfl) ?_
 refine TI_end (by kernel_rfl) ?_
 refine thenQ_n ?_
 refine T_seq (c1:=(sub [1,0] Bd72)) (c2:=(sub [1,1] Bd72)) (by kernel_rfl) ?_
 refine T_region (id:=1) (by kernel_rfl) ?_
 refine TI_segS (i:=0) (j:=1) [(0,.lf (.v (.pointer (some ⟨u0b,0,none⟩)))),(1,vi u1),(2,.lf (.v (.func (.func 84) #[] #[(.pointer (some ⟨u2_c0p,0,none⟩)),(.pointer (some ⟨u2_c1p,0,none⟩))]))),(10,vi u1)] (by kernel_rfl) (by kernel_rfl) ?_
 obtain ⟨g3,h⟩ := gd_some h
 obtain ⟨W4,e_W4,h⟩ := lt_some h
 have r_W4 : ∀ r ∈ W4,r.length = 2 := by rw [e_W4]; exact rows_rep rfl
 refine TI_of (i:=1) (by kernel_rfl) (TE_makeC (len2:=List.length W4) (d:=11) (e:=40) (sz:=2) (bytes:=16) (zs:=[.int .i64 0,.int .i64 0]) (cs:=rowsC .i64 W4) (z:=u1) (by subst e_W4;kernel_rfl) (by kernel_rfl) g3.1 g3.2 rfl (rep_rows' rfl e_W4) (by rw [e_W4,List.length_replicate]) ?_)
 refine TI_segK (i:=2) (j:=3) (s':={ σ := [(0,.lf (.v (.pointer (some ⟨u0b,0,none⟩)))),(1,vi u1),(2,.lf (.v (.func (.func 84) #[] #[(.pointer (some ⟨u2_c0p,0,none⟩)),(.pointer (some ⟨u2_c1p,0,none⟩))]))),(8,.lf (.vec 11))],H := [],V := [(11,⟨40,2,List.length W4,rowsC .i64 W4⟩)],M := M,ds := [] }) [0,1,2,8] [] [11] (by kernel_rfl) (by kernel_rfl) ?_
 refine TI_end (by kernel_rfl) ?_
 refine thenQ_n ?_
 refine T_seq (c1:=(sub [1,1,0] Bd72)) (c2:=(sub [1,1,1] Bd72)) (by kernel_rfl) ?_
 refine T_seq (c1:=(sub [1,1,0,0] Bd72)) (c2:=(sub [1,1,0,1] Bd72)) (by kernel_rfl) ?_
 refine T_region (id:=2) (by kernel_rfl) ?_
 refine TI_segS (i:=0) (j:=2) [(0,.lf (.v (.pointer (some ⟨u0b,0,none⟩)))),(2,.lf (.v (.func (.func 84) #[] #[(.pointer (some ⟨u2_c0p,0,none⟩)),(.pointer (some ⟨u2_c1p,0,none⟩))]))),(8,.lf (.vec 11)),(12,vi u1),(13,vi (0 : Int))] (by kernel_rfl) (by kernel_rfl) ?_
 refine TI_end (by kernel_rfl) ?_
 refine thenQ_n ?_
 obtain ⟨j6,e_j6,h⟩ := jn_some h
 refine T_bcut (id:=0) (c1:=(sub [1,1,0,1,0] Bd72)) (fun s' => ∃ (R5 : List (List Int)),Sub { σ := [(8,.lf (.vec 11))],H := [],V := [(11,⟨40,2,List.length R5,rowsC .i64 R5⟩)],M := M,ds := [] } s' ∧ (∀ r ∈ R5,r.length = 2) ∧ j6 R5 = some r) (by kernel_rfl) ?_ ?_
 ·refine T_loop (c1:=(sub [1,1,0,1,0,0] Bd72)) (by kernel_rfl) (fun n9 s' => ∃ (x7 : Int) (R8 : List (List Int)),Sub { σ := [(0,.lf (.v (.pointer (some ⟨u0b,0,none⟩)))),(2,.lf (.v (.func (.func 84) #[] #[(.pointer (some ⟨u2_c0p,0,none⟩)),(.pointer (some ⟨u2_c1p,0,none⟩))]))),(8,.lf (.vec 11)),(12,vi u1),(13,vi x7)],H := [],V := [(11,⟨40,2,List.length R8,rowsC .i64 R8⟩)],M := M,ds := [] } s' ∧ (∀ r ∈ R8,r.length = 2) ∧ p72b_l1 k u0R u0D u0st u0P u0V u1 u2_c1 j6 n9 x7 R8 = some r) (k:=k) ⟨(0 : Int),W4,keep_sub (ts:=[0,2,8,12,13]) (hs:=[]) (vs:=[11]) (by kernel_rfl),r_W4,h⟩ ?_
  rintro n9 s' ⟨x7,R8,hsub,r_R8,h⟩
  cases n9 with
  | zero => rw [p72b_l1] at h;cases h
  | succ n9 =>
   rw [p72b_l1] at h
   refine T_sub hsub ?_
   refine T_seq (c1:=(sub [1,1,0,1,0,0,0] Bd72)) (c2:=(sub [1,1,0,1,0,0,1] Bd72)) (by kernel_rfl) ?_
   refine T_region (id:=3) (by kernel_rfl) ?_
   obtain ⟨b10,e_b10,h⟩ := lt_some h
   refine TI_segK (i:=0) (j:=1) (s':={ σ := [(0,.lf (.v (.pointer (some ⟨u0b,0,none⟩)))),(2,.lf (.v (.func (.func 84) #[] #[(.pointer (some ⟨u2_c0p,0,none⟩)),(.pointer (some ⟨u2_c1p,0,none⟩))]))),(8,.lf (.vec 11)),(12,vi u1),(13,vi x7),(14,vb b10)],H := [],V := [(11,⟨40,2,List.length R8,rowsC .i64 R8⟩)],M := M,ds := [] }) [0,2,8,12,13,14] [] [11] (by subst e_b10;kernel_rfl) (by kernel_rfl) ?_
   refine TI_end (by kernel_rfl) ?_
   refine thenQ_n ?_
   refine T_seq (c1:=(sub [1,1,0,1,0,0,1,0] Bd72)) (c2:=(sub [1,1,0,1,0,0,1,1] Bd72)) (by kernel_rfl) ?_
   cases b10 with
   | true =>
    replace h := sp_t h
    refine T_condT (x:=(.tmp 14)) (c1:=(sub [1,1,0,1,0,0,1,0,0] Bd72)) (c2:=(sub [1,1,0,1,0,0,1,0,1] Bd72)) (by kernel_rfl) (by kernel_rfl) ?_
    refine T_keepS [(0,.lf (.v (.pointer (some ⟨u0b,0,none⟩)))),(2,.lf (.v (.func (.func 84) #[] #[(.pointer (some ⟨u2_c0p,0,none⟩)),(.pointer (some ⟨u2_c1p,0,none⟩))]))),(8,.lf (.vec 11)),(12,vi u1),(13,vi x7)] (by kernel_rfl) ?_
    refine T_skip (by kernel_rfl) ?_
    refine thenQ_n ?_
    refine T_seq (c1:=(sub [1,1,0,1,0,0,1,1,0] Bd72)) (c2:=(sub [1,1,0,1,0,0,1,1,1] Bd72)) (by kernel_rfl) ?_
    refine T_block (id:=1) (c1:=(sub [1,1,0,1,0,0,1,1,0,0] Bd72)) (by kernel_rfl) ?_
    refine T_seq (c1:=(sub [1,1,0,1,0,0,1,1,0,0,0] Bd72)) (c2:=(sub [1,1,0,1,0,0,1,1,0,0,1] Bd72)) (by kernel_rfl) ?_
    refine T_region (id:=4) (by kernel_rfl) ?_
    refine TI_segS (i:=0) (j:=2) [(0,.lf (.v (.pointer (some ⟨u0b,0,none⟩)))),(2,.lf (.v (.func (.func 84) #[] #[(.pointer (some ⟨u2_c0p,0,none⟩)),(.pointer (some ⟨u2_c1p,0,none⟩))]))),(8,.lf (.vec 11)),(9,vi x7),(12,vi u1),(13,vi x7)] (by kernel_rfl) (by kernel_rfl) ?_
    refine TI_end (by kernel_rfl) ?_
    refine thenQ_n ?_
    refine T_seq (c1:=(sub [1,1,0,1,0,0,1,1,0,0,1,0] Bd72)) (c2:=(sub [1,1,0,1,0,0,1,1,0,0,1,1] Bd72)) (by kernel_rfl) ?_
    refine T_region (id:=5) (by kernel_rfl) ?_
    refine TI_segS (i:=0) (j:=6) [(0,.lf (.v (.pointer (some ⟨u0b,0,none⟩)))),(2,.lf (.v (.func (.func 84) #[] #[(.pointer (some ⟨u2_c0p,0,none⟩)),(.pointer (some ⟨u2_c1p,0,none⟩))]))),(8,.lf (.vec 11)),(9,vi x7),(12,vi u1),(13,vi x7),(16,.lf (.vec 11)),(17,vi x7),(18,.lf (.v (.func (.func 84) #[] #[(.pointer (some ⟨u2_c0p,0,none⟩)),(.pointer (some ⟨u2_c1p,0,none⟩))]))),(21,.lf (.v (.pointer (some ⟨u0b,5,none⟩))))] (by kernel_rfl) (by kernel_rfl) ?_
    refine TI_at (i:=6) (d:=22) (x:=vi u0st) (by exact At_ldP (d:=22) (b:=u0b) (off:=5) (m:=1) (v:=(.int .i64 u0st)) (by kernel_rfl) (hu0).start) (by kernel_rfl) trivial ?_
    obtain ⟨x11,e_x11,h⟩ := lt_some h
    refine TI_segK (i:=7) (j:=9) (s':={ σ := [(0,.lf (.v (.pointer (some ⟨u0b,0,none⟩)))),(2,.lf (.v (.func (.func 84) #[] #[(.pointer (some ⟨u2_c0p,0,none⟩)),(.pointer (some ⟨u2_c1p,0,none⟩))]))),(8,.lf (.vec 11)),(9,vi x7),(12,vi u1),(13,vi x7),(16,.lf (.vec 11)),(17,vi x7),(18,.lf (.v (.func (.func 84) #[] #[(.pointer (some ⟨u2_c0p,0,none⟩)),(.pointer (some ⟨u2_c1p,0,none⟩))]))),(24,vi x11)],H := [],V := [(11,⟨40,2,List.length R8,rowsC .i64 R8⟩)],M := M,ds := [] }) [0,2,8,9,12,13,16,17,18,24] [] [11] (by subst e_x11;kernel_rfl) (by kernel_rfl) ?_
    obtain ⟨v12,c_v12,h⟩ := cl_some h
    obtain ⟨g13,h⟩ := gd_some h
    refine TI_at (i:=9) (d:=25) (x:=.agg [.arr .i64 2 v12]) (At_call (d:=25) (f:=84) (args:=[rval (vi x11),rval (.lf (.v (.pointer (some ⟨u2_c0p,0,none⟩)))),rval (.lf (.v (.pointer (some ⟨u2_c1p,0,none⟩))))]) (x:=.agg [.arr .i64 2 v12]) (by kernel_rfl) (w84 k hu0 hu2_c0p hu2_c1p c_v12)) (by kernel_rfl) ⟨g13,trivial⟩ ?_
    obtain ⟨g14,h⟩ := gd_some h
    refine TI_at (i:=10) (d:=26) (x:=.lf (.vel 11 2 ((x7).toNat) 0)) (by exact At_idxV (d:=26) (z:=x7) (n:=11) (sz:=2) (v:=⟨40,2,List.length R8,rowsC .i64 R8⟩) (by kernel_rfl) (by kernel_rfl) g14) (by kernel_rfl) trivial ?_
    obtain ⟨R15,e_R15,h⟩ := lt_some h
    have r_R15 : ∀ r ∈ R15,r.length = 2 := by rw [e_R15]; exact rows_set r_R8 g13
    refine TI_of (i:=11) (by kernel_rfl) (TE_stC (len2:=List.length R15) (m:=2) (n:=11) (sz:=2) (j:=(x7).toNat) (q:=0) (e:=40) (len:=List.length R8) (c:=[.arr .i64 2 v12]) (cs0:=rowsC .i64 R8) (cs2:=rowsC .i64 R15) (by subst e_R15; kernel_rfl) (by kernel_rfl) (by subst e_R15; kernel_rfl) (vle2 (toNat_lt g14) (Nat.le_of_ble_eq_true rfl)) (by kernel_rfl) (by rw [e_R15]; exact set1_rows r_R8 (toNat_lt g14)) (by rw [e_R15,List.length_set]) ?_)
    refine TI_segK (i:=12) (j:=12) (s':={ σ := [(0,.lf (.v (.pointer (some ⟨u0b,0,none⟩)))),(2,.lf (.v (.func (.func 84) #[] #[(.pointer (some ⟨u2_c0p,0,none⟩)),(.pointer (some ⟨u2_c1p,0,none⟩))]))),(8,.lf (.vec 11)),(9,vi x7),(12,vi u1),(13,vi x7)],H := [],V := [(11,⟨40,2,List.length R15,rowsC .i64 R15⟩)],M := M,ds := [] }) [0,2,8,9,12,13] [] [11] (by kernel_rfl) (by kernel_rfl) ?_
    refine TI_end (by kernel_rfl) ?_
    refine thenQ_n ?_
    refine T_seq (c1:=(sub [1,1,0,1,0,0,1,1,0,0,1,1,0] Bd72)) (c2:=(sub [1,1,0,1,0,0,1,1,0,0,1,1,1] Bd72)) (by kernel_rfl) ?_
    obtain ⟨g16,h⟩ := gd_some h
    obtain ⟨x17,e_x17,h⟩ := lt_some h
    obtain ⟨g18,h⟩ := gd_some h
    obtain ⟨x19,e_x19,h⟩ := lt_some h
    obtain ⟨b20,e_b20,h⟩ := lt_some h
    refine T_draw' (id:=6) [] [0,0,0,0,0,0,0,0,0,0,0] (by kernel_rfl) (by kernel_rfl) (by kernel_rfl) (by kernel_rfl) [(27,.lf (.vec 11)),(28,vi x7),(29,.lf (.vel 11 2 ((x7).toNat) 0)),(30,.lf (.vel 11 2 ((x7).toNat) 0)),(31,vi x17),(32,.lf (.vec 11)),(33,vi x7),(34,.lf (.vel 11 2 ((x7).toNat) 0)),(35,.lf (.vel 11 2 ((x7).toNat) 1)),(36,vi x19),(37,vb b20)] (by kernel_rfl) (wfs_lf _ (by kernel_rfl)) ?_
    refine Stage_nil (stage_all' [0,1,3,5,6,8,10] [2,4,7,9] (by kernel_rfl) (by subst_vars; kernel_rfl) (by kernel_rfl) ⟨QF_at (i:=2) (d:=29) (x:=.lf (.vel 11 2 ((x7).toNat) 0)) (show OpAt _ _ _ 2 29 _ from by exact At_idxV (d:=29) (z:=x7) (n:=11) (sz:=2) (v:=⟨40,2,List.length R15,rowsC .i64 R15⟩) (by subst_vars; kernel_rfl) (by subst_vars; kernel_rfl) g16) (by kernel_rfl) (by subst_vars; kernel_rfl),⟨QF_at (i:=4) (d:=31) (x:=vi x17) (show OpAt _ _ _ 4 31 _ from by rw [e_x17]; exact At_ldVR1 (d:=31) (n:=11) (m:=2) (q:=(x7).toNat) (j:=0) (k:=.i64) (R:=R15) (by subst_vars; kernel_rfl) (v:=⟨40,2,List.length R15,rowsC .i64 R15⟩) (by subst_vars; kernel_rfl) rfl r_R15 (Nat.le_of_ble_eq_true rfl) (toNat_lt g16)) (by kernel_rfl) (by subst_vars; kernel_rfl),⟨QF_at (i:=7) (d:=34) (x:=.lf (.vel 11 2 ((x7).toNat) 0)) (show OpAt _ _ _ 7 34 _ from by exact At_idxV (d:=34) (z:=x7) (n:=11) (sz:=2) (v:=⟨40,2,List.length R15,rowsC .i64 R15⟩) (by subst_vars; kernel_rfl) (by subst_vars; kernel_rfl) g18) (by kernel_rfl) (by subst_vars; kernel_rfl),⟨QF_at (i:=9) (d:=36) (x:=vi x19) (show OpAt _ _ _ 9 36 _ from by rw [e_x19]; exact At_ldVR1 (d:=36) (n:=11) (m:=2) (q:=(x7).toNat) (j:=1) (k:=.i64) (R:=R15) (by subst_vars; kernel_rfl) (v:=⟨40,2,List.length R15,rowsC .i64 R15⟩) (by subst_vars; kernel_rfl) rfl r_R15 (Nat.le_of_ble_eq_true rfl) (toNat_lt g18)) (by kernel_rfl) (by subst_vars; kernel_rfl),trivial⟩⟩⟩⟩) ?_
    refine thenQ_n ?_
    refine T_keep (s':={ σ := [(0,.lf (.v (.pointer (some ⟨u0b,0,none⟩)))),(2,.lf (.v (.func (.func 84) #[] #[(.pointer (some ⟨u2_c0p,0,none⟩)),(.pointer (some ⟨u2_c1p,0,none⟩))]))),(8,.lf (.vec 11)),(12,vi u1),(13,vi x7),(37,vb b20)],H := [],V := [(11,⟨40,2,List.length R15,rowsC .i64 R15⟩)],M := M,ds := [] }) [0,2,8,12,13,37] [] [11] (by subst_vars;kernel_rfl) ?_
    cases b20 with
    | true =>
     replace h := sp_t h
     refine T_condT (x:=(.tmp 37)) (c1:=(sub [1,1,0,1,0,0,1,1,0,0,1,1,1,0] Bd72)) (c2:=(sub [1,1,0,1,0,0,1,1,0,0,1,1,1,1] Bd72)) (by kernel_rfl) (by kernel_rfl) ?_
     refine T_keep (s':={ σ := [],H := [],V := [],M := M,ds := [] }) [] [] [] (by kernel_rfl) ?_
     refine T_seq (c1:=(sub [1,1,0,1,0,0,1,1,0,0,1,1,1,0,0] Bd72)) (c2:=(sub [1,1,0,1,0,0,1,1,0,0,1,1,1,0,1] Bd72)) (by kernel_rfl) ?_
     refine T_region (id:=7) (by kernel_rfl) ?_
     refine TI_segS (i:=0) (j:=2) [(6,.lf (.v (.slice none (List.length ([] : List (List Int))) 0))),(7,vb false)] (by kernel_rfl) (by kernel_rfl) ?_
     refine TI_end (by kernel_rfl) ?_
     refine thenQ_n ?_
     refine T_ret (by kernel_rfl) ?_
     refine blockQ_r ?_
     refine thenQ_r ?_
     refine thenQ_r ?_
     refine blockQ_r ?_
     refine thenQ_r ?_
     refine thenQ_r ?_
     have h := Option.some.inj h
     subst h
     refine fin_ret (.tup [(some (.v (.slice none (List.length ([] : List (List Int))) 0)),[]),(some (.v (.bool false)),[])]) (by kernel_rfl) (by kernel_rfl) rfl ?_
     exact ⟨none,0,rfl,(nilR _ _ _ _),new_nil⟩
    | false =>
     replace h := sp_f h
     refine T_condF (x:=(.tmp 37)) (c1:=(sub [1,1,0,1,0,0,1,1,0,0,1,1,1,0] Bd72)) (c2:=(sub [1,1,0,1,0,0,1,1,0,0,1,1,1,1] Bd72)) (by kernel_rfl) (by kernel_rfl) ?_
     refine T_keepS [(0,.lf (.v (.pointer (some ⟨u0b,0,none⟩)))),(2,.lf (.v (.func (.func 84) #[] #[(.pointer (some ⟨u2_c0p,0,none⟩)),(.pointer (some ⟨u2_c1p,0,none⟩))]))),(8,.lf (.vec 11)),(12,vi u1),(13,vi x7)] (by kernel_rfl) ?_
     refine T_skip (by kernel_rfl) ?_
     refine blockQ_n ?_
     refine thenQ_n ?_
     refine T_region (id:=8) (by kernel_rfl) ?_
     obtain ⟨x21,e_x21,h⟩ := lt_some h
     refine TI_segS (i:=0) (j:=2) [(0,.lf (.v (.pointer (some ⟨u0b,0,none⟩)))),(2,.lf (.v (.func (.func 84) #[] #[(.pointer (some ⟨u2_c0p,0,none⟩)),(.pointer (some ⟨u2_c1p,0,none⟩))]))),(8,.lf (.vec 11)),(12,vi u1),(13,vi x21)] (by subst e_x21;kernel_rfl) (by kernel_rfl) ?_
     refine TI_end (by kernel_rfl) ?_
     refine thenQ_n ?_
     exact ⟨n9,Nat.lt_succ_self _,x21,R15,keep_sub (ts:=[0,2,8,12,13]) (hs:=[]) (vs:=[11]) (by kernel_rfl),r_R15,h⟩
   | false =>
    replace h := sp_f h
    refine T_condF (x:=(.tmp 14)) (c1:=(sub [1,1,0,1,0,0,1,0,0] Bd72)) (c2:=(sub [1,1,0,1,0,0,1,0,1] Bd72)) (by kernel_rfl) (by kernel_rfl) ?_
    refine T_keepS [(8,.lf (.vec 11))] (by kernel_rfl) ?_
    refine T_exit (id:=0) (by kernel_rfl) ?_
    refine thenQ_x ?_
    refine thenQ_x ?_
    refine blockQ_x ?_
    refine thenQ_n ?_
    exact ⟨R8,keep_sub (ts:=[8]) (hs:=[]) (vs:=[11]) (by kernel_rfl),r_R8,h⟩
 ·rintro s' ⟨R5,hsub,r_R5,h⟩
  subst e_j6
  refine thenQ_n ?_
  refine T_sub hsub ?_
  refine T_seq (c1:=(sub [1,1,1,0] Bd72)) (c2:=(sub [1,1,1,1] Bd72)) (by kernel_rfl) ?_
  refine T_region (id:=9) (by kernel_rfl) ?_
  refine TI_segK (i:=0) (j:=3) (s':={ σ := [(6,.lf (.vec 11)),(7,vb true)],H := [],V := [(11,⟨40,2,List.length R5,rowsC .i64 R5⟩)],M := M,ds := [] }) [6,7] [] [11] (by kernel_rfl) (by kernel_rfl) ?_
  refine TI_end (by kernel_rfl) ?_
  refine thenQ_n ?_
  refine T_turn (turn_pubV 11 (v:=⟨40,2,List.length R5,rowsC .i64 R5⟩) (by kernel_rfl)) ?_
  rintro _ ⟨A22,c23,M24,rfl,hSA22,hcA22,-,hNA22,hM24⟩
  have fA22 : SlR M24 A22 c23 .i64 2 R5 := ⟨r_R5,hSA22,hcA22⟩
  refine T_keep (s':={ σ := [(6,.lf (.v (.slice A22 (R5.length) c23))),(7,vb true)],H := [],V := [],M := M24,ds := [] }) [6,7] [] [] (by kernel_rfl) ?_
  refine T_ret (by kernel_rfl) ?_
  have h := Option.some.inj h
  subst h
  refine fin_ret (.tup [(some (.v (.slice A22 (R5.length) c23)),[]),(some (.v (.bool true)),[])]) (by kernel_rfl) (by kernel_rfl) rfl ?_
  exact ⟨A22,c23,rfl,fA22,(new_le (Mem.le_refl _) hNA22.2)⟩
end Go.Proofs.Ythjkejbgknemgaa
namespace Go.Proofs.Ythjkejbgknemgaa
open Go.RowKit
def p46_l1 (k : Nat) (u0_0 : List (List Int)) (j10 : Option (Option CT × Int)) : Nat → Int → Option (Option CT × Int)
 | 0,_ => none
 | n13 + 1,x11 => lt' (decide (x11 < (u0_0.length : Int))) fun b14 => sp b14 (gd ((0 : Int) ≤ x11 ∧ x11 < (u0_0.length : Int)) <| lt' (List.getD u0_0 ((x11).toNat) []) fun L16 => jn (fun (b17 : Bool) => jn (fun (b30 : Bool) => sp b30 (some (none,(2 : Int))) (lt' (wr .i64 (x11 + (1 : Int))) fun x33 => p46_l1 k u0_0 j10 n13 x33)) fun j31 => sp b17 (j31 true) (cl (p70 k (bands4 L16)) fun v32 => j31 v32)) fun j18 => lt' (List.getD L16 0 0) fun x19 => cl (p49 k x19 (0 : Int) (1099511627776 : Int)) fun v20 => sp v20 (cl (p61 k (List.take 2 (List.drop 1 L16))) fun v21 => sp v21 (lt' (decide (x11 > (0 : Int))) fun b22 => sp b22 (lt' (List.getD L16 0 0) fun x23 => lt' (wr .i64 (x11 - (1 : Int))) fun x24 => gd ((0 : Int) ≤ x24 ∧ x24 < (u0_0.length : Int)) <| lt' (List.getD (List.getD u0_0 ((x24).toNat) []) 0 0) fun x26 => lt' (decide (x23 ≤ x26)) fun b27 => j18 b27) (j18 false)) (j18 true)) (j18 true)) (j10)
def p46 (k : Nat) (u0_0 : List (List Int)) (u0_1 : List Int) : Option (Option CT × Int) :=
 lt' (decide ((u0_0.length : Int) > (64 : Int))) fun b2 => sp b2 (some (none,(6 : Int))) (jn (fun (b5 : Bool) => sp b5 (some (none,(2 : Int))) (jn (gd ((0 : Int) ≤ (0 : Int) ∧ (0 : Int) < (u0_0.length : Int)) <| lt' (List.getD (List.getD u0_0 0 []) 0 0) fun x35 => lt' (wr .i64 ((u0_0.length : Int) - (1 : Int))) fun x36 => gd ((0 : Int) ≤ x36 ∧ x36 < (u0_0.length : Int)) <| lt' (List.getD (List.getD u0_0 ((x36).toNat) []) 0 0) fun x38 => lt' (wr .i64 (x38 - x35)) fun x39 => lt' (decide (x39 > (2000 : Int))) fun b40 => sp b40 (some (none,(2 : Int))) (lt' (wr .i64 (x39 + (1 : Int))) fun x42 => cl2 (p72a k u0_0 u0_1 x35 ([] : List (List Int)) ([([] : List (List Int)),([] : List (List Int)),([] : List (List Int)),([] : List (List Int))]) x42) fun v43 v44 => sp v44 (jn (fun (R49 : List (List Int)) (R52 : List (List Int)) (R55 : List (List Int)) (R58 : List (List Int)) => some (some (u0_0,u0_1,x35,v43,[R49,R52,R55,R58]),(0 : Int))) fun j62 => lt' (wr .i64 (x39 + (1 : Int))) fun x63 => cl2 (p72b k u0_0 u0_1 x35 v43 ([([] : List (List Int)),([] : List (List Int)),([] : List (List Int)),([] : List (List Int))]) x63 (0 : Int)) fun v68 v69 => sp v69 (lt' (wr .i64 (x39 + (1 : Int))) fun x74 => cl2 (p72b k u0_0 u0_1 x35 v43 ([v68,([] : List (List Int)),([] : List (List Int)),([] : List (List Int))]) x74 (1 : Int)) fun v79 v80 => sp v80 (lt' (wr .i64 (x39 + (1 : Int))) fun x85 => cl2 (p72b k u0_0 u0_1 x35 v43 ([v68,v79,([] : List (List Int)),([] : List (List Int))]) x85 (2 : Int)) fun v90 v91 => sp v91 (lt' (wr .i64 (x39 + (1 : Int))) fun x96 => cl2 (p72b k u0_0 u0_1 x35 v43 ([v68,v79,v90,([] : List (List Int))]) x96 (3 : Int)) fun v101 v102 => sp v102 (j62 v68 v79 v90 v101) (some (none,(16 : Int)))) (some (none,(16 : Int)))) (some (none,(16 : Int)))) (some (none,(16 : Int)))) (some (none,(16 : Int))))) fun j10 => p46_l1 k u0_0 j10 k (0 : Int))) fun j6 => lt' (decide ((u0_0.length : Int) < (2 : Int))) fun b7 => sp b7 (j6 true) (cl (p68 k u0_1) fun v8 => j6 v8))
theorem hf46 : Try.prog.funcs[46]? = some Try.f46 := by kernel_rfl
theorem w46 (k : Nat) {M : Mem} {Au0_0 : Option Addr} {cu0_0 : Nat} {u0_0 : List (List Int)} {u0_1 : List Int} (hu0_0 : SlR M Au0_0 cu0_0 .i64 11 u0_0) (hu0_1 : u0_1.length = 4) {r} (h : p46 k u0_0 u0_1 = some r) :
  Fn Try.prog 46 [rval (.agg [.one (.v (.slice Au0_0 (u0_0.length) cu0_0)),.arr .i64 4 u0_1])] M (fun x M' => ∃ (q1 : Value),x = .tup [(some (.v q1),[]),(some (.v (.int .i64 r.2)),[])] ∧ PtrR M' q1 r.1) := by
 unfold p46 at h
 refine Fn_of (P:=Try.prog) (fn:=Try.f46) (c:=bodyOf Try.f46) [.agg [.one (.v (.slice Au0_0 (u0_0.length) cu0_0)),.arr .i64 4 u0_1]] hf46 (by kernel_rfl) (Nat.le_of_ble_eq_true (by kernel_rfl)) (args_ok (by kernel_rfl) ⟨⟨rfl,⟨hu0_1,trivial⟩⟩,trivial⟩) fun w => ?_
 change T _ _ _ (endQ _ _ _)
 refine T_seq (c1:=(sub [0] Bd46)) (c2:=(sub [1] Bd46)) (by kernel_rfl) ?_
 refine T_region (id:=0) (by kernel_rfl) ?_
 refine TI_segK (i:=0) (j:=3) (s':={ σ := [(1,.lf (.own 1 0))],H := [(1,[.one (.v (.slice Au0_0 (u0_0.length) cu0_0)),.arr .i64 4 u0_1])],V := [],M := M,ds := [] }) [1] [1] [] (by kernel_rfl) (by kernel_rfl) ?_
 refine TI_end (by kernel_rfl) ?_
 refine thenQ_n ?_
 refine T_seq (c1:=(sub [1,0] Bd46)) (c2:=(sub [1,1] Bd46)) (by kernel_rfl) ?_
 refine T_seq (c1:=(sub [1,0,0] Bd46)) (c2:=(sub [1,0,1] Bd46)) (by kernel_rfl) ?_
 refine T_region (id:=1) (by kernel_rfl) ?_
 obtain ⟨b2,e_b2,h⟩ := lt_some h
 refine TI_segS (i:=0) (j:=4) [(1,.lf (.own 1 0)),(14,vb b2)] (by subst e_b2;kernel_rfl) (by kernel_rfl) ?_
 refine TI_end (by kernel_rfl) ?_
 refine thenQ_n ?_
 cases b2 with
 | true =>
  replace h := sp_t h
  refine T_condT (x:=(.tmp 14)) (c1:=(sub [1,0,1,0] Bd46)) (c2:=(sub [1,0,1,1] Bd46)) (by kernel_rfl) (by kernel_rfl) ?_
  refine T_keep (s':={ σ := [],H := [],V := [],M := M,ds := [] }) [] [] [] (by kernel_rfl) ?_
  refine T_seq (c1:=(sub [1,0,1,0,0] Bd46)) (c2:=(sub [1,0,1,0,1] Bd46)) (by kernel_rfl) ?_
  refine T_region (id:=2) (by kernel_rfl) ?_
  refine TI_segS (i:=0) (j:=2) [(2,.lf (.v (.pointer none))),(3,vi (6 : Int))] (by kernel_rfl) (by kernel_rfl) ?_
  refine TI_end (by kernel_rfl) ?_
  refine thenQ_n ?_
  refine T_ret (by kernel_rfl) ?_
  refine thenQ_r ?_
  have h := Option.some.inj h
  subst h
  refine fin_ret (.tup [(some (.v (.pointer none)),[]),(some (.v (.int .i64 (6 : Int))),[])]) (by kernel_rfl) (by kernel_rfl) rfl ?_
  exact ⟨(.pointer none),rfl,rfl⟩
 | false =>
  replace h := sp_f h
  refine T_condF (x:=(.tmp 14)) (c1:=(sub [1,0,1,0] Bd46)) (c2:=(sub [1,0,1,1] Bd46)) (by kernel_rfl) (by kernel_rfl) ?_
  refine T_keepS [(1,.lf (.own 1 0))] (by kernel_rfl) ?_
  refine T_skip (by kernel_rfl) ?_
  refine thenQ_n ?_
  refine T_turn (turn_pubH 1 (c:=[.one (.v (.slice Au0_0 (u0_0.length) cu0_0)),.arr .i64 4 u0_1]) (by kernel_rfl) (by kernel_rfl)) ?_
  rintro _ ⟨b3,M4,rfl,-,e_M4,-,hM4⟩
  have fb3 : M4 b3 = some (sgCells (fun _ => 0) (fun _ => .slice none 0 0) [.one (.v (.slice Au0_0 (u0_0.length) cu0_0)),.arr .i64 4 u0_1]).toArray := by rw [e_M4]; exact addM_at _ _ _
  refine T_keep (s':={ σ := [(1,.lf (.v (.pointer (some ⟨b3,0,none⟩))))],H := [],V := [],M := M4,ds := [] }) [1] [] [] (by kernel_rfl) ?_
  refine T_seq (c1:=(sub [1,1,0] Bd46)) (c2:=(sub [1,1,1] Bd46)) (by kernel_rfl) ?_
  obtain ⟨j6,e_j6,h⟩ := jn_some h
  refine T_cut (c1:=(sub [1,1,0,0] Bd46)) (c2:=(sub [1,1,0,1] Bd46)) (fun s' => ∃ (b5 : Bool),Sub { σ := [(1,.lf (.v (.pointer (some ⟨b3,0,none⟩)))),(23,vb b5)],H := [],V := [],M := M4,ds := [] } s' ∧ j6 b5 = some r) (by kernel_rfl) ?_ ?_
  ·refine T_region (id:=3) (by kernel_rfl) ?_
   refine TI_segK (i:=0) (j:=1) (s':={ σ := [(1,.lf (.v (.pointer (some ⟨b3,0,none⟩)))),(15,.lf (.v (.pointer (some ⟨b3,0,none⟩))))],H := [],V := [],M := M4,ds := [] }) [1,15] [] [] (by kernel_rfl) (by kernel_rfl) ?_
   refine TI_at (i:=1) (d:=16) (x:=.lf (.v (.slice Au0_0 (u0_0.length) cu0_0))) (At_ldP (d:=16) (b:=b3) (off:=0) (m:=1) (v:=(.slice Au0_0 (u0_0.length) cu0_0)) (by kernel_rfl) (cell_blk fb3 ⟨rfl,⟨hu0_1,trivial⟩⟩ (by kernel_rfl))) (by kernel_rfl) trivial ?_
   obtain ⟨b7,e_b7,h⟩ := lt_some h
   refine TI_segK (i:=2) (j:=5) (s':={ σ := [(1,.lf (.v (.pointer (some ⟨b3,0,none⟩)))),(19,vb b7)],H := [],V := [],M := M4,ds := [] }) [1,19] [] [] (by subst e_b7;kernel_rfl) (by kernel_rfl) ?_
   cases b7 with
   | true =>
    replace h := sp_t h
    refine TI_segS (i:=5) (j:=9) [(1,.lf (.v (.pointer (some ⟨b3,0,none⟩)))),(23,vb true)] (by kernel_rfl) (by kernel_rfl) ?_
    refine TI_end (by kernel_rfl) ?_
    refine thenQ_n ?_
    exact ⟨true,keep_sub (ts:=[1,23]) (hs:=[]) (vs:=[]) (by kernel_rfl),h⟩
   | false =>
    replace h := sp_f h
    refine TI_segS (i:=5) (j:=6) [(1,.lf (.v (.pointer (some ⟨b3,0,none⟩)))),(19,vb false),(20,.lf (.v (.pointer (some ⟨b3,1,none⟩))))] (by kernel_rfl) (by kernel_rfl) ?_
    refine TI_at (i:=6) (d:=21) (x:=.lf (.v (.slice (some ⟨b3,1,none⟩) (u0_1.length) 4))) (At_slA (d:=21) (b:=b3) (off:=1) (n:=4) (L:=u0_1) (by kernel_rfl) hu0_1) (by kernel_rfl) trivial ?_
    obtain ⟨v8,c_v8,h⟩ := cl_some h
    refine TI_at (i:=7) (d:=22) (x:=vb v8) (At_call (d:=22) (f:=68) (args:=[rval (.lf (.v (.slice (some ⟨b3,1,none⟩) (u0_1.length) 4))),rval (.lf (.v (.func (.func 69) #[] #[])))]) (x:=vb v8) (by kernel_rfl) (w68 k (SlI_blk fb3 ⟨rfl,⟨hu0_1,trivial⟩⟩ (by kernel_rfl) rfl hu0_1 rfl) c_v8)) (by kernel_rfl) trivial ?_
    refine TI_segK (i:=8) (j:=9) (s':={ σ := [(1,.lf (.v (.pointer (some ⟨b3,0,none⟩)))),(23,vb v8)],H := [],V := [],M := M4,ds := [] }) [1,23] [] [] (by kernel_rfl) (by kernel_rfl) ?_
    refine TI_end (by kernel_rfl) ?_
    refine thenQ_n ?_
    exact ⟨v8,keep_sub (ts:=[1,23]) (hs:=[]) (vs:=[]) (by kernel_rfl),h⟩
  ·rintro s' ⟨b5,hsub,h⟩
   subst e_j6
   refine T_sub hsub ?_
   cases b5 with
   | true =>
    replace h := sp_t h
    refine T_condT (x:=(.tmp 23)) (c1:=(sub [1,1,0,1,0] Bd46)) (c2:=(sub [1,1,0,1,1] Bd46)) (by kernel_rfl) (by kernel_rfl) ?_
    refine T_keep (s':={ σ := [],H := [],V := [],M := M4,ds := [] }) [] [] [] (by kernel_rfl) ?_
    refine T_seq (c1:=(sub [1,1,0,1,0,0] Bd46)) (c2:=(sub [1,1,0,1,0,1] Bd46)) (by kernel_rfl) ?_
    refine T_region (id:=4) (by kernel_rfl) ?_
    refine TI_segS (i:=0) (j:=2) [(2,.lf (.v (.pointer none))),(3,vi (2 : Int))] (by kernel_rfl) (by kernel_rfl) ?_
    refine TI_end (by kernel_rfl) ?_
    refine thenQ_n ?_
    refine T_ret (by kernel_rfl) ?_
    refine thenQ_r ?_
    have h := Option.some.inj h
    subst h
    refine fin_ret (.tup [(some (.v (.pointer none)),[]),(some (.v (.int .i64 (2 : Int))),[])]) (by kernel_rfl) (by kernel_rfl) rfl ?_
    exact ⟨(.pointer none),rfl,rfl⟩
   | false =>
    replace h := sp_f h
    refine T_condF (x:=(.tmp 23)) (c1:=(sub [1,1,0,1,0] Bd46)) (c2:=(sub [1,1,0,1,1] Bd46)) (by kernel_rfl) (by kernel_rfl) ?_
    refine T_keep (s':={ σ := [(1,.lf (.v (.pointer (some ⟨b3,0,none⟩))))],H := [],V := [],M := M4,ds := [] }) [1] [] [] (by kernel_rfl) ?_
    refine T_skip (by kernel_rfl) ?_
    refine thenQ_n ?_
    refine T_seq (c1:=(sub [1,1,1,0] Bd46)) (c2:=(sub [1,1,1,1] Bd46)) (by kernel_rfl) ?_
    refine T_seq (c1:=(sub [1,1,1,0,0] Bd46)) (c2:=(sub [1,1,1,0,1] Bd46)) (by kernel_rfl) ?_
    refine T_region (id:=5) (by kernel_rfl) ?_
    refine TI_segS (i:=0) (j:=1) [(1,.lf (.v (.pointer (some ⟨b3,0,none⟩)))),(24,.lf (.v (.pointer (some ⟨b3,0,none⟩))))] (by kernel_rfl) (by kernel_rfl) ?_
    refine TI_at (i:=1) (d:=25) (x:=.lf (.v (.slice Au0_0 (u0_0.length) cu0_0))) (At_ldP (d:=25) (b:=b3) (off:=0) (m:=1) (v:=(.slice Au0_0 (u0_0.length) cu0_0)) (by kernel_rfl) (cell_blk fb3 ⟨rfl,⟨hu0_1,trivial⟩⟩ (by kernel_rfl))) (by kernel_rfl) trivial ?_
    refine TI_segK (i:=2) (j:=4) (s':={ σ := [(1,.lf (.v (.pointer (some ⟨b3,0,none⟩)))),(25,.lf (.v (.slice Au0_0 (u0_0.length) cu0_0))),(26,vi (u0_0.length : Int)),(27,vi (0 : Int))],H := [],V := [],M := M4,ds := [] }) [1,25,26,27] [] [] (by kernel_rfl) (by kernel_rfl) ?_
    refine TI_end (by kernel_rfl) ?_
    refine thenQ_n ?_
    obtain ⟨j10,e_j10,h⟩ := jn_some h
    refine T_bcut (id:=0) (c1:=(sub [1,1,1,0,1,0] Bd46)) (fun s' => ∃ (M9 : Mem),Sub { σ := [(1,.lf (.v (.pointer (some ⟨b3,0,none⟩))))],H := [],V := [],M := M9,ds := [] } s' ∧ Mem.le M4 M9 ∧ j10 = some r) (by kernel_rfl) ?_ ?_
    ·refine T_loop (c1:=(sub [1,1,1,0,1,0,0] Bd46)) (by kernel_rfl) (fun n13 s' => ∃ (x11 : Int) (M12 : Mem),Sub { σ := [(1,.lf (.v (.pointer (some ⟨b3,0,none⟩)))),(25,.lf (.v (.slice Au0_0 (u0_0.length) cu0_0))),(26,vi (u0_0.length : Int)),(27,vi x11)],H := [],V := [],M := M12,ds := [] } s' ∧ Mem.le M4 M12 ∧ p46_l1 k u0_0 j10 n13 x11 = some r) (k:=k) ⟨(0 : Int),M4,keep_sub (ts:=[1,25,26,27]) (hs:=[]) (vs:=[]) (by kernel_rfl),(Mem.le_refl _),h⟩ ?_
     rintro n13 s' ⟨x11,M12,hsub,hM12,h⟩
     cases n13 with
     | zero => rw [p46_l1] at h;cases h
     | succ n13 =>
      rw [p46_l1] at h
      refine T_sub hsub ?_
      refine T_seq (c1:=(sub [1,1,1,0,1,0,0,0] Bd46)) (c2:=(sub [1,1,1,0,1,0,0,1] Bd46)) (by kernel_rfl) ?_
      refine T_region (id:=6) (by kernel_rfl) ?_
      obtain ⟨b14,e_b14,h⟩ := lt_some h
      refine TI_segK (i:=0) (j:=1) (s':={ σ := [(1,.lf (.v (.pointer (some ⟨b3,0,none⟩)))),(25,.lf (.v (.slice Au0_0 (u0_0.length) cu0_0))),(26,vi (u0_0.length : Int)),(27,vi x11),(28,vb b14)],H := [],V := [],M := M12,ds := [] }) [1,25,26,27,28] [] [] (by subst e_b14;kernel_rfl) (by kernel_rfl) ?_
      refine TI_end (by kernel_rfl) ?_
      refine thenQ_n ?_
      refine T_seq (c1:=(sub [1,1,1,0,1,0,0,1,0] Bd46)) (c2:=(sub [1,1,1,0,1,0,0,1,1] Bd46)) (by kernel_rfl) ?_
      cases b14 with
      | true =>
       replace h := sp_t h
       refine T_condT (x:=(.tmp 28)) (c1:=(sub [1,1,1,0,1,0,0,1,0,0] Bd46)) (c2:=(sub [1,1,1,0,1,0,0,1,0,1] Bd46)) (by kernel_rfl) (by kernel_rfl) ?_
       refine T_keepS [(1,.lf (.v (.pointer (some ⟨b3,0,none⟩)))),(25,.lf (.v (.slice Au0_0 (u0_0.length) cu0_0))),(26,vi (u0_0.length : Int)),(27,vi x11)] (by kernel_rfl) ?_
       refine T_skip (by kernel_rfl) ?_
       refine thenQ_n ?_
       refine T_seq (c1:=(sub [1,1,1,0,1,0,0,1,1,0] Bd46)) (c2:=(sub [1,1,1,0,1,0,0,1,1,1] Bd46)) (by kernel_rfl) ?_
       refine T_block (id:=1) (c1:=(sub [1,1,1,0,1,0,0,1,1,0,0] Bd46)) (by kernel_rfl) ?_
       refine T_seq (c1:=(sub [1,1,1,0,1,0,0,1,1,0,0,0] Bd46)) (c2:=(sub [1,1,1,0,1,0,0,1,1,0,0,1] Bd46)) (by kernel_rfl) ?_
       refine T_region (id:=7) (by kernel_rfl) ?_
       refine TI_segS (i:=0) (j:=1) [(1,.lf (.v (.pointer (some ⟨b3,0,none⟩)))),(25,.lf (.v (.slice Au0_0 (u0_0.length) cu0_0))),(26,vi (u0_0.length : Int)),(27,vi x11),(29,vi x11)] (by kernel_rfl) (by kernel_rfl) ?_
       obtain ⟨g15,h⟩ := gd_some h
       refine TI_at (i:=1) (d:=30) (x:=.lf (.ep (.slice Au0_0 (u0_0.length) cu0_0) 11 ((x11).toNat) 0)) (by exact At_idxR (d:=30) (z:=x11) (by kernel_rfl) g15 ((hu0_0.le hM4).le hM12)) (by kernel_rfl) trivial ?_
       obtain ⟨L16,e_L16,h⟩ := lt_some h
       have l_L16 : (L16).length = 11 := by rw [e_L16]; exact SlR_row ((hu0_0.le hM4).le hM12) (toNat_lt g15)
       refine TI_at (i:=2) (d:=31) (x:=.agg [.arr .i64 11 L16]) (by rw [e_L16]; exact At_ldRow (d:=31) (q:=(x11).toNat) (by subst e_L16; kernel_rfl) (toNat_lt g15) ((hu0_0.le hM4).le hM12)) (by kernel_rfl) ⟨l_L16,trivial⟩ ?_
       refine TI_segK (i:=3) (j:=6) (s':={ σ := [(1,.lf (.v (.pointer (some ⟨b3,0,none⟩)))),(4,vi x11),(5,.lf (.own 5 0)),(25,.lf (.v (.slice Au0_0 (u0_0.length) cu0_0))),(26,vi (u0_0.length : Int)),(27,vi x11)],H := [(5,[.arr .i64 11 L16])],V := [],M := M12,ds := [] }) [1,4,5,25,26,27] [5] [] (by kernel_rfl) (by kernel_rfl) ?_
       refine TI_end (by kernel_rfl) ?_
       refine thenQ_n ?_
       obtain ⟨j18,e_j18,h⟩ := jn_some h
       refine T_cut (c1:=(sub [1,1,1,0,1,0,0,1,1,0,0,1,0] Bd46)) (c2:=(sub [1,1,1,0,1,0,0,1,1,0,0,1,1] Bd46)) (fun s' => ∃ (b17 : Bool),Sub { σ := [(1,.lf (.v (.pointer (some ⟨b3,0,none⟩)))),(5,.lf (.own 5 0)),(6,vb b17),(25,.lf (.v (.slice Au0_0 (u0_0.length) cu0_0))),(26,vi (u0_0.length : Int)),(27,vi x11)],H := [(5,[.arr .i64 11 L16])],V := [],M := M12,ds := [] } s' ∧ j18 b17 = some r) (by kernel_rfl) ?_ ?_
       ·obtain ⟨x19,e_x19,h⟩ := lt_some h
        obtain ⟨v20,c_v20,h⟩ := cl_some h
        cases v20 with
        | true =>
         replace h := sp_t h
         obtain ⟨v21,c_v21,h⟩ := cl_some h
         cases v21 with
         | true =>
          replace h := sp_t h
          obtain ⟨b22,e_b22,h⟩ := lt_some h
          cases b22 with
          | true =>
           replace h := sp_t h
           obtain ⟨x23,e_x23,h⟩ := lt_some h
           obtain ⟨x24,e_x24,h⟩ := lt_some h
           obtain ⟨g25,h⟩ := gd_some h
           obtain ⟨x26,e_x26,h⟩ := lt_some h
           obtain ⟨b27,e_b27,h⟩ := lt_some h
           refine T_draw' (id:=8) [] [0,0,0,0,0,0,0,0,0,0,0,0,0,0,0,0,0,0,0,0,0,0,0,0,0,0,0] (by kernel_rfl) (by kernel_rfl) (by kernel_rfl) (by kernel_rfl) [(32,.lf (.own 5 0)),(33,vi x19),(34,vb true),(35,vb false),(36,vb false),(37,.lf (.own 5 1)),(38,.agg [.arr .i64 2 (List.take 2 (List.drop 1 L16))]),(39,vb true),(40,vb false),(41,vb false),(42,vb false),(43,vi x11),(44,vb true),(45,vb true),(46,.lf (.own 5 0)),(47,vi x23),(48,.lf (.v (.pointer (some ⟨b3,0,none⟩)))),(49,.lf (.v (.slice Au0_0 (u0_0.length) cu0_0))),(50,vi x11),(51,vi x24),(52,.lf (.ep (.slice Au0_0 (u0_0.length) cu0_0) 11 ((x24).toNat) 0)),(53,.lf (.ep (.slice Au0_0 (u0_0.length) cu0_0) 11 ((x24).toNat) 0)),(54,vi x26),(55,vb b27),(56,vb b27),(57,vb b27),(6,vb b27)] (by kernel_rfl) ⟨trivial,⟨trivial,⟨trivial,⟨trivial,⟨trivial,⟨trivial,⟨⟨(len_dt l_L16 (Nat.le_of_ble_eq_true rfl)),trivial⟩,⟨trivial,⟨trivial,⟨trivial,⟨trivial,⟨trivial,⟨trivial,⟨trivial,⟨trivial,⟨trivial,⟨trivial,⟨trivial,⟨trivial,⟨trivial,⟨trivial,⟨trivial,⟨trivial,⟨trivial,⟨trivial,⟨trivial,⟨trivial,trivial⟩⟩⟩⟩⟩⟩⟩⟩⟩⟩⟩⟩⟩⟩⟩⟩⟩⟩⟩⟩⟩⟩⟩⟩⟩⟩⟩ ?_
           refine Stage_nil (stage_all' [0,1,3,4,5,6,8,9,10,11,13,14,15,16,18,19,21,23,24,25,26] [2,7,12,17,20,22] (by kernel_rfl) (by subst_vars; kernel_rfl) (by kernel_rfl) ⟨QF_at (i:=2) (d:=34) (x:=vb true) (show OpAt _ _ _ 2 34 _ from by exact At_call (d:=34) (f:=49) (args:=[rval (vi x19),rval (vi (0 : Int)),rval (vi (1099511627776 : Int))]) (x:=vb true) (by subst_vars; kernel_rfl) (w49 k  c_v20)) (by kernel_rfl) (by subst_vars; kernel_rfl),⟨QF_at (i:=7) (d:=39) (x:=vb true) (show OpAt _ _ _ 7 39 _ from by exact At_call (d:=39) (f:=61) (args:=[rval (.agg [.arr .i64 2 (List.take 2 (List.drop 1 L16))])]) (x:=vb true) (by subst_vars; kernel_rfl) (w61 k (len_dt l_L16 (Nat.le_of_ble_eq_true rfl)) c_v21)) (by kernel_rfl) (by subst_vars; kernel_rfl),⟨QF_at (i:=12) (d:=44) (x:=vb true) (show OpAt _ _ _ 12 44 _ from by exact At_bin (d:=44) (b:=.gtr) (u:=.int .i64 x11) (v:=.int .i64 (0 : Int)) (w':=.bool true) (by subst_vars; kernel_rfl) (by rw [show exBin .gtr (.int .i64 x11) (.int .i64 (0 : Int)) = some (.bool (decide (x11 > (0 : Int)))) from by kernel_rfl,← e_b22])) (by kernel_rfl) (by subst_vars; kernel_rfl),⟨QF_at (i:=17) (d:=49) (x:=.lf (.v (.slice Au0_0 (u0_0.length) cu0_0))) (show OpAt _ _ _ 17 49 _ from by exact At_ldP (d:=49) (b:=b3) (off:=0) (m:=1) (v:=(.slice Au0_0 (u0_0.length) cu0_0)) (by subst_vars; kernel_rfl) (cell_blk (hM12 _ _ fb3) ⟨rfl,⟨hu0_1,trivial⟩⟩ (by kernel_rfl))) (by kernel_rfl) (by subst_vars; kernel_rfl),⟨QF_at (i:=20) (d:=52) (x:=.lf (.ep (.slice Au0_0 (u0_0.length) cu0_0) 11 ((x24).toNat) 0)) (show OpAt _ _ _ 20 52 _ from by exact At_idxR (d:=52) (z:=x24) (by subst_vars; kernel_rfl) g25 ((hu0_0.le hM4).le hM12)) (by kernel_rfl) (by subst_vars; kernel_rfl),⟨QF_at (i:=22) (d:=54) (x:=vi x26) (show OpAt _ _ _ 22 54 _ from by rw [e_x26]; exact At_ldR1 (d:=54) (q:=(x24).toNat) (j:=0) (by subst_vars; kernel_rfl) rfl (toNat_lt g25) ((hu0_0.le hM4).le hM12)) (by kernel_rfl) (by subst_vars; kernel_rfl),trivial⟩⟩⟩⟩⟩⟩) ?_
           refine thenQ_n ?_
           exact ⟨b27,keep_sub (ts:=[1,5,6,25,26,27]) (hs:=[5]) (vs:=[]) (by subst_vars;kernel_rfl),h⟩
          | false =>
           replace h := sp_f h
           refine T_draw' (id:=8) [] [0,0,0,0,0,0,0,0,0,0,0,0,0,0,0,0,0,0,0,0,0,0,0,0,0,0,0] (by kernel_rfl) (by kernel_rfl) (by kernel_rfl) (by kernel_rfl) [(32,.lf (.own 5 0)),(33,vi x19),(34,vb true),(35,vb false),(36,vb false),(37,.lf (.own 5 1)),(38,.agg [.arr .i64 2 (List.take 2 (List.drop 1 L16))]),(39,vb true),(40,vb false),(41,vb false),(42,vb false),(43,vi x11),(44,vb false),(45,vb false),(46,.tup []),(47,.tup []),(48,.tup []),(49,.tup []),(50,.tup []),(51,.tup []),(52,.tup []),(53,.tup []),(54,.tup []),(55,.tup []),(56,vb false),(57,vb false),(6,vb false)] (by kernel_rfl) ⟨trivial,⟨trivial,⟨trivial,⟨trivial,⟨trivial,⟨trivial,⟨⟨(len_dt l_L16 (Nat.le_of_ble_eq_true rfl)),trivial⟩,⟨trivial,⟨trivial,⟨trivial,⟨trivial,⟨trivial,⟨trivial,⟨trivial,⟨(by intro y hy;cases hy),⟨(by intro y hy;cases hy),⟨(by intro y hy;cases hy),⟨(by intro y hy;cases hy),⟨(by intro y hy;cases hy),⟨(by intro y hy;cases hy),⟨(by intro y hy;cases hy),⟨(by intro y hy;cases hy),⟨(by intro y hy;cases hy),⟨(by intro y hy;cases hy),⟨trivial,⟨trivial,⟨trivial,trivial⟩⟩⟩⟩⟩⟩⟩⟩⟩⟩⟩⟩⟩⟩⟩⟩⟩⟩⟩⟩⟩⟩⟩⟩⟩⟩⟩ ?_
           refine Stage_nil (stage_all' [0,1,3,4,5,6,8,9,10,11,13,14,15,16,17,18,19,20,21,22,23,24,25,26] [2,7,12] (by kernel_rfl) (by subst e_x19;kernel_rfl) (by kernel_rfl) ⟨QF_at (i:=2) (d:=34) (x:=vb true) (show OpAt _ _ _ 2 34 _ from by exact At_call (d:=34) (f:=49) (args:=[rval (vi x19),rval (vi (0 : Int)),rval (vi (1099511627776 : Int))]) (x:=vb true) (by subst e_x19;kernel_rfl) (w49 k  c_v20)) (by kernel_rfl) (by subst e_x19;kernel_rfl),⟨QF_at (i:=7) (d:=39) (x:=vb true) (show OpAt _ _ _ 7 39 _ from by exact At_call (d:=39) (f:=61) (args:=[rval (.agg [.arr .i64 2 (List.take 2 (List.drop 1 L16))])]) (x:=vb true) (by subst e_x19;kernel_rfl) (w61 k (len_dt l_L16 (Nat.le_of_ble_eq_true rfl)) c_v21)) (by kernel_rfl) (by subst e_x19;kernel_rfl),⟨QF_at (i:=12) (d:=44) (x:=vb false) (show OpAt _ _ _ 12 44 _ from by exact At_bin (d:=44) (b:=.gtr) (u:=.int .i64 x11) (v:=.int .i64 (0 : Int)) (w':=.bool false) (by subst e_x19;kernel_rfl) (by rw [show exBin .gtr (.int .i64 x11) (.int .i64 (0 : Int)) = some (.bool (decide (x11 > (0 : Int)))) from by kernel_rfl,← e_b22])) (by kernel_rfl) (by subst e_x19;kernel_rfl),trivial⟩⟩⟩) ?_
           refine thenQ_n ?_
           exact ⟨false,keep_sub (ts:=[1,5,6,25,26,27]) (hs:=[5]) (vs:=[]) (by subst e_x19;kernel_rfl),h⟩
         | false =>
          replace h := sp_f h
          refine T_draw' (id:=8) [] [0,0,0,0,0,0,0,0,0,0,0,0,0,0,0,0,0,0,0,0,0,0,0,0,0,0,0] (by kernel_rfl) (by kernel_rfl) (by kernel_rfl) (by kernel_rfl) [(32,.lf (.own 5 0)),(33,vi x19),(34,vb true),(35,vb false),(36,vb false),(37,.lf (.own 5 1)),(38,.agg [.arr .i64 2 (List.take 2 (List.drop 1 L16))]),(39,vb false),(40,vb true),(41,vb true),(42,vb true),(43,.tup []),(44,.tup []),(45,.tup []),(46,.tup []),(47,.tup []),(48,.tup []),(49,.tup []),(50,.tup []),(51,.tup []),(52,.tup []),(53,.tup []),(54,.tup []),(55,.tup []),(56,.tup []),(57,vb true),(6,vb true)] (by kernel_rfl) ⟨trivial,⟨trivial,⟨trivial,⟨trivial,⟨trivial,⟨trivial,⟨⟨(len_dt l_L16 (Nat.le_of_ble_eq_true rfl)),trivial⟩,⟨trivial,⟨trivial,⟨trivial,⟨trivial,⟨(by intro y hy;cases hy),⟨(by intro y hy;cases hy),⟨(by intro y hy;cases hy),⟨(by intro y hy;cases hy),⟨(by intro y hy;cases hy),⟨(by intro y hy;cases hy),⟨(by intro y hy;cases hy),⟨(by intro y hy;cases hy),⟨(by intro y hy;cases hy),⟨(by intro y hy;cases hy),⟨(by intro y hy;cases hy),⟨(by intro y hy;cases hy),⟨(by intro y hy;cases hy),⟨(by intro y hy;cases hy),⟨trivial,⟨trivial,trivial⟩⟩⟩⟩⟩⟩⟩⟩⟩⟩⟩⟩⟩⟩⟩⟩⟩⟩⟩⟩⟩⟩⟩⟩⟩⟩⟩ ?_
          refine Stage_nil (stage_all' [0,1,3,4,5,6,8,9,10,11,12,13,14,15,16,17,18,19,20,21,22,23,24,25,26] [2,7] (by kernel_rfl) (by subst e_x19;kernel_rfl) (by kernel_rfl) ⟨QF_at (i:=2) (d:=34) (x:=vb true) (show OpAt _ _ _ 2 34 _ from by exact At_call (d:=34) (f:=49) (args:=[rval (vi x19),rval (vi (0 : Int)),rval (vi (1099511627776 : Int))]) (x:=vb true) (by subst e_x19;kernel_rfl) (w49 k  c_v20)) (by kernel_rfl) (by subst e_x19;kernel_rfl),⟨QF_at (i:=7) (d:=39) (x:=vb false) (show OpAt _ _ _ 7 39 _ from by exact At_call (d:=39) (f:=61) (args:=[rval (.agg [.arr .i64 2 (List.take 2 (List.drop 1 L16))])]) (x:=vb false) (by subst e_x19;kernel_rfl) (w61 k (len_dt l_L16 (Nat.le_of_ble_eq_true rfl)) c_v21)) (by kernel_rfl) (by subst e_x19;kernel_rfl),trivial⟩⟩) ?_
          refine thenQ_n ?_
          exact ⟨true,keep_sub (ts:=[1,5,6,25,26,27]) (hs:=[5]) (vs:=[]) (by subst e_x19;kernel_rfl),h⟩
        | false =>
         replace h := sp_f h
         refine T_draw' (id:=8) [] [0,0,0,0,0,0,0,0,0,0,0,0,0,0,0,0,0,0,0,0,0,0,0,0,0,0,0] (by kernel_rfl) (by kernel_rfl) (by kernel_rfl) (by kernel_rfl) [(32,.lf (.own 5 0)),(33,vi x19),(34,vb false),(35,vb true),(36,vb true),(37,.tup []),(38,.tup []),(39,.tup []),(40,.tup []),(41,vb true),(42,vb true),(43,.tup []),(44,.tup []),(45,.tup []),(46,.tup []),(47,.tup []),(48,.tup []),(49,.tup []),(50,.tup []),(51,.tup []),(52,.tup []),(53,.tup []),(54,.tup []),(55,.tup []),(56,.tup []),(57,vb true),(6,vb true)] (by kernel_rfl) ⟨trivial,⟨trivial,⟨trivial,⟨trivial,⟨trivial,⟨(by intro y hy;cases hy),⟨(by intro y hy;cases hy),⟨(by intro y hy;cases hy),⟨(by intro y hy;cases hy),⟨trivial,⟨trivial,⟨(by intro y hy;cases hy),⟨(by intro y hy;cases hy),⟨(by intro y hy;cases hy),⟨(by intro y hy;cases hy),⟨(by intro y hy;cases hy),⟨(by intro y hy;cases hy),⟨(by intro y hy;cases hy),⟨(by intro y hy;cases hy),⟨(by intro y hy;cases hy),⟨(by intro y hy;cases hy),⟨(by intro y hy;cases hy),⟨(by intro y hy;cases hy),⟨(by intro y hy;cases hy),⟨(by intro y hy;cases hy),⟨trivial,⟨trivial,trivial⟩⟩⟩⟩⟩⟩⟩⟩⟩⟩⟩⟩⟩⟩⟩⟩⟩⟩⟩⟩⟩⟩⟩⟩⟩⟩⟩ ?_
         refine Stage_nil (stage_all' [0,1,3,4,5,6,7,8,9,10,11,12,13,14,15,16,17,18,19,20,21,22,23,24,25,26] [2] (by kernel_rfl) (by subst e_x19;kernel_rfl) (by kernel_rfl) ⟨QF_at (i:=2) (d:=34) (x:=vb false) (show OpAt _ _ _ 2 34 _ from by exact At_call (d:=34) (f:=49) (args:=[rval (vi x19),rval (vi (0 : Int)),rval (vi (1099511627776 : Int))]) (x:=vb false) (by subst e_x19;kernel_rfl) (w49 k  c_v20)) (by kernel_rfl) (by subst e_x19;kernel_rfl),trivial⟩) ?_
         refine thenQ_n ?_
         exact ⟨true,keep_sub (ts:=[1,5,6,25,26,27]) (hs:=[5]) (vs:=[]) (by subst e_x19;kernel_rfl),h⟩
       ·rintro s' ⟨b17,hsub,h⟩
        subst e_j18
        refine T_sub hsub ?_
        refine T_turn (turn_pubH 5 (c:=[.arr .i64 11 L16]) (by kernel_rfl) (by kernel_rfl)) ?_
        rintro _ ⟨b28,M29,rfl,-,e_M29,-,hM29⟩
        have fb28 : M29 b28 = some (sgCells (fun _ => 0) (fun _ => .slice none 0 0) [.arr .i64 11 L16]).toArray := by rw [e_M29]; exact addM_at _ _ _
        refine T_keep (s':={ σ := [(1,.lf (.v (.pointer (some ⟨b3,0,none⟩)))),(5,.lf (.v (.pointer (some ⟨b28,0,none⟩)))),(6,vb b17),(25,.lf (.v (.slice Au0_0 (u0_0.length) cu0_0))),(26,vi (u0_0.length : Int)),(27,vi x11)],H := [],V := [],M := M29,ds := [] }) [1,5,6,25,26,27] [] [] (by kernel_rfl) ?_
        obtain ⟨j31,e_j31,h⟩ := jn_some h
        refine T_cut (c1:=(sub [1,1,1,0,1,0,0,1,1,0,0,1,1,0] Bd46)) (c2:=(sub [1,1,1,0,1,0,0,1,1,0,0,1,1,1] Bd46)) (fun s' => ∃ (b30 : Bool),Sub { σ := [(1,.lf (.v (.pointer (some ⟨b3,0,none⟩)))),(25,.lf (.v (.slice Au0_0 (u0_0.length) cu0_0))),(26,vi (u0_0.length : Int)),(27,vi x11),(63,vb b30)],H := [],V := [],M := M29,ds := [] } s' ∧ j31 b30 = some r) (by kernel_rfl) ?_ ?_
        ·refine T_region (id:=9) (by kernel_rfl) ?_
         refine TI_segK (i:=0) (j:=2) (s':={ σ := [(1,.lf (.v (.pointer (some ⟨b3,0,none⟩)))),(5,.lf (.v (.pointer (some ⟨b28,0,none⟩)))),(25,.lf (.v (.slice Au0_0 (u0_0.length) cu0_0))),(26,vi (u0_0.length : Int)),(27,vi x11),(59,vb b17)],H := [],V := [],M := M29,ds := [] }) [1,5,25,26,27,59] [] [] (by kernel_rfl) (by kernel_rfl) ?_
         cases b17 with
         | true =>
          replace h := sp_t h
          refine TI_segS (i:=2) (j:=6) [(1,.lf (.v (.pointer (some ⟨b3,0,none⟩)))),(25,.lf (.v (.slice Au0_0 (u0_0.length) cu0_0))),(26,vi (u0_0.length : Int)),(27,vi x11),(63,vb true)] (by kernel_rfl) (by kernel_rfl) ?_
          refine TI_end (by kernel_rfl) ?_
          refine thenQ_n ?_
          exact ⟨true,keep_sub (ts:=[1,25,26,27,63]) (hs:=[]) (vs:=[]) (by kernel_rfl),h⟩
         | false =>
          replace h := sp_f h
          refine TI_segS (i:=2) (j:=3) [(1,.lf (.v (.pointer (some ⟨b3,0,none⟩)))),(25,.lf (.v (.slice Au0_0 (u0_0.length) cu0_0))),(26,vi (u0_0.length : Int)),(27,vi x11),(59,vb false),(60,.lf (.v (.pointer (some ⟨b28,3,none⟩))))] (by kernel_rfl) (by kernel_rfl) ?_
          refine TI_at (i:=3) (d:=61) (x:=.lf (.v (.slice (some ⟨b28,3,none⟩) (List.length (bands4 L16)) 4))) (At_slA (d:=61) (b:=b28) (off:=3) (n:=4) (L:=bands4 L16) (by kernel_rfl) rfl) (by kernel_rfl) trivial ?_
          obtain ⟨v32,c_v32,h⟩ := cl_some h
          refine TI_at (i:=4) (d:=62) (x:=vb v32) (At_call (d:=62) (f:=70) (args:=[rval (.lf (.v (.slice (some ⟨b28,3,none⟩) (List.length (bands4 L16)) 4))),rval (.lf (.v (.func (.func 71) #[] #[])))]) (x:=vb v32) (by kernel_rfl) (w70 k (SlR_block fb28 (bands4_cells l_L16) (bands4_rows l_L16) (Nat.le_refl _)) c_v32)) (by kernel_rfl) trivial ?_
          refine TI_segK (i:=5) (j:=6) (s':={ σ := [(1,.lf (.v (.pointer (some ⟨b3,0,none⟩)))),(25,.lf (.v (.slice Au0_0 (u0_0.length) cu0_0))),(26,vi (u0_0.length : Int)),(27,vi x11),(63,vb v32)],H := [],V := [],M := M29,ds := [] }) [1,25,26,27,63] [] [] (by kernel_rfl) (by kernel_rfl) ?_
          refine TI_end (by kernel_rfl) ?_
          refine thenQ_n ?_
          exact ⟨v32,keep_sub (ts:=[1,25,26,27,63]) (hs:=[]) (vs:=[]) (by kernel_rfl),h⟩
        ·rintro s' ⟨b30,hsub,h⟩
         subst e_j31
         refine T_sub hsub ?_
         cases b30 with
         | true =>
          replace h := sp_t h
          refine T_condT (x:=(.tmp 63)) (c1:=(sub [1,1,1,0,1,0,0,1,1,0,0,1,1,1,0] Bd46)) (c2:=(sub [1,1,1,0,1,0,0,1,1,0,0,1,1,1,1] Bd46)) (by kernel_rfl) (by kernel_rfl) ?_
          refine T_keep (s':={ σ := [],H := [],V := [],M := M29,ds := [] }) [] [] [] (by kernel_rfl) ?_
          refine T_seq (c1:=(sub [1,1,1,0,1,0,0,1,1,0,0,1,1,1,0,0] Bd46)) (c2:=(sub [1,1,1,0,1,0,0,1,1,0,0,1,1,1,0,1] Bd46)) (by kernel_rfl) ?_
          refine T_region (id:=10) (by kernel_rfl) ?_
          refine TI_segS (i:=0) (j:=2) [(2,.lf (.v (.pointer none))),(3,vi (2 : Int))] (by kernel_rfl) (by kernel_rfl) ?_
          refine TI_end (by kernel_rfl) ?_
          refine thenQ_n ?_
          refine T_ret (by kernel_rfl) ?_
          refine blockQ_r ?_
          refine thenQ_r ?_
          refine thenQ_r ?_
          refine blockQ_r ?_
          refine thenQ_r ?_
          refine thenQ_r ?_
          have h := Option.some.inj h
          subst h
          refine fin_ret (.tup [(some (.v (.pointer none)),[]),(some (.v (.int .i64 (2 : Int))),[])]) (by kernel_rfl) (by kernel_rfl) rfl ?_
          exact ⟨(.pointer none),rfl,rfl⟩
         | false =>
          replace h := sp_f h
          refine T_condF (x:=(.tmp 63)) (c1:=(sub [1,1,1,0,1,0,0,1,1,0,0,1,1,1,0] Bd46)) (c2:=(sub [1,1,1,0,1,0,0,1,1,0,0,1,1,1,1] Bd46)) (by kernel_rfl) (by kernel_rfl) ?_
          refine T_keep (s':={ σ := [(1,.lf (.v (.pointer (some ⟨b3,0,none⟩)))),(25,.lf (.v (.slice Au0_0 (u0_0.length) cu0_0))),(26,vi (u0_0.length : Int)),(27,vi x11)],H := [],V := [],M := M29,ds := [] }) [1,25,26,27] [] [] (by kernel_rfl) ?_
          refine T_skip (by kernel_rfl) ?_
          refine blockQ_n ?_
          refine thenQ_n ?_
          refine T_region (id:=11) (by kernel_rfl) ?_
          obtain ⟨x33,e_x33,h⟩ := lt_some h
          refine TI_segS (i:=0) (j:=2) [(1,.lf (.v (.pointer (some ⟨b3,0,none⟩)))),(25,.lf (.v (.slice Au0_0 (u0_0.length) cu0_0))),(26,vi (u0_0.length : Int)),(27,vi x33)] (by subst e_x33;kernel_rfl) (by kernel_rfl) ?_
          refine TI_end (by kernel_rfl) ?_
          refine thenQ_n ?_
          exact ⟨n13,Nat.lt_succ_self _,x33,M29,keep_sub (ts:=[1,25,26,27]) (hs:=[]) (vs:=[]) (by kernel_rfl),(Mem.le_trans (Mem.le_trans (Mem.le_refl _) hM12) hM29),h⟩
      | false =>
       replace h := sp_f h
       refine T_condF (x:=(.tmp 28)) (c1:=(sub [1,1,1,0,1,0,0,1,0,0] Bd46)) (c2:=(sub [1,1,1,0,1,0,0,1,0,1] Bd46)) (by kernel_rfl) (by kernel_rfl) ?_
       refine T_keepS [(1,.lf (.v (.pointer (some ⟨b3,0,none⟩))))] (by kernel_rfl) ?_
       refine T_exit (id:=0) (by kernel_rfl) ?_
       refine thenQ_x ?_
       refine thenQ_x ?_
       refine blockQ_x ?_
       refine thenQ_n ?_
       exact ⟨M12,keep_sub (ts:=[1]) (hs:=[]) (vs:=[]) (by kernel_rfl),(Mem.le_trans (Mem.le_refl _) hM12),h⟩
    ·rintro s' ⟨M9,hsub,hM9,h⟩
     subst e_j10
     refine thenQ_n ?_
     refine T_sub hsub ?_
     refine T_seq (c1:=(sub [1,1,1,1,0] Bd46)) (c2:=(sub [1,1,1,1,1] Bd46)) (by kernel_rfl) ?_
     obtain ⟨g34,h⟩ := gd_some h
     obtain ⟨x35,e_x35,h⟩ := lt_some h
     refine T_draw' (id:=12) [7] [0,0,0,0,0,0,0,0,1] (by kernel_rfl) (by kernel_rfl) (by kernel_rfl) (by kernel_rfl) [(65,.agg [.one (.v (.slice Au0_0 (u0_0.length) cu0_0)),.arr .i64 4 u0_1]),(66,.lf (.v (.pointer (some ⟨b3,0,none⟩)))),(67,.lf (.v (.slice Au0_0 (u0_0.length) cu0_0))),(68,.lf (.ep (.slice Au0_0 (u0_0.length) cu0_0) 11 0 0)),(69,.lf (.ep (.slice Au0_0 (u0_0.length) cu0_0) 11 0 0)),(70,vi x35),(71,.agg [.one (.v (.slice Au0_0 (u0_0.length) cu0_0)),.arr .i64 4 u0_1,.one (.v (.int .i64 x35)),.one (.v (.slice none (List.length ([] : List (List Int))) 0)),.one (.v (.slice none (List.length ([] : List (List Int))) 0)),.one (.v (.slice none (List.length ([] : List (List Int))) 0)),.one (.v (.slice none (List.length ([] : List (List Int))) 0)),.one (.v (.slice none (List.length ([] : List (List Int))) 0))])] (by kernel_rfl) ⟨⟨rfl,⟨hu0_1,trivial⟩⟩,⟨trivial,⟨trivial,⟨trivial,⟨trivial,⟨trivial,⟨⟨rfl,⟨hu0_1,⟨rfl,⟨rfl,⟨rfl,⟨rfl,⟨rfl,⟨rfl,trivial⟩⟩⟩⟩⟩⟩⟩⟩,trivial⟩⟩⟩⟩⟩⟩⟩ ?_
     refine Stage_ex (stage_all' [1,4,6] [0,2,3,5] (by kernel_rfl) (by subst e_x35; kernel_rfl) (by kernel_rfl) ⟨QF_at (i:=0) (d:=65) (x:=.agg [.one (.v (.slice Au0_0 (u0_0.length) cu0_0)),.arr .i64 4 u0_1]) (show OpAt _ _ _ 0 65 _ from by exact At_ldPR (d:=65) (b:=b3) (off:=0) (m:=5) (c:=[.one (.v (.slice Au0_0 (u0_0.length) cu0_0)),.arr .i64 4 u0_1]) (by subst e_x35; kernel_rfl) (by kernel_rfl) (sgCells_length ⟨rfl,⟨hu0_1,trivial⟩⟩) (cells_blk (m:=5) (hM9 _ _ fb3) ⟨rfl,⟨hu0_1,trivial⟩⟩ (by kernel_rfl) rfl)) (by kernel_rfl) (by subst e_x35; kernel_rfl),⟨QF_at (i:=2) (d:=67) (x:=.lf (.v (.slice Au0_0 (u0_0.length) cu0_0))) (show OpAt _ _ _ 2 67 _ from by exact At_ldP (d:=67) (b:=b3) (off:=0) (m:=1) (v:=(.slice Au0_0 (u0_0.length) cu0_0)) (by subst e_x35; kernel_rfl) (cell_blk (hM9 _ _ fb3) ⟨rfl,⟨hu0_1,trivial⟩⟩ (by kernel_rfl))) (by kernel_rfl) (by subst e_x35; kernel_rfl),⟨QF_at (i:=3) (d:=68) (x:=.lf (.ep (.slice Au0_0 (u0_0.length) cu0_0) 11 0 0)) (show OpAt _ _ _ 3 68 _ from by exact At_idxR (d:=68) (z:=(0 : Int)) (by subst e_x35; kernel_rfl) g34 ((hu0_0.le hM4).le hM9)) (by kernel_rfl) (by subst e_x35; kernel_rfl),⟨QF_at (i:=5) (d:=70) (x:=vi x35) (show OpAt _ _ _ 5 70 _ from by rw [e_x35]; exact At_ldR1 (d:=70) (q:=0) (j:=0) (by subst e_x35; kernel_rfl) rfl (toNat_lt g34) ((hu0_0.le hM4).le hM9)) (by kernel_rfl) (by subst e_x35; kernel_rfl),trivial⟩⟩⟩⟩) ({ σ := [(72,.lf (.own 72 0)),(65,.agg [.one (.v (.slice Au0_0 (u0_0.length) cu0_0)),.arr .i64 4 u0_1]),(66,.lf (.v (.pointer (some ⟨b3,0,none⟩)))),(67,.lf (.v (.slice Au0_0 (u0_0.length) cu0_0))),(68,.lf (.ep (.slice Au0_0 (u0_0.length) cu0_0) 11 0 0)),(69,.lf (.ep (.slice Au0_0 (u0_0.length) cu0_0) 11 0 0)),(70,vi x35),(71,.agg [.one (.v (.slice Au0_0 (u0_0.length) cu0_0)),.arr .i64 4 u0_1,.one (.v (.int .i64 x35)),.one (.v (.slice none (List.length ([] : List (List Int))) 0)),.one (.v (.slice none (List.length ([] : List (List Int))) 0)),.one (.v (.slice none (List.length ([] : List (List Int))) 0)),.one (.v (.slice none (List.length ([] : List (List Int))) 0)),.one (.v (.slice none (List.length ([] : List (List Int))) 0))]),(1,.lf (.v (.pointer (some ⟨b3,0,none⟩))))],H := [(72,[.one (.v (.slice Au0_0 (u0_0.length) cu0_0)),.arr .i64 4 u0_1,.one (.v (.int .i64 x35)),.one (.v (.slice none (List.length ([] : List (List Int))) 0)),.one (.v (.slice none (List.length ([] : List (List Int))) 0)),.one (.v (.slice none (List.length ([] : List (List Int))) 0)),.one (.v (.slice none (List.length ([] : List (List Int))) 0)),.one (.v (.slice none (List.length ([] : List (List Int))) 0))])],V := [],M := M9,ds := [] }) (by subst e_x35; kernel_rfl) [(7,.lf (.own 72 0))] (by kernel_rfl) ⟨trivial,trivial⟩ ?_
     refine Stage_nil (stage_all' [8] [] (by kernel_rfl) (by subst e_x35;kernel_rfl) (by kernel_rfl) trivial) ?_
     refine thenQ_n ?_
     refine T_keep (s':={ σ := [(1,.lf (.v (.pointer (some ⟨b3,0,none⟩)))),(7,.lf (.own 72 0))],H := [(72,[.one (.v (.slice Au0_0 (u0_0.length) cu0_0)),.arr .i64 4 u0_1,.one (.v (.int .i64 x35)),.one (.v (.slice none (List.length ([] : List (List Int))) 0)),.one (.v (.slice none (List.length ([] : List (List Int))) 0)),.one (.v (.slice none (List.length ([] : List (List Int))) 0)),.one (.v (.slice none (List.length ([] : List (List Int))) 0)),.one (.v (.slice none (List.length ([] : List (List Int))) 0))])],V := [],M := M9,ds := [] }) [1,7] [72] [] (by subst e_x35;kernel_rfl) ?_
     refine T_seq (c1:=(sub [1,1,1,1,1,0] Bd46)) (c2:=(sub [1,1,1,1,1,1] Bd46)) (by kernel_rfl) ?_
     obtain ⟨x36,e_x36,h⟩ := lt_some h
     obtain ⟨g37,h⟩ := gd_some h
     obtain ⟨x38,e_x38,h⟩ := lt_some h
     obtain ⟨x39,e_x39,h⟩ := lt_some h
     refine T_draw' (id:=13) [] [0,0,0,0,0,0,0,0,0,0,0,0,0,0,0] (by kernel_rfl) (by kernel_rfl) (by kernel_rfl) (by kernel_rfl) [(73,.lf (.v (.pointer (some ⟨b3,0,none⟩)))),(74,.lf (.v (.slice Au0_0 (u0_0.length) cu0_0))),(75,.lf (.v (.pointer (some ⟨b3,0,none⟩)))),(76,.lf (.v (.slice Au0_0 (u0_0.length) cu0_0))),(77,vi (u0_0.length : Int)),(78,vi x36),(79,.lf (.ep (.slice Au0_0 (u0_0.length) cu0_0) 11 ((x36).toNat) 0)),(80,.lf (.ep (.slice Au0_0 (u0_0.length) cu0_0) 11 ((x36).toNat) 0)),(81,vi x38),(82,.lf (.own 72 0)),(83,.lf (.own 72 0)),(84,.lf (.own 72 5)),(85,vi x35),(86,vi x39),(8,vi x39)] (by kernel_rfl) (wfs_lf _ (by kernel_rfl)) ?_
     refine Stage_nil (stage_all' [0,2,4,5,7,9,10,11,12,13,14] [1,3,6,8] (by kernel_rfl) (by subst_vars; kernel_rfl) (by kernel_rfl) ⟨QF_at (i:=1) (d:=74) (x:=.lf (.v (.slice Au0_0 (u0_0.length) cu0_0))) (show OpAt _ _ _ 1 74 _ from by exact At_ldP (d:=74) (b:=b3) (off:=0) (m:=1) (v:=(.slice Au0_0 (u0_0.length) cu0_0)) (by subst_vars; kernel_rfl) (cell_blk (hM9 _ _ fb3) ⟨rfl,⟨hu0_1,trivial⟩⟩ (by kernel_rfl))) (by kernel_rfl) (by subst_vars; kernel_rfl),⟨QF_at (i:=3) (d:=76) (x:=.lf (.v (.slice Au0_0 (u0_0.length) cu0_0))) (show OpAt _ _ _ 3 76 _ from by exact At_ldP (d:=76) (b:=b3) (off:=0) (m:=1) (v:=(.slice Au0_0 (u0_0.length) cu0_0)) (by subst_vars; kernel_rfl) (cell_blk (hM9 _ _ fb3) ⟨rfl,⟨hu0_1,trivial⟩⟩ (by kernel_rfl))) (by kernel_rfl) (by subst_vars; kernel_rfl),⟨QF_at (i:=6) (d:=79) (x:=.lf (.ep (.slice Au0_0 (u0_0.length) cu0_0) 11 ((x36).toNat) 0)) (show OpAt _ _ _ 6 79 _ from by exact At_idxR (d:=79) (z:=x36) (by subst_vars; kernel_rfl) g37 ((hu0_0.le hM4).le hM9)) (by kernel_rfl) (by subst_vars; kernel_rfl),⟨QF_at (i:=8) (d:=81) (x:=vi x38) (show OpAt _ _ _ 8 81 _ from by rw [e_x38]; exact At_ldR1 (d:=81) (q:=(x36).toNat) (j:=0) (by subst_vars; kernel_rfl) rfl (toNat_lt g37) ((hu0_0.le hM4).le hM9)) (by kernel_rfl) (by subst_vars; kernel_rfl),trivial⟩⟩⟩⟩) ?_
     refine thenQ_n ?_
     refine T_keep (s':={ σ := [(7,.lf (.own 72 0)),(8,vi x39)],H := [(72,[.one (.v (.slice Au0_0 (u0_0.length) cu0_0)),.arr .i64 4 u0_1,.one (.v (.int .i64 x35)),.one (.v (.slice none (List.length ([] : List (List Int))) 0)),.one (.v (.slice none (List.length ([] : List (List Int))) 0)),.one (.v (.slice none (List.length ([] : List (List Int))) 0)),.one (.v (.slice none (List.length ([] : List (List Int))) 0)),.one (.v (.slice none (List.length ([] : List (List Int))) 0))])],V := [],M := M9,ds := [] }) [7,8] [72] [] (by subst_vars;kernel_rfl) ?_
     refine T_seq (c1:=(sub [1,1,1,1,1,1,0] Bd46)) (c2:=(sub [1,1,1,1,1,1,1] Bd46)) (by kernel_rfl) ?_
     refine T_seq (c1:=(sub [1,1,1,1,1,1,0,0] Bd46)) (c2:=(sub [1,1,1,1,1,1,0,1] Bd46)) (by kernel_rfl) ?_
     refine T_region (id:=14) (by kernel_rfl) ?_
     obtain ⟨b40,e_b40,h⟩ := lt_some h
     refine TI_segS (i:=0) (j:=2) [(7,.lf (.own 72 0)),(8,vi x39),(88,vb b40)] (by subst e_b40;kernel_rfl) (by kernel_rfl) ?_
     refine TI_end (by kernel_rfl) ?_
     refine thenQ_n ?_
     cases b40 with
     | true =>
      replace h := sp_t h
      refine T_condT (x:=(.tmp 88)) (c1:=(sub [1,1,1,1,1,1,0,1,0] Bd46)) (c2:=(sub [1,1,1,1,1,1,0,1,1] Bd46)) (by kernel_rfl) (by kernel_rfl) ?_
      refine T_keep (s':={ σ := [],H := [],V := [],M := M9,ds := [] }) [] [] [] (by kernel_rfl) ?_
      refine T_seq (c1:=(sub [1,1,1,1,1,1,0,1,0,0] Bd46)) (c2:=(sub [1,1,1,1,1,1,0,1,0,1] Bd46)) (by kernel_rfl) ?_
      refine T_region (id:=15) (by kernel_rfl) ?_
      refine TI_segS (i:=0) (j:=2) [(2,.lf (.v (.pointer none))),(3,vi (2 : Int))] (by kernel_rfl) (by kernel_rfl) ?_
      refine TI_end (by kernel_rfl) ?_
      refine thenQ_n ?_
      refine T_ret (by kernel_rfl) ?_
      refine thenQ_r ?_
      have h := Option.some.inj h
      subst h
      refine fin_ret (.tup [(some (.v (.pointer none)),[]),(some (.v (.int .i64 (2 : Int))),[])]) (by kernel_rfl) (by kernel_rfl) rfl ?_
      exact ⟨(.pointer none),rfl,rfl⟩
     | false =>
      replace h := sp_f h
      refine T_condF (x:=(.tmp 88)) (c1:=(sub [1,1,1,1,1,1,0,1,0] Bd46)) (c2:=(sub [1,1,1,1,1,1,0,1,1] Bd46)) (by kernel_rfl) (by kernel_rfl) ?_
      refine T_keepS [(7,.lf (.own 72 0)),(8,vi x39)] (by kernel_rfl) ?_
      refine T_skip (by kernel_rfl) ?_
      refine thenQ_n ?_
      refine T_seq (c1:=(sub [1,1,1,1,1,1,1,0] Bd46)) (c2:=(sub [1,1,1,1,1,1,1,1] Bd46)) (by kernel_rfl) ?_
      refine T_region (id:=16) (by kernel_rfl) ?_
      refine TI_segS (i:=0) (j:=1) [(7,.lf (.own 72 0)),(8,vi x39)] (by kernel_rfl) (by kernel_rfl) ?_
      refine TI_end (by kernel_rfl) ?_
      refine thenQ_n ?_
      refine T_turn (turn_tie 72 (c:=[.one (.v (.slice Au0_0 (u0_0.length) cu0_0)),.arr .i64 4 u0_1,.one (.v (.int .i64 x35)),.one (.v (.slice none (List.length ([] : List (List Int))) 0)),.one (.v (.slice none (List.length ([] : List (List Int))) 0)),.one (.v (.slice none (List.length ([] : List (List Int))) 0)),.one (.v (.slice none (List.length ([] : List (List Int))) 0)),.one (.v (.slice none (List.length ([] : List (List Int))) 0))]) (by kernel_rfl)) ?_
      rintro _ ⟨b41,rfl,-,-⟩
      refine T_seq (c1:=(sub [1,1,1,1,1,1,1,1,0] Bd46)) (c2:=(sub [1,1,1,1,1,1,1,1,1] Bd46)) (by kernel_rfl) ?_
      refine T_seq (c1:=(sub [1,1,1,1,1,1,1,1,0,0] Bd46)) (c2:=(sub [1,1,1,1,1,1,1,1,0,1] Bd46)) (by kernel_rfl) ?_
      refine T_region (id:=17) (by kernel_rfl) ?_
      obtain ⟨x42,e_x42,h⟩ := lt_some h
      refine TI_segK (i:=0) (j:=5) (s':={ σ := [(7,.lf (.own 72 0)),(8,vi x39),(90,.lf (.own 72 0)),(91,.lf (.own 72 0)),(93,vi x42),(94,.lf (.own 72 0))],H := [(72,[.one (.v (.slice Au0_0 (u0_0.length) cu0_0)),.arr .i64 4 u0_1,.one (.v (.int .i64 x35)),.one (.v (.slice none (List.length ([] : List (List Int))) 0)),.one (.v (.slice none (List.length ([] : List (List Int))) 0)),.one (.v (.slice none (List.length ([] : List (List Int))) 0)),.one (.v (.slice none (List.length ([] : List (List Int))) 0)),.one (.v (.slice none (List.length ([] : List (List Int))) 0))])],V := [],M := M9,ds := [],ats := [(72,b41)] }) [7,8,90,91,93,94] [72] [] (by subst e_x42;kernel_rfl) (by kernel_rfl) ?_
      refine TI_turn (turn_at 94 (n:=72) (b:=b41) (off:=0) (by kernel_rfl) (by kernel_rfl)) ?_
      rintro _ rfl
      refine TI_segK (i:=5) (j:=6) (s':={ σ := [(7,.lf (.own 72 0)),(8,vi x39),(90,.lf (.own 72 0)),(91,.lf (.own 72 0)),(93,vi x42),(95,.lf (.v (.func (.func 73) #[(.pointer (some ⟨b41,0,none⟩))] #[])))],H := [(72,[.one (.v (.slice Au0_0 (u0_0.length) cu0_0)),.arr .i64 4 u0_1,.one (.v (.int .i64 x35)),.one (.v (.slice none (List.length ([] : List (List Int))) 0)),.one (.v (.slice none (List.length ([] : List (List Int))) 0)),.one (.v (.slice none (List.length ([] : List (List Int))) 0)),.one (.v (.slice none (List.length ([] : List (List Int))) 0)),.one (.v (.slice none (List.length ([] : List (List Int))) 0))])],V := [],M := M9,ds := [],ats := [(72,b41)] }) [7,8,90,91,93,95] [72] [] (by kernel_rfl) (by kernel_rfl) ?_
      obtain ⟨v43,v44,c_v43,h⟩ := cl2_some h
      refine TI_of (i:=6) (by kernel_rfl) (TE_lendT (d:=96) (f:=72) 72 b41 (c:=[.one (.v (.slice Au0_0 (u0_0.length) cu0_0)),.arr .i64 4 u0_1,.one (.v (.int .i64 x35)),.one (.v (.slice none (List.length ([] : List (List Int))) 0)),.one (.v (.slice none (List.length ([] : List (List Int))) 0)),.one (.v (.slice none (List.length ([] : List (List Int))) 0)),.one (.v (.slice none (List.length ([] : List (List Int))) 0)),.one (.v (.slice none (List.length ([] : List (List Int))) 0))]) (args:=[rval (.lf (.v (.pointer (some ⟨b41,0,none⟩)))),rval (vi x42),rval (.lf (.v (.func (.func 73) #[(.pointer (some ⟨b41,0,none⟩))] #[])))]) (by kernel_rfl) (by kernel_rfl) (by kernel_rfl) (by kernel_rfl) (by kernel_rfl) (fun hb0 => w72a k (Crs_mk (addM_at _ _ _) hu0_1 (((hu0_0.le hM4).le hM9).le (addM_le hb0)) (nilR _ _ _ _) (nilR _ _ _ _) (nilR _ _ _ _) (nilR _ _ _ _) (nilR _ _ _ _)) c_v43) ?_)
      rintro _ M47 M48 hb0 - e_M48 hM48 ⟨A45,c46,rfl,fA45,nA45⟩ -
      replace fA45 := SlR.rem e_M48 fA45 nA45
      refine TI_segK (i:=7) (j:=14) (s':={ σ := [(7,.lf (.own 72 0)),(8,vi x39),(9,vb v44)],H := [(72,[.one (.v (.slice Au0_0 (u0_0.length) cu0_0)),.arr .i64 4 u0_1,.one (.v (.int .i64 x35)),.one (.v (.slice A45 (v43.length) c46)),.one (.v (.slice none (List.length ([] : List (List Int))) 0)),.one (.v (.slice none (List.length ([] : List (List Int))) 0)),.one (.v (.slice none (List.length ([] : List (List Int))) 0)),.one (.v (.slice none (List.length ([] : List (List Int))) 0))])],V := [],M := M48,ds := [],ats := [(72,b41)] }) [7,8,9] [72] [] (by kernel_rfl) (by kernel_rfl) ?_
      refine TI_end (by kernel_rfl) ?_
      refine thenQ_n ?_
      refine T_seq (c1:=(sub [1,1,1,1,1,1,1,1,0,1,0] Bd46)) (c2:=(sub [1,1,1,1,1,1,1,1,0,1,1] Bd46)) (by kernel_rfl) ?_
      refine T_region (id:=18) (by kernel_rfl) ?_
      refine TI_segS (i:=0) (j:=2) [(7,.lf (.own 72 0)),(8,vi x39),(102,vb (!v44))] (by kernel_rfl) (by kernel_rfl) ?_
      refine TI_end (by kernel_rfl) ?_
      refine thenQ_n ?_
      cases v44 with
      | true =>
       replace h := sp_t h
       refine T_condF (x:=(.tmp 102)) (c1:=(sub [1,1,1,1,1,1,1,1,0,1,1,0] Bd46)) (c2:=(sub [1,1,1,1,1,1,1,1,0,1,1,1] Bd46)) (by kernel_rfl) (by kernel_rfl) ?_
       refine T_keepS [(7,.lf (.own 72 0)),(8,vi x39)] (by kernel_rfl) ?_
       refine T_skip (by kernel_rfl) ?_
       refine thenQ_n ?_
       refine T_seq (c1:=(sub [1,1,1,1,1,1,1,1,1,0] Bd46)) (c2:=(sub [1,1,1,1,1,1,1,1,1,1] Bd46)) (by kernel_rfl) ?_
       refine T_seq (c1:=(sub [1,1,1,1,1,1,1,1,1,0,0] Bd46)) (c2:=(sub [1,1,1,1,1,1,1,1,1,0,1] Bd46)) (by kernel_rfl) ?_
       refine T_region (id:=20) (by kernel_rfl) ?_
       refine TI_segS (i:=0) (j:=1) [(7,.lf (.own 72 0)),(8,vi x39),(103,vi (0 : Int))] (by kernel_rfl) (by kernel_rfl) ?_
       refine TI_end (by kernel_rfl) ?_
       refine thenQ_n ?_
       obtain ⟨j62,e_j62,h⟩ := jn_some h
       refine T_bcut (id:=2) (c1:=(sub [1,1,1,1,1,1,1,1,1,0,1,0] Bd46)) (fun s' => ∃ (R49 : List (List Int)) (R52 : List (List Int)) (R55 : List (List Int)) (R58 : List (List Int)) (A50 : Option Addr) (c51 : Nat) (A53 : Option Addr) (c54 : Nat) (A56 : Option Addr) (c57 : Nat) (A59 : Option Addr) (c60 : Nat) (M61 : Mem),Sub { σ := [(7,.lf (.own 72 0))],H := [(72,[.one (.v (.slice Au0_0 (u0_0.length) cu0_0)),.arr .i64 4 u0_1,.one (.v (.int .i64 x35)),.one (.v (.slice A45 (v43.length) c46)),.one (.v (.slice A50 (R49.length) c51)),.one (.v (.slice A53 (R52.length) c54)),.one (.v (.slice A56 (R55.length) c57)),.one (.v (.slice A59 (R58.length) c60))])],V := [],M := M61,ds := [],ats := [(72,b41)] } s' ∧ Mem.le M48 M61 ∧ SlR M61 A50 c51 .i64 2 R49 ∧ SlR M61 A53 c54 .i64 2 R52 ∧ SlR M61 A56 c57 .i64 2 R55 ∧ SlR M61 A59 c60 .i64 2 R58 ∧ j62 R49 R52 R55 R58 = some r) (by kernel_rfl) ?_ ?_
       ·refine T_unroll (c1:=(sub [1,1,1,1,1,1,1,1,1,0,1,0,0] Bd46)) 5 (by kernel_rfl) ?_
        refine UN_s ?_
        refine T_seq (c1:=(sub [1,1,1,1,1,1,1,1,1,0,1,0,0,0] Bd46)) (c2:=(sub [1,1,1,1,1,1,1,1,1,0,1,0,0,1] Bd46)) (by kernel_rfl) ?_
        refine T_region (id:=21) (by kernel_rfl) ?_
        refine TI_segK (i:=0) (j:=1) (s':={ σ := [(7,.lf (.own 72 0)),(8,vi x39),(103,vi (0 : Int)),(104,vb true)],H := [(72,[.one (.v (.slice Au0_0 (u0_0.length) cu0_0)),.arr .i64 4 u0_1,.one (.v (.int .i64 x35)),.one (.v (.slice A45 (v43.length) c46)),.one (.v (.slice none (List.length ([] : List (List Int))) 0)),.one (.v (.slice none (List.length ([] : List (List Int))) 0)),.one (.v (.slice none (List.length ([] : List (List Int))) 0)),.one (.v (.slice none (List.length ([] : List (List Int))) 0))])],V := [],M := M48,ds := [],ats := [(72,b41)] }) [7,8,103,104] [72] [] (by kernel_rfl) (by kernel_rfl) ?_
        refine TI_end (by kernel_rfl) ?_
        refine thenQ_n ?_
        refine T_seq (c1:=(sub [1,1,1,1,1,1,1,1,1,0,1,0,0,1,0] Bd46)) (c2:=(sub [1,1,1,1,1,1,1,1,1,0,1,0,0,1,1] Bd46)) (by kernel_rfl) ?_
        refine T_condT (x:=(.tmp 104)) (c1:=(sub [1,1,1,1,1,1,1,1,1,0,1,0,0,1,0,0] Bd46)) (c2:=(sub [1,1,1,1,1,1,1,1,1,0,1,0,0,1,0,1] Bd46)) (by kernel_rfl) (by kernel_rfl) ?_
        refine T_skip (by kernel_rfl) ?_
        refine thenQ_n ?_
        refine T_seq (c1:=(sub [1,1,1,1,1,1,1,1,1,0,1,0,0,1,1,0] Bd46)) (c2:=(sub [1,1,1,1,1,1,1,1,1,0,1,0,0,1,1,1] Bd46)) (by kernel_rfl) ?_
        refine T_block (id:=3) (c1:=(sub [1,1,1,1,1,1,1,1,1,0,1,0,0,1,1,0,0] Bd46)) (by kernel_rfl) ?_
        refine T_seq (c1:=(sub [1,1,1,1,1,1,1,1,1,0,1,0,0,1,1,0,0,0] Bd46)) (c2:=(sub [1,1,1,1,1,1,1,1,1,0,1,0,0,1,1,0,0,1] Bd46)) (by kernel_rfl) ?_
        refine T_region (id:=22) (by kernel_rfl) ?_
        refine TI_segS (i:=0) (j:=2) [(7,.lf (.own 72 0)),(8,vi x39),(10,vi (0 : Int)),(103,vi (0 : Int))] (by kernel_rfl) (by kernel_rfl) ?_
        refine TI_end (by kernel_rfl) ?_
        refine thenQ_n ?_
        refine T_seq (c1:=(sub [1,1,1,1,1,1,1,1,1,0,1,0,0,1,1,0,0,1,0] Bd46)) (c2:=(sub [1,1,1,1,1,1,1,1,1,0,1,0,0,1,1,0,0,1,1] Bd46)) (by kernel_rfl) ?_
        obtain ⟨x63,e_x63,h⟩ := lt_some h
        obtain ⟨v68,v69,c_v68,h⟩ := cl2_some h
        refine T_draw' (id:=23) [7,8,15] [0,0,0,0,0,0,0,0,0,2,2,2,0,0,2,0,3] (by kernel_rfl) (by kernel_rfl) (by kernel_rfl) (by kernel_rfl) [(107,.lf (.own 72 0)),(108,vi (0 : Int)),(109,.lf (.own 72 0)),(110,vi x39),(111,vi x63),(112,.lf (.own 72 0)),(113,vi (0 : Int)),(118,.lf (.own 72 0)),(119,.lf (.own 72 7))] (by kernel_rfl) (wfs_lf _ (by kernel_rfl)) ?_
        refine Stage_te (stage_all' [0,1,2,3,4,5,6,12,13] [] (by kernel_rfl) (by subst e_x63;kernel_rfl) (by kernel_rfl) trivial) (TE_lendT (d:=114) (f:=74) 72 b41 (c:=[.one (.v (.slice Au0_0 (u0_0.length) cu0_0)),.arr .i64 4 u0_1,.one (.v (.int .i64 x35)),.one (.v (.slice A45 (v43.length) c46)),.one (.v (.slice none (List.length ([] : List (List Int))) 0)),.one (.v (.slice none (List.length ([] : List (List Int))) 0)),.one (.v (.slice none (List.length ([] : List (List Int))) 0)),.one (.v (.slice none (List.length ([] : List (List Int))) 0))]) (args:=[rval (.lf (.v (.pointer (some ⟨b41,0,none⟩)))),rval (vi (0 : Int))]) (by kernel_rfl) (by subst e_x63;kernel_rfl) (by kernel_rfl) (by subst e_x63;kernel_rfl) (by subst e_x63;kernel_rfl) (fun _ => w74) ?_) 
        rintro _ M66 M67 hb0 - e_M67 hM67 ⟨q64,q65,rfl,fq64,fq65,nq64,nq65⟩ -
        replace fq64 := memCell_rem e_M67 fq64 nq64
        replace fq65 := memCell_rem e_M67 fq65 nq65
        refine TL_nil (stageQ_of [] (by kernel_rfl) trivial ?_)
        refine Stage_te (stage_all' [0,1,2,3,4,12,13] [] (by kernel_rfl) (by subst e_x63;kernel_rfl) (by kernel_rfl) trivial) (TE_lendT (d:=115) (f:=72) 72 b41 (c:=[.one (.v (.slice Au0_0 (u0_0.length) cu0_0)),.arr .i64 4 u0_1,.one (.v (.int .i64 x35)),.one (.v (.slice A45 (v43.length) c46)),.one (.v (.slice none (List.length ([] : List (List Int))) 0)),.one (.v (.slice none (List.length ([] : List (List Int))) 0)),.one (.v (.slice none (List.length ([] : List (List Int))) 0)),.one (.v (.slice none (List.length ([] : List (List Int))) 0))]) (args:=[rval (.lf (.v (.pointer (some ⟨b41,0,none⟩)))),rval (vi x63),rval (.lf (.v (.func (.func 84) #[] #[(.pointer (some ⟨q64,0,none⟩)),(.pointer (some ⟨q65,0,none⟩))])))]) (by kernel_rfl) (by subst e_x63;kernel_rfl) (by kernel_rfl) (by subst e_x63;kernel_rfl) (by subst e_x63;kernel_rfl) (fun hb0 => w72b k (Crs_mk (addM_at _ _ _) hu0_1 (((((hu0_0.le hM4).le hM9).le hM48).le hM67).le (addM_le hb0)) ((fA45.le hM67).le (addM_le hb0)) (nilR _ _ _ _) (nilR _ _ _ _) (nilR _ _ _ _) (nilR _ _ _ _)) (memCell_le (addM_le hb0) fq64) (memCell_le (addM_le hb0) fq65) c_v68) ?_) 
        rintro _ M72 M73 hb0 - e_M73 hM73 ⟨A70,c71,rfl,fA70,nA70⟩ -
        replace fA70 := SlR.rem e_M73 fA70 nA70
        refine TL_nil (stageQ_of [(106,.tup [(some (.v (.slice A70 (v68.length) c71)),[]),(some (.v (.bool v69)),[])]),(116,.lf (.v (.slice A70 (v68.length) c71))),(117,vb v69),(120,.lf (.own 72 7))] (by kernel_rfl) ⟨(by intro y hy; simp only [List.mem_cons,List.mem_nil_iff,or_false] at hy; rcases hy with rfl | rfl <;> exact trivial),⟨trivial,⟨trivial,⟨trivial,trivial⟩⟩⟩⟩ ?_)
        refine Stage_ex (stage_all' [0,1,9,10,11,12,13,14] [] (by kernel_rfl) (by subst e_x63;kernel_rfl) (by kernel_rfl) trivial) ({ σ := [(106,.tup [(some (.v (.slice A70 (v68.length) c71)),[]),(some (.v (.bool v69)),[])]),(116,.lf (.v (.slice A70 (v68.length) c71))),(117,vb v69),(120,.lf (.own 72 7)),(115,.tup [(some (.v (.slice A70 (v68.length) c71)),[]),(some (.v (.bool v69)),[])]),(114,.lf (.v (.func (.func 84) #[] #[(.pointer (some ⟨q64,0,none⟩)),(.pointer (some ⟨q65,0,none⟩))]))),(107,.lf (.own 72 0)),(108,vi (0 : Int)),(109,.lf (.own 72 0)),(110,vi x39),(111,vi x63),(112,.lf (.own 72 0)),(113,vi (0 : Int)),(118,.lf (.own 72 0)),(119,.lf (.own 72 7)),(7,.lf (.own 72 0)),(8,vi x39),(10,vi (0 : Int)),(103,vi (0 : Int))],H := [(72,[.one (.v (.slice Au0_0 (u0_0.length) cu0_0)),.arr .i64 4 u0_1,.one (.v (.int .i64 x35)),.one (.v (.slice A45 (v43.length) c46)),.one (.v (.slice A70 (v68.length) c71)),.one (.v (.slice none (List.length ([] : List (List Int))) 0)),.one (.v (.slice none (List.length ([] : List (List Int))) 0)),.one (.v (.slice none (List.length ([] : List (List Int))) 0))]),(72,[.one (.v (.slice Au0_0 (u0_0.length) cu0_0)),.arr .i64 4 u0_1,.one (.v (.int .i64 x35)),.one (.v (.slice A45 (v43.length) c46)),.one (.v (.slice none (List.length ([] : List (List Int))) 0)),.one (.v (.slice none (List.length ([] : List (List Int))) 0)),.one (.v (.slice none (List.length ([] : List (List Int))) 0)),.one (.v (.slice none (List.length ([] : List (List Int))) 0))])],V := [],M := M73,ds := [],ats := [(72,b41)] }) (by subst e_x63;kernel_rfl) [(9,vb v69)] (by kernel_rfl) ⟨trivial,trivial⟩ ?_
        refine Stage_nil (stage_all' [11,16] [] (by kernel_rfl) (by subst e_x63;kernel_rfl) (by kernel_rfl) trivial) ?_
        refine thenQ_n ?_
        refine T_keep (s':={ σ := [(7,.lf (.own 72 0)),(8,vi x39),(9,vb v69),(103,vi (0 : Int))],H := [(72,[.one (.v (.slice Au0_0 (u0_0.length) cu0_0)),.arr .i64 4 u0_1,.one (.v (.int .i64 x35)),.one (.v (.slice A45 (v43.length) c46)),.one (.v (.slice A70 (v68.length) c71)),.one (.v (.slice none (List.length ([] : List (List Int))) 0)),.one (.v (.slice none (List.length ([] : List (List Int))) 0)),.one (.v (.slice none (List.length ([] : List (List Int))) 0))])],V := [],M := M73,ds := [],ats := [(72,b41)] }) [7,8,9,103] [72] [] (by subst e_x63;kernel_rfl) ?_
        refine T_seq (c1:=(sub [1,1,1,1,1,1,1,1,1,0,1,0,0,1,1,0,0,1,1,0] Bd46)) (c2:=(sub [1,1,1,1,1,1,1,1,1,0,1,0,0,1,1,0,0,1,1,1] Bd46)) (by kernel_rfl) ?_
        refine T_region (id:=24) (by kernel_rfl) ?_
        refine TI_segS (i:=0) (j:=2) [(7,.lf (.own 72 0)),(8,vi x39),(103,vi (0 : Int)),(122,vb (!v69))] (by kernel_rfl) (by kernel_rfl) ?_
        refine TI_end (by kernel_rfl) ?_
        refine thenQ_n ?_
        cases v69 with
        | true =>
         replace h := sp_t h
         refine T_condF (x:=(.tmp 122)) (c1:=(sub [1,1,1,1,1,1,1,1,1,0,1,0,0,1,1,0,0,1,1,1,0] Bd46)) (c2:=(sub [1,1,1,1,1,1,1,1,1,0,1,0,0,1,1,0,0,1,1,1,1] Bd46)) (by kernel_rfl) (by kernel_rfl) ?_
         refine T_keepS [(7,.lf (.own 72 0)),(8,vi x39),(103,vi (0 : Int))] (by kernel_rfl) ?_
         refine T_skip (by kernel_rfl) ?_
         refine blockQ_n ?_
         refine thenQ_n ?_
         refine T_region (id:=26) (by kernel_rfl) ?_
         refine TI_segS (i:=0) (j:=2) [(7,.lf (.own 72 0)),(8,vi x39),(103,vi (1 : Int))] (by kernel_rfl) (by kernel_rfl) ?_
         refine TI_end (by kernel_rfl) ?_
         refine thenQ_n ?_
         refine UN_s ?_
         refine T_seq (c1:=(sub [1,1,1,1,1,1,1,1,1,0,1,0,0,0] Bd46)) (c2:=(sub [1,1,1,1,1,1,1,1,1,0,1,0,0,1] Bd46)) (by kernel_rfl) ?_
         refine T_region (id:=21) (by kernel_rfl) ?_
         refine TI_segS (i:=0) (j:=1) [(7,.lf (.own 72 0)),(8,vi x39),(103,vi (1 : Int)),(104,vb true)] (by kernel_rfl) (by kernel_rfl) ?_
         refine TI_end (by kernel_rfl) ?_
         refine thenQ_n ?_
         refine T_seq (c1:=(sub [1,1,1,1,1,1,1,1,1,0,1,0,0,1,0] Bd46)) (c2:=(sub [1,1,1,1,1,1,1,1,1,0,1,0,0,1,1] Bd46)) (by kernel_rfl) ?_
         refine T_condT (x:=(.tmp 104)) (c1:=(sub [1,1,1,1,1,1,1,1,1,0,1,0,0,1,0,0] Bd46)) (c2:=(sub [1,1,1,1,1,1,1,1,1,0,1,0,0,1,0,1] Bd46)) (by kernel_rfl) (by kernel_rfl) ?_
         refine T_skip (by kernel_rfl) ?_
         refine thenQ_n ?_
         refine T_seq (c1:=(sub [1,1,1,1,1,1,1,1,1,0,1,0,0,1,1,0] Bd46)) (c2:=(sub [1,1,1,1,1,1,1,1,1,0,1,0,0,1,1,1] Bd46)) (by kernel_rfl) ?_
         refine T_block (id:=3) (c1:=(sub [1,1,1,1,1,1,1,1,1,0,1,0,0,1,1,0,0] Bd46)) (by kernel_rfl) ?_
         refine T_seq (c1:=(sub [1,1,1,1,1,1,1,1,1,0,1,0,0,1,1,0,0,0] Bd46)) (c2:=(sub [1,1,1,1,1,1,1,1,1,0,1,0,0,1,1,0,0,1] Bd46)) (by kernel_rfl) ?_
         refine T_region (id:=22) (by kernel_rfl) ?_
         refine TI_segS (i:=0) (j:=2) [(7,.lf (.own 72 0)),(8,vi x39),(10,vi (1 : Int)),(103,vi (1 : Int))] (by kernel_rfl) (by kernel_rfl) ?_
         refine TI_end (by kernel_rfl) ?_
         refine thenQ_n ?_
         refine T_seq (c1:=(sub [1,1,1,1,1,1,1,1,1,0,1,0,0,1,1,0,0,1,0] Bd46)) (c2:=(sub [1,1,1,1,1,1,1,1,1,0,1,0,0,1,1,0,0,1,1] Bd46)) (by kernel_rfl) ?_
         obtain ⟨x74,e_x74,h⟩ := lt_some h
         obtain ⟨v79,v80,c_v79,h⟩ := cl2_some h
         refine T_draw' (id:=23) [7,8,15] [0,0,0,0,0,0,0,0,0,2,2,2,0,0,2,0,3] (by kernel_rfl) (by kernel_rfl) (by kernel_rfl) (by kernel_rfl) [(107,.lf (.own 72 0)),(108,vi (1 : Int)),(109,.lf (.own 72 0)),(110,vi x39),(111,vi x74),(112,.lf (.own 72 0)),(113,vi (1 : Int)),(118,.lf (.own 72 0)),(119,.lf (.own 72 7))] (by kernel_rfl) (wfs_lf _ (by kernel_rfl)) ?_
         refine Stage_te (stage_all' [0,1,2,3,4,5,6,12,13] [] (by kernel_rfl) (by subst e_x74;kernel_rfl) (by kernel_rfl) trivial) (TE_lendT (d:=114) (f:=74) 72 b41 (c:=[.one (.v (.slice Au0_0 (u0_0.length) cu0_0)),.arr .i64 4 u0_1,.one (.v (.int .i64 x35)),.one (.v (.slice A45 (v43.length) c46)),.one (.v (.slice A70 (v68.length) c71)),.one (.v (.slice none (List.length ([] : List (List Int))) 0)),.one (.v (.slice none (List.length ([] : List (List Int))) 0)),.one (.v (.slice none (List.length ([] : List (List Int))) 0))]) (args:=[rval (.lf (.v (.pointer (some ⟨b41,0,none⟩)))),rval (vi (1 : Int))]) (by kernel_rfl) (by subst e_x74;kernel_rfl) (by kernel_rfl) (by subst e_x74;kernel_rfl) (by subst e_x74;kernel_rfl) (fun _ => w74) ?_) 
         rintro _ M77 M78 hb0 - e_M78 hM78 ⟨q75,q76,rfl,fq75,fq76,nq75,nq76⟩ -
         replace fq75 := memCell_rem e_M78 fq75 nq75
         replace fq76 := memCell_rem e_M78 fq76 nq76
         refine TL_nil (stageQ_of [] (by kernel_rfl) trivial ?_)
         refine Stage_te (stage_all' [0,1,2,3,4,12,13] [] (by kernel_rfl) (by subst e_x74;kernel_rfl) (by kernel_rfl) trivial) (TE_lendT (d:=115) (f:=72) 72 b41 (c:=[.one (.v (.slice Au0_0 (u0_0.length) cu0_0)),.arr .i64 4 u0_1,.one (.v (.int .i64 x35)),.one (.v (.slice A45 (v43.length) c46)),.one (.v (.slice A70 (v68.length) c71)),.one (.v (.slice none (List.length ([] : List (List Int))) 0)),.one (.v (.slice none (List.length ([] : List (List Int))) 0)),.one (.v (.slice none (List.length ([] : List (List Int))) 0))]) (args:=[rval (.lf (.v (.pointer (some ⟨b41,0,none⟩)))),rval (vi x74),rval (.lf (.v (.func (.func 84) #[] #[(.pointer (some ⟨q75,0,none⟩)),(.pointer (some ⟨q76,0,none⟩))])))]) (by kernel_rfl) (by subst e_x74;kernel_rfl) (by kernel_rfl) (by subst e_x74;kernel_rfl) (by subst e_x74;kernel_rfl) (fun hb0 => w72b k (Crs_mk (addM_at _ _ _) hu0_1 (((((((hu0_0.le hM4).le hM9).le hM48).le hM67).le hM73).le hM78).le (addM_le hb0)) ((((fA45.le hM67).le hM73).le hM78).le (addM_le hb0)) ((fA70.le hM78).le (addM_le hb0)) (nilR _ _ _ _) (nilR _ _ _ _) (nilR _ _ _ _)) (memCell_le (addM_le hb0) fq75) (memCell_le (addM_le hb0) fq76) c_v79) ?_) 
         rintro _ M83 M84 hb0 - e_M84 hM84 ⟨A81,c82,rfl,fA81,nA81⟩ -
         replace fA81 := SlR.rem e_M84 fA81 nA81
         refine TL_nil (stageQ_of [(106,.tup [(some (.v (.slice A81 (v79.length) c82)),[]),(some (.v (.bool v80)),[])]),(116,.lf (.v (.slice A81 (v79.length) c82))),(117,vb v80),(120,.lf (.own 72 8))] (by kernel_rfl) ⟨(by intro y hy; simp only [List.mem_cons,List.mem_nil_iff,or_false] at hy; rcases hy with rfl | rfl <;> exact trivial),⟨trivial,⟨trivial,⟨trivial,trivial⟩⟩⟩⟩ ?_)
         refine Stage_ex (stage_all' [0,1,9,10,11,12,13,14] [] (by kernel_rfl) (by subst e_x74;kernel_rfl) (by kernel_rfl) trivial) ({ σ := [(106,.tup [(some (.v (.slice A81 (v79.length) c82)),[]),(some (.v (.bool v80)),[])]),(116,.lf (.v (.slice A81 (v79.length) c82))),(117,vb v80),(120,.lf (.own 72 8)),(115,.tup [(some (.v (.slice A81 (v79.length) c82)),[]),(some (.v (.bool v80)),[])]),(114,.lf (.v (.func (.func 84) #[] #[(.pointer (some ⟨q75,0,none⟩)),(.pointer (some ⟨q76,0,none⟩))]))),(107,.lf (.own 72 0)),(108,vi (1 : Int)),(109,.lf (.own 72 0)),(110,vi x39),(111,vi x74),(112,.lf (.own 72 0)),(113,vi (1 : Int)),(118,.lf (.own 72 0)),(119,.lf (.own 72 7)),(7,.lf (.own 72 0)),(8,vi x39),(10,vi (1 : Int)),(103,vi (1 : Int))],H := [(72,[.one (.v (.slice Au0_0 (u0_0.length) cu0_0)),.arr .i64 4 u0_1,.one (.v (.int .i64 x35)),.one (.v (.slice A45 (v43.length) c46)),.one (.v (.slice A70 (v68.length) c71)),.one (.v (.slice A81 (v79.length) c82)),.one (.v (.slice none (List.length ([] : List (List Int))) 0)),.one (.v (.slice none (List.length ([] : List (List Int))) 0))]),(72,[.one (.v (.slice Au0_0 (u0_0.length) cu0_0)),.arr .i64 4 u0_1,.one (.v (.int .i64 x35)),.one (.v (.slice A45 (v43.length) c46)),.one (.v (.slice A70 (v68.length) c71)),.one (.v (.slice none (List.length ([] : List (List Int))) 0)),.one (.v (.slice none (List.length ([] : List (List Int))) 0)),.one (.v (.slice none (List.length ([] : List (List Int))) 0))])],V := [],M := M84,ds := [],ats := [(72,b41)] }) (by subst e_x74;kernel_rfl) [(9,vb v80)] (by kernel_rfl) ⟨trivial,trivial⟩ ?_
         refine Stage_nil (stage_all' [11,16] [] (by kernel_rfl) (by subst e_x74;kernel_rfl) (by kernel_rfl) trivial) ?_
         refine thenQ_n ?_
         refine T_keep (s':={ σ := [(7,.lf (.own 72 0)),(8,vi x39),(9,vb v80),(103,vi (1 : Int))],H := [(72,[.one (.v (.slice Au0_0 (u0_0.length) cu0_0)),.arr .i64 4 u0_1,.one (.v (.int .i64 x35)),.one (.v (.slice A45 (v43.length) c46)),.one (.v (.slice A70 (v68.length) c71)),.one (.v (.slice A81 (v79.length) c82)),.one (.v (.slice none (List.length ([] : List (List Int))) 0)),.one (.v (.slice none (List.length ([] : List (List Int))) 0))])],V := [],M := M84,ds := [],ats := [(72,b41)] }) [7,8,9,103] [72] [] (by subst e_x74;kernel_rfl) ?_
         refine T_seq (c1:=(sub [1,1,1,1,1,1,1,1,1,0,1,0,0,1,1,0,0,1,1,0] Bd46)) (c2:=(sub [1,1,1,1,1,1,1,1,1,0,1,0,0,1,1,0,0,1,1,1] Bd46)) (by kernel_rfl) ?_
         refine T_region (id:=24) (by kernel_rfl) ?_
         refine TI_segS (i:=0) (j:=2) [(7,.lf (.own 72 0)),(8,vi x39),(103,vi (1 : Int)),(122,vb (!v80))] (by kernel_rfl) (by kernel_rfl) ?_
         refine TI_end (by kernel_rfl) ?_
         refine thenQ_n ?_
         cases v80 with
         | true =>
          replace h := sp_t h
          refine T_condF (x:=(.tmp 122)) (c1:=(sub [1,1,1,1,1,1,1,1,1,0,1,0,0,1,1,0,0,1,1,1,0] Bd46)) (c2:=(sub [1,1,1,1,1,1,1,1,1,0,1,0,0,1,1,0,0,1,1,1,1] Bd46)) (by kernel_rfl) (by kernel_rfl) ?_
          refine T_keepS [(7,.lf (.own 72 0)),(8,vi x39),(103,vi (1 : Int))] (by kernel_rfl) ?_
          refine T_skip (by kernel_rfl) ?_
          refine blockQ_n ?_
          refine thenQ_n ?_
          refine T_region (id:=26) (by kernel_rfl) ?_
          refine TI_segS (i:=0) (j:=2) [(7,.lf (.own 72 0)),(8,vi x39),(103,vi (2 : Int))] (by kernel_rfl) (by kernel_rfl) ?_
          refine TI_end (by kernel_rfl) ?_
          refine thenQ_n ?_
          refine UN_s ?_
          refine T_seq (c1:=(sub [1,1,1,1,1,1,1,1,1,0,1,0,0,0] Bd46)) (c2:=(sub [1,1,1,1,1,1,1,1,1,0,1,0,0,1] Bd46)) (by kernel_rfl) ?_
          refine T_region (id:=21) (by kernel_rfl) ?_
          refine TI_segS (i:=0) (j:=1) [(7,.lf (.own 72 0)),(8,vi x39),(103,vi (2 : Int)),(104,vb true)] (by kernel_rfl) (by kernel_rfl) ?_
          refine TI_end (by kernel_rfl) ?_
          refine thenQ_n ?_
          refine T_seq (c1:=(sub [1,1,1,1,1,1,1,1,1,0,1,0,0,1,0] Bd46)) (c2:=(sub [1,1,1,1,1,1,1,1,1,0,1,0,0,1,1] Bd46)) (by kernel_rfl) ?_
          refine T_condT (x:=(.tmp 104)) (c1:=(sub [1,1,1,1,1,1,1,1,1,0,1,0,0,1,0,0] Bd46)) (c2:=(sub [1,1,1,1,1,1,1,1,1,0,1,0,0,1,0,1] Bd46)) (by kernel_rfl) (by kernel_rfl) ?_
          refine T_skip (by kernel_rfl) ?_
          refine thenQ_n ?_
          refine T_seq (c1:=(sub [1,1,1,1,1,1,1,1,1,0,1,0,0,1,1,0] Bd46)) (c2:=(sub [1,1,1,1,1,1,1,1,1,0,1,0,0,1,1,1] Bd46)) (by kernel_rfl) ?_
          refine T_block (id:=3) (c1:=(sub [1,1,1,1,1,1,1,1,1,0,1,0,0,1,1,0,0] Bd46)) (by kernel_rfl) ?_
          refine T_seq (c1:=(sub [1,1,1,1,1,1,1,1,1,0,1,0,0,1,1,0,0,0] Bd46)) (c2:=(sub [1,1,1,1,1,1,1,1,1,0,1,0,0,1,1,0,0,1] Bd46)) (by kernel_rfl) ?_
          refine T_region (id:=22) (by kernel_rfl) ?_
          refine TI_segS (i:=0) (j:=2) [(7,.lf (.own 72 0)),(8,vi x39),(10,vi (2 : Int)),(103,vi (2 : Int))] (by kernel_rfl) (by kernel_rfl) ?_
          refine TI_end (by kernel_rfl) ?_
          refine thenQ_n ?_
          refine T_seq (c1:=(sub [1,1,1,1,1,1,1,1,1,0,1,0,0,1,1,0,0,1,0] Bd46)) (c2:=(sub [1,1,1,1,1,1,1,1,1,0,1,0,0,1,1,0,0,1,1] Bd46)) (by kernel_rfl) ?_
          obtain ⟨x85,e_x85,h⟩ := lt_some h
          obtain ⟨v90,v91,c_v90,h⟩ := cl2_some h
          refine T_draw' (id:=23) [7,8,15] [0,0,0,0,0,0,0,0,0,2,2,2,0,0,2,0,3] (by kernel_rfl) (by kernel_rfl) (by kernel_rfl) (by kernel_rfl) [(107,.lf (.own 72 0)),(108,vi (2 : Int)),(109,.lf (.own 72 0)),(110,vi x39),(111,vi x85),(112,.lf (.own 72 0)),(113,vi (2 : Int)),(118,.lf (.own 72 0)),(119,.lf (.own 72 7))] (by kernel_rfl) (wfs_lf _ (by kernel_rfl)) ?_
          refine Stage_te (stage_all' [0,1,2,3,4,5,6,12,13] [] (by kernel_rfl) (by subst e_x85;kernel_rfl) (by kernel_rfl) trivial) (TE_lendT (d:=114) (f:=74) 72 b41 (c:=[.one (.v (.slice Au0_0 (u0_0.length) cu0_0)),.arr .i64 4 u0_1,.one (.v (.int .i64 x35)),.one (.v (.slice A45 (v43.length) c46)),.one (.v (.slice A70 (v68.length) c71)),.one (.v (.slice A81 (v79.length) c82)),.one (.v (.slice none (List.length ([] : List (List Int))) 0)),.one (.v (.slice none (List.length ([] : List (List Int))) 0))]) (args:=[rval (.lf (.v (.pointer (some ⟨b41,0,none⟩)))),rval (vi (2 : Int))]) (by kernel_rfl) (by subst e_x85;kernel_rfl) (by kernel_rfl) (by subst e_x85;kernel_rfl) (by subst e_x85;kernel_rfl) (fun _ => w74) ?_) 
          rintro _ M88 M89 hb0 - e_M89 hM89 ⟨q86,q87,rfl,fq86,fq87,nq86,nq87⟩ -
          replace fq86 := memCell_rem e_M89 fq86 nq86
          replace fq87 := memCell_rem e_M89 fq87 nq87
          refine TL_nil (stageQ_of [] (by kernel_rfl) trivial ?_)
          refine Stage_te (stage_all' [0,1,2,3,4,12,13] [] (by kernel_rfl) (by subst e_x85;kernel_rfl) (by kernel_rfl) trivial) (TE_lendT (d:=115) (f:=72) 72 b41 (c:=[.one (.v (.slice Au0_0 (u0_0.length) cu0_0)),.arr .i64 4 u0_1,.one (.v (.int .i64 x35)),.one (.v (.slice A45 (v43.length) c46)),.one (.v (.slice A70 (v68.length) c71)),.one (.v (.slice A81 (v79.length) c82)),.one (.v (.slice none (List.length ([] : List (List Int))) 0)),.one (.v (.slice none (List.length ([] : List (List Int))) 0))]) (args:=[rval (.lf (.v (.pointer (some ⟨b41,0,none⟩)))),rval (vi x85),rval (.lf (.v (.func (.func 84) #[] #[(.pointer (some ⟨q86,0,none⟩)),(.pointer (some ⟨q87,0,none⟩))])))]) (by kernel_rfl) (by subst e_x85;kernel_rfl) (by kernel_rfl) (by subst e_x85;kernel_rfl) (by subst e_x85;kernel_rfl) (fun hb0 => w72b k (Crs_mk (addM_at _ _ _) hu0_1 (((((((((hu0_0.le hM4).le hM9).le hM48).le hM67).le hM73).le hM78).le hM84).le hM89).le (addM_le hb0)) ((((((fA45.le hM67).le hM73).le hM78).le hM84).le hM89).le (addM_le hb0)) ((((fA70.le hM78).le hM84).le hM89).le (addM_le hb0)) ((fA81.le hM89).le (addM_le hb0)) (nilR _ _ _ _) (nilR _ _ _ _)) (memCell_le (addM_le hb0) fq86) (memCell_le (addM_le hb0) fq87) c_v90) ?_) 
          rintro _ M94 M95 hb0 - e_M95 hM95 ⟨A92,c93,rfl,fA92,nA92⟩ -
          replace fA92 := SlR.rem e_M95 fA92 nA92
          refine TL_nil (stageQ_of [(106,.tup [(some (.v (.slice A92 (v90.length) c93)),[]),(some (.v (.bool v91)),[])]),(116,.lf (.v (.slice A92 (v90.length) c93))),(117,vb v91),(120,.lf (.own 72 9))] (by kernel_rfl) ⟨(by intro y hy; simp only [List.mem_cons,List.mem_nil_iff,or_false] at hy; rcases hy with rfl | rfl <;> exact trivial),⟨trivial,⟨trivial,⟨trivial,trivial⟩⟩⟩⟩ ?_)
          refine Stage_ex (stage_all' [0,1,9,10,11,12,13,14] [] (by kernel_rfl) (by subst e_x85;kernel_rfl) (by kernel_rfl) trivial) ({ σ := [(106,.tup [(some (.v (.slice A92 (v90.length) c93)),[]),(some (.v (.bool v91)),[])]),(116,.lf (.v (.slice A92 (v90.length) c93))),(117,vb v91),(120,.lf (.own 72 9)),(115,.tup [(some (.v (.slice A92 (v90.length) c93)),[]),(some (.v (.bool v91)),[])]),(114,.lf (.v (.func (.func 84) #[] #[(.pointer (some ⟨q86,0,none⟩)),(.pointer (some ⟨q87,0,none⟩))]))),(107,.lf (.own 72 0)),(108,vi (2 : Int)),(109,.lf (.own 72 0)),(110,vi x39),(111,vi x85),(112,.lf (.own 72 0)),(113,vi (2 : Int)),(118,.lf (.own 72 0)),(119,.lf (.own 72 7)),(7,.lf (.own 72 0)),(8,vi x39),(10,vi (2 : Int)),(103,vi (2 : Int))],H := [(72,[.one (.v (.slice Au0_0 (u0_0.length) cu0_0)),.arr .i64 4 u0_1,.one (.v (.int .i64 x35)),.one (.v (.slice A45 (v43.length) c46)),.one (.v (.slice A70 (v68.length) c71)),.one (.v (.slice A81 (v79.length) c82)),.one (.v (.slice A92 (v90.length) c93)),.one (.v (.slice none (List.length ([] : List (List Int))) 0))]),(72,[.one (.v (.slice Au0_0 (u0_0.length) cu0_0)),.arr .i64 4 u0_1,.one (.v (.int .i64 x35)),.one (.v (.slice A45 (v43.length) c46)),.one (.v (.slice A70 (v68.length) c71)),.one (.v (.slice A81 (v79.length) c82)),.one (.v (.slice none (List.length ([] : List (List Int))) 0)),.one (.v (.slice none (List.length ([] : List (List Int))) 0))])],V := [],M := M95,ds := [],ats := [(72,b41)] }) (by subst e_x85;kernel_rfl) [(9,vb v91)] (by kernel_rfl) ⟨trivial,trivial⟩ ?_
          refine Stage_nil (stage_all' [11,16] [] (by kernel_rfl) (by subst e_x85;kernel_rfl) (by kernel_rfl) trivial) ?_
          refine thenQ_n ?_
          refine T_keep (s':={ σ := [(7,.lf (.own 72 0)),(8,vi x39),(9,vb v91),(103,vi (2 : Int))],H := [(72,[.one (.v (.slice Au0_0 (u0_0.length) cu0_0)),.arr .i64 4 u0_1,.one (.v (.int .i64 x35)),.one (.v (.slice A45 (v43.length) c46)),.one (.v (.slice A70 (v68.length) c71)),.one (.v (.slice A81 (v79.length) c82)),.one (.v (.slice A92 (v90.length) c93)),.one (.v (.slice none (List.length ([] : List (List Int))) 0))])],V := [],M := M95,ds := [],ats := [(72,b41)] }) [7,8,9,103] [72] [] (by subst e_x85;kernel_rfl) ?_
          refine T_seq (c1:=(sub [1,1,1,1,1,1,1,1,1,0,1,0,0,1,1,0,0,1,1,0] Bd46)) (c2:=(sub [1,1,1,1,1,1,1,1,1,0,1,0,0,1,1,0,0,1,1,1] Bd46)) (by kernel_rfl) ?_
          refine T_region (id:=24) (by kernel_rfl) ?_
          refine TI_segS (i:=0) (j:=2) [(7,.lf (.own 72 0)),(8,vi x39),(103,vi (2 : Int)),(122,vb (!v91))] (by kernel_rfl) (by kernel_rfl) ?_
          refine TI_end (by kernel_rfl) ?_
          refine thenQ_n ?_
          cases v91 with
          | true =>
           replace h := sp_t h
           refine T_condF (x:=(.tmp 122)) (c1:=(sub [1,1,1,1,1,1,1,1,1,0,1,0,0,1,1,0,0,1,1,1,0] Bd46)) (c2:=(sub [1,1,1,1,1,1,1,1,1,0,1,0,0,1,1,0,0,1,1,1,1] Bd46)) (by kernel_rfl) (by kernel_rfl) ?_
           refine T_keepS [(7,.lf (.own 72 0)),(8,vi x39),(103,vi (2 : Int))] (by kernel_rfl) ?_
           refine T_skip (by kernel_rfl) ?_
           refine blockQ_n ?_
           refine thenQ_n ?_
           refine T_region (id:=26) (by kernel_rfl) ?_
           refine TI_segS (i:=0) (j:=2) [(7,.lf (.own 72 0)),(8,vi x39),(103,vi (3 : Int))] (by kernel_rfl) (by kernel_rfl) ?_
           refine TI_end (by kernel_rfl) ?_
           refine thenQ_n ?_
           refine UN_s ?_
           refine T_seq (c1:=(sub [1,1,1,1,1,1,1,1,1,0,1,0,0,0] Bd46)) (c2:=(sub [1,1,1,1,1,1,1,1,1,0,1,0,0,1] Bd46)) (by kernel_rfl) ?_
           refine T_region (id:=21) (by kernel_rfl) ?_
           refine TI_segS (i:=0) (j:=1) [(7,.lf (.own 72 0)),(8,vi x39),(103,vi (3 : Int)),(104,vb true)] (by kernel_rfl) (by kernel_rfl) ?_
           refine TI_end (by kernel_rfl) ?_
           refine thenQ_n ?_
           refine T_seq (c1:=(sub [1,1,1,1,1,1,1,1,1,0,1,0,0,1,0] Bd46)) (c2:=(sub [1,1,1,1,1,1,1,1,1,0,1,0,0,1,1] Bd46)) (by kernel_rfl) ?_
           refine T_condT (x:=(.tmp 104)) (c1:=(sub [1,1,1,1,1,1,1,1,1,0,1,0,0,1,0,0] Bd46)) (c2:=(sub [1,1,1,1,1,1,1,1,1,0,1,0,0,1,0,1] Bd46)) (by kernel_rfl) (by kernel_rfl) ?_
           refine T_skip (by kernel_rfl) ?_
           refine thenQ_n ?_
           refine T_seq (c1:=(sub [1,1,1,1,1,1,1,1,1,0,1,0,0,1,1,0] Bd46)) (c2:=(sub [1,1,1,1,1,1,1,1,1,0,1,0,0,1,1,1] Bd46)) (by kernel_rfl) ?_
           refine T_block (id:=3) (c1:=(sub [1,1,1,1,1,1,1,1,1,0,1,0,0,1,1,0,0] Bd46)) (by kernel_rfl) ?_
           refine T_seq (c1:=(sub [1,1,1,1,1,1,1,1,1,0,1,0,0,1,1,0,0,0] Bd46)) (c2:=(sub [1,1,1,1,1,1,1,1,1,0,1,0,0,1,1,0,0,1] Bd46)) (by kernel_rfl) ?_
           refine T_region (id:=22) (by kernel_rfl) ?_
           refine TI_segS (i:=0) (j:=2) [(7,.lf (.own 72 0)),(8,vi x39),(10,vi (3 : Int)),(103,vi (3 : Int))] (by kernel_rfl) (by kernel_rfl) ?_
           refine TI_end (by kernel_rfl) ?_
           refine thenQ_n ?_
           refine T_seq (c1:=(sub [1,1,1,1,1,1,1,1,1,0,1,0,0,1,1,0,0,1,0] Bd46)) (c2:=(sub [1,1,1,1,1,1,1,1,1,0,1,0,0,1,1,0,0,1,1] Bd46)) (by kernel_rfl) ?_
           obtain ⟨x96,e_x96,h⟩ := lt_some h
           obtain ⟨v101,v102,c_v101,h⟩ := cl2_some h
           refine T_draw' (id:=23) [7,8,15] [0,0,0,0,0,0,0,0,0,2,2,2,0,0,2,0,3] (by kernel_rfl) (by kernel_rfl) (by kernel_rfl) (by kernel_rfl) [(107,.lf (.own 72 0)),(108,vi (3 : Int)),(109,.lf (.own 72 0)),(110,vi x39),(111,vi x96),(112,.lf (.own 72 0)),(113,vi (3 : Int)),(118,.lf (.own 72 0)),(119,.lf (.own 72 7))] (by kernel_rfl) (wfs_lf _ (by kernel_rfl)) ?_
           refine Stage_te (stage_all' [0,1,2,3,4,5,6,12,13] [] (by kernel_rfl) (by subst e_x96;kernel_rfl) (by kernel_rfl) trivial) (TE_lendT (d:=114) (f:=74) 72 b41 (c:=[.one (.v (.slice Au0_0 (u0_0.length) cu0_0)),.arr .i64 4 u0_1,.one (.v (.int .i64 x35)),.one (.v (.slice A45 (v43.length) c46)),.one (.v (.slice A70 (v68.length) c71)),.one (.v (.slice A81 (v79.length) c82)),.one (.v (.slice A92 (v90.length) c93)),.one (.v (.slice none (List.length ([] : List (List Int))) 0))]) (args:=[rval (.lf (.v (.pointer (some ⟨b41,0,none⟩)))),rval (vi (3 : Int))]) (by kernel_rfl) (by subst e_x96;kernel_rfl) (by kernel_rfl) (by subst e_x96;kernel_rfl) (by subst e_x96;kernel_rfl) (fun _ => w74) ?_) 
           rintro _ M99 M100 hb0 - e_M100 hM100 ⟨q97,q98,rfl,fq97,fq98,nq97,nq98⟩ -
           replace fq97 := memCell_rem e_M100 fq97 nq97
           replace fq98 := memCell_rem e_M100 fq98 nq98
           refine TL_nil (stageQ_of [] (by kernel_rfl) trivial ?_)
           refine Stage_te (stage_all' [0,1,2,3,4,12,13] [] (by kernel_rfl) (by subst e_x96;kernel_rfl) (by kernel_rfl) trivial) (TE_lendT (d:=115) (f:=72) 72 b41 (c:=[.one (.v (.slice Au0_0 (u0_0.length) cu0_0)),.arr .i64 4 u0_1,.one (.v (.int .i64 x35)),.one (.v (.slice A45 (v43.length) c46)),.one (.v (.slice A70 (v68.length) c71)),.one (.v (.slice A81 (v79.length) c82)),.one (.v (.slice A92 (v90.length) c93)),.one (.v (.slice none (List.length ([] : List (List Int))) 0))]) (args:=[rval (.lf (.v (.pointer (some ⟨b41,0,none⟩)))),rval (vi x96),rval (.lf (.v (.func (.func 84) #[] #[(.pointer (some ⟨q97,0,none⟩)),(.pointer (some ⟨q98,0,none⟩))])))]) (by kernel_rfl) (by subst e_x96;kernel_rfl) (by kernel_rfl) (by subst e_x96;kernel_rfl) (by subst e_x96;kernel_rfl) (fun hb0 => w72b k (Crs_mk (addM_at _ _ _) hu0_1 (((((((((((hu0_0.le hM4).le hM9).le hM48).le hM67).le hM73).le hM78).le hM84).le hM89).le hM95).le hM100).le (addM_le hb0)) ((((((((fA45.le hM67).le hM73).le hM78).le hM84).le hM89).le hM95).le hM100).le (addM_le hb0)) ((((((fA70.le hM78).le hM84).le hM89).le hM95).le hM100).le (addM_le hb0)) ((((fA81.le hM89).le hM95).le hM100).le (addM_le hb0)) ((fA92.le hM100).le (addM_le hb0)) (nilR _ _ _ _)) (memCell_le (addM_le hb0) fq97) (memCell_le (addM_le hb0) fq98) c_v101) ?_) 
           rintro _ M105 M106 hb0 - e_M106 hM106 ⟨A103,c104,rfl,fA103,nA103⟩ -
           replace fA103 := SlR.rem e_M106 fA103 nA103
           refine TL_nil (stageQ_of [(106,.tup [(some (.v (.slice A103 (v101.length) c104)),[]),(some (.v (.bool v102)),[])]),(116,.lf (.v (.slice A103 (v101.length) c104))),(117,vb v102),(120,.lf (.own 72 10))] (by kernel_rfl) ⟨(by intro y hy; simp only [List.mem_cons,List.mem_nil_iff,or_false] at hy; rcases hy with rfl | rfl <;> exact trivial),⟨trivial,⟨trivial,⟨trivial,trivial⟩⟩⟩⟩ ?_)
           refine Stage_ex (stage_all' [0,1,9,10,11,12,13,14] [] (by kernel_rfl) (by subst e_x96;kernel_rfl) (by kernel_rfl) trivial) ({ σ := [(106,.tup [(some (.v (.slice A103 (v101.length) c104)),[]),(some (.v (.bool v102)),[])]),(116,.lf (.v (.slice A103 (v101.length) c104))),(117,vb v102),(120,.lf (.own 72 10)),(115,.tup [(some (.v (.slice A103 (v101.length) c104)),[]),(some (.v (.bool v102)),[])]),(114,.lf (.v (.func (.func 84) #[] #[(.pointer (some ⟨q97,0,none⟩)),(.pointer (some ⟨q98,0,none⟩))]))),(107,.lf (.own 72 0)),(108,vi (3 : Int)),(109,.lf (.own 72 0)),(110,vi x39),(111,vi x96),(112,.lf (.own 72 0)),(113,vi (3 : Int)),(118,.lf (.own 72 0)),(119,.lf (.own 72 7)),(7,.lf (.own 72 0)),(8,vi x39),(10,vi (3 : Int)),(103,vi (3 : Int))],H := [(72,[.one (.v (.slice Au0_0 (u0_0.length) cu0_0)),.arr .i64 4 u0_1,.one (.v (.int .i64 x35)),.one (.v (.slice A45 (v43.length) c46)),.one (.v (.slice A70 (v68.length) c71)),.one (.v (.slice A81 (v79.length) c82)),.one (.v (.slice A92 (v90.length) c93)),.one (.v (.slice A103 (v101.length) c104))]),(72,[.one (.v (.slice Au0_0 (u0_0.length) cu0_0)),.arr .i64 4 u0_1,.one (.v (.int .i64 x35)),.one (.v (.slice A45 (v43.length) c46)),.one (.v (.slice A70 (v68.length) c71)),.one (.v (.slice A81 (v79.length) c82)),.one (.v (.slice A92 (v90.length) c93)),.one (.v (.slice none (List.length ([] : List (List Int))) 0))])],V := [],M := M106,ds := [],ats := [(72,b41)] }) (by subst e_x96;kernel_rfl) [(9,vb v102)] (by kernel_rfl) ⟨trivial,trivial⟩ ?_
           refine Stage_nil (stage_all' [11,16] [] (by kernel_rfl) (by subst e_x96;kernel_rfl) (by kernel_rfl) trivial) ?_
           refine thenQ_n ?_
           refine T_keep (s':={ σ := [(7,.lf (.own 72 0)),(8,vi x39),(9,vb v102),(103,vi (3 : Int))],H := [(72,[.one (.v (.slice Au0_0 (u0_0.length) cu0_0)),.arr .i64 4 u0_1,.one (.v (.int .i64 x35)),.one (.v (.slice A45 (v43.length) c46)),.one (.v (.slice A70 (v68.length) c71)),.one (.v (.slice A81 (v79.length) c82)),.one (.v (.slice A92 (v90.length) c93)),.one (.v (.slice A103 (v101.length) c104))])],V := [],M := M106,ds := [],ats := [(72,b41)] }) [7,8,9,103] [72] [] (by subst e_x96;kernel_rfl) ?_
           refine T_seq (c1:=(sub [1,1,1,1,1,1,1,1,1,0,1,0,0,1,1,0,0,1,1,0] Bd46)) (c2:=(sub [1,1,1,1,1,1,1,1,1,0,1,0,0,1,1,0,0,1,1,1] Bd46)) (by kernel_rfl) ?_
           refine T_region (id:=24) (by kernel_rfl) ?_
           refine TI_segS (i:=0) (j:=2) [(7,.lf (.own 72 0)),(8,vi x39),(103,vi (3 : Int)),(122,vb (!v102))] (by kernel_rfl) (by kernel_rfl) ?_
           refine TI_end (by kernel_rfl) ?_
           refine thenQ_n ?_
           cases v102 with
           | true =>
            replace h := sp_t h
            refine T_condF (x:=(.tmp 122)) (c1:=(sub [1,1,1,1,1,1,1,1,1,0,1,0,0,1,1,0,0,1,1,1,0] Bd46)) (c2:=(sub [1,1,1,1,1,1,1,1,1,0,1,0,0,1,1,0,0,1,1,1,1] Bd46)) (by kernel_rfl) (by kernel_rfl) ?_
            refine T_keepS [(7,.lf (.own 72 0)),(8,vi x39),(103,vi (3 : Int))] (by kernel_rfl) ?_
            refine T_skip (by kernel_rfl) ?_
            refine blockQ_n ?_
            refine thenQ_n ?_
            refine T_region (id:=26) (by kernel_rfl) ?_
            refine TI_segS (i:=0) (j:=2) [(7,.lf (.own 72 0)),(8,vi x39),(103,vi (4 : Int))] (by kernel_rfl) (by kernel_rfl) ?_
            refine TI_end (by kernel_rfl) ?_
            refine thenQ_n ?_
            refine UN_s ?_
            refine T_seq (c1:=(sub [1,1,1,1,1,1,1,1,1,0,1,0,0,0] Bd46)) (c2:=(sub [1,1,1,1,1,1,1,1,1,0,1,0,0,1] Bd46)) (by kernel_rfl) ?_
            refine T_region (id:=21) (by kernel_rfl) ?_
            refine TI_segS (i:=0) (j:=1) [(7,.lf (.own 72 0)),(8,vi x39),(103,vi (4 : Int)),(104,vb false)] (by kernel_rfl) (by kernel_rfl) ?_
            refine TI_end (by kernel_rfl) ?_
            refine thenQ_n ?_
            refine T_seq (c1:=(sub [1,1,1,1,1,1,1,1,1,0,1,0,0,1,0] Bd46)) (c2:=(sub [1,1,1,1,1,1,1,1,1,0,1,0,0,1,1] Bd46)) (by kernel_rfl) ?_
            refine T_condF (x:=(.tmp 104)) (c1:=(sub [1,1,1,1,1,1,1,1,1,0,1,0,0,1,0,0] Bd46)) (c2:=(sub [1,1,1,1,1,1,1,1,1,0,1,0,0,1,0,1] Bd46)) (by kernel_rfl) (by kernel_rfl) ?_
            refine T_exit (id:=2) (by kernel_rfl) ?_
            refine thenQ_x ?_
            refine thenQ_x ?_
            refine blockQ_x ?_
            refine thenQ_n ?_
            exact ⟨v68,v79,v90,v101,A70,c71,A81,c82,A92,c93,A103,c104,M106,keep_sub (ts:=[7]) (hs:=[72]) (vs:=[]) (by kernel_rfl),(Mem.le_trans (Mem.le_trans (Mem.le_trans (Mem.le_trans (Mem.le_trans (Mem.le_trans (Mem.le_trans (Mem.le_trans (Mem.le_refl _) hM67) hM73) hM78) hM84) hM89) hM95) hM100) hM106),((((((fA70.le hM78).le hM84).le hM89).le hM95).le hM100).le hM106),((((fA81.le hM89).le hM95).le hM100).le hM106),((fA92.le hM100).le hM106),fA103,h⟩
           | false =>
            replace h := sp_f h
            refine T_condT (x:=(.tmp 122)) (c1:=(sub [1,1,1,1,1,1,1,1,1,0,1,0,0,1,1,0,0,1,1,1,0] Bd46)) (c2:=(sub [1,1,1,1,1,1,1,1,1,0,1,0,0,1,1,0,0,1,1,1,1] Bd46)) (by kernel_rfl) (by kernel_rfl) ?_
            refine T_keep (s':={ σ := [],H := [],V := [],M := M106,ds := [],ats := [(72,b41)] }) [] [] [] (by kernel_rfl) ?_
            refine T_seq (c1:=(sub [1,1,1,1,1,1,1,1,1,0,1,0,0,1,1,0,0,1,1,1,0,0] Bd46)) (c2:=(sub [1,1,1,1,1,1,1,1,1,0,1,0,0,1,1,0,0,1,1,1,0,1] Bd46)) (by kernel_rfl) ?_
            refine T_region (id:=25) (by kernel_rfl) ?_
            refine TI_segS (i:=0) (j:=2) [(2,.lf (.v (.pointer none))),(3,vi (16 : Int))] (by kernel_rfl) (by kernel_rfl) ?_
            refine TI_end (by kernel_rfl) ?_
            refine thenQ_n ?_
            refine T_ret (by kernel_rfl) ?_
            refine blockQ_r ?_
            refine thenQ_r ?_
            refine thenQ_r ?_
            refine blockQ_r ?_
            refine thenQ_r ?_
            refine thenQ_r ?_
            have h := Option.some.inj h
            subst h
            refine fin_ret (.tup [(some (.v (.pointer none)),[]),(some (.v (.int .i64 (16 : Int))),[])]) (by kernel_rfl) (by kernel_rfl) rfl ?_
            exact ⟨(.pointer none),rfl,rfl⟩
          | false =>
           replace h := sp_f h
           refine T_condT (x:=(.tmp 122)) (c1:=(sub [1,1,1,1,1,1,1,1,1,0,1,0,0,1,1,0,0,1,1,1,0] Bd46)) (c2:=(sub [1,1,1,1,1,1,1,1,1,0,1,0,0,1,1,0,0,1,1,1,1] Bd46)) (by kernel_rfl) (by kernel_rfl) ?_
           refine T_keep (s':={ σ := [],H := [],V := [],M := M95,ds := [],ats := [(72,b41)] }) [] [] [] (by kernel_rfl) ?_
           refine T_seq (c1:=(sub [1,1,1,1,1,1,1,1,1,0,1,0,0,1,1,0,0,1,1,1,0,0] Bd46)) (c2:=(sub [1,1,1,1,1,1,1,1,1,0,1,0,0,1,1,0,0,1,1,1,0,1] Bd46)) (by kernel_rfl) ?_
           refine T_region (id:=25) (by kernel_rfl) ?_
           refine TI_segS (i:=0) (j:=2) [(2,.lf (.v (.pointer none))),(3,vi (16 : Int))] (by kernel_rfl) (by kernel_rfl) ?_
           refine TI_end (by kernel_rfl) ?_
           refine thenQ_n ?_
           refine T_ret (by kernel_rfl) ?_
           refine blockQ_r ?_
           refine thenQ_r ?_
           refine thenQ_r ?_
           refine blockQ_r ?_
           refine thenQ_r ?_
           refine thenQ_r ?_
           have h := Option.some.inj h
           subst h
           refine fin_ret (.tup [(some (.v (.pointer none)),[]),(some (.v (.int .i64 (16 : Int))),[])]) (by kernel_rfl) (by kernel_rfl) rfl ?_
           exact ⟨(.pointer none),rfl,rfl⟩
         | false =>
          replace h := sp_f h
          refine T_condT (x:=(.tmp 122)) (c1:=(sub [1,1,1,1,1,1,1,1,1,0,1,0,0,1,1,0,0,1,1,1,0] Bd46)) (c2:=(sub [1,1,1,1,1,1,1,1,1,0,1,0,0,1,1,0,0,1,1,1,1] Bd46)) (by kernel_rfl) (by kernel_rfl) ?_
          refine T_keep (s':={ σ := [],H := [],V := [],M := M84,ds := [],ats := [(72,b41)] }) [] [] [] (by kernel_rfl) ?_
          refine T_seq (c1:=(sub [1,1,1,1,1,1,1,1,1,0,1,0,0,1,1,0,0,1,1,1,0,0] Bd46)) (c2:=(sub [1,1,1,1,1,1,1,1,1,0,1,0,0,1,1,0,0,1,1,1,0,1] Bd46)) (by kernel_rfl) ?_
          refine T_region (id:=25) (by kernel_rfl) ?_
          refine TI_segS (i:=0) (j:=2) [(2,.lf (.v (.pointer none))),(3,vi (16 : Int))] (by kernel_rfl) (by kernel_rfl) ?_
          refine TI_end (by kernel_rfl) ?_
          refine thenQ_n ?_
          refine T_ret (by kernel_rfl) ?_
          refine blockQ_r ?_
          refine thenQ_r ?_
          refine thenQ_r ?_
          refine blockQ_r ?_
          refine thenQ_r ?_
          refine thenQ_r ?_
          have h := Option.some.inj h
          subst h
          refine fin_ret (.tup [(some (.v (.pointer none)),[]),(some (.v (.int .i64 (16 : Int))),[])]) (by kernel_rfl) (by kernel_rfl) rfl ?_
          exact ⟨(.pointer none),rfl,rfl⟩
        | false =>
         replace h := sp_f h
         refine T_condT (x:=(.tmp 122)) (c1:=(sub [1,1,1,1,1,1,1,1,1,0,1,0,0,1,1,0,0,1,1,1,0] Bd46)) (c2:=(sub [1,1,1,1,1,1,1,1,1,0,1,0,0,1,1,0,0,1,1,1,1] Bd46)) (by kernel_rfl) (by kernel_rfl) ?_
         refine T_keep (s':={ σ := [],H := [],V := [],M := M73,ds := [],ats := [(72,b41)] }) [] [] [] (by kernel_rfl) ?_
         refine T_seq (c1:=(sub [1,1,1,1,1,1,1,1,1,0,1,0,0,1,1,0,0,1,1,1,0,0] Bd46)) (c2:=(sub [1,1,1,1,1,1,1,1,1,0,1,0,0,1,1,0,0,1,1,1,0,1] Bd46)) (by kernel_rfl) ?_
         refine T_region (id:=25) (by kernel_rfl) ?_
         refine TI_segS (i:=0) (j:=2) [(2,.lf (.v (.pointer none))),(3,vi (16 : Int))] (by kernel_rfl) (by kernel_rfl) ?_
         refine TI_end (by kernel_rfl) ?_
         refine thenQ_n ?_
         refine T_ret (by kernel_rfl) ?_
         refine blockQ_r ?_
         refine thenQ_r ?_
         refine thenQ_r ?_
         refine blockQ_r ?_
         refine thenQ_r ?_
         refine thenQ_r ?_
         have h := Option.some.inj h
         subst h
         refine fin_ret (.tup [(some (.v (.pointer none)),[]),(some (.v (.int .i64 (16 : Int))),[])]) (by kernel_rfl) (by kernel_rfl) rfl ?_
         exact ⟨(.pointer none),rfl,rfl⟩
       ·rintro s' ⟨R49,R52,R55,R58,A50,c51,A53,c54,A56,c57,A59,c60,M61,hsub,hM61,f_A50,f_A53,f_A56,f_A59,h⟩
        subst e_j62
        refine thenQ_n ?_
        refine T_sub hsub ?_
        refine T_seq (c1:=(sub [1,1,1,1,1,1,1,1,1,1,0] Bd46)) (c2:=(sub [1,1,1,1,1,1,1,1,1,1,1] Bd46)) (by kernel_rfl) ?_
        refine T_region (id:=27) (by kernel_rfl) ?_
        refine TI_segK (i:=0) (j:=3) (s':={ σ := [(2,.lf (.own 72 0)),(3,vi (0 : Int))],H := [(72,[.one (.v (.slice Au0_0 (u0_0.length) cu0_0)),.arr .i64 4 u0_1,.one (.v (.int .i64 x35)),.one (.v (.slice A45 (v43.length) c46)),.one (.v (.slice A50 (R49.length) c51)),.one (.v (.slice A53 (R52.length) c54)),.one (.v (.slice A56 (R55.length) c57)),.one (.v (.slice A59 (R58.length) c60))])],V := [],M := M61,ds := [],ats := [(72,b41)] }) [2,3] [72] [] (by kernel_rfl) (by kernel_rfl) ?_
        refine TI_end (by kernel_rfl) ?_
        refine thenQ_n ?_
        refine T_turn (turn_pubH 72 (c:=[.one (.v (.slice Au0_0 (u0_0.length) cu0_0)),.arr .i64 4 u0_1,.one (.v (.int .i64 x35)),.one (.v (.slice A45 (v43.length) c46)),.one (.v (.slice A50 (R49.length) c51)),.one (.v (.slice A53 (R52.length) c54)),.one (.v (.slice A56 (R55.length) c57)),.one (.v (.slice A59 (R58.length) c60))]) (by kernel_rfl) (by kernel_rfl)) ?_
        rintro _ ⟨b107,M108,rfl,-,e_M108,-,hM108⟩
        have fb107 : M108 b107 = some (sgCells (fun _ => 0) (fun _ => .slice none 0 0) [.one (.v (.slice Au0_0 (u0_0.length) cu0_0)),.arr .i64 4 u0_1,.one (.v (.int .i64 x35)),.one (.v (.slice A45 (v43.length) c46)),.one (.v (.slice A50 (R49.length) c51)),.one (.v (.slice A53 (R52.length) c54)),.one (.v (.slice A56 (R55.length) c57)),.one (.v (.slice A59 (R58.length) c60))]).toArray := by rw [e_M108]; exact addM_at _ _ _
        refine T_ret (by kernel_rfl) ?_
        have h := Option.some.inj h
        subst h
        refine fin_ret (.tup [(some (.v (.pointer (some ⟨b107,0,none⟩))),[]),(some (.v (.int .i64 (0 : Int))),[])]) (by kernel_rfl) (by kernel_rfl) rfl ?_
        exact ⟨(.pointer (some ⟨b107,0,none⟩)),rfl,⟨_,_,_,_,_,_,_,rfl,Crs_mk fb107 hu0_1 (((((hu0_0.le hM4).le hM9).le hM48).le hM61).le hM108) ((fA45.le hM61).le hM108) (f_A50.le hM108) (f_A53.le hM108) (f_A56.le hM108) (f_A59.le hM108)⟩⟩
      | false =>
       replace h := sp_f h
       refine T_condT (x:=(.tmp 102)) (c1:=(sub [1,1,1,1,1,1,1,1,0,1,1,0] Bd46)) (c2:=(sub [1,1,1,1,1,1,1,1,0,1,1,1] Bd46)) (by kernel_rfl) (by kernel_rfl) ?_
       refine T_keep (s':={ σ := [],H := [],V := [],M := M48,ds := [],ats := [(72,b41)] }) [] [] [] (by kernel_rfl) ?_
       refine T_seq (c1:=(sub [1,1,1,1,1,1,1,1,0,1,1,0,0] Bd46)) (c2:=(sub [1,1,1,1,1,1,1,1,0,1,1,0,1] Bd46)) (by kernel_rfl) ?_
       refine T_region (id:=19) (by kernel_rfl) ?_
       refine TI_segS (i:=0) (j:=2) [(2,.lf (.v (.pointer none))),(3,vi (16 : Int))] (by kernel_rfl) (by kernel_rfl) ?_
       refine TI_end (by kernel_rfl) ?_
       refine thenQ_n ?_
       refine T_ret (by kernel_rfl) ?_
       refine thenQ_r ?_
       have h := Option.some.inj h
       subst h
       refine fin_ret (.tup [(some (.v (.pointer none)),[]),(some (.v (.int .i64 (16 : Int))),[])]) (by kernel_rfl) (by kernel_rfl) rfl ?_
       exact ⟨(.pointer none),rfl,rfl⟩
end Go.Proofs.Ythjkejbgknemgaa
namespace Go.Proofs.Ythjkejbgknemgaa
open Go.RowKit
def p43 (k : Nat) (u0_0 : List (List Int)) (u0_1 : List Int) (u1 : List Int) : Option (Option CT × Int) :=
 cl2 (p46 k u0_0 u0_1) fun v2 v3 => lt' (v3 != (0 : Int)) fun b6 => sp b6 (some (none,v3)) (cl (p32 k u1) fun v7 => some (v2,v7))
theorem hf43 : Try.prog.funcs[43]? = some Try.f43 := by kernel_rfl
theorem w43 (k : Nat) {M : Mem} {Au0_0 : Option Addr} {cu0_0 : Nat} {u0_0 : List (List Int)} {u0_1 : List Int} {u1 : List Int} (hu0_0 : SlR M Au0_0 cu0_0 .i64 11 u0_0) (hu0_1 : u0_1.length = 4) (hu1 : u1.length = 7) {r} (h : p43 k u0_0 u0_1 u1 = some r) :
  Fn Try.prog 43 [rval (.agg [.one (.v (.slice Au0_0 (u0_0.length) cu0_0)),.arr .i64 4 u0_1]),rval (.agg [.arr .i64 7 u1])] M (fun x M' => ∃ (q1 : Value),x = .tup [(some (.v q1),[]),(some (.v (.int .i64 r.2)),[])] ∧ PtrR M' q1 r.1) := by
 unfold p43 at h
 refine Fn_of (P:=Try.prog) (fn:=Try.f43) (c:=bodyOf Try.f43) [.agg [.one (.v (.slice Au0_0 (u0_0.length) cu0_0)),.arr .i64 4 u0_1],.agg [.arr .i64 7 u1]] hf43 (by kernel_rfl) (Nat.le_of_ble_eq_true (by kernel_rfl)) (args_ok (by kernel_rfl) ⟨⟨rfl,⟨hu0_1,trivial⟩⟩,⟨⟨hu1,trivial⟩,trivial⟩⟩) fun w => ?_
 change T _ _ _ (endQ _ _ _)
 refine T_seq (c1:=(sub [0] Bd43)) (c2:=(sub [1] Bd43)) (by kernel_rfl) ?_
 refine T_region (id:=0) (by kernel_rfl) ?_
 refine TI_segK (i:=0) (j:=4) (s':={ σ := [(2,.lf (.own 2 0)),(3,.lf (.own 3 0))],H := [(2,[.one (.v (.slice Au0_0 (u0_0.length) cu0_0)),.arr .i64 4 u0_1]),(3,[.arr .i64 7 u1])],V := [],M := M,ds := [] }) [2,3] [2,3] [] (by kernel_rfl) (by kernel_rfl) ?_
 refine TI_end (by kernel_rfl) ?_
 refine thenQ_n ?_
 refine T_seq (c1:=(sub [1,0] Bd43)) (c2:=(sub [1,1] Bd43)) (by kernel_rfl) ?_
 refine T_region (id:=1) (by kernel_rfl) ?_
 refine TI_segK (i:=0) (j:=1) (s':={ σ := [(3,.lf (.own 3 0)),(9,.agg [.one (.v (.slice Au0_0 (u0_0.length) cu0_0)),.arr .i64 4 u0_1])],H := [(3,[.arr .i64 7 u1])],V := [],M := M,ds := [] }) [3,9] [3] [] (by kernel_rfl) (by kernel_rfl) ?_
 obtain ⟨v2,v3,c_v2,h⟩ := cl2_some h
 refine TI_of (i:=1) (by kernel_rfl) (TE_callR (d:=10) (f:=46) (args:=[rval (.agg [.one (.v (.slice Au0_0 (u0_0.length) cu0_0)),.arr .i64 4 u0_1])]) (by kernel_rfl) (by kernel_rfl) (w46 k hu0_0 hu0_1 c_v2) ?_)
 rintro _ M5 _ hM5 _ ⟨q4,rfl,fq4⟩
 refine TI_segK (i:=2) (j:=7) (s':={ σ := [(3,.lf (.own 3 0)),(6,.lf (.v q4)),(7,vi v3)],H := [(3,[.arr .i64 7 u1])],V := [],M := M5,ds := [] }) [3,6,7] [3] [] (by kernel_rfl) (by kernel_rfl) ?_
 refine TI_end (by kernel_rfl) ?_
 refine thenQ_n ?_
 refine T_seq (c1:=(sub [1,1,0] Bd43)) (c2:=(sub [1,1,1] Bd43)) (by kernel_rfl) ?_
 refine T_seq (c1:=(sub [1,1,0,0] Bd43)) (c2:=(sub [1,1,0,1] Bd43)) (by kernel_rfl) ?_
 refine T_region (id:=2) (by kernel_rfl) ?_
 obtain ⟨b6,e_b6,h⟩ := lt_some h
 refine TI_segS (i:=0) (j:=2) [(3,.lf (.own 3 0)),(6,.lf (.v q4)),(7,vi v3),(14,vb b6)] (by subst e_b6;kernel_rfl) (by kernel_rfl) ?_
 refine TI_end (by kernel_rfl) ?_
 refine thenQ_n ?_
 cases b6 with
 | true =>
  replace h := sp_t h
  refine T_condT (x:=(.tmp 14)) (c1:=(sub [1,1,0,1,0] Bd43)) (c2:=(sub [1,1,0,1,1] Bd43)) (by kernel_rfl) (by kernel_rfl) ?_
  refine T_keep (s':={ σ := [(7,vi v3)],H := [],V := [],M := M5,ds := [] }) [7] [] [] (by kernel_rfl) ?_
  refine T_seq (c1:=(sub [1,1,0,1,0,0] Bd43)) (c2:=(sub [1,1,0,1,0,1] Bd43)) (by kernel_rfl) ?_
  refine T_region (id:=3) (by kernel_rfl) ?_
  refine TI_segS (i:=0) (j:=3) [(4,.lf (.v (.pointer none))),(5,vi v3)] (by kernel_rfl) (by kernel_rfl) ?_
  refine TI_end (by kernel_rfl) ?_
  refine thenQ_n ?_
  refine T_ret (by kernel_rfl) ?_
  refine thenQ_r ?_
  have h := Option.some.inj h
  subst h
  refine fin_ret (.tup [(some (.v (.pointer none)),[]),(some (.v (.int .i64 v3)),[])]) (by kernel_rfl) (by kernel_rfl) rfl ?_
  exact ⟨(.pointer none),rfl,rfl⟩
 | false =>
  replace h := sp_f h
  refine T_condF (x:=(.tmp 14)) (c1:=(sub [1,1,0,1,0] Bd43)) (c2:=(sub [1,1,0,1,1] Bd43)) (by kernel_rfl) (by kernel_rfl) ?_
  refine T_keepS [(3,.lf (.own 3 0)),(6,.lf (.v q4))] (by kernel_rfl) ?_
  refine T_skip (by kernel_rfl) ?_
  refine thenQ_n ?_
  refine T_seq (c1:=(sub [1,1,1,0] Bd43)) (c2:=(sub [1,1,1,1] Bd43)) (by kernel_rfl) ?_
  refine T_region (id:=4) (by kernel_rfl) ?_
  refine TI_segK (i:=0) (j:=2) (s':={ σ := [(16,.lf (.v q4)),(17,.agg [.arr .i64 7 u1])],H := [],V := [],M := M5,ds := [] }) [16,17] [] [] (by kernel_rfl) (by kernel_rfl) ?_
  obtain ⟨v7,c_v7,h⟩ := cl_some h
  refine TI_at (i:=2) (d:=18) (x:=vi v7) (At_call (d:=18) (f:=32) (args:=[rval (.agg [.arr .i64 7 u1])]) (x:=vi v7) (by kernel_rfl) (w32 k hu1 c_v7)) (by kernel_rfl) trivial ?_
  refine TI_segK (i:=3) (j:=5) (s':={ σ := [(4,.lf (.v q4)),(5,vi v7)],H := [],V := [],M := M5,ds := [] }) [4,5] [] [] (by kernel_rfl) (by kernel_rfl) ?_
  refine TI_end (by kernel_rfl) ?_
  refine thenQ_n ?_
  refine T_ret (by kernel_rfl) ?_
  have h := Option.some.inj h
  subst h
  refine fin_ret (.tup [(some (.v q4),[]),(some (.v (.int .i64 v7)),[])]) (by kernel_rfl) (by kernel_rfl) rfl ?_
  exact ⟨q4,rfl,fq4⟩
def p23 (k : Nat) (u0_0 : List (List Int)) (u0_1 : List Int) : Option (Int × Int) :=
 cl2 (p46 k u0_0 u0_1) fun v1 v2 => lt' (v2 != (0 : Int)) fun b5 => sp b5 (some ((0 : Int),v2)) (cl v1 fun C6 => some ((List.length C6.2.2.2.1 : Int),(0 : Int)))
theorem hf23 : Try.prog.funcs[23]? = some Try.f23 := by kernel_rfl
theorem w23 (k : Nat) {M : Mem} {Au0_0 : Option Addr} {cu0_0 : Nat} {u0_0 : List (List Int)} {u0_1 : List Int} (hu0_0 : SlR M Au0_0 cu0_0 .i64 11 u0_0) (hu0_1 : u0_1.length = 4) {r} (h : p23 k u0_0 u0_1 = some r) :
  Fn Try.prog 23 [rval (.agg [.one (.v (.slice Au0_0 (u0_0.length) cu0_0)),.arr .i64 4 u0_1])] M (fun x _ => x = .tup [(some (.v (.int .i64 r.1)),[]),(some (.v (.int .i64 r.2)),[])]) := by
 unfold p23 at h
 refine Fn_of (P:=Try.prog) (fn:=Try.f23) (c:=bodyOf Try.f23) [.agg [.one (.v (.slice Au0_0 (u0_0.length) cu0_0)),.arr .i64 4 u0_1]] hf23 (by kernel_rfl) (Nat.le_of_ble_eq_true (by kernel_rfl)) (args_ok (by kernel_rfl) ⟨⟨rfl,⟨hu0_1,trivial⟩⟩,trivial⟩) fun w => ?_
 change T _ _ _ (endQ _ _ _)
 refine T_seq (c1:=(sub [0] Bd23)) (c2:=(sub [1] Bd23)) (by kernel_rfl) ?_
 refine T_region (id:=0) (by kernel_rfl) ?_
 refine TI_segK (i:=0) (j:=3) (s':={ σ := [(1,.lf (.own 1 0))],H := [(1,[.one (.v (.slice Au0_0 (u0_0.length) cu0_0)),.arr .i64 4 u0_1])],V := [],M := M,ds := [] }) [1] [1] [] (by kernel_rfl) (by kernel_rfl) ?_
 refine TI_end (by kernel_rfl) ?_
 refine thenQ_n ?_
 refine T_seq (c1:=(sub [1,0] Bd23)) (c2:=(sub [1,1] Bd23)) (by kernel_rfl) ?_
 refine T_region (id:=1) (by kernel_rfl) ?_
 refine TI_segK (i:=0) (j:=1) (s':={ σ := [(7,.agg [.one (.v (.slice Au0_0 (u0_0.length) cu0_0)),.arr .i64 4 u0_1])],H := [],V := [],M := M,ds := [] }) [7] [] [] (by kernel_rfl) (by kernel_rfl) ?_
 obtain ⟨v1,v2,c_v1,h⟩ := cl2_some h
 refine TI_of (i:=1) (by kernel_rfl) (TE_callR (d:=8) (f:=46) (args:=[rval (.agg [.one (.v (.slice Au0_0 (u0_0.length) cu0_0)),.arr .i64 4 u0_1])]) (by kernel_rfl) (by kernel_rfl) (w46 k hu0_0 hu0_1 c_v1) ?_)
 rintro _ M4 _ hM4 _ ⟨q3,rfl,fq3⟩
 refine TI_segK (i:=2) (j:=7) (s':={ σ := [(4,.lf (.v q3)),(5,vi v2)],H := [],V := [],M := M4,ds := [] }) [4,5] [] [] (by kernel_rfl) (by kernel_rfl) ?_
 refine TI_end (by kernel_rfl) ?_
 refine thenQ_n ?_
 refine T_seq (c1:=(sub [1,1,0] Bd23)) (c2:=(sub [1,1,1] Bd23)) (by kernel_rfl) ?_
 refine T_seq (c1:=(sub [1,1,0,0] Bd23)) (c2:=(sub [1,1,0,1] Bd23)) (by kernel_rfl) ?_
 refine T_region (id:=2) (by kernel_rfl) ?_
 obtain ⟨b5,e_b5,h⟩ := lt_some h
 refine TI_segS (i:=0) (j:=2) [(4,.lf (.v q3)),(5,vi v2),(12,vb b5)] (by subst e_b5;kernel_rfl) (by kernel_rfl) ?_
 refine TI_end (by kernel_rfl) ?_
 refine thenQ_n ?_
 cases b5 with
 | true =>
  replace h := sp_t h
  refine T_condT (x:=(.tmp 12)) (c1:=(sub [1,1,0,1,0] Bd23)) (c2:=(sub [1,1,0,1,1] Bd23)) (by kernel_rfl) (by kernel_rfl) ?_
  refine T_keepS [(5,vi v2)] (by kernel_rfl) ?_
  refine T_seq (c1:=(sub [1,1,0,1,0,0] Bd23)) (c2:=(sub [1,1,0,1,0,1] Bd23)) (by kernel_rfl) ?_
  refine T_region (id:=3) (by kernel_rfl) ?_
  refine TI_segS (i:=0) (j:=3) [(2,vi (0 : Int)),(3,vi v2)] (by kernel_rfl) (by kernel_rfl) ?_
  refine TI_end (by kernel_rfl) ?_
  refine thenQ_n ?_
  refine T_ret (by kernel_rfl) ?_
  refine thenQ_r ?_
  have h := Option.some.inj h
  subst h
  refine fin_ret (.tup [(some (.v (.int .i64 (0 : Int))),[]),(some (.v (.int .i64 v2)),[])]) (by kernel_rfl) (by kernel_rfl) rfl ?_
  rfl
 | false =>
  replace h := sp_f h
  refine T_condF (x:=(.tmp 12)) (c1:=(sub [1,1,0,1,0] Bd23)) (c2:=(sub [1,1,0,1,1] Bd23)) (by kernel_rfl) (by kernel_rfl) ?_
  refine T_keepS [(4,.lf (.v q3))] (by kernel_rfl) ?_
  refine T_skip (by kernel_rfl) ?_
  refine thenQ_n ?_
  obtain ⟨C6,e_C6,h⟩ := cl_some h
  have hC6 := fq3
  rw [e_C6] at hC6
  obtain ⟨C6b,C6A,C6c,C6AP,C6cP,C6AV,C6cV,rfl,hC6⟩ := hC6
  refine T_seq (c1:=(sub [1,1,1,0] Bd23)) (c2:=(sub [1,1,1,1] Bd23)) (by kernel_rfl) ?_
  refine T_region (id:=4) (by kernel_rfl) ?_
  refine TI_segK (i:=0) (j:=3) (s':={ σ := [(16,.lf (.v (.pointer (some ⟨C6b,6,none⟩))))],H := [],V := [],M := M4,ds := [] }) [16] [] [] (by kernel_rfl) (by kernel_rfl) ?_
  refine TI_at (i:=3) (d:=17) (x:=.lf (.v (.slice C6AP (List.length C6.2.2.2.1) C6cP))) (by exact At_ldP (d:=17) (b:=C6b) (off:=6) (m:=1) (v:=(.slice C6AP (List.length C6.2.2.2.1) C6cP)) (by kernel_rfl) (hC6).plc) (by kernel_rfl) trivial ?_
  refine TI_segK (i:=4) (j:=7) (s':={ σ := [(2,vi (List.length C6.2.2.2.1 : Int)),(3,vi (0 : Int))],H := [],V := [],M := M4,ds := [] }) [2,3] [] [] (by kernel_rfl) (by kernel_rfl) ?_
  refine TI_end (by kernel_rfl) ?_
  refine thenQ_n ?_
  refine T_ret (by kernel_rfl) ?_
  have h := Option.some.inj h
  subst h
  refine fin_ret (.tup [(some (.v (.int .i64 (List.length C6.2.2.2.1 : Int))),[]),(some (.v (.int .i64 (0 : Int))),[])]) (by kernel_rfl) (by kernel_rfl) rfl ?_
  rfl
def p24_l1 (k : Nat) (u1 : Int) (j12 : List Int → Option (List Int × List Int × Int)) (C6 : CT) : Nat → Int → List Int → Option (List Int × List Int × Int)
 | 0,_,_ => none
 | n15 + 1,x13,L14 => lt' (decide (x13 < (4 : Int))) fun b16 => sp b16 (gd ((0 : Int) ≤ x13 ∧ x13 < ((4 : Nat) : Int)) <| lt' (List.getD C6.2.2.2.2 ((x13).toNat * 1) []) fun R18 => gd ((0 : Int) ≤ u1 ∧ u1 < (R18.length : Int)) <| lt' (List.getD R18 ((u1).toNat) []) fun L20 => gd ((0 : Int) ≤ x13 ∧ x13 < ((4 : Nat) : Int)) <| lt' (List.take (0 + (x13).toNat * 2) L14 ++ (L20 ++ []) ++ List.drop (0 + (x13).toNat * 2 + 2) L14) fun L22 => lt' (wr .i64 (x13 + (1 : Int))) fun x23 => p24_l1 k u1 j12 C6 n15 x23 L22) (j12 L14)
def p24 (k : Nat) (u0_0 : List (List Int)) (u0_1 : List Int) (u1 : Int) : Option (List Int × List Int × Int) :=
 cl2 (p46 k u0_0 u0_1) fun v1 v2 => lt' (v2 != (0 : Int)) fun b5 => sp b5 (some ([(0 : Int),(0 : Int)],[(0 : Int),(0 : Int),(0 : Int),(0 : Int),(0 : Int),(0 : Int),(0 : Int),(0 : Int)],v2)) (cl v1 fun C6 => jn (fun (b7 : Bool) => sp b7 (some ([(0 : Int),(0 : Int)],[(0 : Int),(0 : Int),(0 : Int),(0 : Int),(0 : Int),(0 : Int),(0 : Int),(0 : Int)],(3 : Int))) (jn (fun (L11 : List Int) => gd ((0 : Int) ≤ u1 ∧ u1 < (List.length C6.2.2.2.1 : Int)) <| lt' (List.getD C6.2.2.2.1 ((u1).toNat) []) fun L25 => some (L25,L11,(0 : Int))) fun j12 => p24_l1 k u1 j12 C6 k (0 : Int) ([(0 : Int),(0 : Int),(0 : Int),(0 : Int),(0 : Int),(0 : Int),(0 : Int),(0 : Int)]))) fun j8 => lt' (decide (u1 < (0 : Int))) fun b9 => sp b9 (j8 true) (lt' (decide (u1 ≥ (List.length C6.2.2.2.1 : Int))) fun b10 => j8 b10))
theorem hf24 : Try.prog.funcs[24]? = some Try.f24 := by kernel_rfl
theorem w24 (k : Nat) {M : Mem} {Au0_0 : Option Addr} {cu0_0 : Nat} {u0_0 : List (List Int)} {u0_1 : List Int} {u1 : Int} (hu0_0 : SlR M Au0_0 cu0_0 .i64 11 u0_0) (hu0_1 : u0_1.length = 4) {r} (h : p24 k u0_0 u0_1 u1 = some r) :
  Fn Try.prog 24 [rval (.agg [.one (.v (.slice Au0_0 (u0_0.length) cu0_0)),.arr .i64 4 u0_1]),rval (vi u1)] M (fun x _ => x = .tup [(none,[.arr .i64 2 r.1]),(none,[.arr .i64 8 r.2.1]),(some (.v (.int .i64 r.2.2)),[])]) := by
 unfold p24 at h
 refine Fn_of (P:=Try.prog) (fn:=Try.f24) (c:=bodyOf Try.f24) [.agg [.one (.v (.slice Au0_0 (u0_0.length) cu0_0)),.arr .i64 4 u0_1],vi u1] hf24 (by kernel_rfl) (Nat.le_of_ble_eq_true (by kernel_rfl)) (args_ok (by kernel_rfl) ⟨⟨rfl,⟨hu0_1,trivial⟩⟩,⟨trivial,trivial⟩⟩) fun w => ?_
 change T _ _ _ (endQ _ _ _)
 refine T_seq (c1:=(sub [0] Bd24)) (c2:=(sub [1] Bd24)) (by kernel_rfl) ?_
 refine T_region (id:=0) (by kernel_rfl) ?_
 refine TI_segK (i:=0) (j:=4) (s':={ σ := [(1,vi u1),(2,.lf (.own 2 0)),(4,.lf (.own 4 0)),(5,.lf (.own 5 0))],H := [(2,[.one (.v (.slice Au0_0 (u0_0.length) cu0_0)),.arr .i64 4 u0_1]),(4,[.arr .i64 2 [(0 : Int),(0 : Int)]]),(5,[.arr .i64 8 [(0 : Int),(0 : Int),(0 : Int),(0 : Int),(0 : Int),(0 : Int),(0 : Int),(0 : Int)]])],V := [],M := M,ds := [] }) [1,2,4,5] [2,4,5] [] (by kernel_rfl) (by kernel_rfl) ?_
 refine TI_end (by kernel_rfl) ?_
 refine thenQ_n ?_
 refine T_seq (c1:=(sub [1,0] Bd24)) (c2:=(sub [1,1] Bd24)) (by kernel_rfl) ?_
 refine T_region (id:=1) (by kernel_rfl) ?_
 refine TI_segK (i:=0) (j:=1) (s':={ σ := [(1,vi u1),(4,.lf (.own 4 0)),(5,.lf (.own 5 0)),(12,.agg [.one (.v (.slice Au0_0 (u0_0.length) cu0_0)),.arr .i64 4 u0_1])],H := [(4,[.arr .i64 2 [(0 : Int),(0 : Int)]]),(5,[.arr .i64 8 [(0 : Int),(0 : Int),(0 : Int),(0 : Int),(0 : Int),(0 : Int),(0 : Int),(0 : Int)]])],V := [],M := M,ds := [] }) [1,4,5,12] [4,5] [] (by kernel_rfl) (by kernel_rfl) ?_
 obtain ⟨v1,v2,c_v1,h⟩ := cl2_some h
 refine TI_of (i:=1) (by kernel_rfl) (TE_callR (d:=13) (f:=46) (args:=[rval (.agg [.one (.v (.slice Au0_0 (u0_0.length) cu0_0)),.arr .i64 4 u0_1])]) (by kernel_rfl) (by kernel_rfl) (w46 k hu0_0 hu0_1 c_v1) ?_)
 rintro _ M4 _ hM4 _ ⟨q3,rfl,fq3⟩
 refine TI_segK (i:=2) (j:=7) (s':={ σ := [(1,vi u1),(4,.lf (.own 4 0)),(5,.lf (.own 5 0)),(7,.lf (.v q3)),(8,vi v2)],H := [(4,[.arr .i64 2 [(0 : Int),(0 : Int)]]),(5,[.arr .i64 8 [(0 : Int),(0 : Int),(0 : Int),(0 : Int),(0 : Int),(0 : Int),(0 : Int),(0 : Int)]])],V := [],M := M4,ds := [] }) [1,4,5,7,8] [4,5] [] (by kernel_rfl) (by kernel_rfl) ?_
 refine TI_end (by kernel_rfl) ?_
 refine thenQ_n ?_
 refine T_seq (c1:=(sub [1,1,0] Bd24)) (c2:=(sub [1,1,1] Bd24)) (by kernel_rfl) ?_
 refine T_seq (c1:=(sub [1,1,0,0] Bd24)) (c2:=(sub [1,1,0,1] Bd24)) (by kernel_rfl) ?_
 refine T_region (id:=2) (by kernel_rfl) ?_
 obtain ⟨b5,e_b5,h⟩ := lt_some h
 refine TI_segS (i:=0) (j:=2) [(1,vi u1),(4,.lf (.own 4 0)),(5,.lf (.own 5 0)),(7,.lf (.v q3)),(8,vi v2),(17,vb b5)] (by subst e_b5;kernel_rfl) (by kernel_rfl) ?_
 refine TI_end (by kernel_rfl) ?_
 refine thenQ_n ?_
 cases b5 with
 | true =>
  replace h := sp_t h
  refine T_condT (x:=(.tmp 17)) (c1:=(sub [1,1,0,1,0] Bd24)) (c2:=(sub [1,1,0,1,1] Bd24)) (by kernel_rfl) (by kernel_rfl) ?_
  refine T_keepS [(4,.lf (.own 4 0)),(5,.lf (.own 5 0)),(8,vi v2)] (by kernel_rfl) ?_
  refine T_seq (c1:=(sub [1,1,0,1,0,0] Bd24)) (c2:=(sub [1,1,0,1,0,1] Bd24)) (by kernel_rfl) ?_
  refine T_region (id:=3) (by kernel_rfl) ?_
  refine TI_segS (i:=0) (j:=6) [(4,.lf (.own 4 0)),(5,.lf (.own 5 0)),(6,vi v2)] (by kernel_rfl) (by kernel_rfl) ?_
  refine TI_end (by kernel_rfl) ?_
  refine thenQ_n ?_
  refine T_ret (by kernel_rfl) ?_
  refine thenQ_r ?_
  have h := Option.some.inj h
  subst h
  refine fin_ret (.tup [(none,[.arr .i64 2 [(0 : Int),(0 : Int)]]),(none,[.arr .i64 8 [(0 : Int),(0 : Int),(0 : Int),(0 : Int),(0 : Int),(0 : Int),(0 : Int),(0 : Int)]]),(some (.v (.int .i64 v2)),[])]) (by kernel_rfl) (by kernel_rfl) rfl ?_
  rfl
 | false =>
  replace h := sp_f h
  refine T_condF (x:=(.tmp 17)) (c1:=(sub [1,1,0,1,0] Bd24)) (c2:=(sub [1,1,0,1,1] Bd24)) (by kernel_rfl) (by kernel_rfl) ?_
  refine T_keepS [(1,vi u1),(4,.lf (.own 4 0)),(5,.lf (.own 5 0)),(7,.lf (.v q3))] (by kernel_rfl) ?_
  refine T_skip (by kernel_rfl) ?_
  refine thenQ_n ?_
  obtain ⟨C6,e_C6,h⟩ := cl_some h
  have hC6 := fq3
  rw [e_C6] at hC6
  obtain ⟨C6b,C6A,C6c,C6AP,C6cP,C6AV,C6cV,rfl,hC6⟩ := hC6
  refine T_seq (c1:=(sub [1,1,1,0] Bd24)) (c2:=(sub [1,1,1,1] Bd24)) (by kernel_rfl) ?_
  obtain ⟨j8,e_j8,h⟩ := jn_some h
  refine T_cut (c1:=(sub [1,1,1,0,0] Bd24)) (c2:=(sub [1,1,1,0,1] Bd24)) (fun s' => ∃ (b7 : Bool),Sub { σ := [(1,vi u1),(4,.lf (.own 4 0)),(5,.lf (.own 5 0)),(7,.lf (.v (.pointer (some ⟨C6b,0,none⟩)))),(31,vb b7)],H := [(4,[.arr .i64 2 [(0 : Int),(0 : Int)]]),(5,[.arr .i64 8 [(0 : Int),(0 : Int),(0 : Int),(0 : Int),(0 : Int),(0 : Int),(0 : Int),(0 : Int)]])],V := [],M := M4,ds := [] } s' ∧ j8 b7 = some r) (by kernel_rfl) ?_ ?_
  ·refine T_region (id:=4) (by kernel_rfl) ?_
   obtain ⟨b9,e_b9,h⟩ := lt_some h
   refine TI_segK (i:=0) (j:=3) (s':={ σ := [(1,vi u1),(4,.lf (.own 4 0)),(5,.lf (.own 5 0)),(7,.lf (.v (.pointer (some ⟨C6b,0,none⟩)))),(23,vb b9)],H := [(4,[.arr .i64 2 [(0 : Int),(0 : Int)]]),(5,[.arr .i64 8 [(0 : Int),(0 : Int),(0 : Int),(0 : Int),(0 : Int),(0 : Int),(0 : Int),(0 : Int)]])],V := [],M := M4,ds := [] }) [1,4,5,7,23] [4,5] [] (by subst e_b9;kernel_rfl) (by kernel_rfl) ?_
   cases b9 with
   | true =>
    replace h := sp_t h
    refine TI_segS (i:=3) (j:=11) [(1,vi u1),(4,.lf (.own 4 0)),(5,.lf (.own 5 0)),(7,.lf (.v (.pointer (some ⟨C6b,0,none⟩)))),(31,vb true)] (by kernel_rfl) (by kernel_rfl) ?_
    refine TI_end (by kernel_rfl) ?_
    refine thenQ_n ?_
    exact ⟨true,keep_sub (ts:=[1,4,5,7,31]) (hs:=[4,5]) (vs:=[]) (by kernel_rfl),h⟩
   | false =>
    replace h := sp_f h
    refine TI_segS (i:=3) (j:=7) [(1,vi u1),(4,.lf (.own 4 0)),(5,.lf (.own 5 0)),(7,.lf (.v (.pointer (some ⟨C6b,0,none⟩)))),(23,vb false),(24,vi u1),(27,.lf (.v (.pointer (some ⟨C6b,6,none⟩))))] (by kernel_rfl) (by kernel_rfl) ?_
    refine TI_at (i:=7) (d:=28) (x:=.lf (.v (.slice C6AP (List.length C6.2.2.2.1) C6cP))) (by exact At_ldP (d:=28) (b:=C6b) (off:=6) (m:=1) (v:=(.slice C6AP (List.length C6.2.2.2.1) C6cP)) (by kernel_rfl) (hC6).plc) (by kernel_rfl) trivial ?_
    obtain ⟨b10,e_b10,h⟩ := lt_some h
    refine TI_segK (i:=8) (j:=11) (s':={ σ := [(1,vi u1),(4,.lf (.own 4 0)),(5,.lf (.own 5 0)),(7,.lf (.v (.pointer (some ⟨C6b,0,none⟩)))),(31,vb b10)],H := [(4,[.arr .i64 2 [(0 : Int),(0 : Int)]]),(5,[.arr .i64 8 [(0 : Int),(0 : Int),(0 : Int),(0 : Int),(0 : Int),(0 : Int),(0 : Int),(0 : Int)]])],V := [],M := M4,ds := [] }) [1,4,5,7,31] [4,5] [] (by subst e_b10;kernel_rfl) (by kernel_rfl) ?_
    refine TI_end (by kernel_rfl) ?_
    refine thenQ_n ?_
    exact ⟨b10,keep_sub (ts:=[1,4,5,7,31]) (hs:=[4,5]) (vs:=[]) (by kernel_rfl),h⟩
  ·rintro s' ⟨b7,hsub,h⟩
   subst e_j8
   refine T_sub hsub ?_
   cases b7 with
   | true =>
    replace h := sp_t h
    refine T_condT (x:=(.tmp 31)) (c1:=(sub [1,1,1,0,1,0] Bd24)) (c2:=(sub [1,1,1,0,1,1] Bd24)) (by kernel_rfl) (by kernel_rfl) ?_
    refine T_keep (s':={ σ := [(4,.lf (.own 4 0)),(5,.lf (.own 5 0))],H := [(4,[.arr .i64 2 [(0 : Int),(0 : Int)]]),(5,[.arr .i64 8 [(0 : Int),(0 : Int),(0 : Int),(0 : Int),(0 : Int),(0 : Int),(0 : Int),(0 : Int)]])],V := [],M := M4,ds := [] }) [4,5] [4,5] [] (by kernel_rfl) ?_
    refine T_seq (c1:=(sub [1,1,1,0,1,0,0] Bd24)) (c2:=(sub [1,1,1,0,1,0,1] Bd24)) (by kernel_rfl) ?_
    refine T_region (id:=5) (by kernel_rfl) ?_
    refine TI_segS (i:=0) (j:=5) [(4,.lf (.own 4 0)),(5,.lf (.own 5 0)),(6,vi (3 : Int))] (by kernel_rfl) (by kernel_rfl) ?_
    refine TI_end (by kernel_rfl) ?_
    refine thenQ_n ?_
    refine T_ret (by kernel_rfl) ?_
    refine thenQ_r ?_
    have h := Option.some.inj h
    subst h
    refine fin_ret (.tup [(none,[.arr .i64 2 [(0 : Int),(0 : Int)]]),(none,[.arr .i64 8 [(0 : Int),(0 : Int),(0 : Int),(0 : Int),(0 : Int),(0 : Int),(0 : Int),(0 : Int)]]),(some (.v (.int .i64 (3 : Int))),[])]) (by kernel_rfl) (by kernel_rfl) rfl ?_
    rfl
   | false =>
    replace h := sp_f h
    refine T_condF (x:=(.tmp 31)) (c1:=(sub [1,1,1,0,1,0] Bd24)) (c2:=(sub [1,1,1,0,1,1] Bd24)) (by kernel_rfl) (by kernel_rfl) ?_
    refine T_keep (s':={ σ := [(1,vi u1),(4,.lf (.own 4 0)),(5,.lf (.own 5 0)),(7,.lf (.v (.pointer (some ⟨C6b,0,none⟩))))],H := [(4,[.arr .i64 2 [(0 : Int),(0 : Int)]]),(5,[.arr .i64 8 [(0 : Int),(0 : Int),(0 : Int),(0 : Int),(0 : Int),(0 : Int),(0 : Int),(0 : Int)]])],V := [],M := M4,ds := [] }) [1,4,5,7] [4,5] [] (by kernel_rfl) ?_
    refine T_skip (by kernel_rfl) ?_
    refine thenQ_n ?_
    refine T_seq (c1:=(sub [1,1,1,1,0] Bd24)) (c2:=(sub [1,1,1,1,1] Bd24)) (by kernel_rfl) ?_
    refine T_region (id:=6) (by kernel_rfl) ?_
    refine TI_segK (i:=0) (j:=1) (s':={ σ := [(1,vi u1),(4,.lf (.own 4 0)),(5,.lf (.own 5 0)),(7,.lf (.v (.pointer (some ⟨C6b,0,none⟩)))),(9,.lf (.own 9 0))],H := [(4,[.arr .i64 2 [(0 : Int),(0 : Int)]]),(5,[.arr .i64 8 [(0 : Int),(0 : Int),(0 : Int),(0 : Int),(0 : Int),(0 : Int),(0 : Int),(0 : Int)]]),(9,[.arr .i64 8 [(0 : Int),(0 : Int),(0 : Int),(0 : Int),(0 : Int),(0 : Int),(0 : Int),(0 : Int)]])],V := [],M := M4,ds := [] }) [1,4,5,7,9] [4,5,9] [] (by kernel_rfl) (by kernel_rfl) ?_
    refine TI_end (by kernel_rfl) ?_
    refine thenQ_n ?_
    refine T_seq (c1:=(sub [1,1,1,1,1,0] Bd24)) (c2:=(sub [1,1,1,1,1,1] Bd24)) (by kernel_rfl) ?_
    refine T_seq (c1:=(sub [1,1,1,1,1,0,0] Bd24)) (c2:=(sub [1,1,1,1,1,0,1] Bd24)) (by kernel_rfl) ?_
    refine T_region (id:=7) (by kernel_rfl) ?_
    refine TI_segS (i:=0) (j:=1) [(1,vi u1),(4,.lf (.own 4 0)),(5,.lf (.own 5 0)),(7,.lf (.v (.pointer (some ⟨C6b,0,none⟩)))),(9,.lf (.own 9 0)),(34,vi (0 : Int))] (by kernel_rfl) (by kernel_rfl) ?_
    refine TI_end (by kernel_rfl) ?_
    refine thenQ_n ?_
    obtain ⟨j12,e_j12,h⟩ := jn_some h
    refine T_bcut (id:=0) (c1:=(sub [1,1,1,1,1,0,1,0] Bd24)) (fun s' => ∃ (L11 : List Int),Sub { σ := [(1,vi u1),(4,.lf (.own 4 0)),(5,.lf (.own 5 0)),(7,.lf (.v (.pointer (some ⟨C6b,0,none⟩)))),(9,.lf (.own 9 0))],H := [(4,[.arr .i64 2 [(0 : Int),(0 : Int)]]),(5,[.arr .i64 8 [(0 : Int),(0 : Int),(0 : Int),(0 : Int),(0 : Int),(0 : Int),(0 : Int),(0 : Int)]]),(9,[.arr .i64 8 L11])],V := [],M := M4,ds := [] } s' ∧ (L11).length = 8 ∧ j12 L11 = some r) (by kernel_rfl) ?_ ?_
    ·refine T_loop (c1:=(sub [1,1,1,1,1,0,1,0,0] Bd24)) (by kernel_rfl) (fun n15 s' => ∃ (x13 : Int) (L14 : List Int),Sub { σ := [(1,vi u1),(4,.lf (.own 4 0)),(5,.lf (.own 5 0)),(7,.lf (.v (.pointer (some ⟨C6b,0,none⟩)))),(9,.lf (.own 9 0)),(34,vi x13)],H := [(4,[.arr .i64 2 [(0 : Int),(0 : Int)]]),(5,[.arr .i64 8 [(0 : Int),(0 : Int),(0 : Int),(0 : Int),(0 : Int),(0 : Int),(0 : Int),(0 : Int)]]),(9,[.arr .i64 8 L14])],V := [],M := M4,ds := [] } s' ∧ (L14).length = 8 ∧ p24_l1 k u1 j12 C6 n15 x13 L14 = some r) (k:=k) ⟨(0 : Int),([(0 : Int),(0 : Int),(0 : Int),(0 : Int),(0 : Int),(0 : Int),(0 : Int),(0 : Int)]),keep_sub (ts:=[1,4,5,7,9,34]) (hs:=[4,5,9]) (vs:=[]) (by kernel_rfl),rfl,h⟩ ?_
     rintro n15 s' ⟨x13,L14,hsub,l_L14,h⟩
     cases n15 with
     | zero => rw [p24_l1] at h;cases h
     | succ n15 =>
      rw [p24_l1] at h
      refine T_sub hsub ?_
      refine T_seq (c1:=(sub [1,1,1,1,1,0,1,0,0,0] Bd24)) (c2:=(sub [1,1,1,1,1,0,1,0,0,1] Bd24)) (by kernel_rfl) ?_
      refine T_region (id:=8) (by kernel_rfl) ?_
      obtain ⟨b16,e_b16,h⟩ := lt_some h
      refine TI_segK (i:=0) (j:=1) (s':={ σ := [(1,vi u1),(4,.lf (.own 4 0)),(5,.lf (.own 5 0)),(7,.lf (.v (.pointer (some ⟨C6b,0,none⟩)))),(9,.lf (.own 9 0)),(34,vi x13),(35,vb b16)],H := [(4,[.arr .i64 2 [(0 : Int),(0 : Int)]]),(5,[.arr .i64 8 [(0 : Int),(0 : Int),(0 : Int),(0 : Int),(0 : Int),(0 : Int),(0 : Int),(0 : Int)]]),(9,[.arr .i64 8 L14])],V := [],M := M4,ds := [] }) [1,4,5,7,9,34,35] [4,5,9] [] (by subst e_b16;kernel_rfl) (by kernel_rfl) ?_
      refine TI_end (by kernel_rfl) ?_
      refine thenQ_n ?_
      refine T_seq (c1:=(sub [1,1,1,1,1,0,1,0,0,1,0] Bd24)) (c2:=(sub [1,1,1,1,1,0,1,0,0,1,1] Bd24)) (by kernel_rfl) ?_
      cases b16 with
      | true =>
       replace h := sp_t h
       refine T_condT (x:=(.tmp 35)) (c1:=(sub [1,1,1,1,1,0,1,0,0,1,0,0] Bd24)) (c2:=(sub [1,1,1,1,1,0,1,0,0,1,0,1] Bd24)) (by kernel_rfl) (by kernel_rfl) ?_
       refine T_keepS [(1,vi u1),(4,.lf (.own 4 0)),(5,.lf (.own 5 0)),(7,.lf (.v (.pointer (some ⟨C6b,0,none⟩)))),(9,.lf (.own 9 0)),(34,vi x13)] (by kernel_rfl) ?_
       refine T_skip (by kernel_rfl) ?_
       refine thenQ_n ?_
       refine T_seq (c1:=(sub [1,1,1,1,1,0,1,0,0,1,1,0] Bd24)) (c2:=(sub [1,1,1,1,1,0,1,0,0,1,1,1] Bd24)) (by kernel_rfl) ?_
       refine T_block (id:=1) (c1:=(sub [1,1,1,1,1,0,1,0,0,1,1,0,0] Bd24)) (by kernel_rfl) ?_
       refine T_seq (c1:=(sub [1,1,1,1,1,0,1,0,0,1,1,0,0,0] Bd24)) (c2:=(sub [1,1,1,1,1,0,1,0,0,1,1,0,0,1] Bd24)) (by kernel_rfl) ?_
       refine T_region (id:=9) (by kernel_rfl) ?_
       refine TI_segS (i:=0) (j:=2) [(1,vi u1),(4,.lf (.own 4 0)),(5,.lf (.own 5 0)),(7,.lf (.v (.pointer (some ⟨C6b,0,none⟩)))),(9,.lf (.own 9 0)),(10,vi x13),(34,vi x13)] (by kernel_rfl) (by kernel_rfl) ?_
       refine TI_end (by kernel_rfl) ?_
       refine thenQ_n ?_
       refine T_region (id:=10) (by kernel_rfl) ?_
       refine TI_segS (i:=0) (j:=5) [(1,vi u1),(4,.lf (.own 4 0)),(5,.lf (.own 5 0)),(7,.lf (.v (.pointer (some ⟨C6b,0,none⟩)))),(9,.lf (.own 9 0)),(34,vi x13),(37,vi x13),(39,vi x13),(41,.lf (.v (.pointer (some ⟨C6b,7,none⟩))))] (by kernel_rfl) (by kernel_rfl) ?_
       obtain ⟨g17,h⟩ := gd_some h
       refine TI_at (i:=5) (d:=42) (x:=.lf (.v (.pointer (some ⟨C6b,7 + (x13).toNat * 1,none⟩)))) (by exact At_idxP (d:=42) (z:=x13) (b:=C6b) (off:=7) (sz:=1) (n:=4) (by kernel_rfl) g17) (by kernel_rfl) trivial ?_
       obtain ⟨R18,e_R18,h⟩ := lt_some h
       have f_R18 : SlR M4 (C6AV ((x13).toNat * 1)) (C6cV ((x13).toNat * 1)) .i64 2 R18 := by rw [e_R18]; exact ((hC6).val ((x13).toNat * 1) (by omega)).2
       refine TI_at (i:=6) (d:=43) (x:=.lf (.v (.slice (C6AV ((x13).toNat * 1)) (R18.length) (C6cV ((x13).toNat * 1))))) (by rw [e_R18]; exact At_ldP (d:=43) (b:=C6b) (off:=7 + (x13).toNat * 1) (m:=1) (by subst e_R18; kernel_rfl) ((hC6).val ((x13).toNat * 1) (by omega)).1) (by kernel_rfl) trivial ?_
       refine TI_segK (i:=7) (j:=8) (s':={ σ := [(1,vi u1),(4,.lf (.own 4 0)),(5,.lf (.own 5 0)),(7,.lf (.v (.pointer (some ⟨C6b,0,none⟩)))),(9,.lf (.own 9 0)),(34,vi x13),(37,vi x13),(43,.lf (.v (.slice (C6AV ((x13).toNat * 1)) (R18.length) (C6cV ((x13).toNat * 1))))),(44,vi u1)],H := [(4,[.arr .i64 2 [(0 : Int),(0 : Int)]]),(5,[.arr .i64 8 [(0 : Int),(0 : Int),(0 : Int),(0 : Int),(0 : Int),(0 : Int),(0 : Int),(0 : Int)]]),(9,[.arr .i64 8 L14])],V := [],M := M4,ds := [] }) [1,4,5,7,9,34,37,43,44] [4,5,9] [] (by kernel_rfl) (by kernel_rfl) ?_
       obtain ⟨g19,h⟩ := gd_some h
       refine TI_at (i:=8) (d:=45) (x:=.lf (.ep (.slice (C6AV ((x13).toNat * 1)) (R18.length) (C6cV ((x13).toNat * 1))) 2 ((u1).toNat) 0)) (by exact At_idxR (d:=45) (z:=u1) (by kernel_rfl) g19 f_R18) (by kernel_rfl) trivial ?_
       obtain ⟨L20,e_L20,h⟩ := lt_some h
       have l_L20 : (L20).length = 2 := by rw [e_L20]; exact SlR_row f_R18 (toNat_lt g19)
       refine TI_at (i:=9) (d:=46) (x:=.agg [.arr .i64 2 L20]) (by rw [e_L20]; exact At_ldRow (d:=46) (q:=(u1).toNat) (by subst e_L20; kernel_rfl) (toNat_lt g19) f_R18) (by kernel_rfl) ⟨l_L20,trivial⟩ ?_
       obtain ⟨g21,h⟩ := gd_some h
       refine TI_at (i:=10) (d:=47) (x:=.lf (.oel 9 (0 + (x13).toNat * 2))) (by exact At_idxO (d:=47) (z:=x13) (b:=9) (off:=0) (sz:=2) (n:=4) (by kernel_rfl) g21) (by kernel_rfl) trivial ?_
       obtain ⟨L22,e_L22,h⟩ := lt_some h
       have l_L22 : (L22).length = 8 := by rw [e_L22]; have q0 := (show (L14).length = 8 from l_L14); have q1 := (show (L20).length = 2 from l_L20); simp only [List.length_append,List.length_take,List.length_drop,List.length_cons,List.length_nil]; omega
       refine TI_of (i:=11) (by kernel_rfl) (TE_stOC (m:=2) (b:=9) (off:=0 + (x13).toNat * 2) (base:=0) (q:=0 + (x13).toNat * 2) (n:=8) (k:=.i64) (L:=L14) (L2:=L22) (Z:=(L20 ++ [])) (e:=[.arr .i64 2 L20]) (c':=[.arr .i64 8 L22]) (by subst e_L22;kernel_rfl) (by kernel_rfl) (by subst e_L22;kernel_rfl) (by omega) (by omega) (by kernel_rfl) (by kernel_rfl) e_L22 (by kernel_rfl) ?_)
       refine TI_segK (i:=12) (j:=12) (s':={ σ := [(1,vi u1),(4,.lf (.own 4 0)),(5,.lf (.own 5 0)),(7,.lf (.v (.pointer (some ⟨C6b,0,none⟩)))),(9,.lf (.own 9 0)),(34,vi x13)],H := [(4,[.arr .i64 2 [(0 : Int),(0 : Int)]]),(5,[.arr .i64 8 [(0 : Int),(0 : Int),(0 : Int),(0 : Int),(0 : Int),(0 : Int),(0 : Int),(0 : Int)]]),(9,[.arr .i64 8 L22])],V := [],M := M4,ds := [] }) [1,4,5,7,9,34] [4,5,9] [] (by kernel_rfl) (by kernel_rfl) ?_
       refine TI_end (by kernel_rfl) ?_
       refine blockQ_n ?_
       refine thenQ_n ?_
       refine T_region (id:=11) (by kernel_rfl) ?_
       obtain ⟨x23,e_x23,h⟩ := lt_some h
       refine TI_segS (i:=0) (j:=2) [(1,vi u1),(4,.lf (.own 4 0)),(5,.lf (.own 5 0)),(7,.lf (.v (.pointer (some ⟨C6b,0,none⟩)))),(9,.lf (.own 9 0)),(34,vi x23)] (by subst e_x23;kernel_rfl) (by kernel_rfl) ?_
       refine TI_end (by kernel_rfl) ?_
       refine thenQ_n ?_
       exact ⟨n15,Nat.lt_succ_self _,x23,L22,keep_sub (ts:=[1,4,5,7,9,34]) (hs:=[4,5,9]) (vs:=[]) (by kernel_rfl),l_L22,h⟩
      | false =>
       replace h := sp_f h
       refine T_condF (x:=(.tmp 35)) (c1:=(sub [1,1,1,1,1,0,1,0,0,1,0,0] Bd24)) (c2:=(sub [1,1,1,1,1,0,1,0,0,1,0,1] Bd24)) (by kernel_rfl) (by kernel_rfl) ?_
       refine T_keepS [(1,vi u1),(4,.lf (.own 4 0)),(5,.lf (.own 5 0)),(7,.lf (.v (.pointer (some ⟨C6b,0,none⟩)))),(9,.lf (.own 9 0))] (by kernel_rfl) ?_
       refine T_exit (id:=0) (by kernel_rfl) ?_
       refine thenQ_x ?_
       refine thenQ_x ?_
       refine blockQ_x ?_
       refine thenQ_n ?_
       exact ⟨L14,keep_sub (ts:=[1,4,5,7,9]) (hs:=[4,5,9]) (vs:=[]) (by kernel_rfl),l_L14,h⟩
    ·rintro s' ⟨L11,hsub,l_L11,h⟩
     subst e_j12
     refine thenQ_n ?_
     refine T_sub hsub ?_
     refine T_seq (c1:=(sub [1,1,1,1,1,1,0] Bd24)) (c2:=(sub [1,1,1,1,1,1,1] Bd24)) (by kernel_rfl) ?_
     obtain ⟨g24,h⟩ := gd_some h
     obtain ⟨L25,e_L25,h⟩ := lt_some h
     have l_L25 : (L25).length = 2 := by rw [e_L25]; exact SlR_row (hC6).lP (toNat_lt g24)
     refine T_draw' (id:=12) [8,9] [0,0,0,0,0,0,0,0,0,0,2] (by kernel_rfl) (by kernel_rfl) (by kernel_rfl) (by kernel_rfl) [(49,.lf (.v (.pointer (some ⟨C6b,0,none⟩)))),(50,.lf (.v (.pointer (some ⟨C6b,0,none⟩)))),(51,.lf (.v (.pointer (some ⟨C6b,6,none⟩)))),(52,.lf (.v (.slice C6AP (List.length C6.2.2.2.1) C6cP))),(53,vi u1),(54,.lf (.ep (.slice C6AP (List.length C6.2.2.2.1) C6cP) 2 ((u1).toNat) 0)),(55,.agg [.arr .i64 2 L25]),(56,.agg [.arr .i64 8 L11])] (by kernel_rfl) ⟨trivial,⟨trivial,⟨trivial,⟨trivial,⟨trivial,⟨trivial,⟨⟨l_L25,trivial⟩,⟨⟨l_L11,trivial⟩,trivial⟩⟩⟩⟩⟩⟩⟩⟩ ?_
     refine Stage_ex (stage_all' [0,1,2,4,7] [3,5,6] (by kernel_rfl) (by subst e_L25; kernel_rfl) (by kernel_rfl) ⟨QF_at (i:=3) (d:=52) (x:=.lf (.v (.slice C6AP (List.length C6.2.2.2.1) C6cP))) (show OpAt _ _ _ 3 52 _ from by exact At_ldP (d:=52) (b:=C6b) (off:=6) (m:=1) (v:=(.slice C6AP (List.length C6.2.2.2.1) C6cP)) (by subst e_L25; kernel_rfl) (hC6).plc) (by kernel_rfl) (by subst e_L25; kernel_rfl),⟨QF_at (i:=5) (d:=54) (x:=.lf (.ep (.slice C6AP (List.length C6.2.2.2.1) C6cP) 2 ((u1).toNat) 0)) (show OpAt _ _ _ 5 54 _ from by exact At_idxR (d:=54) (z:=u1) (by subst e_L25; kernel_rfl) g24 (hC6).lP) (by kernel_rfl) (by subst e_L25; kernel_rfl),⟨QF_at (i:=6) (d:=55) (x:=.agg [.arr .i64 2 L25]) (show OpAt _ _ _ 6 55 _ from by rw [e_L25]; exact At_ldRow (d:=55) (q:=(u1).toNat) (by subst e_L25; kernel_rfl) (toNat_lt g24) (hC6).lP) (by kernel_rfl) (by subst e_L25; kernel_rfl),trivial⟩⟩⟩) ({ σ := [(49,.lf (.v (.pointer (some ⟨C6b,0,none⟩)))),(50,.lf (.v (.pointer (some ⟨C6b,0,none⟩)))),(51,.lf (.v (.pointer (some ⟨C6b,6,none⟩)))),(52,.lf (.v (.slice C6AP (List.length C6.2.2.2.1) C6cP))),(53,vi u1),(54,.lf (.ep (.slice C6AP (List.length C6.2.2.2.1) C6cP) 2 ((u1).toNat) 0)),(55,.agg [.arr .i64 2 L25]),(56,.agg [.arr .i64 8 L11]),(1,vi u1),(4,.lf (.own 4 0)),(5,.lf (.own 5 0)),(7,.lf (.v (.pointer (some ⟨C6b,0,none⟩)))),(9,.lf (.own 9 0))],H := [(4,[.arr .i64 2 L25]),(4,[.arr .i64 2 [(0 : Int),(0 : Int)]]),(5,[.arr .i64 8 [(0 : Int),(0 : Int),(0 : Int),(0 : Int),(0 : Int),(0 : Int),(0 : Int),(0 : Int)]]),(9,[.arr .i64 8 L11])],V := [],M := M4,ds := [] }) (by subst e_L25; kernel_rfl) [] (by kernel_rfl) trivial ?_
     refine Stage_ex (stage_all' [7] [] (by kernel_rfl) (by subst e_L25;kernel_rfl) (by kernel_rfl) trivial) ({ σ := [(49,.lf (.v (.pointer (some ⟨C6b,0,none⟩)))),(50,.lf (.v (.pointer (some ⟨C6b,0,none⟩)))),(51,.lf (.v (.pointer (some ⟨C6b,6,none⟩)))),(52,.lf (.v (.slice C6AP (List.length C6.2.2.2.1) C6cP))),(53,vi u1),(54,.lf (.ep (.slice C6AP (List.length C6.2.2.2.1) C6cP) 2 ((u1).toNat) 0)),(55,.agg [.arr .i64 2 L25]),(56,.agg [.arr .i64 8 L11]),(1,vi u1),(4,.lf (.own 4 0)),(5,.lf (.own 5 0)),(7,.lf (.v (.pointer (some ⟨C6b,0,none⟩)))),(9,.lf (.own 9 0))],H := [(5,[.arr .i64 8 L11]),(4,[.arr .i64 2 L25]),(4,[.arr .i64 2 [(0 : Int),(0 : Int)]]),(5,[.arr .i64 8 [(0 : Int),(0 : Int),(0 : Int),(0 : Int),(0 : Int),(0 : Int),(0 : Int),(0 : Int)]]),(9,[.arr .i64 8 L11])],V := [],M := M4,ds := [] }) (by subst e_L25;kernel_rfl) [(6,vi (0 : Int))] (by kernel_rfl) ⟨trivial,trivial⟩ ?_
     refine Stage_nil (stage_all' [10] [] (by kernel_rfl) (by subst e_L25;kernel_rfl) (by kernel_rfl) trivial) ?_
     refine thenQ_n ?_
     refine T_keep (s':={ σ := [(4,.lf (.own 4 0)),(5,.lf (.own 5 0)),(6,vi (0 : Int))],H := [(4,[.arr .i64 2 L25]),(5,[.arr .i64 8 L11])],V := [],M := M4,ds := [] }) [4,5,6] [4,5] [] (by subst e_L25;kernel_rfl) ?_
     refine T_ret (by kernel_rfl) ?_
     have h := Option.some.inj h
     subst h
     refine fin_ret (.tup [(none,[.arr .i64 2 L25]),(none,[.arr .i64 8 L11]),(some (.v (.int .i64 (0 : Int))),[])]) (by kernel_rfl) (by kernel_rfl) rfl ?_
     rfl
def p22_l2 (k : Nat) (u0_1 : List Int) (u1_1 : List (List Int)) (x9 : Int) (j28 : Option (Bool × Int)) (C6 : CT) (L27 : List Int) : Nat → Int → Option (Bool × Int)
 | 0,_ => none
 | n30 + 1,x29 => lt' (decide (x29 < (4 : Int))) fun b31 => sp b31 (gd ((0 : Int) ≤ x29 ∧ x29 < ((4 : Nat) : Int)) <| lt' (List.getD L27 (x29).toNat 0) fun x33 => gd ((0 : Int) ≤ x29 ∧ x29 < ((4 : Nat) : Int)) <| lt' (List.getD C6.2.2.2.2 ((x29).toNat * 1) []) fun R35 => gd ((0 : Int) ≤ x9 ∧ x9 < (R35.length : Int)) <| lt' (List.getD R35 ((x9).toNat) []) fun L37 => lt' (List.getD L37 0 0) fun x38 => lt' (List.getD L37 1 0) fun x39 => cl (p49 k x33 x38 x39) fun v40 => sp v40 (jn (fun (b41 : Bool) => sp b41 (some (false,(0 : Int))) (lt' (wr .i64 (x29 + (1 : Int))) fun x59 => p22_l2 k u0_1 u1_1 x9 j28 C6 L27 n30 x59)) fun j42 => lt' (decide (x9 > (0 : Int))) fun b43 => sp b43 (lt' (wr .i64 (x9 - (1 : Int))) fun x44 => gd ((0 : Int) ≤ x44 ∧ x44 < (u1_1.length : Int)) <| gd ((0 : Int) ≤ x29 ∧ x29 < ((4 : Nat) : Int)) <| lt' (List.getD (List.getD u1_1 ((x44).toNat) []) (0 + (x29).toNat * 1) 0) fun x47 => gd ((0 : Int) ≤ x29 ∧ x29 < ((4 : Nat) : Int)) <| lt' (List.getD u0_1 (0 + (x29).toNat * 1) 0) fun x49 => lt' (wr .i64 (x47 - x49)) fun x50 => lt' (wr .i64 (x9 - (1 : Int))) fun x51 => gd ((0 : Int) ≤ x51 ∧ x51 < (u1_1.length : Int)) <| gd ((0 : Int) ≤ x29 ∧ x29 < ((4 : Nat) : Int)) <| lt' (List.getD (List.getD u1_1 ((x51).toNat) []) (0 + (x29).toNat * 1) 0) fun x54 => gd ((0 : Int) ≤ x29 ∧ x29 < ((4 : Nat) : Int)) <| lt' (List.getD u0_1 (0 + (x29).toNat * 1) 0) fun x56 => lt' (wr .i64 (x54 + x56)) fun x57 => cl (p49 k x33 x50 x57) fun v58 => j42 (!v58)) (j42 false)) (some (false,(0 : Int)))) (j28)
def p22_l1 (k : Nat) (u0_1 : List Int) (u1_0 : List Int) (u1_1 : List (List Int)) (j8 : Option (Bool × Int)) (C6 : CT) : Nat → Int → Option (Bool × Int)
 | 0,_ => none
 | n10 + 1,x9 => lt' (decide (x9 < (u1_0.length : Int))) fun b11 => sp b11 (gd ((0 : Int) ≤ x9 ∧ x9 < (u1_0.length : Int)) <| lt' (List.getD u1_0 ((x9).toNat) 0) fun x13 => jn (fun (b14 : Bool) => sp b14 (some (false,(0 : Int))) (gd ((0 : Int) ≤ x9 ∧ x9 < (u1_1.length : Int)) <| lt' (List.getD u1_1 ((x9).toNat) []) fun L27 => jn (lt' (wr .i64 (x9 + (1 : Int))) fun x60 => p22_l1 k u0_1 u1_0 u1_1 j8 C6 n10 x60) fun j28 => p22_l2 k u0_1 u1_1 x9 j28 C6 L27 k (0 : Int))) fun j15 => gd ((0 : Int) ≤ x9 ∧ x9 < (List.length C6.2.2.2.1 : Int)) <| lt' (List.getD (List.getD C6.2.2.2.1 ((x9).toNat) []) 0 0) fun x17 => gd ((0 : Int) ≤ x9 ∧ x9 < (List.length C6.2.2.2.1 : Int)) <| lt' (List.getD (List.getD C6.2.2.2.1 ((x9).toNat) []) 1 0) fun x19 => cl (p49 k x13 x17 x19) fun v20 => sp v20 (lt' (decide (x9 > (0 : Int))) fun b21 => sp b21 (lt' (wr .i64 (x9 - (1 : Int))) fun x22 => gd ((0 : Int) ≤ x22 ∧ x22 < (u1_0.length : Int)) <| lt' (List.getD u1_0 ((x22).toNat) 0) fun x24 => lt' (decide (x13 < x24)) fun b25 => j15 b25) (j15 false)) (j15 true)) (j8)
def p22 (k : Nat) (u0_0 : List (List Int)) (u0_1 : List Int) (u1_0 : List Int) (u1_1 : List (List Int)) : Option (Bool × Int) :=
 cl2 (p46 k u0_0 u0_1) fun v1 v2 => lt' (v2 != (0 : Int)) fun b5 => sp b5 (some (false,v2)) (cl v1 fun C6 => cl (p54 k C6.1 C6.2.1 C6.2.2.1 C6.2.2.2.1 C6.2.2.2.2 u1_0 u1_1) fun v7 => sp v7 (jn (some (true,(0 : Int))) fun j8 => p22_l1 k u0_1 u1_0 u1_1 j8 C6 k (0 : Int)) (some (false,(0 : Int))))
theorem hf22 : Try.prog.funcs[22]? = some Try.f22 := by kernel_rfl
theorem w22 (k : Nat) {M : Mem} {Au0_0 : Option Addr} {cu0_0 : Nat} {Au1_0 : Option Addr} {cu1_0 : Nat} {Au1_1 : Option Addr} {cu1_1 : Nat} {u0_0 : List (List Int)} {u0_1 : List Int} {u1_0 : List Int} {u1_1 : List (List Int)} (hu0_0 : SlR M Au0_0 cu0_0 .i64 11 u0_0) (hu0_1 : u0_1.length = 4) (hu1_0 : SlI M Au1_0 cu1_0 .i64 u1_0) (hu1_1 : SlR M Au1_1 cu1_1 .i64 4 u1_1) {r} (h : p22 k u0_0 u0_1 u1_0 u1_1 = some r) :
  Fn Try.prog 22 [rval (.agg [.one (.v (.slice Au0_0 (u0_0.length) cu0_0)),.arr .i64 4 u0_1]),rval (.agg [.one (.v (.slice Au1_0 (u1_0.length) cu1_0)),.one (.v (.slice Au1_1 (u1_1.length) cu1_1))])] M (fun x _ => x = .tup [(some (.v (.bool r.1)),[]),(some (.v (.int .i64 r.2)),[])]) := by
 unfold p22 at h
 refine Fn_of (P:=Try.prog) (fn:=Try.f22) (c:=bodyOf Try.f22) [.agg [.one (.v (.slice Au0_0 (u0_0.length) cu0_0)),.arr .i64 4 u0_1],.agg [.one (.v (.slice Au1_0 (u1_0.length) cu1_0)),.one (.v (.slice Au1_1 (u1_1.length) cu1_1))]] hf22 (by kernel_rfl) (Nat.le_of_ble_eq_true (by kernel_rfl)) (args_ok (by kernel_rfl) ⟨⟨rfl,⟨hu0_1,trivial⟩⟩,⟨⟨rfl,⟨rfl,trivial⟩⟩,trivial⟩⟩) fun w => ?_
 change T _ _ _ (endQ _ _ _)
 refine T_seq (c1:=(sub [0] Bd22)) (c2:=(sub [1] Bd22)) (by kernel_rfl) ?_
 refine T_region (id:=0) (by kernel_rfl) ?_
 refine TI_segK (i:=0) (j:=4) (s':={ σ := [(2,.lf (.own 2 0)),(3,.lf (.own 3 0))],H := [(2,[.one (.v (.slice Au0_0 (u0_0.length) cu0_0)),.arr .i64 4 u0_1]),(3,[.one (.v (.slice Au1_0 (u1_0.length) cu1_0)),.one (.v (.slice Au1_1 (u1_1.length) cu1_1))])],V := [],M := M,ds := [] }) [2,3] [2,3] [] (by kernel_rfl) (by kernel_rfl) ?_
 refine TI_end (by kernel_rfl) ?_
 refine thenQ_n ?_
 refine T_seq (c1:=(sub [1,0] Bd22)) (c2:=(sub [1,1] Bd22)) (by kernel_rfl) ?_
 refine T_region (id:=1) (by kernel_rfl) ?_
 refine TI_segS (i:=0) (j:=1) [(2,.lf (.own 2 0)),(3,.lf (.own 3 0)),(14,.agg [.one (.v (.slice Au0_0 (u0_0.length) cu0_0)),.arr .i64 4 u0_1])] (by kernel_rfl) (by kernel_rfl) ?_
 obtain ⟨v1,v2,c_v1,h⟩ := cl2_some h
 refine TI_of (i:=1) (by kernel_rfl) (TE_callR (d:=15) (f:=46) (args:=[rval (.agg [.one (.v (.slice Au0_0 (u0_0.length) cu0_0)),.arr .i64 4 u0_1])]) (by kernel_rfl) (by kernel_rfl) (w46 k hu0_0 hu0_1 c_v1) ?_)
 rintro _ M4 _ hM4 _ ⟨q3,rfl,fq3⟩
 refine TI_segK (i:=2) (j:=7) (s':={ σ := [(2,.lf (.own 2 0)),(3,.lf (.own 3 0)),(6,.lf (.v q3)),(7,vi v2)],H := [(2,[.one (.v (.slice Au0_0 (u0_0.length) cu0_0)),.arr .i64 4 u0_1]),(3,[.one (.v (.slice Au1_0 (u1_0.length) cu1_0)),.one (.v (.slice Au1_1 (u1_1.length) cu1_1))])],V := [],M := M4,ds := [] }) [2,3,6,7] [2,3] [] (by kernel_rfl) (by kernel_rfl) ?_
 refine TI_end (by kernel_rfl) ?_
 refine thenQ_n ?_
 refine T_seq (c1:=(sub [1,1,0] Bd22)) (c2:=(sub [1,1,1] Bd22)) (by kernel_rfl) ?_
 refine T_seq (c1:=(sub [1,1,0,0] Bd22)) (c2:=(sub [1,1,0,1] Bd22)) (by kernel_rfl) ?_
 refine T_region (id:=2) (by kernel_rfl) ?_
 obtain ⟨b5,e_b5,h⟩ := lt_some h
 refine TI_segS (i:=0) (j:=2) [(2,.lf (.own 2 0)),(3,.lf (.own 3 0)),(6,.lf (.v q3)),(7,vi v2),(19,vb b5)] (by subst e_b5;kernel_rfl) (by kernel_rfl) ?_
 refine TI_end (by kernel_rfl) ?_
 refine thenQ_n ?_
 cases b5 with
 | true =>
  replace h := sp_t h
  refine T_condT (x:=(.tmp 19)) (c1:=(sub [1,1,0,1,0] Bd22)) (c2:=(sub [1,1,0,1,1] Bd22)) (by kernel_rfl) (by kernel_rfl) ?_
  refine T_keep (s':={ σ := [(7,vi v2)],H := [],V := [],M := M4,ds := [] }) [7] [] [] (by kernel_rfl) ?_
  refine T_seq (c1:=(sub [1,1,0,1,0,0] Bd22)) (c2:=(sub [1,1,0,1,0,1] Bd22)) (by kernel_rfl) ?_
  refine T_region (id:=3) (by kernel_rfl) ?_
  refine TI_segS (i:=0) (j:=3) [(4,vb false),(5,vi v2)] (by kernel_rfl) (by kernel_rfl) ?_
  refine TI_end (by kernel_rfl) ?_
  refine thenQ_n ?_
  refine T_ret (by kernel_rfl) ?_
  refine thenQ_r ?_
  have h := Option.some.inj h
  subst h
  refine fin_ret (.tup [(some (.v (.bool false)),[]),(some (.v (.int .i64 v2)),[])]) (by kernel_rfl) (by kernel_rfl) rfl ?_
  rfl
 | false =>
  replace h := sp_f h
  refine T_condF (x:=(.tmp 19)) (c1:=(sub [1,1,0,1,0] Bd22)) (c2:=(sub [1,1,0,1,1] Bd22)) (by kernel_rfl) (by kernel_rfl) ?_
  refine T_keepS [(2,.lf (.own 2 0)),(3,.lf (.own 3 0)),(6,.lf (.v q3))] (by kernel_rfl) ?_
  refine T_skip (by kernel_rfl) ?_
  refine thenQ_n ?_
  obtain ⟨C6,e_C6,h⟩ := cl_some h
  have hC6 := fq3
  rw [e_C6] at hC6
  obtain ⟨C6b,C6A,C6c,C6AP,C6cP,C6AV,C6cV,rfl,hC6⟩ := hC6
  refine T_seq (c1:=(sub [1,1,1,0] Bd22)) (c2:=(sub [1,1,1,1] Bd22)) (by kernel_rfl) ?_
  refine T_seq (c1:=(sub [1,1,1,0,0] Bd22)) (c2:=(sub [1,1,1,0,1] Bd22)) (by kernel_rfl) ?_
  refine T_region (id:=4) (by kernel_rfl) ?_
  refine TI_segK (i:=0) (j:=2) (s':={ σ := [(2,.lf (.own 2 0)),(3,.lf (.own 3 0)),(6,.lf (.v (.pointer (some ⟨C6b,0,none⟩)))),(21,.lf (.v (.pointer (some ⟨C6b,0,none⟩)))),(22,.agg [.one (.v (.slice Au1_0 (u1_0.length) cu1_0)),.one (.v (.slice Au1_1 (u1_1.length) cu1_1))])],H := [(2,[.one (.v (.slice Au0_0 (u0_0.length) cu0_0)),.arr .i64 4 u0_1]),(3,[.one (.v (.slice Au1_0 (u1_0.length) cu1_0)),.one (.v (.slice Au1_1 (u1_1.length) cu1_1))])],V := [],M := M4,ds := [] }) [2,3,6,21,22] [2,3] [] (by kernel_rfl) (by kernel_rfl) ?_
  obtain ⟨v7,c_v7,h⟩ := cl_some h
  refine TI_at (i:=2) (d:=23) (x:=vb v7) (At_call (d:=23) (f:=54) (args:=[rval (.lf (.v (.pointer (some ⟨C6b,0,none⟩)))),rval (.agg [.one (.v (.slice Au1_0 (u1_0.length) cu1_0)),.one (.v (.slice Au1_1 (u1_1.length) cu1_1))])]) (x:=vb v7) (by kernel_rfl) (w54 k hC6 (hu1_0.le hM4) (hu1_1.le hM4) c_v7)) (by kernel_rfl) trivial ?_
  refine TI_segK (i:=3) (j:=4) (s':={ σ := [(2,.lf (.own 2 0)),(3,.lf (.own 3 0)),(6,.lf (.v (.pointer (some ⟨C6b,0,none⟩)))),(24,vb (!v7))],H := [(2,[.one (.v (.slice Au0_0 (u0_0.length) cu0_0)),.arr .i64 4 u0_1]),(3,[.one (.v (.slice Au1_0 (u1_0.length) cu1_0)),.one (.v (.slice Au1_1 (u1_1.length) cu1_1))])],V := [],M := M4,ds := [] }) [2,3,6,24] [2,3] [] (by kernel_rfl) (by kernel_rfl) ?_
  refine TI_end (by kernel_rfl) ?_
  refine thenQ_n ?_
  cases v7 with
  | true =>
   replace h := sp_t h
   refine T_condF (x:=(.tmp 24)) (c1:=(sub [1,1,1,0,1,0] Bd22)) (c2:=(sub [1,1,1,0,1,1] Bd22)) (by kernel_rfl) (by kernel_rfl) ?_
   refine T_keepS [(2,.lf (.own 2 0)),(3,.lf (.own 3 0)),(6,.lf (.v (.pointer (some ⟨C6b,0,none⟩))))] (by kernel_rfl) ?_
   refine T_skip (by kernel_rfl) ?_
   refine thenQ_n ?_
   refine T_seq (c1:=(sub [1,1,1,1,0] Bd22)) (c2:=(sub [1,1,1,1,1] Bd22)) (by kernel_rfl) ?_
   refine T_seq (c1:=(sub [1,1,1,1,0,0] Bd22)) (c2:=(sub [1,1,1,1,0,1] Bd22)) (by kernel_rfl) ?_
   refine T_region (id:=6) (by kernel_rfl) ?_
   refine TI_segS (i:=0) (j:=4) [(2,.lf (.own 2 0)),(3,.lf (.own 3 0)),(6,.lf (.v (.pointer (some ⟨C6b,0,none⟩)))),(26,.lf (.v (.slice Au1_0 (u1_0.length) cu1_0))),(27,vi (u1_0.length : Int)),(28,vi (0 : Int))] (by kernel_rfl) (by kernel_rfl) ?_
   refine TI_end (by kernel_rfl) ?_
   refine thenQ_n ?_
   obtain ⟨j8,e_j8,h⟩ := jn_some h
   refine T_bcut (id:=0) (c1:=(sub [1,1,1,1,0,1,0] Bd22)) (fun s' => Sub { σ := [],H := [],V := [],M := M4,ds := [] } s' ∧ j8 = some r) (by kernel_rfl) ?_ ?_
   ·refine T_loop (c1:=(sub [1,1,1,1,0,1,0,0] Bd22)) (by kernel_rfl) (fun n10 s' => ∃ (x9 : Int),Sub { σ := [(2,.lf (.own 2 0)),(3,.lf (.own 3 0)),(6,.lf (.v (.pointer (some ⟨C6b,0,none⟩)))),(26,.lf (.v (.slice Au1_0 (u1_0.length) cu1_0))),(27,vi (u1_0.length : Int)),(28,vi x9)],H := [(2,[.one (.v (.slice Au0_0 (u0_0.length) cu0_0)),.arr .i64 4 u0_1]),(3,[.one (.v (.slice Au1_0 (u1_0.length) cu1_0)),.one (.v (.slice Au1_1 (u1_1.length) cu1_1))])],V := [],M := M4,ds := [] } s' ∧ p22_l1 k u0_1 u1_0 u1_1 j8 C6 n10 x9 = some r) (k:=k) ⟨(0 : Int),keep_sub (ts:=[2,3,6,26,27,28]) (hs:=[2,3]) (vs:=[]) (by kernel_rfl),h⟩ ?_
    rintro n10 s' ⟨x9,hsub,h⟩
    cases n10 with
    | zero => rw [p22_l1] at h;cases h
    | succ n10 =>
     rw [p22_l1] at h
     refine T_sub hsub ?_
     refine T_seq (c1:=(sub [1,1,1,1,0,1,0,0,0] Bd22)) (c2:=(sub [1,1,1,1,0,1,0,0,1] Bd22)) (by kernel_rfl) ?_
     refine T_region (id:=7) (by kernel_rfl) ?_
     obtain ⟨b11,e_b11,h⟩ := lt_some h
     refine TI_segK (i:=0) (j:=1) (s':={ σ := [(2,.lf (.own 2 0)),(3,.lf (.own 3 0)),(6,.lf (.v (.pointer (some ⟨C6b,0,none⟩)))),(26,.lf (.v (.slice Au1_0 (u1_0.length) cu1_0))),(27,vi (u1_0.length : Int)),(28,vi x9),(29,vb b11)],H := [(2,[.one (.v (.slice Au0_0 (u0_0.length) cu0_0)),.arr .i64 4 u0_1]),(3,[.one (.v (.slice Au1_0 (u1_0.length) cu1_0)),.one (.v (.slice Au1_1 (u1_1.length) cu1_1))])],V := [],M := M4,ds := [] }) [2,3,6,26,27,28,29] [2,3] [] (by subst e_b11;kernel_rfl) (by kernel_rfl) ?_
     refine TI_end (by kernel_rfl) ?_
     refine thenQ_n ?_
     refine T_seq (c1:=(sub [1,1,1,1,0,1,0,0,1,0] Bd22)) (c2:=(sub [1,1,1,1,0,1,0,0,1,1] Bd22)) (by kernel_rfl) ?_
     cases b11 with
     | true =>
      replace h := sp_t h
      refine T_condT (x:=(.tmp 29)) (c1:=(sub [1,1,1,1,0,1,0,0,1,0,0] Bd22)) (c2:=(sub [1,1,1,1,0,1,0,0,1,0,1] Bd22)) (by kernel_rfl) (by kernel_rfl) ?_
      refine T_keepS [(2,.lf (.own 2 0)),(3,.lf (.own 3 0)),(6,.lf (.v (.pointer (some ⟨C6b,0,none⟩)))),(26,.lf (.v (.slice Au1_0 (u1_0.length) cu1_0))),(27,vi (u1_0.length : Int)),(28,vi x9)] (by kernel_rfl) ?_
      refine T_skip (by kernel_rfl) ?_
      refine thenQ_n ?_
      refine T_seq (c1:=(sub [1,1,1,1,0,1,0,0,1,1,0] Bd22)) (c2:=(sub [1,1,1,1,0,1,0,0,1,1,1] Bd22)) (by kernel_rfl) ?_
      refine T_block (id:=1) (c1:=(sub [1,1,1,1,0,1,0,0,1,1,0,0] Bd22)) (by kernel_rfl) ?_
      refine T_seq (c1:=(sub [1,1,1,1,0,1,0,0,1,1,0,0,0] Bd22)) (c2:=(sub [1,1,1,1,0,1,0,0,1,1,0,0,1] Bd22)) (by kernel_rfl) ?_
      refine T_region (id:=8) (by kernel_rfl) ?_
      refine TI_segS (i:=0) (j:=1) [(2,.lf (.own 2 0)),(3,.lf (.own 3 0)),(6,.lf (.v (.pointer (some ⟨C6b,0,none⟩)))),(26,.lf (.v (.slice Au1_0 (u1_0.length) cu1_0))),(27,vi (u1_0.length : Int)),(28,vi x9),(30,vi x9)] (by kernel_rfl) (by kernel_rfl) ?_
      obtain ⟨g12,h⟩ := gd_some h
      refine TI_at (i:=1) (d:=31) (x:=.lf (.ep (.slice Au1_0 (u1_0.length) cu1_0) 1 ((x9).toNat) 0)) (by exact At_idxI (d:=31) (z:=x9) (by kernel_rfl) g12 (hu1_0.le hM4)) (by kernel_rfl) trivial ?_
      obtain ⟨x13,e_x13,h⟩ := lt_some h
      refine TI_at (i:=2) (d:=32) (x:=vi x13) (by rw [e_x13]; exact At_ldI (d:=32) (q:=(x9).toNat) (by subst e_x13; kernel_rfl) (toNat_lt g12) (hu1_0.le hM4)) (by kernel_rfl) trivial ?_
      refine TI_segK (i:=3) (j:=5) (s':={ σ := [(2,.lf (.own 2 0)),(3,.lf (.own 3 0)),(6,.lf (.v (.pointer (some ⟨C6b,0,none⟩)))),(8,vi x9),(9,vi x13),(26,.lf (.v (.slice Au1_0 (u1_0.length) cu1_0))),(27,vi (u1_0.length : Int)),(28,vi x9)],H := [(2,[.one (.v (.slice Au0_0 (u0_0.length) cu0_0)),.arr .i64 4 u0_1]),(3,[.one (.v (.slice Au1_0 (u1_0.length) cu1_0)),.one (.v (.slice Au1_1 (u1_1.length) cu1_1))])],V := [],M := M4,ds := [] }) [2,3,6,8,9,26,27,28] [2,3] [] (by kernel_rfl) (by kernel_rfl) ?_
      refine TI_end (by kernel_rfl) ?_
      refine thenQ_n ?_
      refine T_seq (c1:=(sub [1,1,1,1,0,1,0,0,1,1,0,0,1,0] Bd22)) (c2:=(sub [1,1,1,1,0,1,0,0,1,1,0,0,1,1] Bd22)) (by kernel_rfl) ?_
      obtain ⟨j15,e_j15,h⟩ := jn_some h
      refine T_cut (c1:=(sub [1,1,1,1,0,1,0,0,1,1,0,0,1,0,0] Bd22)) (c2:=(sub [1,1,1,1,0,1,0,0,1,1,0,0,1,0,1] Bd22)) (fun s' => ∃ (b14 : Bool),Sub { σ := [(2,.lf (.own 2 0)),(3,.lf (.own 3 0)),(6,.lf (.v (.pointer (some ⟨C6b,0,none⟩)))),(8,vi x9),(26,.lf (.v (.slice Au1_0 (u1_0.length) cu1_0))),(27,vi (u1_0.length : Int)),(28,vi x9),(65,vb b14)],H := [(2,[.one (.v (.slice Au0_0 (u0_0.length) cu0_0)),.arr .i64 4 u0_1]),(3,[.one (.v (.slice Au1_0 (u1_0.length) cu1_0)),.one (.v (.slice Au1_1 (u1_1.length) cu1_1))])],V := [],M := M4,ds := [] } s' ∧ j15 b14 = some r) (by kernel_rfl) ?_ ?_
      ·obtain ⟨g16,h⟩ := gd_some h
       obtain ⟨x17,e_x17,h⟩ := lt_some h
       obtain ⟨g18,h⟩ := gd_some h
       obtain ⟨x19,e_x19,h⟩ := lt_some h
       obtain ⟨v20,c_v20,h⟩ := cl_some h
       cases v20 with
       | true =>
        replace h := sp_t h
        obtain ⟨b21,e_b21,h⟩ := lt_some h
        cases b21 with
        | true =>
         replace h := sp_t h
         obtain ⟨x22,e_x22,h⟩ := lt_some h
         obtain ⟨g23,h⟩ := gd_some h
         obtain ⟨x24,e_x24,h⟩ := lt_some h
         obtain ⟨b25,e_b25,h⟩ := lt_some h
         refine T_draw' (id:=9) [] [0,0,0,0,0,0,0,0,0,0,0,0,0,0,0,0,0,0,0,0,0,0,0,0,0,0,0,0,0,0,0,0,0] (by kernel_rfl) (by kernel_rfl) (by kernel_rfl) (by kernel_rfl) ((33,vi x13)::(34,.lf (.v (.pointer (some ⟨C6b,0,none⟩))))::(35,.lf (.v (.pointer (some ⟨C6b,0,none⟩))))::(36,.lf (.v (.pointer (some ⟨C6b,6,none⟩))))::(37,.lf (.v (.slice C6AP (List.length C6.2.2.2.1) C6cP)))::(38,vi x9)::(39,.lf (.ep (.slice C6AP (List.length C6.2.2.2.1) C6cP) 2 ((x9).toNat) 0))::(40,.lf (.ep (.slice C6AP (List.length C6.2.2.2.1) C6cP) 2 ((x9).toNat) 0))::(41,vi x17)::(42,.lf (.v (.pointer (some ⟨C6b,0,none⟩))))::(43,.lf (.v (.pointer (some ⟨C6b,0,none⟩))))::(44,.lf (.v (.pointer (some ⟨C6b,6,none⟩))))::(45,.lf (.v (.slice C6AP (List.length C6.2.2.2.1) C6cP)))::(46,vi x9)::(47,.lf (.ep (.slice C6AP (List.length C6.2.2.2.1) C6cP) 2 ((x9).toNat) 0))::(48,.lf (.ep (.slice C6AP (List.length C6.2.2.2.1) C6cP) 2 ((x9).toNat) 1))::(49,vi x19)::(50,vb true)::(51,vb false)::(52,vb false)::(53,vi x9)::(54,vb true)::(55,vb true)::(56,vi x13)::(57,.lf (.own 3 0))::(58,.lf (.v (.slice Au1_0 (u1_0.length) cu1_0)))::(59,vi x9)::(60,vi x22)::(61,.lf (.ep (.slice Au1_0 (u1_0.length) cu1_0) 1 ((x22).toNat) 0))::(62,vi x24)::(63,vb b25)::(64,vb b25)::(65,vb b25)::[]) (by kernel_rfl) (wfs_lf _ (by kernel_rfl)) ?_
         refine Stage_nil (stage_all' [0,1,2,3,5,7,9,10,11,13,15,18,19,20,22,23,24,25,26,27,30,31,32] [4,6,8,12,14,16,17,21,28,29] (by kernel_rfl) (by subst_vars; kernel_rfl) (by kernel_rfl) ⟨QF_at (i:=4) (d:=37) (x:=.lf (.v (.slice C6AP (List.length C6.2.2.2.1) C6cP))) (show OpAt _ _ _ 4 37 _ from by exact At_ldP (d:=37) (b:=C6b) (off:=6) (m:=1) (v:=(.slice C6AP (List.length C6.2.2.2.1) C6cP)) (by subst_vars; kernel_rfl) (hC6).plc) (by kernel_rfl) (by subst_vars; kernel_rfl),⟨QF_at (i:=6) (d:=39) (x:=.lf (.ep (.slice C6AP (List.length C6.2.2.2.1) C6cP) 2 ((x9).toNat) 0)) (show OpAt _ _ _ 6 39 _ from by exact At_idxR (d:=39) (z:=x9) (by subst_vars; kernel_rfl) g16 (hC6).lP) (by kernel_rfl) (by subst_vars; kernel_rfl),⟨QF_at (i:=8) (d:=41) (x:=vi x17) (show OpAt _ _ _ 8 41 _ from by rw [e_x17]; exact At_ldR1 (d:=41) (q:=(x9).toNat) (j:=0) (by subst_vars; kernel_rfl) rfl (toNat_lt g16) (hC6).lP) (by kernel_rfl) (by subst_vars; kernel_rfl),⟨QF_at (i:=12) (d:=45) (x:=.lf (.v (.slice C6AP (List.length C6.2.2.2.1) C6cP))) (show OpAt _ _ _ 12 45 _ from by exact At_ldP (d:=45) (b:=C6b) (off:=6) (m:=1) (v:=(.slice C6AP (List.length C6.2.2.2.1) C6cP)) (by subst_vars; kernel_rfl) (hC6).plc) (by kernel_rfl) (by subst_vars; kernel_rfl),⟨QF_at (i:=14) (d:=47) (x:=.lf (.ep (.slice C6AP (List.length C6.2.2.2.1) C6cP) 2 ((x9).toNat) 0)) (show OpAt _ _ _ 14 47 _ from by exact At_idxR (d:=47) (z:=x9) (by subst_vars; kernel_rfl) g18 (hC6).lP) (by kernel_rfl) (by subst_vars; kernel_rfl),⟨QF_at (i:=16) (d:=49) (x:=vi x19) (show OpAt _ _ _ 16 49 _ from by rw [e_x19]; exact At_ldR1 (d:=49) (q:=(x9).toNat) (j:=1) (by subst_vars; kernel_rfl) rfl (toNat_lt g18) (hC6).lP) (by kernel_rfl) (by subst_vars; kernel_rfl),⟨QF_at (i:=17) (d:=50) (x:=vb true) (show OpAt _ _ _ 17 50 _ from by exact At_call (d:=50) (f:=49) (args:=[rval (vi x13),rval (vi x17),rval (vi x19)]) (x:=vb true) (by subst_vars; kernel_rfl) (w49 k  c_v20)) (by kernel_rfl) (by subst_vars; kernel_rfl),⟨QF_at (i:=21) (d:=54) (x:=vb true) (show OpAt _ _ _ 21 54 _ from by exact At_bin (d:=54) (b:=.gtr) (u:=.int .i64 x9) (v:=.int .i64 (0 : Int)) (w':=.bool true) (by subst_vars; kernel_rfl) (by rw [show exBin .gtr (.int .i64 x9) (.int .i64 (0 : Int)) = some (.bool (decide (x9 > (0 : Int)))) from by kernel_rfl,← e_b21])) (by kernel_rfl) (by subst_vars; kernel_rfl),⟨QF_at (i:=28) (d:=61) (x:=.lf (.ep (.slice Au1_0 (u1_0.length) cu1_0) 1 ((x22).toNat) 0)) (show OpAt _ _ _ 28 61 _ from by exact At_idxI (d:=61) (z:=x22) (by subst_vars; kernel_rfl) g23 (hu1_0.le hM4)) (by kernel_rfl) (by subst_vars; kernel_rfl),⟨QF_at (i:=29) (d:=62) (x:=vi x24) (show OpAt _ _ _ 29 62 _ from by rw [e_x24]; exact At_ldI (d:=62) (q:=(x22).toNat) (by subst_vars; kernel_rfl) (toNat_lt g23) (hu1_0.le hM4)) (by kernel_rfl) (by subst_vars; kernel_rfl),trivial⟩⟩⟩⟩⟩⟩⟩⟩⟩⟩) ?_
         refine thenQ_n ?_
         exact ⟨b25,keep_sub (ts:=[2,3,6,8,26,27,28,65]) (hs:=[2,3]) (vs:=[]) (by subst_vars;kernel_rfl),h⟩
        | false =>
         replace h := sp_f h
         refine T_draw' (id:=9) [] [0,0,0,0,0,0,0,0,0,0,0,0,0,0,0,0,0,0,0,0,0,0,0,0,0,0,0,0,0,0,0,0,0] (by kernel_rfl) (by kernel_rfl) (by kernel_rfl) (by kernel_rfl) ((33,vi x13)::(34,.lf (.v (.pointer (some ⟨C6b,0,none⟩))))::(35,.lf (.v (.pointer (some ⟨C6b,0,none⟩))))::(36,.lf (.v (.pointer (some ⟨C6b,6,none⟩))))::(37,.lf (.v (.slice C6AP (List.length C6.2.2.2.1) C6cP)))::(38,vi x9)::(39,.lf (.ep (.slice C6AP (List.length C6.2.2.2.1) C6cP) 2 ((x9).toNat) 0))::(40,.lf (.ep (.slice C6AP (List.length C6.2.2.2.1) C6cP) 2 ((x9).toNat) 0))::(41,vi x17)::(42,.lf (.v (.pointer (some ⟨C6b,0,none⟩))))::(43,.lf (.v (.pointer (some ⟨C6b,0,none⟩))))::(44,.lf (.v (.pointer (some ⟨C6b,6,none⟩))))::(45,.lf (.v (.slice C6AP (List.length C6.2.2.2.1) C6cP)))::(46,vi x9)::(47,.lf (.ep (.slice C6AP (List.length C6.2.2.2.1) C6cP) 2 ((x9).toNat) 0))::(48,.lf (.ep (.slice C6AP (List.length C6.2.2.2.1) C6cP) 2 ((x9).toNat) 1))::(49,vi x19)::(50,vb true)::(51,vb false)::(52,vb false)::(53,vi x9)::(54,vb false)::(55,vb false)::(56,.tup [])::(57,.tup [])::(58,.tup [])::(59,.tup [])::(60,.tup [])::(61,.tup [])::(62,.tup [])::(63,.tup [])::(64,vb false)::(65,vb false)::[]) (by kernel_rfl) ⟨trivial,⟨trivial,⟨trivial,⟨trivial,⟨trivial,⟨trivial,⟨trivial,⟨trivial,⟨trivial,⟨trivial,⟨trivial,⟨trivial,⟨trivial,⟨trivial,⟨trivial,⟨trivial,⟨trivial,⟨trivial,⟨trivial,⟨trivial,⟨trivial,⟨trivial,⟨trivial,⟨(by intro y hy;cases hy),⟨(by intro y hy;cases hy),⟨(by intro y hy;cases hy),⟨(by intro y hy;cases hy),⟨(by intro y hy;cases hy),⟨(by intro y hy;cases hy),⟨(by intro y hy;cases hy),⟨(by intro y hy;cases hy),⟨trivial,⟨trivial,trivial⟩⟩⟩⟩⟩⟩⟩⟩⟩⟩⟩⟩⟩⟩⟩⟩⟩⟩⟩⟩⟩⟩⟩⟩⟩⟩⟩⟩⟩⟩⟩⟩⟩ ?_
         refine Stage_nil (stage_all' [0,1,2,3,5,7,9,10,11,13,15,18,19,20,22,23,24,25,26,27,28,29,30,31,32] [4,6,8,12,14,16,17,21] (by kernel_rfl) (by subst e_x19 e_x17; kernel_rfl) (by kernel_rfl) ⟨QF_at (i:=4) (d:=37) (x:=.lf (.v (.slice C6AP (List.length C6.2.2.2.1) C6cP))) (show OpAt _ _ _ 4 37 _ from by exact At_ldP (d:=37) (b:=C6b) (off:=6) (m:=1) (v:=(.slice C6AP (List.length C6.2.2.2.1) C6cP)) (by subst e_x19 e_x17; kernel_rfl) (hC6).plc) (by kernel_rfl) (by subst e_x19 e_x17; kernel_rfl),⟨QF_at (i:=6) (d:=39) (x:=.lf (.ep (.slice C6AP (List.length C6.2.2.2.1) C6cP) 2 ((x9).toNat) 0)) (show OpAt _ _ _ 6 39 _ from by exact At_idxR (d:=39) (z:=x9) (by subst e_x19 e_x17; kernel_rfl) g16 (hC6).lP) (by kernel_rfl) (by subst e_x19 e_x17; kernel_rfl),⟨QF_at (i:=8) (d:=41) (x:=vi x17) (show OpAt _ _ _ 8 41 _ from by rw [e_x17]; exact At_ldR1 (d:=41) (q:=(x9).toNat) (j:=0) (by subst e_x19 e_x17; kernel_rfl) rfl (toNat_lt g16) (hC6).lP) (by kernel_rfl) (by subst e_x19 e_x17; kernel_rfl),⟨QF_at (i:=12) (d:=45) (x:=.lf (.v (.slice C6AP (List.length C6.2.2.2.1) C6cP))) (show OpAt _ _ _ 12 45 _ from by exact At_ldP (d:=45) (b:=C6b) (off:=6) (m:=1) (v:=(.slice C6AP (List.length C6.2.2.2.1) C6cP)) (by subst e_x19 e_x17; kernel_rfl) (hC6).plc) (by kernel_rfl) (by subst e_x19 e_x17; kernel_rfl),⟨QF_at (i:=14) (d:=47) (x:=.lf (.ep (.slice C6AP (List.length C6.2.2.2.1) C6cP) 2 ((x9).toNat) 0)) (show OpAt _ _ _ 14 47 _ from by exact At_idxR (d:=47) (z:=x9) (by subst e_x19 e_x17; kernel_rfl) g18 (hC6).lP) (by kernel_rfl) (by subst e_x19 e_x17; kernel_rfl),⟨QF_at (i:=16) (d:=49) (x:=vi x19) (show OpAt _ _ _ 16 49 _ from by rw [e_x19]; exact At_ldR1 (d:=49) (q:=(x9).toNat) (j:=1) (by subst e_x19 e_x17; kernel_rfl) rfl (toNat_lt g18) (hC6).lP) (by kernel_rfl) (by subst e_x19 e_x17; kernel_rfl),⟨QF_at (i:=17) (d:=50) (x:=vb true) (show OpAt _ _ _ 17 50 _ from by exact At_call (d:=50) (f:=49) (args:=[rval (vi x13),rval (vi x17),rval (vi x19)]) (x:=vb true) (by subst e_x19 e_x17; kernel_rfl) (w49 k  c_v20)) (by kernel_rfl) (by subst e_x19 e_x17; kernel_rfl),⟨QF_at (i:=21) (d:=54) (x:=vb false) (show OpAt _ _ _ 21 54 _ from by exact At_bin (d:=54) (b:=.gtr) (u:=.int .i64 x9) (v:=.int .i64 (0 : Int)) (w':=.bool false) (by subst e_x19 e_x17; kernel_rfl) (by rw [show exBin .gtr (.int .i64 x9) (.int .i64 (0 : Int)) = some (.bool (decide (x9 > (0 : Int)))) from by kernel_rfl,← e_b21])) (by kernel_rfl) (by subst e_x19 e_x17; kernel_rfl),trivial⟩⟩⟩⟩⟩⟩⟩⟩) ?_
         refine thenQ_n ?_
         exact ⟨false,keep_sub (ts:=[2,3,6,8,26,27,28,65]) (hs:=[2,3]) (vs:=[]) (by subst e_x19 e_x17;kernel_rfl),h⟩
       | false =>
        replace h := sp_f h
        refine T_draw' (id:=9) [] [0,0,0,0,0,0,0,0,0,0,0,0,0,0,0,0,0,0,0,0,0,0,0,0,0,0,0,0,0,0,0,0,0] (by kernel_rfl) (by kernel_rfl) (by kernel_rfl) (by kernel_rfl) ((33,vi x13)::(34,.lf (.v (.pointer (some ⟨C6b,0,none⟩))))::(35,.lf (.v (.pointer (some ⟨C6b,0,none⟩))))::(36,.lf (.v (.pointer (some ⟨C6b,6,none⟩))))::(37,.lf (.v (.slice C6AP (List.length C6.2.2.2.1) C6cP)))::(38,vi x9)::(39,.lf (.ep (.slice C6AP (List.length C6.2.2.2.1) C6cP) 2 ((x9).toNat) 0))::(40,.lf (.ep (.slice C6AP (List.length C6.2.2.2.1) C6cP) 2 ((x9).toNat) 0))::(41,vi x17)::(42,.lf (.v (.pointer (some ⟨C6b,0,none⟩))))::(43,.lf (.v (.pointer (some ⟨C6b,0,none⟩))))::(44,.lf (.v (.pointer (some ⟨C6b,6,none⟩))))::(45,.lf (.v (.slice C6AP (List.length C6.2.2.2.1) C6cP)))::(46,vi x9)::(47,.lf (.ep (.slice C6AP (List.length C6.2.2.2.1) C6cP) 2 ((x9).toNat) 0))::(48,.lf (.ep (.slice C6AP (List.length C6.2.2.2.1) C6cP) 2 ((x9).toNat) 1))::(49,vi x19)::(50,vb false)::(51,vb true)::(52,vb true)::(53,.tup [])::(54,.tup [])::(55,.tup [])::(56,.tup [])::(57,.tup [])::(58,.tup [])::(59,.tup [])::(60,.tup [])::(61,.tup [])::(62,.tup [])::(63,.tup [])::(64,.tup [])::(65,vb true)::[]) (by kernel_rfl) ⟨trivial,⟨trivial,⟨trivial,⟨trivial,⟨trivial,⟨trivial,⟨trivial,⟨trivial,⟨trivial,⟨trivial,⟨trivial,⟨trivial,⟨trivial,⟨trivial,⟨trivial,⟨trivial,⟨trivial,⟨trivial,⟨trivial,⟨trivial,⟨(by intro y hy;cases hy),⟨(by intro y hy;cases hy),⟨(by intro y hy;cases hy),⟨(by intro y hy;cases hy),⟨(by intro y hy;cases hy),⟨(by intro y hy;cases hy),⟨(by intro y hy;cases hy),⟨(by intro y hy;cases hy),⟨(by intro y hy;cases hy),⟨(by intro y hy;cases hy),⟨(by intro y hy;cases hy),⟨(by intro y hy;cases hy),⟨trivial,trivial⟩⟩⟩⟩⟩⟩⟩⟩⟩⟩⟩⟩⟩⟩⟩⟩⟩⟩⟩⟩⟩⟩⟩⟩⟩⟩⟩⟩⟩⟩⟩⟩⟩ ?_
        refine Stage_nil (stage_all' [0,1,2,3,5,7,9,10,11,13,15,18,19,20,21,22,23,24,25,26,27,28,29,30,31,32] [4,6,8,12,14,16,17] (by kernel_rfl) (by subst e_x19 e_x17; kernel_rfl) (by kernel_rfl) ⟨QF_at (i:=4) (d:=37) (x:=.lf (.v (.slice C6AP (List.length C6.2.2.2.1) C6cP))) (show OpAt _ _ _ 4 37 _ from by exact At_ldP (d:=37) (b:=C6b) (off:=6) (m:=1) (v:=(.slice C6AP (List.length C6.2.2.2.1) C6cP)) (by subst e_x19 e_x17; kernel_rfl) (hC6).plc) (by kernel_rfl) (by subst e_x19 e_x17; kernel_rfl),⟨QF_at (i:=6) (d:=39) (x:=.lf (.ep (.slice C6AP (List.length C6.2.2.2.1) C6cP) 2 ((x9).toNat) 0)) (show OpAt _ _ _ 6 39 _ from by exact At_idxR (d:=39) (z:=x9) (by subst e_x19 e_x17; kernel_rfl) g16 (hC6).lP) (by kernel_rfl) (by subst e_x19 e_x17; kernel_rfl),⟨QF_at (i:=8) (d:=41) (x:=vi x17) (show OpAt _ _ _ 8 41 _ from by rw [e_x17]; exact At_ldR1 (d:=41) (q:=(x9).toNat) (j:=0) (by subst e_x19 e_x17; kernel_rfl) rfl (toNat_lt g16) (hC6).lP) (by kernel_rfl) (by subst e_x19 e_x17; kernel_rfl),⟨QF_at (i:=12) (d:=45) (x:=.lf (.v (.slice C6AP (List.length C6.2.2.2.1) C6cP))) (show OpAt _ _ _ 12 45 _ from by exact At_ldP (d:=45) (b:=C6b) (off:=6) (m:=1) (v:=(.slice C6AP (List.length C6.2.2.2.1) C6cP)) (by subst e_x19 e_x17; kernel_rfl) (hC6).plc) (by kernel_rfl) (by subst e_x19 e_x17; kernel_rfl),⟨QF_at (i:=14) (d:=47) (x:=.lf (.ep (.slice C6AP (List.length C6.2.2.2.1) C6cP) 2 ((x9).toNat) 0)) (show OpAt _ _ _ 14 47 _ from by exact At_idxR (d:=47) (z:=x9) (by subst e_x19 e_x17; kernel_rfl) g18 (hC6).lP) (by kernel_rfl) (by subst e_x19 e_x17; kernel_rfl),⟨QF_at (i:=16) (d:=49) (x:=vi x19) (show OpAt _ _ _ 16 49 _ from by rw [e_x19]; exact At_ldR1 (d:=49) (q:=(x9).toNat) (j:=1) (by subst e_x19 e_x17; kernel_rfl) rfl (toNat_lt g18) (hC6).lP) (by kernel_rfl) (by subst e_x19 e_x17; kernel_rfl),⟨QF_at (i:=17) (d:=50) (x:=vb false) (show OpAt _ _ _ 17 50 _ from by exact At_call (d:=50) (f:=49) (args:=[rval (vi x13),rval (vi x17),rval (vi x19)]) (x:=vb false) (by subst e_x19 e_x17; kernel_rfl) (w49 k  c_v20)) (by kernel_rfl) (by subst e_x19 e_x17; kernel_rfl),trivial⟩⟩⟩⟩⟩⟩⟩) ?_
        refine thenQ_n ?_
        exact ⟨true,keep_sub (ts:=[2,3,6,8,26,27,28,65]) (hs:=[2,3]) (vs:=[]) (by subst e_x19 e_x17;kernel_rfl),h⟩
      ·rintro s' ⟨b14,hsub,h⟩
       subst e_j15
       refine T_sub hsub ?_
       cases b14 with
       | true =>
        replace h := sp_t h
        refine T_condT (x:=(.tmp 65)) (c1:=(sub [1,1,1,1,0,1,0,0,1,1,0,0,1,0,1,0] Bd22)) (c2:=(sub [1,1,1,1,0,1,0,0,1,1,0,0,1,0,1,1] Bd22)) (by kernel_rfl) (by kernel_rfl) ?_
        refine T_keep (s':={ σ := [],H := [],V := [],M := M4,ds := [] }) [] [] [] (by kernel_rfl) ?_
        refine T_seq (c1:=(sub [1,1,1,1,0,1,0,0,1,1,0,0,1,0,1,0,0] Bd22)) (c2:=(sub [1,1,1,1,0,1,0,0,1,1,0,0,1,0,1,0,1] Bd22)) (by kernel_rfl) ?_
        refine T_region (id:=10) (by kernel_rfl) ?_
        refine TI_segS (i:=0) (j:=2) [(4,vb false),(5,vi (0 : Int))] (by kernel_rfl) (by kernel_rfl) ?_
        refine TI_end (by kernel_rfl) ?_
        refine thenQ_n ?_
        refine T_ret (by kernel_rfl) ?_
        refine thenQ_r ?_
        refine blockQ_r ?_
        refine thenQ_r ?_
        refine thenQ_r ?_
        refine blockQ_r ?_
        refine thenQ_r ?_
        refine thenQ_r ?_
        have h := Option.some.inj h
        subst h
        refine fin_ret (.tup [(some (.v (.bool false)),[]),(some (.v (.int .i64 (0 : Int))),[])]) (by kernel_rfl) (by kernel_rfl) rfl ?_
        rfl
       | false =>
        replace h := sp_f h
        refine T_condF (x:=(.tmp 65)) (c1:=(sub [1,1,1,1,0,1,0,0,1,1,0,0,1,0,1,0] Bd22)) (c2:=(sub [1,1,1,1,0,1,0,0,1,1,0,0,1,0,1,1] Bd22)) (by kernel_rfl) (by kernel_rfl) ?_
        refine T_keep (s':={ σ := [(2,.lf (.own 2 0)),(3,.lf (.own 3 0)),(6,.lf (.v (.pointer (some ⟨C6b,0,none⟩)))),(8,vi x9),(26,.lf (.v (.slice Au1_0 (u1_0.length) cu1_0))),(27,vi (u1_0.length : Int)),(28,vi x9)],H := [(2,[.one (.v (.slice Au0_0 (u0_0.length) cu0_0)),.arr .i64 4 u0_1]),(3,[.one (.v (.slice Au1_0 (u1_0.length) cu1_0)),.one (.v (.slice Au1_1 (u1_1.length) cu1_1))])],V := [],M := M4,ds := [] }) [2,3,6,8,26,27,28] [2,3] [] (by kernel_rfl) ?_
        refine T_skip (by kernel_rfl) ?_
        refine thenQ_n ?_
        refine T_seq (c1:=(sub [1,1,1,1,0,1,0,0,1,1,0,0,1,1,0] Bd22)) (c2:=(sub [1,1,1,1,0,1,0,0,1,1,0,0,1,1,1] Bd22)) (by kernel_rfl) ?_
        refine T_region (id:=11) (by kernel_rfl) ?_
        refine TI_segS (i:=0) (j:=3) [(2,.lf (.own 2 0)),(3,.lf (.own 3 0)),(6,.lf (.v (.pointer (some ⟨C6b,0,none⟩)))),(8,vi x9),(26,.lf (.v (.slice Au1_0 (u1_0.length) cu1_0))),(27,vi (u1_0.length : Int)),(28,vi x9),(67,.lf (.v (.slice Au1_1 (u1_1.length) cu1_1))),(68,vi x9)] (by kernel_rfl) (by kernel_rfl) ?_
        obtain ⟨g26,h⟩ := gd_some h
        refine TI_at (i:=3) (d:=69) (x:=.lf (.ep (.slice Au1_1 (u1_1.length) cu1_1) 4 ((x9).toNat) 0)) (by exact At_idxR (d:=69) (z:=x9) (by kernel_rfl) g26 (hu1_1.le hM4)) (by kernel_rfl) trivial ?_
        obtain ⟨L27,e_L27,h⟩ := lt_some h
        have l_L27 : (L27).length = 4 := by rw [e_L27]; exact SlR_row (hu1_1.le hM4) (toNat_lt g26)
        refine TI_at (i:=4) (d:=70) (x:=.agg [.arr .i64 4 L27]) (by rw [e_L27]; exact At_ldRow (d:=70) (q:=(x9).toNat) (by subst e_L27; kernel_rfl) (toNat_lt g26) (hu1_1.le hM4)) (by kernel_rfl) ⟨l_L27,trivial⟩ ?_
        refine TI_segK (i:=5) (j:=6) (s':={ σ := [(2,.lf (.own 2 0)),(3,.lf (.own 3 0)),(6,.lf (.v (.pointer (some ⟨C6b,0,none⟩)))),(8,vi x9),(26,.lf (.v (.slice Au1_0 (u1_0.length) cu1_0))),(27,vi (u1_0.length : Int)),(28,vi x9),(70,.agg [.arr .i64 4 L27]),(71,vi (0 : Int))],H := [(2,[.one (.v (.slice Au0_0 (u0_0.length) cu0_0)),.arr .i64 4 u0_1]),(3,[.one (.v (.slice Au1_0 (u1_0.length) cu1_0)),.one (.v (.slice Au1_1 (u1_1.length) cu1_1))])],V := [],M := M4,ds := [] }) [2,3,6,8,26,27,28,70,71] [2,3] [] (by kernel_rfl) (by kernel_rfl) ?_
        refine TI_end (by kernel_rfl) ?_
        refine thenQ_n ?_
        obtain ⟨j28,e_j28,h⟩ := jn_some h
        refine T_bcut (id:=2) (c1:=(sub [1,1,1,1,0,1,0,0,1,1,0,0,1,1,1,0] Bd22)) (fun s' => Sub { σ := [(2,.lf (.own 2 0)),(3,.lf (.own 3 0)),(6,.lf (.v (.pointer (some ⟨C6b,0,none⟩)))),(26,.lf (.v (.slice Au1_0 (u1_0.length) cu1_0))),(27,vi (u1_0.length : Int)),(28,vi x9)],H := [(2,[.one (.v (.slice Au0_0 (u0_0.length) cu0_0)),.arr .i64 4 u0_1]),(3,[.one (.v (.slice Au1_0 (u1_0.length) cu1_0)),.one (.v (.slice Au1_1 (u1_1.length) cu1_1))])],V := [],M := M4,ds := [] } s' ∧ j28 = some r) (by kernel_rfl) ?_ ?_
        ·refine T_loop (c1:=(sub [1,1,1,1,0,1,0,0,1,1,0,0,1,1,1,0,0] Bd22)) (by kernel_rfl) (fun n30 s' => ∃ (x29 : Int),Sub { σ := [(2,.lf (.own 2 0)),(3,.lf (.own 3 0)),(6,.lf (.v (.pointer (some ⟨C6b,0,none⟩)))),(8,vi x9),(26,.lf (.v (.slice Au1_0 (u1_0.length) cu1_0))),(27,vi (u1_0.length : Int)),(28,vi x9),(70,.agg [.arr .i64 4 L27]),(71,vi x29)],H := [(2,[.one (.v (.slice Au0_0 (u0_0.length) cu0_0)),.arr .i64 4 u0_1]),(3,[.one (.v (.slice Au1_0 (u1_0.length) cu1_0)),.one (.v (.slice Au1_1 (u1_1.length) cu1_1))])],V := [],M := M4,ds := [] } s' ∧ p22_l2 k u0_1 u1_1 x9 j28 C6 L27 n30 x29 = some r) (k:=k) ⟨(0 : Int),keep_sub (ts:=[2,3,6,8,26,27,28,70,71]) (hs:=[2,3]) (vs:=[]) (by kernel_rfl),h⟩ ?_
         rintro n30 s' ⟨x29,hsub,h⟩
         cases n30 with
         | zero => rw [p22_l2] at h;cases h
         | succ n30 =>
          rw [p22_l2] at h
          refine T_sub hsub ?_
          refine T_seq (c1:=(sub [1,1,1,1,0,1,0,0,1,1,0,0,1,1,1,0,0,0] Bd22)) (c2:=(sub [1,1,1,1,0,1,0,0,1,1,0,0,1,1,1,0,0,1] Bd22)) (by kernel_rfl) ?_
          refine T_region (id:=12) (by kernel_rfl) ?_
          obtain ⟨b31,e_b31,h⟩ := lt_some h
          refine TI_segK (i:=0) (j:=1) (s':={ σ := [(2,.lf (.own 2 0)),(3,.lf (.own 3 0)),(6,.lf (.v (.pointer (some ⟨C6b,0,none⟩)))),(8,vi x9),(26,.lf (.v (.slice Au1_0 (u1_0.length) cu1_0))),(27,vi (u1_0.length : Int)),(28,vi x9),(70,.agg [.arr .i64 4 L27]),(71,vi x29),(72,vb b31)],H := [(2,[.one (.v (.slice Au0_0 (u0_0.length) cu0_0)),.arr .i64 4 u0_1]),(3,[.one (.v (.slice Au1_0 (u1_0.length) cu1_0)),.one (.v (.slice Au1_1 (u1_1.length) cu1_1))])],V := [],M := M4,ds := [] }) [2,3,6,8,26,27,28,70,71,72] [2,3] [] (by subst e_b31;kernel_rfl) (by kernel_rfl) ?_
          refine TI_end (by kernel_rfl) ?_
          refine thenQ_n ?_
          refine T_seq (c1:=(sub [1,1,1,1,0,1,0,0,1,1,0,0,1,1,1,0,0,1,0] Bd22)) (c2:=(sub [1,1,1,1,0,1,0,0,1,1,0,0,1,1,1,0,0,1,1] Bd22)) (by kernel_rfl) ?_
          cases b31 with
          | true =>
           replace h := sp_t h
           refine T_condT (x:=(.tmp 72)) (c1:=(sub [1,1,1,1,0,1,0,0,1,1,0,0,1,1,1,0,0,1,0,0] Bd22)) (c2:=(sub [1,1,1,1,0,1,0,0,1,1,0,0,1,1,1,0,0,1,0,1] Bd22)) (by kernel_rfl) (by kernel_rfl) ?_
           refine T_keepS [(2,.lf (.own 2 0)),(3,.lf (.own 3 0)),(6,.lf (.v (.pointer (some ⟨C6b,0,none⟩)))),(8,vi x9),(26,.lf (.v (.slice Au1_0 (u1_0.length) cu1_0))),(27,vi (u1_0.length : Int)),(28,vi x9),(70,.agg [.arr .i64 4 L27]),(71,vi x29)] (by kernel_rfl) ?_
           refine T_skip (by kernel_rfl) ?_
           refine thenQ_n ?_
           refine T_seq (c1:=(sub [1,1,1,1,0,1,0,0,1,1,0,0,1,1,1,0,0,1,1,0] Bd22)) (c2:=(sub [1,1,1,1,0,1,0,0,1,1,0,0,1,1,1,0,0,1,1,1] Bd22)) (by kernel_rfl) ?_
           refine T_block (id:=3) (c1:=(sub [1,1,1,1,0,1,0,0,1,1,0,0,1,1,1,0,0,1,1,0,0] Bd22)) (by kernel_rfl) ?_
           refine T_seq (c1:=(sub [1,1,1,1,0,1,0,0,1,1,0,0,1,1,1,0,0,1,1,0,0,0] Bd22)) (c2:=(sub [1,1,1,1,0,1,0,0,1,1,0,0,1,1,1,0,0,1,1,0,0,1] Bd22)) (by kernel_rfl) ?_
           refine T_region (id:=13) (by kernel_rfl) ?_
           refine TI_segS (i:=0) (j:=1) [(2,.lf (.own 2 0)),(3,.lf (.own 3 0)),(6,.lf (.v (.pointer (some ⟨C6b,0,none⟩)))),(8,vi x9),(26,.lf (.v (.slice Au1_0 (u1_0.length) cu1_0))),(27,vi (u1_0.length : Int)),(28,vi x9),(70,.agg [.arr .i64 4 L27]),(71,vi x29),(73,vi x29)] (by kernel_rfl) (by kernel_rfl) ?_
           obtain ⟨g32,h⟩ := gd_some h
           obtain ⟨x33,e_x33,h⟩ := lt_some h
           refine TI_at (i:=1) (d:=74) (x:=vi x33) (by rw [e_x33]; exact At_index (d:=74) (z:=x29) (k:=.i64) (n:=4) (L:=L27) (by subst e_x33; kernel_rfl) l_L27 g32) (by kernel_rfl) trivial ?_
           refine TI_segK (i:=2) (j:=4) (s':={ σ := [(2,.lf (.own 2 0)),(3,.lf (.own 3 0)),(6,.lf (.v (.pointer (some ⟨C6b,0,none⟩)))),(8,vi x9),(10,vi x29),(11,vi x33),(26,.lf (.v (.slice Au1_0 (u1_0.length) cu1_0))),(27,vi (u1_0.length : Int)),(28,vi x9),(70,.agg [.arr .i64 4 L27]),(71,vi x29)],H := [(2,[.one (.v (.slice Au0_0 (u0_0.length) cu0_0)),.arr .i64 4 u0_1]),(3,[.one (.v (.slice Au1_0 (u1_0.length) cu1_0)),.one (.v (.slice Au1_1 (u1_1.length) cu1_1))])],V := [],M := M4,ds := [] }) [2,3,6,8,10,11,26,27,28,70,71] [2,3] [] (by kernel_rfl) (by kernel_rfl) ?_
           refine TI_end (by kernel_rfl) ?_
           refine thenQ_n ?_
           refine T_seq (c1:=(sub [1,1,1,1,0,1,0,0,1,1,0,0,1,1,1,0,0,1,1,0,0,1,0] Bd22)) (c2:=(sub [1,1,1,1,0,1,0,0,1,1,0,0,1,1,1,0,0,1,1,0,0,1,1] Bd22)) (by kernel_rfl) ?_
           refine T_seq (c1:=(sub [1,1,1,1,0,1,0,0,1,1,0,0,1,1,1,0,0,1,1,0,0,1,0,0] Bd22)) (c2:=(sub [1,1,1,1,0,1,0,0,1,1,0,0,1,1,1,0,0,1,1,0,0,1,0,1] Bd22)) (by kernel_rfl) ?_
           refine T_region (id:=14) (by kernel_rfl) ?_
           refine TI_segS (i:=0) (j:=4) [(2,.lf (.own 2 0)),(3,.lf (.own 3 0)),(6,.lf (.v (.pointer (some ⟨C6b,0,none⟩)))),(8,vi x9),(10,vi x29),(11,vi x33),(26,.lf (.v (.slice Au1_0 (u1_0.length) cu1_0))),(27,vi (u1_0.length : Int)),(28,vi x9),(70,.agg [.arr .i64 4 L27]),(71,vi x29),(76,vi x29),(78,.lf (.v (.pointer (some ⟨C6b,7,none⟩))))] (by kernel_rfl) (by kernel_rfl) ?_
           obtain ⟨g34,h⟩ := gd_some h
           refine TI_at (i:=4) (d:=79) (x:=.lf (.v (.pointer (some ⟨C6b,7 + (x29).toNat * 1,none⟩)))) (by exact At_idxP (d:=79) (z:=x29) (b:=C6b) (off:=7) (sz:=1) (n:=4) (by kernel_rfl) g34) (by kernel_rfl) trivial ?_
           obtain ⟨R35,e_R35,h⟩ := lt_some h
           have f_R35 : SlR M4 (C6AV ((x29).toNat * 1)) (C6cV ((x29).toNat * 1)) .i64 2 R35 := by rw [e_R35]; exact ((hC6).val ((x29).toNat * 1) (by omega)).2
           refine TI_at (i:=5) (d:=80) (x:=.lf (.v (.slice (C6AV ((x29).toNat * 1)) (R35.length) (C6cV ((x29).toNat * 1))))) (by rw [e_R35]; exact At_ldP (d:=80) (b:=C6b) (off:=7 + (x29).toNat * 1) (m:=1) (by subst e_R35; kernel_rfl) ((hC6).val ((x29).toNat * 1) (by omega)).1) (by kernel_rfl) trivial ?_
           refine TI_segK (i:=6) (j:=7) (s':={ σ := [(2,.lf (.own 2 0)),(3,.lf (.own 3 0)),(6,.lf (.v (.pointer (some ⟨C6b,0,none⟩)))),(8,vi x9),(10,vi x29),(11,vi x33),(26,.lf (.v (.slice Au1_0 (u1_0.length) cu1_0))),(27,vi (u1_0.length : Int)),(28,vi x9),(70,.agg [.arr .i64 4 L27]),(71,vi x29),(80,.lf (.v (.slice (C6AV ((x29).toNat * 1)) (R35.length) (C6cV ((x29).toNat * 1))))),(81,vi x9)],H := [(2,[.one (.v (.slice Au0_0 (u0_0.length) cu0_0)),.arr .i64 4 u0_1]),(3,[.one (.v (.slice Au1_0 (u1_0.length) cu1_0)),.one (.v (.slice Au1_1 (u1_1.length) cu1_1))])],V := [],M := M4,ds := [] }) [2,3,6,8,10,11,26,27,28,70,71,80,81] [2,3] [] (by kernel_rfl) (by kernel_rfl) ?_
           obtain ⟨g36,h⟩ := gd_some h
           refine TI_at (i:=7) (d:=82) (x:=.lf (.ep (.slice (C6AV ((x29).toNat * 1)) (R35.length) (C6cV ((x29).toNat * 1))) 2 ((x9).toNat) 0)) (by exact At_idxR (d:=82) (z:=x9) (by kernel_rfl) g36 f_R35) (by kernel_rfl) trivial ?_
           obtain ⟨L37,e_L37,h⟩ := lt_some h
           have l_L37 : (L37).length = 2 := by rw [e_L37]; exact SlR_row f_R35 (toNat_lt g36)
           refine TI_at (i:=8) (d:=83) (x:=.agg [.arr .i64 2 L37]) (by rw [e_L37]; exact At_ldRow (d:=83) (q:=(x9).toNat) (by subst e_L37; kernel_rfl) (toNat_lt g36) f_R35) (by kernel_rfl) ⟨l_L37,trivial⟩ ?_
           refine TI_segK (i:=9) (j:=11) (s':={ σ := [(2,.lf (.own 2 0)),(3,.lf (.own 3 0)),(6,.lf (.v (.pointer (some ⟨C6b,0,none⟩)))),(8,vi x9),(10,vi x29),(11,vi x33),(12,.lf (.own 12 0)),(26,.lf (.v (.slice Au1_0 (u1_0.length) cu1_0))),(27,vi (u1_0.length : Int)),(28,vi x9),(70,.agg [.arr .i64 4 L27]),(71,vi x29)],H := [(2,[.one (.v (.slice Au0_0 (u0_0.length) cu0_0)),.arr .i64 4 u0_1]),(3,[.one (.v (.slice Au1_0 (u1_0.length) cu1_0)),.one (.v (.slice Au1_1 (u1_1.length) cu1_1))]),(12,[.arr .i64 2 L37])],V := [],M := M4,ds := [] }) [2,3,6,8,10,11,12,26,27,28,70,71] [2,3,12] [] (by kernel_rfl) (by kernel_rfl) ?_
           refine TI_end (by kernel_rfl) ?_
           refine thenQ_n ?_
           refine T_seq (c1:=(sub [1,1,1,1,0,1,0,0,1,1,0,0,1,1,1,0,0,1,1,0,0,1,0,1,0] Bd22)) (c2:=(sub [1,1,1,1,0,1,0,0,1,1,0,0,1,1,1,0,0,1,1,0,0,1,0,1,1] Bd22)) (by kernel_rfl) ?_
           refine T_region (id:=15) (by kernel_rfl) ?_
           obtain ⟨x38,e_x38,h⟩ := lt_some h
           obtain ⟨x39,e_x39,h⟩ := lt_some h
           refine TI_segK (i:=0) (j:=5) (s':={ σ := [(2,.lf (.own 2 0)),(3,.lf (.own 3 0)),(6,.lf (.v (.pointer (some ⟨C6b,0,none⟩)))),(8,vi x9),(10,vi x29),(11,vi x33),(26,.lf (.v (.slice Au1_0 (u1_0.length) cu1_0))),(27,vi (u1_0.length : Int)),(28,vi x9),(70,.agg [.arr .i64 4 L27]),(71,vi x29),(84,vi x33),(86,vi x38),(88,vi x39)],H := [(2,[.one (.v (.slice Au0_0 (u0_0.length) cu0_0)),.arr .i64 4 u0_1]),(3,[.one (.v (.slice Au1_0 (u1_0.length) cu1_0)),.one (.v (.slice Au1_1 (u1_1.length) cu1_1))])],V := [],M := M4,ds := [] }) [2,3,6,8,10,11,26,27,28,70,71,84,86,88] [2,3] [] (by subst e_x39 e_x38;kernel_rfl) (by kernel_rfl) ?_
           obtain ⟨v40,c_v40,h⟩ := cl_some h
           refine TI_at (i:=5) (d:=89) (x:=vb v40) (At_call (d:=89) (f:=49) (args:=[rval (vi x33),rval (vi x38),rval (vi x39)]) (x:=vb v40) (by kernel_rfl) (w49 k  c_v40)) (by kernel_rfl) trivial ?_
           refine TI_segK (i:=6) (j:=7) (s':={ σ := [(2,.lf (.own 2 0)),(3,.lf (.own 3 0)),(6,.lf (.v (.pointer (some ⟨C6b,0,none⟩)))),(8,vi x9),(10,vi x29),(11,vi x33),(26,.lf (.v (.slice Au1_0 (u1_0.length) cu1_0))),(27,vi (u1_0.length : Int)),(28,vi x9),(70,.agg [.arr .i64 4 L27]),(71,vi x29),(90,vb (!v40))],H := [(2,[.one (.v (.slice Au0_0 (u0_0.length) cu0_0)),.arr .i64 4 u0_1]),(3,[.one (.v (.slice Au1_0 (u1_0.length) cu1_0)),.one (.v (.slice Au1_1 (u1_1.length) cu1_1))])],V := [],M := M4,ds := [] }) [2,3,6,8,10,11,26,27,28,70,71,90] [2,3] [] (by kernel_rfl) (by kernel_rfl) ?_
           refine TI_end (by kernel_rfl) ?_
           refine thenQ_n ?_
           cases v40 with
           | true =>
            replace h := sp_t h
            refine T_condF (x:=(.tmp 90)) (c1:=(sub [1,1,1,1,0,1,0,0,1,1,0,0,1,1,1,0,0,1,1,0,0,1,0,1,1,0] Bd22)) (c2:=(sub [1,1,1,1,0,1,0,0,1,1,0,0,1,1,1,0,0,1,1,0,0,1,0,1,1,1] Bd22)) (by kernel_rfl) (by kernel_rfl) ?_
            refine T_keepS [(2,.lf (.own 2 0)),(3,.lf (.own 3 0)),(6,.lf (.v (.pointer (some ⟨C6b,0,none⟩)))),(8,vi x9),(10,vi x29),(11,vi x33),(26,.lf (.v (.slice Au1_0 (u1_0.length) cu1_0))),(27,vi (u1_0.length : Int)),(28,vi x9),(70,.agg [.arr .i64 4 L27]),(71,vi x29)] (by kernel_rfl) ?_
            refine T_skip (by kernel_rfl) ?_
            refine thenQ_n ?_
            obtain ⟨j42,e_j42,h⟩ := jn_some h
            refine T_cut (c1:=(sub [1,1,1,1,0,1,0,0,1,1,0,0,1,1,1,0,0,1,1,0,0,1,1,0] Bd22)) (c2:=(sub [1,1,1,1,0,1,0,0,1,1,0,0,1,1,1,0,0,1,1,0,0,1,1,1] Bd22)) (fun s' => ∃ (b41 : Bool),Sub { σ := [(2,.lf (.own 2 0)),(3,.lf (.own 3 0)),(6,.lf (.v (.pointer (some ⟨C6b,0,none⟩)))),(8,vi x9),(26,.lf (.v (.slice Au1_0 (u1_0.length) cu1_0))),(27,vi (u1_0.length : Int)),(28,vi x9),(70,.agg [.arr .i64 4 L27]),(71,vi x29),(123,vb b41)],H := [(2,[.one (.v (.slice Au0_0 (u0_0.length) cu0_0)),.arr .i64 4 u0_1]),(3,[.one (.v (.slice Au1_0 (u1_0.length) cu1_0)),.one (.v (.slice Au1_1 (u1_1.length) cu1_1))])],V := [],M := M4,ds := [] } s' ∧ j42 b41 = some r) (by kernel_rfl) ?_ ?_
            ·obtain ⟨b43,e_b43,h⟩ := lt_some h
             cases b43 with
             | true =>
              replace h := sp_t h
              obtain ⟨x44,e_x44,h⟩ := lt_some h
              obtain ⟨g45,h⟩ := gd_some h
              obtain ⟨g46,h⟩ := gd_some h
              obtain ⟨x47,e_x47,h⟩ := lt_some h
              obtain ⟨g48,h⟩ := gd_some h
              obtain ⟨x49,e_x49,h⟩ := lt_some h
              obtain ⟨x50,e_x50,h⟩ := lt_some h
              obtain ⟨x51,e_x51,h⟩ := lt_some h
              obtain ⟨g52,h⟩ := gd_some h
              obtain ⟨g53,h⟩ := gd_some h
              obtain ⟨x54,e_x54,h⟩ := lt_some h
              obtain ⟨g55,h⟩ := gd_some h
              obtain ⟨x56,e_x56,h⟩ := lt_some h
              obtain ⟨x57,e_x57,h⟩ := lt_some h
              obtain ⟨v58,c_v58,h⟩ := cl_some h
              refine T_draw' (id:=17) [] [0,0,0,0,0,0,0,0,0,0,0,0,0,0,0,0,0,0,0,0,0,0,0,0,0,0,0,0,0,0,0,0,0] (by kernel_rfl) (by kernel_rfl) (by kernel_rfl) (by kernel_rfl) ((91,vi x9)::(92,vb true)::(93,vb true)::(94,vi x33)::(95,.lf (.own 3 1))::(96,.lf (.v (.slice Au1_1 (u1_1.length) cu1_1)))::(97,vi x9)::(98,vi x44)::(99,vi x29)::(100,.lf (.ep (.slice Au1_1 (u1_1.length) cu1_1) 4 ((x44).toNat) 0))::(101,.lf (.ep (.slice Au1_1 (u1_1.length) cu1_1) 4 ((x44).toNat) (0 + (x29).toNat * 1)))::(102,vi x47)::(103,vi x29)::(104,.lf (.own 2 1))::(105,.lf (.oel 2 (1 + (x29).toNat * 1)))::(106,vi x49)::(107,vi x50)::(108,.lf (.own 3 1))::(109,.lf (.v (.slice Au1_1 (u1_1.length) cu1_1)))::(110,vi x9)::(111,vi x51)::(112,vi x29)::(113,.lf (.ep (.slice Au1_1 (u1_1.length) cu1_1) 4 ((x51).toNat) 0))::(114,.lf (.ep (.slice Au1_1 (u1_1.length) cu1_1) 4 ((x51).toNat) (0 + (x29).toNat * 1)))::(115,vi x54)::(116,vi x29)::(117,.lf (.own 2 1))::(118,.lf (.oel 2 (1 + (x29).toNat * 1)))::(119,vi x56)::(120,vi x57)::(121,vb v58)::(122,vb (!v58))::(123,vb (!v58))::[]) (by kernel_rfl) (wfs_lf _ (by kernel_rfl)) ?_
              refine Stage_nil (stage_all' [0,2,3,4,5,6,7,8,12,13,16,17,18,19,20,21,25,26,29,31,32] [1,9,10,11,14,15,22,23,24,27,28,30] (by kernel_rfl) (by subst_vars; kernel_rfl) (by kernel_rfl) ⟨QF_at (i:=1) (d:=92) (x:=vb true) (show OpAt _ _ _ 1 92 _ from by exact At_bin (d:=92) (b:=.gtr) (u:=.int .i64 x9) (v:=.int .i64 (0 : Int)) (w':=.bool true) (by subst_vars; kernel_rfl) (by rw [show exBin .gtr (.int .i64 x9) (.int .i64 (0 : Int)) = some (.bool (decide (x9 > (0 : Int)))) from by kernel_rfl,← e_b43])) (by kernel_rfl) (by subst_vars; kernel_rfl),⟨QF_at (i:=9) (d:=100) (x:=.lf (.ep (.slice Au1_1 (u1_1.length) cu1_1) 4 ((x44).toNat) 0)) (show OpAt _ _ _ 9 100 _ from by exact At_idxR (d:=100) (z:=x44) (by subst_vars; kernel_rfl) g45 (hu1_1.le hM4)) (by kernel_rfl) (by subst_vars; kernel_rfl),⟨QF_at (i:=10) (d:=101) (x:=.lf (.ep (.slice Au1_1 (u1_1.length) cu1_1) 4 ((x44).toNat) (0 + (x29).toNat * 1))) (show OpAt _ _ _ 10 101 _ from by exact At_idxE (d:=101) (z:=x29) (A:=(.slice Au1_1 (u1_1.length) cu1_1)) (sz:=4) (q:=(x44).toNat) (j:=0) (es:=1) (n:=4) (by subst_vars; kernel_rfl) g46) (by kernel_rfl) (by subst_vars; kernel_rfl),⟨QF_at (i:=11) (d:=102) (x:=vi x47) (show OpAt _ _ _ 11 102 _ from by rw [e_x47]; exact At_ldR1' (d:=102) (q:=(x44).toNat) (j:=0 + (x29).toNat * 1) (by subst_vars; kernel_rfl) (by omega) (toNat_lt g45) (hu1_1.le hM4)) (by kernel_rfl) (by subst_vars; kernel_rfl),⟨QF_at (i:=14) (d:=105) (x:=.lf (.oel 2 (1 + (x29).toNat * 1))) (show OpAt _ _ _ 14 105 _ from by exact At_idxO (d:=105) (z:=x29) (b:=2) (off:=1) (sz:=1) (n:=4) (by subst_vars; kernel_rfl) g48) (by kernel_rfl) (by subst_vars; kernel_rfl),⟨QF_at (i:=15) (d:=106) (x:=vi x49) (show OpAt _ _ _ 15 106 _ from by rw [e_x49]; exact At_ldO1 (d:=106) (b:=2) (off:=1 + (x29).toNat * 1) (base:=1) (q:=0 + (x29).toNat * 1) (n:=4) (k:=.i64) (L:=u0_1) (by subst_vars; kernel_rfl) (by subst_vars; kernel_rfl) (by omega) (by omega)) (by kernel_rfl) (by subst_vars; kernel_rfl),⟨QF_at (i:=22) (d:=113) (x:=.lf (.ep (.slice Au1_1 (u1_1.length) cu1_1) 4 ((x51).toNat) 0)) (show OpAt _ _ _ 22 113 _ from by exact At_idxR (d:=113) (z:=x51) (by subst_vars; kernel_rfl) g52 (hu1_1.le hM4)) (by kernel_rfl) (by subst_vars; kernel_rfl),⟨QF_at (i:=23) (d:=114) (x:=.lf (.ep (.slice Au1_1 (u1_1.length) cu1_1) 4 ((x51).toNat) (0 + (x29).toNat * 1))) (show OpAt _ _ _ 23 114 _ from by exact At_idxE (d:=114) (z:=x29) (A:=(.slice Au1_1 (u1_1.length) cu1_1)) (sz:=4) (q:=(x51).toNat) (j:=0) (es:=1) (n:=4) (by subst_vars; kernel_rfl) g53) (by kernel_rfl) (by subst_vars; kernel_rfl),⟨QF_at (i:=24) (d:=115) (x:=vi x54) (show OpAt _ _ _ 24 115 _ from by rw [e_x54]; exact At_ldR1' (d:=115) (q:=(x51).toNat) (j:=0 + (x29).toNat * 1) (by subst_vars; kernel_rfl) (by omega) (toNat_lt g52) (hu1_1.le hM4)) (by kernel_rfl) (by subst_vars; kernel_rfl),⟨QF_at (i:=27) (d:=118) (x:=.lf (.oel 2 (1 + (x29).toNat * 1))) (show OpAt _ _ _ 27 118 _ from by exact At_idxO (d:=118) (z:=x29) (b:=2) (off:=1) (sz:=1) (n:=4) (by subst_vars; kernel_rfl) g55) (by kernel_rfl) (by subst_vars; kernel_rfl),⟨QF_at (i:=28) (d:=119) (x:=vi x56) (show OpAt _ _ _ 28 119 _ from by rw [e_x56]; exact At_ldO1 (d:=119) (b:=2) (off:=1 + (x29).toNat * 1) (base:=1) (q:=0 + (x29).toNat * 1) (n:=4) (k:=.i64) (L:=u0_1) (by subst_vars; kernel_rfl) (by subst_vars; kernel_rfl) (by omega) (by omega)) (by kernel_rfl) (by subst_vars; kernel_rfl),⟨QF_at (i:=30) (d:=121) (x:=vb v58) (show OpAt _ _ _ 30 121 _ from by exact At_call (d:=121) (f:=49) (args:=[rval (vi x33),rval (vi x50),rval (vi x57)]) (x:=vb v58) (by subst_vars; kernel_rfl) (w49 k  c_v58)) (by kernel_rfl) (by subst_vars; kernel_rfl),trivial⟩⟩⟩⟩⟩⟩⟩⟩⟩⟩⟩⟩) ?_
              refine thenQ_n ?_
              exact ⟨(!v58),keep_sub (ts:=[2,3,6,8,26,27,28,70,71,123]) (hs:=[2,3]) (vs:=[]) (by subst_vars;kernel_rfl),h⟩
             | false =>
              replace h := sp_f h
              refine T_draw' (id:=17) [] [0,0,0,0,0,0,0,0,0,0,0,0,0,0,0,0,0,0,0,0,0,0,0,0,0,0,0,0,0,0,0,0,0] (by kernel_rfl) (by kernel_rfl) (by kernel_rfl) (by kernel_rfl) ((91,vi x9)::(92,vb false)::(93,vb false)::(94,.tup [])::(95,.tup [])::(96,.tup [])::(97,.tup [])::(98,.tup [])::(99,.tup [])::(100,.tup [])::(101,.tup [])::(102,.tup [])::(103,.tup [])::(104,.tup [])::(105,.tup [])::(106,.tup [])::(107,.tup [])::(108,.tup [])::(109,.tup [])::(110,.tup [])::(111,.tup [])::(112,.tup [])::(113,.tup [])::(114,.tup [])::(115,.tup [])::(116,.tup [])::(117,.tup [])::(118,.tup [])::(119,.tup [])::(120,.tup [])::(121,.tup [])::(122,.tup [])::(123,vb false)::[]) (by kernel_rfl) ⟨trivial,⟨trivial,⟨trivial,⟨(by intro y hy;cases hy),⟨(by intro y hy;cases hy),⟨(by intro y hy;cases hy),⟨(by intro y hy;cases hy),⟨(by intro y hy;cases hy),⟨(by intro y hy;cases hy),⟨(by intro y hy;cases hy),⟨(by intro y hy;cases hy),⟨(by intro y hy;cases hy),⟨(by intro y hy;cases hy),⟨(by intro y hy;cases hy),⟨(by intro y hy;cases hy),⟨(by intro y hy;cases hy),⟨(by intro y hy;cases hy),⟨(by intro y hy;cases hy),⟨(by intro y hy;cases hy),⟨(by intro y hy;cases hy),⟨(by intro y hy;cases hy),⟨(by intro y hy;cases hy),⟨(by intro y hy;cases hy),⟨(by intro y hy;cases hy),⟨(by intro y hy;cases hy),⟨(by intro y hy;cases hy),⟨(by intro y hy;cases hy),⟨(by intro y hy;cases hy),⟨(by intro y hy;cases hy),⟨(by intro y hy;cases hy),⟨(by intro y hy;cases hy),⟨(by intro y hy;cases hy),⟨trivial,trivial⟩⟩⟩⟩⟩⟩⟩⟩⟩⟩⟩⟩⟩⟩⟩⟩⟩⟩⟩⟩⟩⟩⟩⟩⟩⟩⟩⟩⟩⟩⟩⟩⟩ ?_
              refine Stage_nil (stage_all' [0,2,3,4,5,6,7,8,9,10,11,12,13,14,15,16,17,18,19,20,21,22,23,24,25,26,27,28,29,30,31,32] [1] (by kernel_rfl) (by kernel_rfl) (by kernel_rfl) ⟨QF_at (i:=1) (d:=92) (x:=vb false) (show OpAt _ _ _ 1 92 _ from by exact At_bin (d:=92) (b:=.gtr) (u:=.int .i64 x9) (v:=.int .i64 (0 : Int)) (w':=.bool false) (by kernel_rfl) (by rw [show exBin .gtr (.int .i64 x9) (.int .i64 (0 : Int)) = some (.bool (decide (x9 > (0 : Int)))) from by kernel_rfl,← e_b43])) (by kernel_rfl) (by kernel_rfl),trivial⟩) ?_
              refine thenQ_n ?_
              exact ⟨false,keep_sub (ts:=[2,3,6,8,26,27,28,70,71,123]) (hs:=[2,3]) (vs:=[]) (by kernel_rfl),h⟩
            ·rintro s' ⟨b41,hsub,h⟩
             subst e_j42
             refine T_sub hsub ?_
             cases b41 with
             | true =>
              replace h := sp_t h
              refine T_condT (x:=(.tmp 123)) (c1:=(sub [1,1,1,1,0,1,0,0,1,1,0,0,1,1,1,0,0,1,1,0,0,1,1,1,0] Bd22)) (c2:=(sub [1,1,1,1,0,1,0,0,1,1,0,0,1,1,1,0,0,1,1,0,0,1,1,1,1] Bd22)) (by kernel_rfl) (by kernel_rfl) ?_
              refine T_keep (s':={ σ := [],H := [],V := [],M := M4,ds := [] }) [] [] [] (by kernel_rfl) ?_
              refine T_seq (c1:=(sub [1,1,1,1,0,1,0,0,1,1,0,0,1,1,1,0,0,1,1,0,0,1,1,1,0,0] Bd22)) (c2:=(sub [1,1,1,1,0,1,0,0,1,1,0,0,1,1,1,0,0,1,1,0,0,1,1,1,0,1] Bd22)) (by kernel_rfl) ?_
              refine T_region (id:=18) (by kernel_rfl) ?_
              refine TI_segS (i:=0) (j:=2) [(4,vb false),(5,vi (0 : Int))] (by kernel_rfl) (by kernel_rfl) ?_
              refine TI_end (by kernel_rfl) ?_
              refine thenQ_n ?_
              refine T_ret (by kernel_rfl) ?_
              refine blockQ_r ?_
              refine thenQ_r ?_
              refine thenQ_r ?_
              refine blockQ_r ?_
              refine thenQ_r ?_
              refine blockQ_r ?_
              refine thenQ_r ?_
              refine thenQ_r ?_
              refine blockQ_r ?_
              refine thenQ_r ?_
              refine thenQ_r ?_
              have h := Option.some.inj h
              subst h
              refine fin_ret (.tup [(some (.v (.bool false)),[]),(some (.v (.int .i64 (0 : Int))),[])]) (by kernel_rfl) (by kernel_rfl) rfl ?_
              rfl
             | false =>
              replace h := sp_f h
              refine T_condF (x:=(.tmp 123)) (c1:=(sub [1,1,1,1,0,1,0,0,1,1,0,0,1,1,1,0,0,1,1,0,0,1,1,1,0] Bd22)) (c2:=(sub [1,1,1,1,0,1,0,0,1,1,0,0,1,1,1,0,0,1,1,0,0,1,1,1,1] Bd22)) (by kernel_rfl) (by kernel_rfl) ?_
              refine T_keep (s':={ σ := [(2,.lf (.own 2 0)),(3,.lf (.own 3 0)),(6,.lf (.v (.pointer (some ⟨C6b,0,none⟩)))),(8,vi x9),(26,.lf (.v (.slice Au1_0 (u1_0.length) cu1_0))),(27,vi (u1_0.length : Int)),(28,vi x9),(70,.agg [.arr .i64 4 L27]),(71,vi x29)],H := [(2,[.one (.v (.slice Au0_0 (u0_0.length) cu0_0)),.arr .i64 4 u0_1]),(3,[.one (.v (.slice Au1_0 (u1_0.length) cu1_0)),.one (.v (.slice Au1_1 (u1_1.length) cu1_1))])],V := [],M := M4,ds := [] }) [2,3,6,8,26,27,28,70,71] [2,3] [] (by kernel_rfl) ?_
              refine T_skip (by kernel_rfl) ?_
              refine blockQ_n ?_
              refine thenQ_n ?_
              refine T_region (id:=19) (by kernel_rfl) ?_
              obtain ⟨x59,e_x59,h⟩ := lt_some h
              refine TI_segS (i:=0) (j:=2) [(2,.lf (.own 2 0)),(3,.lf (.own 3 0)),(6,.lf (.v (.pointer (some ⟨C6b,0,none⟩)))),(8,vi x9),(26,.lf (.v (.slice Au1_0 (u1_0.length) cu1_0))),(27,vi (u1_0.length : Int)),(28,vi x9),(70,.agg [.arr .i64 4 L27]),(71,vi x59)] (by subst e_x59;kernel_rfl) (by kernel_rfl) ?_
              refine TI_end (by kernel_rfl) ?_
              refine thenQ_n ?_
              exact ⟨n30,Nat.lt_succ_self _,x59,keep_sub (ts:=[2,3,6,8,26,27,28,70,71]) (hs:=[2,3]) (vs:=[]) (by kernel_rfl),h⟩
           | false =>
            replace h := sp_f h
            refine T_condT (x:=(.tmp 90)) (c1:=(sub [1,1,1,1,0,1,0,0,1,1,0,0,1,1,1,0,0,1,1,0,0,1,0,1,1,0] Bd22)) (c2:=(sub [1,1,1,1,0,1,0,0,1,1,0,0,1,1,1,0,0,1,1,0,0,1,0,1,1,1] Bd22)) (by kernel_rfl) (by kernel_rfl) ?_
            refine T_keep (s':={ σ := [],H := [],V := [],M := M4,ds := [] }) [] [] [] (by kernel_rfl) ?_
            refine T_seq (c1:=(sub [1,1,1,1,0,1,0,0,1,1,0,0,1,1,1,0,0,1,1,0,0,1,0,1,1,0,0] Bd22)) (c2:=(sub [1,1,1,1,0,1,0,0,1,1,0,0,1,1,1,0,0,1,1,0,0,1,0,1,1,0,1] Bd22)) (by kernel_rfl) ?_
            refine T_region (id:=16) (by kernel_rfl) ?_
            refine TI_segS (i:=0) (j:=2) [(4,vb false),(5,vi (0 : Int))] (by kernel_rfl) (by kernel_rfl) ?_
            refine TI_end (by kernel_rfl) ?_
            refine thenQ_n ?_
            refine T_ret (by kernel_rfl) ?_
            refine thenQ_r ?_
            refine blockQ_r ?_
            refine thenQ_r ?_
            refine thenQ_r ?_
            refine blockQ_r ?_
            refine thenQ_r ?_
            refine blockQ_r ?_
            refine thenQ_r ?_
            refine thenQ_r ?_
            refine blockQ_r ?_
            refine thenQ_r ?_
            refine thenQ_r ?_
            have h := Option.some.inj h
            subst h
            refine fin_ret (.tup [(some (.v (.bool false)),[]),(some (.v (.int .i64 (0 : Int))),[])]) (by kernel_rfl) (by kernel_rfl) rfl ?_
            rfl
          | false =>
           replace h := sp_f h
           refine T_condF (x:=(.tmp 72)) (c1:=(sub [1,1,1,1,0,1,0,0,1,1,0,0,1,1,1,0,0,1,0,0] Bd22)) (c2:=(sub [1,1,1,1,0,1,0,0,1,1,0,0,1,1,1,0,0,1,0,1] Bd22)) (by kernel_rfl) (by kernel_rfl) ?_
           refine T_keepS [(2,.lf (.own 2 0)),(3,.lf (.own 3 0)),(6,.lf (.v (.pointer (some ⟨C6b,0,none⟩)))),(26,.lf (.v (.slice Au1_0 (u1_0.length) cu1_0))),(27,vi (u1_0.length : Int)),(28,vi x9)] (by kernel_rfl) ?_
           refine T_exit (id:=2) (by kernel_rfl) ?_
           refine thenQ_x ?_
           refine thenQ_x ?_
           refine blockQ_x ?_
           refine thenQ_n ?_
           exact ⟨keep_sub (ts:=[2,3,6,26,27,28]) (hs:=[2,3]) (vs:=[]) (by kernel_rfl),h⟩
        ·rintro s' ⟨hsub,h⟩
         subst e_j28
         refine blockQ_n ?_
         refine thenQ_n ?_
         refine T_sub hsub ?_
         refine T_region (id:=20) (by kernel_rfl) ?_
         obtain ⟨x60,e_x60,h⟩ := lt_some h
         refine TI_segK (i:=0) (j:=2) (s':={ σ := [(2,.lf (.own 2 0)),(3,.lf (.own 3 0)),(6,.lf (.v (.pointer (some ⟨C6b,0,none⟩)))),(26,.lf (.v (.slice Au1_0 (u1_0.length) cu1_0))),(27,vi (u1_0.length : Int)),(28,vi x60)],H := [(2,[.one (.v (.slice Au0_0 (u0_0.length) cu0_0)),.arr .i64 4 u0_1]),(3,[.one (.v (.slice Au1_0 (u1_0.length) cu1_0)),.one (.v (.slice Au1_1 (u1_1.length) cu1_1))])],V := [],M := M4,ds := [] }) [2,3,6,26,27,28] [2,3] [] (by subst e_x60;kernel_rfl) (by kernel_rfl) ?_
         refine TI_end (by kernel_rfl) ?_
         refine thenQ_n ?_
         exact ⟨n10,Nat.lt_succ_self _,x60,keep_sub (ts:=[2,3,6,26,27,28]) (hs:=[2,3]) (vs:=[]) (by kernel_rfl),h⟩
     | false =>
      replace h := sp_f h
      refine T_condF (x:=(.tmp 29)) (c1:=(sub [1,1,1,1,0,1,0,0,1,0,0] Bd22)) (c2:=(sub [1,1,1,1,0,1,0,0,1,0,1] Bd22)) (by kernel_rfl) (by kernel_rfl) ?_
      refine T_keep (s':={ σ := [],H := [],V := [],M := M4,ds := [] }) [] [] [] (by kernel_rfl) ?_
      refine T_exit (id:=0) (by kernel_rfl) ?_
      refine thenQ_x ?_
      refine thenQ_x ?_
      refine blockQ_x ?_
      refine thenQ_n ?_
      exact ⟨keep_sub (ts:=[]) (hs:=[]) (vs:=[]) (by kernel_rfl),h⟩
   ·rintro s' ⟨hsub,h⟩
    subst e_j8
    refine thenQ_n ?_
    refine T_sub hsub ?_
    refine T_seq (c1:=(sub [1,1,1,1,1,0] Bd22)) (c2:=(sub [1,1,1,1,1,1] Bd22)) (by kernel_rfl) ?_
    refine T_region (id:=21) (by kernel_rfl) ?_
    refine TI_segK (i:=0) (j:=2) (s':={ σ := [(4,vb true),(5,vi (0 : Int))],H := [],V := [],M := M4,ds := [] }) [4,5] [] [] (by kernel_rfl) (by kernel_rfl) ?_
    refine TI_end (by kernel_rfl) ?_
    refine thenQ_n ?_
    refine T_ret (by kernel_rfl) ?_
    have h := Option.some.inj h
    subst h
    refine fin_ret (.tup [(some (.v (.bool true)),[]),(some (.v (.int .i64 (0 : Int))),[])]) (by kernel_rfl) (by kernel_rfl) rfl ?_
    rfl
  | false =>
   replace h := sp_f h
   refine T_condT (x:=(.tmp 24)) (c1:=(sub [1,1,1,0,1,0] Bd22)) (c2:=(sub [1,1,1,0,1,1] Bd22)) (by kernel_rfl) (by kernel_rfl) ?_
   refine T_keep (s':={ σ := [],H := [],V := [],M := M4,ds := [] }) [] [] [] (by kernel_rfl) ?_
   refine T_seq (c1:=(sub [1,1,1,0,1,0,0] Bd22)) (c2:=(sub [1,1,1,0,1,0,1] Bd22)) (by kernel_rfl) ?_
   refine T_region (id:=5) (by kernel_rfl) ?_
   refine TI_segS (i:=0) (j:=2) [(4,vb false),(5,vi (0 : Int))] (by kernel_rfl) (by kernel_rfl) ?_
   refine TI_end (by kernel_rfl) ?_
   refine thenQ_n ?_
   refine T_ret (by kernel_rfl) ?_
   refine thenQ_r ?_
   have h := Option.some.inj h
   subst h
   refine fin_ret (.tup [(some (.v (.bool false)),[]),(some (.v (.int .i64 (0 : Int))),[])]) (by kernel_rfl) (by kernel_rfl) rfl ?_
   rfl
def p14 (k : Nat) (u0_0 : List (List Int)) (u0_1 : List Int) (u1 : List Int) : Option (Int × Int) :=
 cl2 (p43 k u0_0 u0_1 u1) fun v1 v2 => lt' (v2 != (0 : Int)) fun b5 => sp b5 (some ((0 : Int),v2)) (cl v1 fun C6 => cl (p44 k C6.1 C6.2.1 C6.2.2.1 C6.2.2.2.1 C6.2.2.2.2 u1) fun v7 => some (v7,(0 : Int)))
theorem hf14 : Try.prog.funcs[14]? = some Try.f14 := by kernel_rfl
theorem w14 (k : Nat) {M : Mem} {Au0_0 : Option Addr} {cu0_0 : Nat} {u0_0 : List (List Int)} {u0_1 : List Int} {u1 : List Int} (hu0_0 : SlR M Au0_0 cu0_0 .i64 11 u0_0) (hu0_1 : u0_1.length = 4) (hu1 : u1.length = 7) {r} (h : p14 k u0_0 u0_1 u1 = some r) :
  Fn Try.prog 14 [rval (.agg [.one (.v (.slice Au0_0 (u0_0.length) cu0_0)),.arr .i64 4 u0_1]),rval (.agg [.arr .i64 7 u1])] M (fun x _ => x = .tup [(some (.v (.int .i64 r.1)),[]),(some (.v (.int .i64 r.2)),[])]) := by
 unfold p14 at h
 refine Fn_of (P:=Try.prog) (fn:=Try.f14) (c:=bodyOf Try.f14) [.agg [.one (.v (.slice Au0_0 (u0_0.length) cu0_0)),.arr .i64 4 u0_1],.agg [.arr .i64 7 u1]] hf14 (by kernel_rfl) (Nat.le_of_ble_eq_true (by kernel_rfl)) (args_ok (by kernel_rfl) ⟨⟨rfl,⟨hu0_1,trivial⟩⟩,⟨⟨hu1,trivial⟩,trivial⟩⟩) fun w => ?_
 change T _ _ _ (endQ _ _ _)
 refine T_seq (c1:=(sub [0] Bd14)) (c2:=(sub [1] Bd14)) (by kernel_rfl) ?_
 refine T_region (id:=0) (by kernel_rfl) ?_
 refine TI_segK (i:=0) (j:=4) (s':={ σ := [(2,.lf (.own 2 0)),(3,.lf (.own 3 0))],H := [(2,[.one (.v (.slice Au0_0 (u0_0.length) cu0_0)),.arr .i64 4 u0_1]),(3,[.arr .i64 7 u1])],V := [],M := M,ds := [] }) [2,3] [2,3] [] (by kernel_rfl) (by kernel_rfl) ?_
 refine TI_end (by kernel_rfl) ?_
 refine thenQ_n ?_
 refine T_seq (c1:=(sub [1,0] Bd14)) (c2:=(sub [1,1] Bd14)) (by kernel_rfl) ?_
 refine T_region (id:=1) (by kernel_rfl) ?_
 refine TI_segK (i:=0) (j:=2) (s':={ σ := [(3,.lf (.own 3 0)),(9,.agg [.one (.v (.slice Au0_0 (u0_0.length) cu0_0)),.arr .i64 4 u0_1]),(10,.agg [.arr .i64 7 u1])],H := [(3,[.arr .i64 7 u1])],V := [],M := M,ds := [] }) [3,9,10] [3] [] (by kernel_rfl) (by kernel_rfl) ?_
 obtain ⟨v1,v2,c_v1,h⟩ := cl2_some h
 refine TI_of (i:=2) (by kernel_rfl) (TE_callR (d:=11) (f:=43) (args:=[rval (.agg [.one (.v (.slice Au0_0 (u0_0.length) cu0_0)),.arr .i64 4 u0_1]),rval (.agg [.arr .i64 7 u1])]) (by kernel_rfl) (by kernel_rfl) (w43 k hu0_0 hu0_1 hu1 c_v1) ?_)
 rintro _ M4 _ hM4 _ ⟨q3,rfl,fq3⟩
 refine TI_segK (i:=3) (j:=8) (s':={ σ := [(3,.lf (.own 3 0)),(6,.lf (.v q3)),(7,vi v2)],H := [(3,[.arr .i64 7 u1])],V := [],M := M4,ds := [] }) [3,6,7] [3] [] (by kernel_rfl) (by kernel_rfl) ?_
 refine TI_end (by kernel_rfl) ?_
 refine thenQ_n ?_
 refine T_seq (c1:=(sub [1,1,0] Bd14)) (c2:=(sub [1,1,1] Bd14)) (by kernel_rfl) ?_
 refine T_seq (c1:=(sub [1,1,0,0] Bd14)) (c2:=(sub [1,1,0,1] Bd14)) (by kernel_rfl) ?_
 refine T_region (id:=2) (by kernel_rfl) ?_
 obtain ⟨b5,e_b5,h⟩ := lt_some h
 refine TI_segS (i:=0) (j:=2) [(3,.lf (.own 3 0)),(6,.lf (.v q3)),(7,vi v2),(15,vb b5)] (by subst e_b5;kernel_rfl) (by kernel_rfl) ?_
 refine TI_end (by kernel_rfl) ?_
 refine thenQ_n ?_
 cases b5 with
 | true =>
  replace h := sp_t h
  refine T_condT (x:=(.tmp 15)) (c1:=(sub [1,1,0,1,0] Bd14)) (c2:=(sub [1,1,0,1,1] Bd14)) (by kernel_rfl) (by kernel_rfl) ?_
  refine T_keep (s':={ σ := [(7,vi v2)],H := [],V := [],M := M4,ds := [] }) [7] [] [] (by kernel_rfl) ?_
  refine T_seq (c1:=(sub [1,1,0,1,0,0] Bd14)) (c2:=(sub [1,1,0,1,0,1] Bd14)) (by kernel_rfl) ?_
  refine T_region (id:=3) (by kernel_rfl) ?_
  refine TI_segS (i:=0) (j:=3) [(4,vi (0 : Int)),(5,vi v2)] (by kernel_rfl) (by kernel_rfl) ?_
  refine TI_end (by kernel_rfl) ?_
  refine thenQ_n ?_
  refine T_ret (by kernel_rfl) ?_
  refine thenQ_r ?_
  have h := Option.some.inj h
  subst h
  refine fin_ret (.tup [(some (.v (.int .i64 (0 : Int))),[]),(some (.v (.int .i64 v2)),[])]) (by kernel_rfl) (by kernel_rfl) rfl ?_
  rfl
 | false =>
  replace h := sp_f h
  refine T_condF (x:=(.tmp 15)) (c1:=(sub [1,1,0,1,0] Bd14)) (c2:=(sub [1,1,0,1,1] Bd14)) (by kernel_rfl) (by kernel_rfl) ?_
  refine T_keepS [(3,.lf (.own 3 0)),(6,.lf (.v q3))] (by kernel_rfl) ?_
  refine T_skip (by kernel_rfl) ?_
  refine thenQ_n ?_
  obtain ⟨C6,e_C6,h⟩ := cl_some h
  have hC6 := fq3
  rw [e_C6] at hC6
  obtain ⟨C6b,C6A,C6c,C6AP,C6cP,C6AV,C6cV,rfl,hC6⟩ := hC6
  refine T_seq (c1:=(sub [1,1,1,0] Bd14)) (c2:=(sub [1,1,1,1] Bd14)) (by kernel_rfl) ?_
  refine T_region (id:=4) (by kernel_rfl) ?_
  refine TI_segK (i:=0) (j:=2) (s':={ σ := [(17,.lf (.v (.pointer (some ⟨C6b,0,none⟩)))),(18,.agg [.arr .i64 7 u1])],H := [],V := [],M := M4,ds := [] }) [17,18] [] [] (by kernel_rfl) (by kernel_rfl) ?_
  obtain ⟨v7,c_v7,h⟩ := cl_some h
  refine TI_at (i:=2) (d:=19) (x:=vi v7) (At_call (d:=19) (f:=44) (args:=[rval (.lf (.v (.pointer (some ⟨C6b,0,none⟩)))),rval (.agg [.arr .i64 7 u1])]) (x:=vi v7) (by kernel_rfl) (w44 k hC6 hu1 c_v7)) (by kernel_rfl) trivial ?_
  refine TI_segK (i:=3) (j:=5) (s':={ σ := [(4,vi v7),(5,vi (0 : Int))],H := [],V := [],M := M4,ds := [] }) [4,5] [] [] (by kernel_rfl) (by kernel_rfl) ?_
  refine TI_end (by kernel_rfl) ?_
  refine thenQ_n ?_
  refine T_ret (by kernel_rfl) ?_
  have h := Option.some.inj h
  subst h
  refine fin_ret (.tup [(some (.v (.int .i64 v7)),[]),(some (.v (.int .i64 (0 : Int))),[])]) (by kernel_rfl) (by kernel_rfl) rfl ?_
  rfl
def p12 (k : Nat) : Option Bool :=
 cl2 (p40 k ) fun v1 v2 => gd ((v2).length = 4) <| cl2 (p14 k v1 v2 ([(40 : Int),(50 : Int),(0 : Int),(4 : Int),(0 : Int),(1000 : Int),(0 : Int)])) fun v7 v8 => cl2 (p40 k ) fun v9 v10 => gd ((v10).length = 4) <| cl2 (p23 k v9 v10) fun v15 v16 => jn (fun (b17 : Bool) => some b17) fun j18 => lt' (v8 == (0 : Int)) fun b19 => sp b19 (lt' (v16 == (0 : Int)) fun b20 => sp b20 (lt' (v7 == (1 : Int)) fun b21 => sp b21 (lt' (v15 == (5 : Int)) fun b22 => j18 b22) (j18 false)) (j18 false)) (j18 false)
theorem hf12 : Try.prog.funcs[12]? = some Try.f12 := by kernel_rfl
theorem w12 (k : Nat) {M : Mem} {r} (h : p12 k = some r) :
  Fn Try.prog 12 [] M (fun x _ => x = vb r) := by
 unfold p12 at h
 refine Fn_of (P:=Try.prog) (fn:=Try.f12) (c:=bodyOf Try.f12) [] hf12 (by kernel_rfl) (Nat.le_of_ble_eq_true (by kernel_rfl)) (args_ok (by kernel_rfl) trivial) fun w => ?_
 change T _ _ _ (endQ _ _ _)
 refine T_seq (c1:=(sub [0] Bd12)) (c2:=(sub [1] Bd12)) (by kernel_rfl) ?_
 refine T_region (id:=0) (by kernel_rfl) ?_
 refine TI_segK (i:=0) (j:=1) (s':={ σ := [],H := [],V := [],M := M,ds := [] }) [] [] [] (by kernel_rfl) (by kernel_rfl) ?_
 refine TI_end (by kernel_rfl) ?_
 refine thenQ_n ?_
 refine T_seq (c1:=(sub [1,0] Bd12)) (c2:=(sub [1,1] Bd12)) (by kernel_rfl) ?_
 refine T_region (id:=1) (by kernel_rfl) ?_
 obtain ⟨v1,v2,c_v1,h⟩ := cl2_some h
 obtain ⟨g5,h⟩ := gd_some h
 refine TI_of (i:=0) (by kernel_rfl) (TE_callR (d:=6) (f:=40) (args:=[]) (by kernel_rfl) (by kernel_rfl) (w40 k  c_v1) ?_)
 rintro _ M6 _ hM6 _ ⟨A3,c4,rfl,fA3⟩
 refine TI_segK (i:=1) (j:=2) (s':={ σ := [(6,.agg [.one (.v (.slice A3 (v1.length) c4)),.arr .i64 4 v2]),(7,.agg [.arr .i64 7 [(40 : Int),(50 : Int),(0 : Int),(4 : Int),(0 : Int),(1000 : Int),(0 : Int)]])],H := [],V := [],M := M6,ds := [] }) [6,7] [] [] (by kernel_rfl) (by kernel_rfl) ?_
 obtain ⟨v7,v8,c_v7,h⟩ := cl2_some h
 refine TI_at (i:=2) (d:=8) (x:=.tup [(some (.v (.int .i64 v7)),[]),(some (.v (.int .i64 v8)),[])]) (At_call (d:=8) (f:=14) (args:=[rval (.agg [.one (.v (.slice A3 (v1.length) c4)),.arr .i64 4 v2]),rval (.agg [.arr .i64 7 [(40 : Int),(50 : Int),(0 : Int),(4 : Int),(0 : Int),(1000 : Int),(0 : Int)]])]) (x:=.tup [(some (.v (.int .i64 v7)),[]),(some (.v (.int .i64 v8)),[])]) (by kernel_rfl) (w14 k fA3 g5 rfl c_v7)) (by kernel_rfl) (by intro y hy; simp only [List.mem_cons,List.mem_nil_iff,or_false] at hy; rcases hy with rfl | rfl <;> exact trivial) ?_
 refine TI_segK (i:=3) (j:=8) (s':={ σ := [(1,vi v7),(2,vi v8)],H := [],V := [],M := M6,ds := [] }) [1,2] [] [] (by kernel_rfl) (by kernel_rfl) ?_
 refine TI_end (by kernel_rfl) ?_
 refine thenQ_n ?_
 refine T_seq (c1:=(sub [1,1,0] Bd12)) (c2:=(sub [1,1,1] Bd12)) (by kernel_rfl) ?_
 refine T_region (id:=2) (by kernel_rfl) ?_
 obtain ⟨v9,v10,c_v9,h⟩ := cl2_some h
 obtain ⟨g13,h⟩ := gd_some h
 refine TI_of (i:=0) (by kernel_rfl) (TE_callR (d:=12) (f:=40) (args:=[]) (by kernel_rfl) (by kernel_rfl) (w40 k  c_v9) ?_)
 rintro _ M14 _ hM14 _ ⟨A11,c12,rfl,fA11⟩
 obtain ⟨v15,v16,c_v15,h⟩ := cl2_some h
 refine TI_at (i:=1) (d:=13) (x:=.tup [(some (.v (.int .i64 v15)),[]),(some (.v (.int .i64 v16)),[])]) (At_call (d:=13) (f:=23) (args:=[rval (.agg [.one (.v (.slice A11 (v9.length) c12)),.arr .i64 4 v10])]) (x:=.tup [(some (.v (.int .i64 v15)),[]),(some (.v (.int .i64 v16)),[])]) (by kernel_rfl) (w23 k fA11 g13 c_v15)) (by kernel_rfl) (by intro y hy; simp only [List.mem_cons,List.mem_nil_iff,or_false] at hy; rcases hy with rfl | rfl <;> exact trivial) ?_
 refine TI_segK (i:=2) (j:=7) (s':={ σ := [(1,vi v7),(2,vi v8),(3,vi v15),(4,vi v16)],H := [],V := [],M := M14,ds := [] }) [1,2,3,4] [] [] (by kernel_rfl) (by kernel_rfl) ?_
 refine TI_end (by kernel_rfl) ?_
 refine thenQ_n ?_
 obtain ⟨j18,e_j18,h⟩ := jn_some h
 refine T_cut (c1:=(sub [1,1,1,0] Bd12)) (c2:=(sub [1,1,1,1] Bd12)) (fun s' => ∃ (b17 : Bool),Sub { σ := [(0,vb b17)],H := [],V := [],M := M14,ds := [] } s' ∧ j18 b17 = some r) (by kernel_rfl) ?_ ?_
 ·refine T_region (id:=3) (by kernel_rfl) ?_
  obtain ⟨b19,e_b19,h⟩ := lt_some h
  refine TI_segK (i:=0) (j:=3) (s':={ σ := [(1,vi v7),(3,vi v15),(4,vi v16),(18,vb b19)],H := [],V := [],M := M14,ds := [] }) [1,3,4,18] [] [] (by subst e_b19;kernel_rfl) (by kernel_rfl) ?_
  cases b19 with
  | true =>
   replace h := sp_t h
   obtain ⟨b20,e_b20,h⟩ := lt_some h
   refine TI_segS (i:=3) (j:=7) [(1,vi v7),(3,vi v15),(22,vb b20)] (by subst e_b20;kernel_rfl) (by kernel_rfl) ?_
   cases b20 with
   | true =>
    replace h := sp_t h
    obtain ⟨b21,e_b21,h⟩ := lt_some h
    refine TI_segS (i:=7) (j:=11) [(3,vi v15),(26,vb b21)] (by subst e_b21;kernel_rfl) (by kernel_rfl) ?_
    cases b21 with
    | true =>
     replace h := sp_t h
     obtain ⟨b22,e_b22,h⟩ := lt_some h
     refine TI_segS (i:=11) (j:=15) [(0,vb b22)] (by subst e_b22;kernel_rfl) (by kernel_rfl) ?_
     refine TI_end (by kernel_rfl) ?_
     refine thenQ_n ?_
     exact ⟨b22,keep_sub (ts:=[0]) (hs:=[]) (vs:=[]) (by kernel_rfl),h⟩
    | false =>
     replace h := sp_f h
     refine TI_segS (i:=11) (j:=15) [(0,vb false)] (by kernel_rfl) (by kernel_rfl) ?_
     refine TI_end (by kernel_rfl) ?_
     refine thenQ_n ?_
     exact ⟨false,keep_sub (ts:=[0]) (hs:=[]) (vs:=[]) (by kernel_rfl),h⟩
   | false =>
    replace h := sp_f h
    refine TI_segS (i:=7) (j:=15) [(0,vb false)] (by kernel_rfl) (by kernel_rfl) ?_
    refine TI_end (by kernel_rfl) ?_
    refine thenQ_n ?_
    exact ⟨false,keep_sub (ts:=[0]) (hs:=[]) (vs:=[]) (by kernel_rfl),h⟩
  | false =>
   replace h := sp_f h
   refine TI_segS (i:=3) (j:=15) [(0,vb false)] (by kernel_rfl) (by kernel_rfl) ?_
   refine TI_end (by kernel_rfl) ?_
   refine thenQ_n ?_
   exact ⟨false,keep_sub (ts:=[0]) (hs:=[]) (vs:=[]) (by kernel_rfl),h⟩
 ·rintro s' ⟨b17,hsub,h⟩
  subst e_j18
  refine T_sub hsub ?_
  refine T_ret (by kernel_rfl) ?_
  have h := Option.some.inj h
  subst h
  refine fin_ret (vb b17) (by kernel_rfl) (by kernel_rfl) rfl ?_
  rfl
end Go.Proofs.Ythjkejbgknemgaa
